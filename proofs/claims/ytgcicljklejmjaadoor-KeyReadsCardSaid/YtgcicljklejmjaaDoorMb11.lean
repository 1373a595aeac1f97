import Derived.Test.YtgcicljklejmjaaDoorMb10
import Derived.Test.YtgcicljklejmjaaDoorMb04
import Derived.Laws.EntriesVeiled
import Derived.Test.YtgcicljklejmjaaDoorMb01

/- key.One: a value's bytes as a key's. -/
namespace Go.Proofs.YtgcicljklejmjaaDoor
open Go.RowKit Go.Shelf
open Tr

/-- The bytes lie in a row of their own, whose slice lies at p. -/
def In1 (p : Nat) (S : Nat → Prop) (W : World) (bs : List UInt8) : Prop :=
  ∃ sv, W.heap[p]? = some (.cells #[sv] 22 (0, 0)) ∧ Ow W 5 1 sv bs.length (bvs bs) ∧ sv.ownBlock ≠ some p ∧ (∀ k, S k ↔ k = p ∨ sv.ownBlock = some k)
theorem stays_own {w w' : World} {v v' : Value} {n N : Nat} (h : Stays w w' v v' n N) : ∀ k, v'.ownBlock = some k → v.ownBlock = some k ∨ w.heap.size ≤ k := by
  intro k hk
  rcases h with ⟨A, c, rfl, rfl⟩ | h
  · exact .inl (by cases A <;> exact hk)
  · exact .inr (h k hk).1

set_option maxRecDepth 100000 in
set_option maxHeartbeats 1000000 in
theorem put1_any (p : Nat) (S : Nat → Prop) (W : World) (bs : List UInt8) (c : UInt8) (h : In1 p S W bs) (hL : bs.length < 100000000000000) :
    Calls Tryd.prog 70 #[.int .u8 c.toNat, .pointer (some ⟨p, 0, none⟩)] W fun e W' => e = .returned (.tuple #[]) ∧ PutTo (In1 p) S W (bs ++ [c]) W' := by
  obtain ⟨sv, h1, h2, h3, h4⟩ := h
  obtain ⟨c0, cz, cl⟩ := one_cells h1
  obtain ⟨A, cp, hv, -⟩ := h2.form
  subst hv
  have HO := Lib.hid h2; have H1 := Lib.hid h1; have H3 := Lib.hid h3; have H4 := Lib.hid h4
  clear h1 h2 h3 h4
  go_enter Tryd.func70, Tryd.ntmps70
  go_wp2_with (at_builtin; refine wpList_apo (n := bs.length) (xs := bvs bs) rfl (.tmp 3) (.tmp 5) 22 rfl tbB (HO.out.kept0 ?fr) (Sl.built W _ _) rfl rfl (by simp [Value.oneCell']) ?b1 ?b2 ?go)
  case fr => (repeat first | exact Fr.refl _ _ | exact Fr.drewN _ _ _ | apply Fr.drew | apply Fr.alloc | apply Fr.setAt | apply Fr.moreN)
  case b1 => simp only [maxLen]; omega
  case b2 => omega
  case go =>
    intro A' N c' w' hN ho _ hf hs
    subst hN
    have hg : Fr (fun k => Value.ownBlock (.slice A bs.length cp) = some k) W w' := ((by (repeat first | exact Fr.refl _ _ | exact Fr.drewN _ _ _ | apply Fr.drew | apply Fr.alloc | apply Fr.setAt | apply Fr.moreN) : Fr no W _).mono (fun _ _ h => h.elim)).trans hf (fun _ _ h => h)
    have h1 := hg.heap H1.out H3.out
    obtain ⟨c0, cz, cl⟩ := one_cells h1
    have hso := stays_own hs
    have HO2 := Lib.hid ho; have HG := Lib.hid hg; have H12 := Lib.hid h1; have HSO := Lib.hid hso
    clear ho hf hs hg h1 hso
    go_wp2
    go_end0
    have hne : Value.ownBlock (.slice A' (bs.length + 1) c') ≠ some p := fun h => by
      rcases HSO.out p h with h | h
      · exact H3.out h
      · have := (Array.getElem?_eq_some_iff.1 H1.out).1
        simp only [World.size_alloc] at h; omega
    have hset := Fr.setCell (Fr.refl (fun k => k = p) w') ⟨p, 0, none⟩ (.slice A' (bs.length + 1) c') (fun _ => rfl)
    have e1 : (bs ++ [c]).length = bs.length + 1 := by simp
    have e2 : bvs (bs ++ [c]) = bvs bs ++ [.int .u8 c.toNat] := by rw [bvs_append]; rfl
    refine ⟨rfl, fun k => k = p ∨ Value.ownBlock (.slice A' (bs.length + 1) c') = some k, ⟨.slice A' (bs.length + 1) c', ?_, ?_, hne, fun k => Iff.rfl⟩, ?_, fun k hk => ?_⟩
    · rw [hp_same H12.out]; rfl
    · rw [e1, e2]
      exact HO2.out.kept hset (fun k hk h => hne (by rw [hk, h]))
    · refine (HG.out.mono (fun k _ h => (H4.out k).2 (.inr h))).trans (hset.mono (fun k _ h => (H4.out k).2 (.inl h))) (fun _ _ h => h)
    · rcases hk with hk | hk
      · exact .inl ((H4.out k).2 (.inl hk))
      · rcases HSO.out k hk with h | h
        · exact .inl ((H4.out k).2 (.inr h))
        · exact .inr (by simp only [World.size_alloc] at h; omega)

theorem puts1 (p : Nat) : Puts 100000000000000 70 (.pointer (some ⟨p, 0, none⟩)) (In1 p) where
  enters := enters_of Tryd.func70 (by kernel_rfl) rfl
  step := fun S W bs c h hL => put1_any p S W bs c h hL
  kept := fun S W W' bs ⟨sv, h1, h2, h3, h4⟩ f => ⟨sv, f.heap h1 (fun h => h), h2.kept f (fun _ _ h => h), h3, h4⟩
  lt := fun S W bs ⟨sv, h1, h2, h3, h4⟩ k hk => by
    rcases (h4 k).1 hk with h | h
    · rw [h]; exact (Array.getElem?_eq_some_iff.1 h1).1
    · exact h2.lt k h

/-- The same, each byte turned over: what is put is put by the function in the cell q. -/
def In2 (p q : Nat) (S : Nat → Prop) (W : World) (bs : List UInt8) : Prop :=
  In1 p S W (turn bs) ∧ W.heap[q]? = some (.cells #[.func (.func 70) #[] #[.pointer (some ⟨p, 0, none⟩)]] 126 (0, 0)) ∧ ¬ S q

theorem not8_fin : ∀ y : Fin 256, bits BinOp.xor IntKind.u8 IntKind.u8.max ((y.val : Int)) = ((255 - y.val : Nat) : Int) := by decide +kernel
theorem not8 (c : UInt8) : bits BinOp.xor IntKind.u8 IntKind.u8.max (c.toNat : Int) = ((~~~c).toNat : Int) := by
  have h := not8_fin ⟨c.toNat, c.toNat_lt⟩
  simp only at h
  rw [h, UInt8.toNat_not]
  rfl

set_option maxRecDepth 100000 in
set_option maxHeartbeats 1000000 in
theorem put2_any (p q : Nat) (S : Nat → Prop) (W : World) (bs : List UInt8) (c : UInt8) (h : In2 p q S W bs) (hL : bs.length < 100000000000000) :
    Calls Tryd.prog 71 #[.int .u8 c.toNat, .pointer (some ⟨q, 0, none⟩)] W fun e W' => e = .returned (.tuple #[]) ∧ PutTo (In2 p q) S W (bs ++ [c]) W' := by
  obtain ⟨h1, h2, h3⟩ := h
  obtain ⟨c0, cz, cl⟩ := one_cells h2
  have hput := (puts1 p).put S W (turn bs) (~~~c) _ rfl h1 (by rw [turn_len]; exact hL)
  have HPU := Lib.hid hput; have H2 := Lib.hid h2; have H3 := Lib.hid h3
  clear hput h1 h2 h3
  go_enter Tryd.func71, Tryd.ntmps71
  go_wp2_with fail
  rw [not8]
  refine HPU.out.mono ?_
  rintro e W2 ⟨rfl, h2⟩
  have HP := Lib.hid h2; clear h2
  go_wp2
  go_end0
  obtain ⟨S2, h1, f2, s2⟩ := HP.out
  have hq : q < W.heap.size := (Array.getElem?_eq_some_iff.1 H2.out).1
  refine ⟨rfl, S2, ⟨?_, f2.heap H2.out H3.out, fun h => (s2 q h).elim H3.out (fun h => by omega)⟩, f2, s2⟩
  rw [show turn (bs ++ [c]) = turn bs ++ [~~~c] from by simp [turn]]
  exact h1

theorem puts2 (p q : Nat) : Puts 100000000000000 71 (.pointer (some ⟨q, 0, none⟩)) (In2 p q) where
  enters := enters_of Tryd.func71 (by kernel_rfl) rfl
  step := fun S W bs c h hL => put2_any p q S W bs c h hL
  kept := fun S W W' bs ⟨h1, h2, h3⟩ f => ⟨(puts1 p).kept _ _ _ _ h1 f, f.heap h2 (fun h => h), h3⟩
  lt := fun S W bs ⟨h1, h2, h3⟩ k hk => (puts1 p).lt _ _ _ h1 k hk

theorem good_nums {w : World} {x : Tr Mm} (h : Tr.Good w x) : Nums x := fun p hp => (h.pre 1 p hp).node.i

/-- What One says. -/
def OneOut (x : Tr Mm) (down : Bool) (W : World) (e : Ending) (W' : World) : Prop :=
  Fr no W W' ∧ ((oneErr x = 0 ∧ ∃ A n, e = .returned (.tuple #[.slice A n n, .int .u16 0]) ∧ n = (encD down x).length ∧ Ow W' 5 1 (.slice A n n) n (bvs (encD down x)) ∧ ∀ k, Value.ownBlock (.slice A n n) = some k → W.heap.size ≤ k)
    ∨ (oneErr x ≠ 0 ∧ e = .returned (.tuple #[.slice none 0 0, .int .u16 (oneErr x)])))

set_option maxRecDepth 100000 in
set_option maxHeartbeats 4000000 in
theorem one_any (w : World) (x : Tr Mm) (down : Bool) (hx : Tr.Good w x) (hT : Tabs w) : Calls Tryd.prog 29 #[x.agg, .bool down] w fun e w' => OneOut x down w e w' := by
  obtain ⟨BA, bc, LA, lc, FA, fc, hf⟩ := hx.node.forms
  have hag := hf.agg
  have hch := fun W (f : Fr no w W) => check_any W x (hx.kept0 f) (hT.kept0 f)
  have hky := fun W (f : Fr no w W) (hd : deep 8 x = false) => keyed_any W x (hx.kept0 f) hd
  rw [hag] at hch hky ⊢
  have HCH := Lib.hid hch; have HKY := Lib.hid hky; have HX := Lib.hid hx; have HAG := Lib.hid hag
  clear hch hky hx hf hag hT
  go_enter Tryd.func29, Tryd.ntmps29
  go_wp2_with fail
  refine (HCH.out _ (by (repeat first | exact Fr.refl _ _ | exact Fr.drewN _ _ _ | apply Fr.drew | apply Fr.alloc | apply Fr.setAt | apply Fr.moreN))).mono ?_
  rintro e w1 ⟨rfl, f1⟩
  have hb1 := f1.heap (heap_alloc_new w (.cells #[.int .u8 x.k.toNat, .bool x.b, .int .i64 x.i, .string ⟨x.t.toArray⟩, .slice BA x.bs.length bc, .slice LA x.l.length lc, .slice FA x.f.length fc] 33)) (fun h => h)
  have hf1 := Fr.trans (by (repeat first | exact Fr.refl _ _ | exact Fr.drewN _ _ _ | apply Fr.drew | apply Fr.alloc | apply Fr.setAt | apply Fr.moreN) : Fr no w _) f1 (fun _ _ h => h)
  obtain ⟨q0, q1, q2, q3, q4, q5, q6, qz, hbl⟩ := seven_cells hb1
  have HB1 := Lib.hid hb1; have F1 := Lib.hid hf1
  clear f1 hb1 hf1
  by_cases hc : check x = 0
  · have HC := Lib.hid hc
    rw [hc]
    clear hc
    go_wp2_with fail
    obtain ⟨hd, hp, ha⟩ := check_zero.1 HC.out
    refine (HKY.out w1 F1.out hd).mono ?_
    rintro e w2 ⟨rfl, f2⟩
    have hf2 := F1.out.trans f2 (fun _ _ h => h)
    have hb2 := f2.heap HB1.out (fun h => h)
    obtain ⟨q0, q1, q2, q3, q4, q5, q6, qz, hbl⟩ := seven_cells hb2
    have HB2 := Lib.hid hb2; have F2 := Lib.hid hf2; have HA := Lib.hid ha
    clear hb2 hf2 f2 hd hp ha HB1 F1
    by_cases hk : keyed x = false
    · have HK := Lib.hid hk
      rw [hk]
      clear hk
      go_wp2
      go_ret2
      have ho : oneErr x = 41 := by unfold oneErr; rw [if_neg (fun h => h HC.out), if_pos HK.out]
      exact ⟨F2.out, .inr ⟨by rw [ho]; decide, by rw [ho]; rfl⟩⟩
    have hk : keyed x = true := by simpa using hk
    have HK := Lib.hid hk
    rw [hk]
    have hka := (keyed_all x HA.out hk (good_nums HX.out)).1
    have HKA := Lib.hid hka
    have HN := Lib.hid (enc_bound HC.out)
    clear hk hka
    cases down with
    | false =>
      go_wp2_with fail
      have hp3 := heap_alloc_new w2 (.cells #[.slice none 0 0] 22)
      have f3 : Fr no w2 (w2.alloc (.cells #[.slice none 0 0] 22)) := (Fr.refl no w2).alloc _
      have hs3 : (w2.alloc (.cells #[.slice none 0 0] 22)).heap.size = w2.heap.size + 1 := World.size_alloc _ _
      generalize w2.alloc (.cells #[.slice none 0 0] 22) = W3 at hp3 f3 hs3 ⊢
      have hI : In1 w2.heap.size (fun k => k = w2.heap.size) W3 [] := ⟨_, hp3, ⟨rfl, .inl ⟨rfl, rfl⟩⟩, by simp [Value.ownBlock], fun k => by simp [Value.ownBlock]⟩
      have hb3 := f3.heap HB2.out (fun h => h)
      have hcall := write_any (puts1 w2.heap.size) w2 x (fun k => k = w2.heap.size) W3 [] HKA.out (HX.out.kept0 F2.out) hI (fun k h => Nat.le_of_eq h.symm) (f3.mono (fun _ _ h => h.elim)) (by have := HN.out; simp only [List.length_nil]; omega)
      rw [HAG.out] at hcall
      have hf3 := F2.out.trans f3 (fun _ _ h => h)
      have hsp : ∀ k, k = w2.heap.size → w2.heap.size ≤ k := fun k h => Nat.le_of_eq h.symm
      have F3 := Lib.hid hf3; have HSZ3 := Lib.hid hs3; have HSP := Lib.hid hsp; have HB3 := Lib.hid hb3
      clear hp3 f3 hs3 hI hb3 hf3 hsp
      refine hcall.mono ?_
      rintro e W4 ⟨rfl, h2⟩
      have H2 := Lib.hid h2
      clear h2 hcall q0 q1 q2 q3 q4 q5 q6 qz hbl
      obtain ⟨S2, hi2, f2, s2⟩ := H2.out
      have hF2 := F3.out.since f2 (fun k hk => by have := F2.out.size; have := HSP.out k hk; omega)
      have hb3 := f2.heap HB3.out (fun h => by have := HSP.out _ h; have := (Array.getElem?_eq_some_iff.1 HB2.out).1; omega)
      obtain ⟨sv, h1, h2, h3, h4⟩ := hi2
      simp only [List.nil_append] at h2
      obtain ⟨c0, cz, cl⟩ := one_cells h1
      obtain ⟨A, cp, hv, hcp, -⟩ := h2.form
      subst hv
      have HO := Lib.hid h2; have H4 := Lib.hid h4; have FF := Lib.hid hF2; have S2' := Lib.hid s2
      try clear hi2
      clear f2 s2 h1 h2 h3 h4 hF2 H2 hb3
      by_cases hl : 160 < (enc x).length
      · have g3 : decide ((160 : Int) < ((enc x).length : Int)) = true := decide_eq_true (by omega)
        have HL := Lib.hid hl; clear hl
        go_wp2
        go_ret2
        have ho : oneErr x = 42 := by unfold oneErr; rw [if_neg (fun h => h HC.out), if_neg (by rw [HK.out]; exact Bool.noConfusion), if_pos HL.out]
        exact ⟨FF.out, .inr ⟨by rw [ho]; decide, by rw [ho]; rfl⟩⟩
      · have g3 : decide ((160 : Int) < ((enc x).length : Int)) = false := decide_eq_false (by omega)
        have HL := Lib.hid hl; clear hl
        have HCP := Lib.hid hcp; clear hcp
        go_wp2_with fail
        refine (bclip_any _ A _ _ HCP.out).mono ?_
        rintro e W3 ⟨rfl, rfl⟩
        go_wp2
        go_ret2
        have ho : oneErr x = 0 := by unfold oneErr; rw [if_neg (fun h => h HC.out), if_neg (by rw [HK.out]; exact Bool.noConfusion), if_neg HL.out]
        refine ⟨FF.out, .inl ⟨ho, A, _, rfl, by rw [encD_len], own_clip HO.out, fun k hk => ?_⟩⟩
        have hk2 : Value.ownBlock (.slice A (enc x).length cp) = some k := by cases A <;> exact hk
        have h7 := (H4.out k).2 (.inr hk2)
        have := F2.out.size; have := F3.out.size; have := HSZ3.out
        rcases S2'.out k h7 with h | h
        · have := HSP.out k h; omega
        · omega
    | true =>
      go_wp2_with fail
      have hp3 := ((Fr.refl no _).alloc (.cells #[.func (.func 70) #[] #[.pointer (some ⟨w2.heap.size, 0, none⟩)]] 126)).heap (heap_alloc_new w2 (.cells #[.slice none 0 0] 22)) (fun h => h)
      have hq3 := heap_alloc_new (w2.alloc (.cells #[.slice none 0 0] 22)) (.cells #[.func (.func 70) #[] #[.pointer (some ⟨w2.heap.size, 0, none⟩)]] 126)
      rw [World.size_alloc] at hq3
      have f3 : Fr no w2 ((w2.alloc (.cells #[.slice none 0 0] 22)).alloc (.cells #[.func (.func 70) #[] #[.pointer (some ⟨w2.heap.size, 0, none⟩)]] 126)) := ((Fr.refl no w2).alloc _).alloc _
      have hs3 : ((w2.alloc (.cells #[.slice none 0 0] 22)).alloc (.cells #[.func (.func 70) #[] #[.pointer (some ⟨w2.heap.size, 0, none⟩)]] 126)).heap.size = w2.heap.size + 2 := by rw [World.size_alloc, World.size_alloc]
      generalize (w2.alloc (.cells #[.slice none 0 0] 22)).alloc (.cells #[.func (.func 70) #[] #[.pointer (some ⟨w2.heap.size, 0, none⟩)]] 126) = W3 at hp3 hq3 f3 hs3 ⊢
      have hI : In2 w2.heap.size (w2.heap.size + 1) (fun k => k = w2.heap.size) W3 [] := ⟨⟨_, hp3, ⟨rfl, .inl ⟨rfl, rfl⟩⟩, by simp [Value.ownBlock], fun k => by simp [Value.ownBlock]⟩, hq3, by omega⟩
      have hb3 := f3.heap HB2.out (fun h => h)
      have hcall := write_any (puts2 w2.heap.size (w2.heap.size + 1)) w2 x (fun k => k = w2.heap.size) W3 [] HKA.out (HX.out.kept0 F2.out) hI (fun k h => Nat.le_of_eq h.symm) (f3.mono (fun _ _ h => h.elim)) (by have := HN.out; simp only [List.length_nil]; omega)
      rw [HAG.out] at hcall
      have hf3 := F2.out.trans f3 (fun _ _ h => h)
      have hsp : ∀ k, k = w2.heap.size → w2.heap.size ≤ k := fun k h => Nat.le_of_eq h.symm
      have F3 := Lib.hid hf3; have HSZ3 := Lib.hid hs3; have HSP := Lib.hid hsp; have HB3 := Lib.hid hb3
      clear hp3 hq3 f3 hs3 hI hb3 hf3 hsp
      refine hcall.mono ?_
      rintro e W4 ⟨rfl, h2⟩
      have H2 := Lib.hid h2
      clear h2 hcall q0 q1 q2 q3 q4 q5 q6 qz hbl
      obtain ⟨S2, hi2, f2, s2⟩ := H2.out
      have hF2 := F3.out.since f2 (fun k hk => by have := F2.out.size; have := HSP.out k hk; omega)
      have hb3 := f2.heap HB3.out (fun h => by have := HSP.out _ h; have := (Array.getElem?_eq_some_iff.1 HB2.out).1; omega)
      obtain ⟨sv, h1, h2, h3, h4⟩ := hi2.1
      simp only [List.nil_append, turn_len] at h2
      obtain ⟨c0, cz, cl⟩ := one_cells h1
      obtain ⟨A, cp, hv, hcp, -⟩ := h2.form
      subst hv
      have HO := Lib.hid h2; have H4 := Lib.hid h4; have FF := Lib.hid hF2; have S2' := Lib.hid s2
      try clear hi2
      clear f2 s2 h1 h2 h3 h4 hF2 H2 hb3
      by_cases hl : 160 < (enc x).length
      · have g3 : decide ((160 : Int) < ((enc x).length : Int)) = true := decide_eq_true (by omega)
        have HL := Lib.hid hl; clear hl
        go_wp2
        go_ret2
        have ho : oneErr x = 42 := by unfold oneErr; rw [if_neg (fun h => h HC.out), if_neg (by rw [HK.out]; exact Bool.noConfusion), if_pos HL.out]
        exact ⟨FF.out, .inr ⟨by rw [ho]; decide, by rw [ho]; rfl⟩⟩
      · have g3 : decide ((160 : Int) < ((enc x).length : Int)) = false := decide_eq_false (by omega)
        have HL := Lib.hid hl; clear hl
        have HCP := Lib.hid hcp; clear hcp
        go_wp2_with fail
        refine (bclip_any _ A _ _ HCP.out).mono ?_
        rintro e W3 ⟨rfl, rfl⟩
        go_wp2
        go_ret2
        have ho : oneErr x = 0 := by unfold oneErr; rw [if_neg (fun h => h HC.out), if_neg (by rw [HK.out]; exact Bool.noConfusion), if_neg HL.out]
        refine ⟨FF.out, .inl ⟨ho, A, _, rfl, by rw [encD_len], own_clip HO.out, fun k hk => ?_⟩⟩
        have hk2 : Value.ownBlock (.slice A (enc x).length cp) = some k := by cases A <;> exact hk
        have h7 := (H4.out k).2 (.inr hk2)
        have := F2.out.size; have := F3.out.size; have := HSZ3.out
        rcases S2'.out k h7 with h | h
        · have := HSP.out k h; omega
        · omega
  · have g1 : ((check x : Int) != 0) = true := by rw [bne_iff_ne]; omega
    have HC := Lib.hid hc; clear hc
    go_wp2
    go_ret2
    have ho : oneErr x = 40 := by unfold oneErr; rw [if_pos HC.out]
    exact ⟨F1.out, .inr ⟨by rw [ho]; decide, by rw [ho]; rfl⟩⟩
end Go.Proofs.YtgcicljklejmjaaDoor

/- key.reader: bytes read one by one. -/
namespace Go.Proofs.YtgcicljklejmjaaDoor
open Go.RowKit Go.Shelf
open Tr

/-- A reader at block p: the bytes left, and whether they were bad; what it has lies below m. -/
def Rdr (m : Nat) (w : World) (p : Nat) (l : List UInt8) (bad : Bool) : Prop :=
  p < m ∧ ∃ A c, w.heap[p]? = some (.cells #[.slice A l.length c, .bool bad] 91 (0, 0)) ∧ Sl w 1 (.slice A l.length c) l.length (bvs l) ∧ (∀ k, Value.ownBlock (.slice A l.length c) = some k → k ≠ p ∧ k < m)

theorem Rdr.kept {m p : Nat} {w w1 : World} {l : List UInt8} {bad : Bool} {S : Nat → Prop} (h : Rdr m w p l bad) (f : Fr S w w1) (hS : ∀ k, S k → m ≤ k) : Rdr m w1 p l bad := by
  obtain ⟨hp, A, c, h1, h2, h3⟩ := h
  exact ⟨hp, A, c, f.heap h1 (fun h => by have := hS _ h; omega), h2.kept f (fun k hk h => by have := hS _ h; have := (h3 k hk).2; omega), h3⟩
theorem Rdr.kept0 {m p : Nat} {w w1 : World} {l : List UInt8} {bad : Bool} (h : Rdr m w p l bad) (f : Fr no w w1) : Rdr m w1 p l bad := h.kept f (fun _ h => h.elim)

theorem two_cells {w : World} {g : Nat} {a b : Value} {T : TypeId} (hr : w.heap[g]? = some (.cells #[a, b] T (0, 0))) :
    w.cell? ⟨g, 0, none⟩ = some a ∧ w.cell? ⟨g, 1, none⟩ = some b ∧ (∀ o, w.frozen? ⟨g, o, none⟩ = false) ∧ g < w.heap.size := by
  have hc : ∀ i, w.cell? ⟨g, i, none⟩ = (#[a, b] : Array Value)[i]? := fun i => by rw [cell_of_row w g i _ _ (0, 0) hr]
  exact ⟨hc 0, hc 1, fun o => by simp [World.frozen?, hr], (Array.getElem?_eq_some_iff.1 hr).1⟩

/-- The reader's mark. -/
theorem Rdr.mark {m p : Nat} {w : World} {l : List UInt8} {bad : Bool} (h : Rdr m w p l bad) (b2 : Bool) : Rdr m (w.setCell ⟨p, 1, none⟩ (.bool b2)) p l b2 := by
  obtain ⟨hp, A, c, h1, h2, h3⟩ := h
  have f := Fr.setCell (Fr.refl (At p) w) ⟨p, 1, none⟩ (.bool b2) (fun _ => rfl)
  exact ⟨hp, A, c, hp_same h1 1 _, h2.kept f (fun k hk h => (h3 k hk).1 h), h3⟩

/-- What next says. -/
def nextB (l : List UInt8) : UInt8 := l.headD 0

set_option maxRecDepth 100000 in
set_option maxHeartbeats 1000000 in
theorem rnext_any (m p : Nat) (w : World) (l : List UInt8) (bad : Bool) (h : Rdr m w p l bad) (hl : l.length ≤ 140737488351232) :
    Calls Tryd.prog 76 #[.pointer (some ⟨p, 0, none⟩)] w fun e w' => e = .returned (.int .u8 (nextB l).toNat) ∧ Rdr m w' p l.tail (bad || l.isEmpty) ∧ Fr (At p) w w' := by
  cases l with
  | nil =>
    have HR := Lib.hid h
    obtain ⟨hp, A, c, h1, h2, h3⟩ := h
    obtain ⟨q0, q1, qz, hbl⟩ := two_cells h1
    clear h1 h2 h3 hp
    go_enter Tryd.func76, Tryd.ntmps76
    go_wp2
    go_ret
    exact ⟨rfl, by simpa using HR.out.mark true, Fr.setCell (Fr.refl (At p) w) _ _ (fun _ => rfl)⟩
  | cons d l =>
    have HR := Lib.hid h
    obtain ⟨hp, A, c, h1, h2, h3⟩ := h
    obtain ⟨q0, q1, qz, hbl⟩ := two_cells h1
    have hdc : ∃ b o, A = some ⟨b, o, none⟩ ∧ w.cell? ⟨b, o, none⟩ = some (.int .u8 d.toNat) ∧ 1 ≤ c ∧ b < w.heap.size := by
      rcases h2.2 with ⟨_, _, h⟩ | ⟨b, o, cap, h4, h5, h6, h7⟩
      · cases h
      · cases h4
        have h8 := h7 0 (.int .u8 d.toNat) rfl
        rw [Nat.add_zero] at h8
        refine ⟨b, o, rfl, h8, by simp only [List.length_cons] at h5; omega, ?_⟩
        unfold World.cell? at h8
        rcases Nat.lt_or_ge b w.heap.size with h | h
        · exact h
        · rw [Array.getElem?_eq_none h] at h8; cases h8
    obtain ⟨b, o, rfl, hd, hc1, hbb⟩ := hdc
    have HH := Lib.hid h1; have HS := Lib.hid h2; have H3 := Lib.hid h3; have HPM := Lib.hid hp
    clear h1 h2 h3 hp
    simp only [List.length_cons] at hl q0
    by_cases hcp : c = 1
    · subst hcp
      go_enter Tryd.func76, Tryd.ntmps76
      go_wp2
      go_ret
      obtain ⟨t1, t2⟩ := Sl.tail0 (lo := 1) HS.out (by simp)
      have t1 : Sl w 1 (.slice (some ⟨b, o, none⟩) l.length 0) l.length (bvs l) := t1
      have f := Fr.setCell (Fr.refl (At p) w) ⟨p, 0, none⟩ (.slice (some ⟨b, o, none⟩) l.length 0) (fun _ => rfl)
      refine ⟨rfl, ⟨HPM.out, some ⟨b, o, none⟩, 0, ?_, t1.kept f (fun k hk h => (H3.out k hk).1 h), fun k hk => H3.out k hk⟩, f⟩
      have e := hp_same HH.out 0 (.slice (some ⟨b, o, none⟩) l.length 0)
      simpa using e
    · go_enter Tryd.func76, Tryd.ntmps76
      go_wp2
      go_ret
      obtain ⟨t1, t2⟩ := Sl.tail1 (lo := 1) HS.out (by simp)
      have t1 : Sl w 1 (.slice (some ⟨b, o + 1, none⟩) l.length (c - 1)) l.length (bvs l) := t1
      have f := Fr.setCell (Fr.refl (At p) w) ⟨p, 0, none⟩ (.slice (some ⟨b, o + 1, none⟩) l.length (c - 1)) (fun _ => rfl)
      refine ⟨rfl, ⟨HPM.out, some ⟨b, o + 1, none⟩, c - 1, ?_, t1.kept f (fun k hk h => (H3.out k hk).1 h), fun k hk => H3.out k hk⟩, f⟩
      have e := hp_same HH.out 0 (.slice (some ⟨b, o + 1, none⟩) l.length (c - 1))
      simpa using e
end Go.Proofs.YtgcicljklejmjaaDoor

/- key.reader.escaped: bytes up to their end. -/
namespace Go.Proofs.YtgcicljklejmjaaDoor
open Go.RowKit Go.Shelf
open Tr

/-- What escaped says of the bytes l. -/
def EscOut (m p : Nat) (w : World) (l : List UInt8) (e : Ending) (w' : World) : Prop :=
  Fr (At p) w w' ∧ ((∃ t s A c, unesc l = some (t, s) ∧ e = .returned (.slice A t.length c) ∧ Ow w' 5 1 (.slice A t.length c) t.length (bvs t) ∧ (∀ k, Value.ownBlock (.slice A t.length c) = some k → w.heap.size ≤ k) ∧ Rdr m w' p s false ∧ t.length + s.length ≤ l.length)
    ∨ (unesc l = none ∧ e = .returned (.slice none 0 0) ∧ ∃ s, Rdr m w' p s true ∧ s.length ≤ l.length))

def rdM (w : World) (p : Nat) : Nat :=
  (match w.cell? ⟨p, 0, none⟩ with | some (.slice _ n _) => 2 * n | _ => 0) + (match w.cell? ⟨p, 1, none⟩ with | some (.bool false) => 1 | _ => 0)
theorem Rdr.M {m p : Nat} {w : World} {l : List UInt8} {bad : Bool} (h : Rdr m w p l bad) : rdM w p = 2 * l.length + (if bad = true then 0 else 1) := by
  obtain ⟨_, A, c, h1, _, _⟩ := h
  obtain ⟨q0, q1, _, _⟩ := two_cells h1
  unfold rdM
  rw [q0, q1]
  cases bad <;> rfl
theorem Rdr.cells {m p : Nat} {w : World} {l : List UInt8} {bad : Bool} (h : Rdr m w p l bad) : w.cell? ⟨p, 1, none⟩ = some (.bool bad) ∧ (∀ o, w.frozen? ⟨p, o, none⟩ = false) ∧ p < w.heap.size := by
  obtain ⟨_, A, c, h1, _, _⟩ := h
  obtain ⟨q0, q1, qz, qb⟩ := two_cells h1
  exact ⟨q1, qz, qb⟩

/-- How far escaped has come. -/
def EscAt (m p : Nat) (w : World) (l : List UInt8) (v : Value) (wr : World) : Prop :=
  Fr (At p) w wr ∧ ((∃ t r A c, unesc l = (unesc r).map (fun q => (t ++ q.1, q.2)) ∧ v = .slice A t.length c ∧ Ow wr 5 1 (.slice A t.length c) t.length (bvs t) ∧ (∀ k, Value.ownBlock (.slice A t.length c) = some k → w.heap.size ≤ k) ∧ Rdr m wr p r false ∧ t.length + r.length ≤ l.length)
    ∨ (unesc l = none ∧ ∃ s, Rdr m wr p s true ∧ s.length ≤ l.length))

/-- A byte more. -/
theorem esc_step {m p : Nat} {w w2 W w4 : World} {l t r : List UInt8} {d : UInt8} {A A' : Option Addr} {c c' : Nat} (hfr : Fr (At p) w w2) (hm : m ≤ w.heap.size) (hfs : ∀ k, Value.ownBlock (.slice A t.length c) = some k → w.heap.size ≤ k) (hrd : Rdr m w2 p r false)
    (hW : Fr no w2 W) (ho : Ow w4 5 1 (.slice A' (t.length + 1) c') (t.length + 1) (bvs t ++ [.int .u8 d.toNat])) (hf : Fr (fun k => Value.ownBlock (.slice A t.length c) = some k) W w4) (hs : Stays W w4 (.slice A t.length c) (.slice A' (t.length + 1) c') t.length (t.length + 1)) (hl : t.length + 1 + r.length ≤ l.length) :
    Fr (At p) w w4 ∧ Ow w4 5 1 (.slice A' (t ++ [d]).length c') (t ++ [d]).length (bvs (t ++ [d])) ∧ (∀ k, Value.ownBlock (.slice A' (t ++ [d]).length c') = some k → w.heap.size ≤ k) ∧ Rdr m w4 p r false ∧ (t ++ [d]).length + r.length ≤ l.length := by
  have e1 : (t ++ [d]).length = t.length + 1 := by simp
  have e2 : bvs (t ++ [d]) = bvs t ++ [.int .u8 d.toNat] := by rw [bvs_append]; rfl
  have hz := Nat.le_trans hfr.size hW.size
  rw [e1, e2]
  refine ⟨(hfr.trans hW (fun _ _ h => h.elim)).trans hf (fun k hk h => absurd (hfs k h) (by omega)), ho, fun k hk => ?_, (hrd.kept0 hW).kept hf (fun k h => by have := hfs k h; omega), hl⟩
  rcases stays_own hs k hk with h | h
  · exact hfs k h
  · omega

set_option maxRecDepth 100000 in
set_option maxHeartbeats 2000000 in
theorem escaped_any (m p : Nat) (w : World) (l : List UInt8) (h : Rdr m w p l false) (hm : m ≤ w.heap.size) (hl : l.length ≤ 140737488351232) :
    Calls Tryd.prog 77 #[.pointer (some ⟨p, 0, none⟩)] w fun e w' => EscOut m p w l e w' := by
  have HR := Lib.hid h
  clear h
  go_enter Tryd.func77, Tryd.ntmps77
  go_wp2
  go_loopw [3] (fun v wr => EscAt m p w l v wr) (fun _ wr => rdM wr p)
  case atStart =>
    refine ⟨Fr.refl _ _, .inl ⟨[], l, none, 0, ?_, rfl, ⟨rfl, .inl ⟨rfl, rfl⟩⟩, by simp [Value.ownBlock], HR.out, by simp⟩⟩
    simp
  case round =>
    obtain ⟨hfr, hrel⟩ := hrel
    rcases hrel with ⟨t, r, A, c, hu, rfl, how, hfs, hrd, hln⟩ | ⟨hu, s, hrd, hsl⟩
    · obtain ⟨q1, qz, qb⟩ := hrd.cells
      have hrl : r.length ≤ 140737488351232 := by omega
      have hnx := rnext_any m p wr r false hrd hrl
      have HNX := Lib.hid hnx; have HU := Lib.hid hu; have HOW := Lib.hid how; have HFS := Lib.hid hfs; have HRD := Lib.hid hrd; have HLN := Lib.hid hln; have HFR := Lib.hid hfr; have HMM := Lib.hid hrd.M
      clear hnx hu how hfs hrd hln hfr hrl
      cases r with
      | nil =>
        go_wp2_with fail
        refine HNX.out.mono ?_
        rintro e w2 ⟨rfl, h2, f2⟩
        have HR2 := Lib.hid h2; have F2 := Lib.hid f2
        clear h2 f2
        simp only [nextB, List.headD_nil]
        go_wp2_with fail
        refine (rnext_any m p w2 [] true HR2.out (by simp)).mono ?_
        rintro e w3 ⟨rfl, h3, f3⟩
        obtain ⟨q1, qz, qb⟩ := h3.cells
        have HR3 := Lib.hid h3; have F3 := Lib.hid f3
        clear h3 f3
        simp only [nextB, List.headD_nil]
        go_wp2
        have hmk : Rdr m (w3.setCell ⟨p, 1, none⟩ (.bool true)) p [] true := HR3.out.mark true
        have hff := (((HFR.out.trans F2.out (fun _ _ h => h)).trans F3.out (fun _ _ h => h)).trans (Fr.setCell (Fr.refl (At p) w3) ⟨p, 1, none⟩ (.bool true) (fun _ => rfl)) (fun _ _ h => h))
        go_roundw
        case rel => exact ⟨hff, .inr ⟨by rw [HU.out]; rfl, [], hmk, by simp⟩⟩
        case measure => rw [hmk.M, HMM.out]; simp
      | cons d r1 =>
        by_cases hd : d = 0
        · subst hd
          go_wp2_with fail
          refine HNX.out.mono ?_
          rintro e w2 ⟨rfl, h2, f2⟩
          have how2 := HOW.out.kept f2 (fun k hk h => by have h1 := HFS.out k hk; have h3 := HRD.out.1; have h : k = p := h; omega)
          have h2 : Rdr m w2 p r1 false := h2
          have hr1 : r1.length ≤ 140737488351232 := by have := HLN.out; simp only [List.length_cons] at this; omega
          have hnx2 := rnext_any m p w2 r1 false h2 hr1
          have HR2 := Lib.hid h2; have HF2 := Lib.hid f2; have HOW2 := Lib.hid how2; have HNX2 := Lib.hid hnx2
          clear h2 f2 how2 hr1 hnx2
          simp only [nextB, List.headD_cons]
          cases r1 with
          | nil =>
            go_wp2_with fail
            refine HNX2.out.mono ?_
            rintro e w3 ⟨rfl, h3, f3⟩
            obtain ⟨q1, qz, qb⟩ := h3.cells
            have HR3 := Lib.hid h3; have F3 := Lib.hid f3
            clear h3 f3
            simp only [nextB, List.headD_nil]
            go_wp2
            have hmk : Rdr m (w3.setCell ⟨p, 1, none⟩ (.bool true)) p [] true := HR3.out.mark true
            have hff := (((HFR.out.trans HF2.out (fun _ _ h => h)).trans F3.out (fun _ _ h => h)).trans (Fr.setCell (Fr.refl (At p) w3) ⟨p, 1, none⟩ (.bool true) (fun _ => rfl)) (fun _ _ h => h))
            go_roundw
            case rel => exact ⟨hff, .inr ⟨by rw [HU.out]; rfl, [], hmk, by simp⟩⟩
            case measure => rw [hmk.M, HMM.out]; simp
          | cons s r2 =>
            by_cases hs1 : s = 1
            · subst hs1
              go_wp2_with fail
              refine HNX2.out.mono ?_
              rintro e w3 ⟨rfl, h3, f3⟩
              have HR3 := Lib.hid h3; have F3 := Lib.hid f3
              clear h3 f3
              simp only [nextB, List.headD_cons]
              go_wp2
              go_ret
              refine ⟨(HFR.out.trans HF2.out (fun _ _ h => h)).trans F3.out (fun _ _ h => h), .inl ⟨t, r2, A, c, ?_, rfl, ?_, HFS.out, HR3.out, ?_⟩⟩
              · rw [HU.out, unesc_zero]; simp
              · exact HOW2.out.kept F3.out (fun k hk h => by have h1 := HFS.out k hk; have h3 := HRD.out.1; have h : k = p := h; omega)
              · have := HLN.out; simp only [List.length_cons] at this; omega
            · have g1 : ((s.toNat : Int) == 1) = false := by
                rw [beq_eq_false_iff_ne]
                intro h
                exact hs1 (UInt8.toNat_inj.1 (show s.toNat = (1 : UInt8).toNat from by have : (1 : UInt8).toNat = 1 := rfl; omega))
              by_cases hs2 : s = 255
              · subst hs2
                go_wp2_with fail
                refine HNX2.out.mono ?_
                rintro e w3 ⟨rfl, h3, f3⟩
                have HR3 := Lib.hid h3
                have how3 := HOW2.out.kept f3 (fun k hk h => by have h1 := HFS.out k hk; have h3 := HRD.out.1; have h : k = p := h; omega)
                have HF3 := Lib.hid f3; have HOW3 := Lib.hid how3
                clear h3 f3 how3
                simp only [nextB, List.headD_cons]
                go_wp2_with (at_builtin; refine wpList_apo (n := t.length) (xs := bvs t) rfl (.tmp 28) (.tmp 29) 22 rfl tbB (HOW3.out.kept0 ?fr2) (Sl.built w3 _ _) rfl rfl (by simp [Value.oneCell']) ?b3 ?b4 ?go2)
                case fr2 => (repeat first | exact Fr.refl _ _ | exact Fr.drewN _ _ _ | apply Fr.drew | apply Fr.alloc | apply Fr.setAt | apply Fr.moreN)
                case b3 => have := HLN.out; simp only [List.length_cons] at this; simp only [maxLen]; omega
                case b4 => have := HLN.out; simp only [List.length_cons] at this; omega
                case go2 =>
                  intro A' N c' w4 hN ho _ hf hs
                  subst hN
                  have fin := esc_step (r := r2) (l := l) (d := 0) (HFR.out.trans (HF2.out.trans HF3.out (fun _ _ h => h)) (fun _ _ h => h)) hm HFS.out HR3.out (by (repeat first | exact Fr.refl _ _ | exact Fr.drewN _ _ _ | apply Fr.drew | apply Fr.alloc | apply Fr.setAt | apply Fr.moreN)) ho hf hs (by have := HLN.out; simp only [List.length_cons] at this; omega)
                  have FIN := Lib.hid fin
                  clear ho hf hs fin
                  go_wp2
                  go_roundw
                  case rel =>
                    refine ⟨FIN.out.1, .inl ⟨t ++ [0], r2, A', c', ?_, by rw [List.length_append]; rfl, FIN.out.2.1, FIN.out.2.2.1, FIN.out.2.2.2.1, FIN.out.2.2.2.2⟩⟩
                    rw [HU.out, unesc_zero]
                    cases unesc r2 <;> simp
                  case measure => rw [FIN.out.2.2.2.1.M, HMM.out]; simp; omega
              · have g2 : ((s.toNat : Int) == 255) = false := by
                  rw [beq_eq_false_iff_ne]
                  intro h
                  exact hs2 (UInt8.toNat_inj.1 (show s.toNat = (255 : UInt8).toNat from by have : (255 : UInt8).toNat = 255 := rfl; omega))
                have hun : unesc l = none := by rw [HU.out, unesc_zero, if_neg hs1, if_neg hs2]; rfl
                have HUN := Lib.hid hun; clear hun hs1 hs2
                go_wp2_with fail
                refine HNX2.out.mono ?_
                rintro e w3 ⟨rfl, h3, f3⟩
                obtain ⟨q1, qz, qb⟩ := h3.cells
                have HR3 := Lib.hid h3; have F3 := Lib.hid f3
                clear h3 f3
                simp only [nextB, List.headD_cons]
                go_wp2
                have hmk : Rdr m (w3.setCell ⟨p, 1, none⟩ (.bool true)) p r2 true := HR3.out.mark true
                have hff := (((HFR.out.trans HF2.out (fun _ _ h => h)).trans F3.out (fun _ _ h => h)).trans (Fr.setCell (Fr.refl (At p) w3) ⟨p, 1, none⟩ (.bool true) (fun _ => rfl)) (fun _ _ h => h))
                go_roundw
                case rel => exact ⟨hff, .inr ⟨HUN.out, r2, hmk, by have := HLN.out; simp only [List.length_cons] at this; omega⟩⟩
                case measure => rw [hmk.M, HMM.out]; simp; omega
        · have g1 : ((d.toNat : Int) != 0) = true := by
            rw [bne_iff_ne]
            intro h
            exact hd (UInt8.toNat_inj.1 (show d.toNat = (0 : UInt8).toNat from by have : (0 : UInt8).toNat = 0 := rfl; omega))
          have HD := Lib.hid hd; clear hd
          go_wp2_with fail
          refine HNX.out.mono ?_
          rintro e w2 ⟨rfl, h2, f2⟩
          have HR2 := Lib.hid h2
          have how2 := HOW.out.kept f2 (fun k hk h => by have h1 := HFS.out k hk; have h3 := HRD.out.1; have h : k = p := h; omega)
          have HF2 := Lib.hid f2; have HOW2 := Lib.hid how2
          clear h2 f2 how2
          simp only [nextB, List.headD_cons]
          go_wp2_with (at_builtin; refine wpList_apo (n := t.length) (xs := bvs t) rfl (.tmp 14) (.tmp 16) 22 rfl tbB (HOW2.out.kept0 ?fr) (Sl.built w2 _ _) rfl rfl (by simp [Value.oneCell']) ?b1 ?b2 ?go)
          case fr => (repeat first | exact Fr.refl _ _ | exact Fr.drewN _ _ _ | apply Fr.drew | apply Fr.alloc | apply Fr.setAt | apply Fr.moreN)
          case b1 => have := HLN.out; simp only [List.length_cons] at this; simp only [maxLen]; omega
          case b2 => have := HLN.out; simp only [List.length_cons] at this; omega
          case go =>
            intro A' N c' w4 hN ho _ hf hs
            subst hN
            have fin := esc_step (r := r1) (l := l) (d := d) (HFR.out.trans HF2.out (fun _ _ h => h)) hm HFS.out HR2.out (by (repeat first | exact Fr.refl _ _ | exact Fr.drewN _ _ _ | apply Fr.drew | apply Fr.alloc | apply Fr.setAt | apply Fr.moreN)) ho hf hs (by have := HLN.out; simp only [List.length_cons] at this; omega)
            have FIN := Lib.hid fin
            clear ho hf hs fin
            go_wp2
            go_roundw
            case rel =>
              refine ⟨FIN.out.1, .inl ⟨t ++ [d], r1, A', c', ?_, by rw [List.length_append]; rfl, FIN.out.2.1, FIN.out.2.2.1, FIN.out.2.2.2.1, FIN.out.2.2.2.2⟩⟩
              rw [HU.out, unesc_ne HD.out]
              cases unesc r1 <;> simp
            case measure => rw [FIN.out.2.2.2.1.M, HMM.out]; simp
    · obtain ⟨q1, qz, qb⟩ := hrd.cells
      have HU := Lib.hid hu; have HRD := Lib.hid hrd; have HSL := Lib.hid hsl; have HFR := Lib.hid hfr
      clear hu hrd hsl hfr
      go_wp2
      go_ret
      exact ⟨HFR.out, .inr ⟨HU.out, rfl, s, HRD.out, HSL.out⟩⟩
end Go.Proofs.YtgcicljklejmjaaDoor

/- key.reader.value: what it needs of numbers, and of values of their own. -/
namespace Go.Proofs.YtgcicljklejmjaaDoor
open Go.RowKit
open Tr

theorem xor_ios (n : Nat) (h : n < 256 ^ 8) : IntKind.i64.wrap (bits BinOp.xor IntKind.u64 (n : Int) 9223372036854775808) = ios n := by
  have h' : n < 18446744073709551616 := by simpa using h
  have e : (9223372036854775808 : Int).toNat = 2 ^ 63 := by decide
  rw [u64_xor (n : Int) 9223372036854775808 (by omega) (by omega) (by omega) (by omega), e, Int.toNat_natCast]
  unfold ios
  by_cases h1 : n < 9223372036854775808
  · have h2 := xor_top (m := n) h1
    rw [h2]
    rw [IntWalk.i64_left]
    unfold wrap64
    omega
  · have h2 := xor_top (m := n - 2 ^ 63) (by omega)
    have h3 : n = (n - 2 ^ 63) ^^^ 2 ^ 63 := by rw [h2]; omega
    have h4 : n ^^^ 2 ^ 63 = n - 2 ^ 63 := by
      conv => lhs; rw [h3]
      rw [Nat.xor_assoc, Nat.xor_self, Nat.xor_zero]
    rw [h4]
    rw [IntWalk.i64_left]
    unfold wrap64
    omega

theorem un_snoc (r : List UInt8) (c : UInt8) : un 0 (r ++ [c]) = un 0 r * 256 + c.toNat := by
  have h : ∀ (l : List UInt8) (n : Nat), un n (l ++ [c]) = un n l * 256 + c.toNat := by
    intro l
    induction l with
    | nil => intro n; rfl
    | cons a l ih => intro n; exact ih _
  exact h r 0

theorem len_esc (t : List UInt8) : t.length ≤ (esc t).length := by
  induction t with
  | nil => simp
  | cons a t ih =>
    rw [esc_cons, List.length_append, List.length_cons]
    have : 1 ≤ (if a = 0 then [0, 255] else [a] : List UInt8).length := by split <;> simp
    omega
theorem len_mem_flat {β : Type} {f : β → List UInt8} {y : β} {l : List β} (h : y ∈ l) : (f y).length ≤ (l.flatMap f).length := by
  induction l with
  | nil => cases h
  | cons a l ih =>
    rw [List.flatMap_cons, List.length_append]
    rcases List.mem_cons.1 h with rfl | h
    · omega
    · have := ih h; omega

/-- A value of its own that was read from few bytes is as it should be. -/
theorem own_good_of {w : World} {N : Nat} (hN : N * 120 ≤ 140737488351232) (x : Tr Mm) : KeyedAll (bare x) → PlainAll (bare x) → (enc (bare x)).length ≤ N → Tr.Own w x → Tr.Good w x := by
  induction x using Tr.ind with
  | h x ih =>
    intro hk hp hl ho
    have hf : x.f = [] := by
      have := hp.here.f
      rw [bare_f] at this
      simpa using this
    have h1 := hk.here.1
    have hN2 : N ≤ 140737488351232 := by omega
    have ht : x.t.length ≤ N := by
      by_cases h : (bare x).k = 4
      · rw [enc_eq, if_neg (by rw [h]; decide), if_neg (by rw [h]; decide), if_neg (by rw [h]; decide), if_pos h] at hl
        have := len_esc (bare x).t
        rw [bare_t] at this
        rw [bare_t] at hl
        simp only [List.length_cons, List.length_append] at hl
        omega
      · have := hp.here.t h
        rw [bare_t] at this
        rw [this]; simp
    have hb : x.bs.length ≤ N := by
      by_cases h : (bare x).k = 5
      · rw [enc_eq, if_neg (by rw [h]; decide), if_neg (by rw [h]; decide), if_neg (by rw [h]; decide), if_neg (by rw [h]; decide), if_pos h] at hl
        have := len_esc (bare x).bs
        rw [bare_bs] at this
        rw [bare_bs] at hl
        simp only [List.length_cons, List.length_append] at hl
        omega
      · have := hp.here.bs h
        rw [bare_bs] at this
        rw [this]; simp
    have hll : x.l.length ≤ N ∧ ∀ y ∈ x.l, (enc (bare y)).length ≤ N := by
      by_cases h : (bare x).k = 6
      · rw [enc_eq, if_neg (by rw [h]; decide), if_neg (by rw [h]; decide), if_neg (by rw [h]; decide), if_neg (by rw [h]; decide), if_neg (by rw [h]; decide), if_pos h] at hl
        have h2 := len_flat_enc (bare x).l (fun y hy => (hk.l y hy).here)
        simp only [List.length_cons, List.length_append] at hl
        have h5 : (bare x).l.length = x.l.length := by rw [bare_l, List.length_map]
        refine ⟨by omega, fun y hy => ?_⟩
        have h3 : bare y ∈ (bare x).l := by rw [bare_l]; exact List.mem_map_of_mem hy
        have := len_mem_flat (f := enc) h3
        omega
      · have := hp.here.l h
        rw [bare_l] at this
        have : x.l = [] := by simpa using this
        rw [this]; simp
    have hr : reachBytes = 140737488351232 := rfl
    refine ⟨x, ⟨ho.B.sl, ho.L.sl, ho.F.sl, ?_, ?_, ?_, ?_, ?_, ?_, ?_, ?_⟩, fun y hy => ?_⟩
    · have := hk.here.2; rwa [bare_i] at this
    · omega
    · omega
    · omega
    · rw [hf]; simp
    · rw [hf]; intro p hp; cases hp
    · have := hll.1; omega
    · rw [hf]; simp
    · have hyl : y ∈ x.l := by
        unfold kids at hy
        rw [hf] at hy
        simpa using hy
      have h3 : bare y ∈ (bare x).l := by rw [bare_l]; exact List.mem_map_of_mem hyl
      exact ih y hy (hk.l _ h3) (hp.l _ h3) (hll.2 y hyl) (ho.kids y hy)

/-- No lists. -/
def nil3 : Mm := (.slice none 0 0, .slice none 0 0, .slice none 0 0)
theorem ow_none (w : World) (e : TypeId) (sz : Nat) : Ow w e sz (.slice none 0 0) 0 [] := ⟨by simp, .inl ⟨rfl, rfl⟩⟩
theorem own_leaf (w : World) (k : UInt8) (b : Bool) (i : Int) (t : List UInt8) : Tr.Own w (.mk k b i t [] nil3 [] []) :=
  ⟨_, ow_none w _ 1, ow_none w _ 7, ow_none w _ 8, ⟨fun _ h => (nomatch h), fun _ h => (nomatch h), fun _ h => (nomatch h), fun _ h => (nomatch h), List.Pairwise.nil⟩, fun _ h => (nomatch h)⟩
theorem blk_leaf {k : UInt8} {b : Bool} {i : Int} {t : List UInt8} {j : Nat} : ¬ Blk (.mk k b i t [] nil3 [] []) j := fun h => by
  rcases h.cases with h | h | h | ⟨y, h, _⟩ <;> cases h
theorem own_raw {w : World} {v : Value} {t : List UInt8} (h : Ow w 5 1 v t.length (bvs t)) (k : UInt8) (b : Bool) (i : Int) : Tr.Own w (.mk k b i [] t (v, .slice none 0 0, .slice none 0 0) [] []) :=
  ⟨_, h, ow_none w _ 7, ow_none w _ 8, ⟨fun _ _ h => (nomatch h), fun _ _ h => (nomatch h), fun _ h => (nomatch h), fun _ h => (nomatch h), List.Pairwise.nil⟩, fun _ h => (nomatch h)⟩
theorem blk_raw {v : Value} {t : List UInt8} {k : UInt8} {b : Bool} {i : Int} {j : Nat} (h : Blk (.mk k b i [] t (v, .slice none 0 0, .slice none 0 0) [] []) j) : v.ownBlock = some j := by
  rcases h.cases with h | h | h | ⟨y, h, _⟩
  · exact h
  · cases h
  · cases h
  · cases h
theorem kids_list {v : Value} {ys : List (Tr Mm)} {k : UInt8} {b : Bool} {i : Int} : Tr.kids (.mk k b i [] [] (.slice none 0 0, v, .slice none 0 0) ys []) = ys := by
  simp [kids, Tr.l, Tr.f]
theorem own_list {w : World} {v : Value} {ys : List (Tr Mm)} (h : Ow w 33 7 v ys.length (ys.flatMap cells)) (hy : ∀ y ∈ ys, Tr.Own w y) (hp : ys.Pairwise fun y z => ∀ k, Blk y k → ¬ Blk z k) (hn : ∀ y ∈ ys, ∀ k, Blk y k → v.ownBlock ≠ some k) (k : UInt8) (b : Bool) (i : Int) :
    Tr.Own w (.mk k b i [] [] (.slice none 0 0, v, .slice none 0 0) ys []) := by
  refine ⟨_, ow_none w _ 1, h, ow_none w _ 8, ⟨fun _ h => (nomatch h), fun _ h => (nomatch h), fun _ _ h => (nomatch h), fun y hy' j hj => ⟨fun h => (nomatch h), ?_, fun h => (nomatch h)⟩, ?_⟩, ?_⟩
  · rw [kids_list] at hy'; exact hn y hy' j hj
  · rw [kids_list]; exact hp
  · rw [kids_list]; exact hy
theorem blk_list {v : Value} {ys : List (Tr Mm)} {k : UInt8} {b : Bool} {i : Int} {j : Nat} (h : Blk (.mk k b i [] [] (.slice none 0 0, v, .slice none 0 0) ys []) j) : v.ownBlock = some j ∨ ∃ y ∈ ys, Blk y j := by
  rcases h.cases with h | h | h | ⟨y, h, hb⟩
  · cases h
  · exact .inl h
  · cases h
  · rw [kids_list] at h; exact .inr ⟨y, h, hb⟩
end Go.Proofs.YtgcicljklejmjaaDoor

/- A region that draws its order, walked in ours, where two operations may come in either order: both ways are walked. Conditions: a closed check of the region's edges. -/
namespace Go

/-- An order with forks: behind the operations of l the ways s and t part, each begins with its own operation. -/
inductive BT where
  | lin (l : List Nat)
  | fork (l : List Nat) (s t : BT)

/-- Q, but at the normal end E. -/
def atEnd (Q : Exit → Act → World → Prop) (E : Act → World → Prop) : Exit → Act → World → Prop
  | .normal, a, w => E a w
  | x, a, w => Q x a w

section
variable {P : Program} {ops : Array Oper} {Q : Exit → Act → World → Prop} {I : World → Prop} {kds : Nat → Kd} {md : Region.Mode}

def wpB (P : Program) (ops : Array Oper) (Q : Exit → Act → World → Prop) (I : World → Prop) (kds : Nat → Kd) : BT → Act → World → Prop
  | .lin l, a, w => wpX P ops Q I kds l a w
  | .fork l s t, a, w => wpX P ops (atEnd Q fun a w => wpB P ops Q I kds s a w ∧ wpB P ops Q I kds t a w) I kds l a w

theorem Oper.wp_exit {o : Oper} {a : Act} {w : World} {K : Act → World → Prop} {E : Act → World → Prop} (h : o.wp P a w K (NoPanic (atEnd Q E))) : o.wp P a w K (NoPanic Q) := by
  unfold Oper.wp at *
  generalize (execOp a.eval o).run P w = r at *
  unfold Oper.upon at *
  split at h
  · exact h
  · exact h
  · exact h
  · refine Calls.mono h ?_
    rintro e w' hh
    cases e with
    | returned v => exact hh
    | panicked c => exact (hh : False).elim
    | outgrown => exact hh
  · exact h
  · exact h
  · exact h

theorem kdOp_exit {kd : Kd} {o : Oper} {a : Act} {w : World} {K : Act → World → Prop} {E : Act → World → Prop} (hh : kdOp P (atEnd Q E) I kd o a w K) : kdOp P Q I kd o a w K := by
  cases kd with
  | p => exact hh
  | l => exact hh
  | m => exact hh
  | g => exact Oper.wp_exit hh
  | e => exact Oper.wp_exit hh

theorem xOp_exit {i : Nat} {a : Act} {w : World} {K : Act → World → Prop} {E : Act → World → Prop} (hh : xOp P ops (atEnd Q E) I kds i K a w) : xOp P ops Q I kds i K a w := by
  unfold xOp at *
  split
  · rename_i ho; simp only [ho] at hh; exact hh
  · rename_i o ho
    simp only [ho] at hh
    split
    · rename_i hw; simp only [hw, if_true] at hh; exact kdOp_exit hh
    · rename_i hw; simp only [hw] at hh; exact hh

def Region.stepB (wt : Nat → Nat → Bool) (md : Region.Mode) (ops : Array Oper) (kds : Nat → Kd) (i : Nat) (listed : Array Bool) : Bool :=
  match kds i with
  | .p | .l | .m => (Region.ready md ops listed).contains i && Region.freeX wt ops kds listed i
  | .g | .e => Region.ready md ops listed == [i]

/-- The check of the operations ahead of a fork: what is listed then. -/
def Region.ordPre (wt : Nat → Nat → Bool) (md : Region.Mode) (ops : Array Oper) (kds : Nat → Kd) : List Nat → Array Bool → Option (Array Bool)
  | [], listed => some listed
  | i :: rest, listed =>
    if Region.stepB wt md ops kds i listed = true then Region.ordPre wt md ops kds rest (listed.setIfInBounds i true) else none

def BT.head : BT → List Nat
  | .lin l => l
  | .fork l _ _ => l
def BT.tail : BT → BT
  | .lin l => .lin l.tail
  | .fork l s t => .fork l.tail s t

/-- The closed check of an order with forks (n: how many operations are left). -/
def Region.chkB (wt : Nat → Nat → Bool) (md : Region.Mode) (ops : Array Oper) (kds : Nat → Kd) : Nat → BT → Nat → Array Bool → Bool
  | _, .lin l, n, listed => l.length == n && Region.ordFrom wt md ops kds l listed
  | 0, .fork _ _ _, _, _ => false
  | fuel + 1, .fork l s t, n, listed =>
    match Region.ordPre wt md ops kds l listed with
    | none => false
    | some li =>
      match s.head, t.head with
      | i :: _, j :: _ => decide (l.length + 1 ≤ n) && !(Region.ready md ops li).isEmpty && (Region.ready md ops li).all (fun k => k == i || k == j) &&
          ((Region.ready md ops li).contains i && Region.chkB wt md ops kds fuel s.tail (n - l.length - 1) (li.setIfInBounds i true)) &&
          ((Region.ready md ops li).contains j && Region.chkB wt md ops kds fuel t.tail (n - l.length - 1) (li.setIfInBounds j true))
      | _, _ => false

theorem wpX_nil {a : Act} {w : World} : wpX P ops Q I kds [] a w ↔ Q .normal a w := by with_unfolding_all exact Iff.rfl
theorem wpX_cons {i : Nat} {r : List Nat} {a : Act} {w : World} : wpX P ops Q I kds (i :: r) a w ↔ xOp P ops Q I kds i (wpX P ops Q I kds r) a w := by with_unfolding_all exact Iff.rfl

theorem wpAnyX_pre {wt : Nat → Nat → Bool} {E : Act → World → Prop} (hwt : ∀ j i, wt j i = true → Region.Anc md ops j i) (hs : Region.noSelect ops = true) (m : Nat) (li : Array Bool) :
    ∀ (ord : List Nat) (listed : Array Bool) (a : Act) (w : World), I w → Region.Closed md ops listed →
    Region.ordPre wt md ops kds ord listed = some li → (Region.Closed md ops li → ∀ a w, I w → E a w → wpAnyX P md ops Q I kds m li a w) → wpX P ops (atEnd Q E) I kds ord a w → wpAnyX P md ops Q I kds (m + ord.length) listed a w
  | [], listed, a, w, hI, hc, hB, hE, h => by
    obtain rfl : listed = li := by simpa [Region.ordPre] using hB
    exact hE hc a w hI (wpX_nil.1 h)
  | i :: rest, listed, a, w, hI, hc, hB, hE, h => by
    unfold Region.ordPre at hB
    split at hB
    case isFalse => cases hB
    rename_i hB1
    have h : xOp P ops Q I kds i (wpX P ops (atEnd Q E) I kds rest) a w := xOp_exit (wpX_cons.1 h)
    have main : ∀ kd : Kd, kds i = kd → (kd = .p ∨ kd = .l ∨ kd = .m) → (Region.ready md ops listed).contains i = true → Region.freeX wt ops kds listed i = true → wpAnyX P md ops Q I kds (m + rest.length + 1) listed a w := by
      intro kd hk hm hr hf
      have hr' : i ∈ Region.ready md ops listed := by simpa using hr
      obtain ⟨_, oi, hoi, _⟩ := mem_ready.1 hr'
      obtain ⟨v, hy, hK⟩ := yieldsX_of_xOp hoi hk hm h
      exact wpAnyX_first hwt hoi (Region.noSelect_spec hs) hk (m + rest.length) listed a w hI hc (Region.freeX_spec hoi hk hf) hr' hy
        (wpAnyX_pre hwt hs m li rest _ _ _ hI (hc.set hr') hB hE hK)
    have lone : Region.ready md ops listed = [i] → wpAnyX P md ops Q I kds (m + rest.length + 1) listed a w := by
      intro hr
      have hr' : i ∈ Region.ready md ops listed := by rw [hr]; simp
      refine ⟨fun h0 => (by rw [hr] at h0; cases h0), fun j hj => ?_⟩
      rw [hr] at hj
      obtain rfl : j = i := by simpa using hj
      exact xOp_mono (fun a w hI hK => wpAnyX_pre hwt hs m li rest _ a w hI (hc.set hr') hB hE hK) hI h
    unfold Region.stepB at hB1
    cases hk : kds i <;> simp only [hk] at hB1
    case p => simp only [Bool.and_eq_true] at hB1; exact main _ hk (by simp) hB1.1 hB1.2
    case l => simp only [Bool.and_eq_true] at hB1; exact main _ hk (by simp) hB1.1 hB1.2
    case m => simp only [Bool.and_eq_true] at hB1; exact main _ hk (by simp) hB1.1 hB1.2
    case g => exact lone (by simpa using hB1)
    case e => exact lone (by simpa using hB1)

theorem wpB_first {i : Nat} {r : List Nat} {s : BT} (hs : s.head = i :: r) {a : Act} {w : World} (h : wpB P ops Q I kds s a w) : xOp P ops Q I kds i (wpB P ops Q I kds s.tail) a w := by
  cases s with
  | lin l =>
    simp only [BT.head] at hs
    subst hs
    exact wpX_cons.1 h
  | fork l s t =>
    simp only [BT.head] at hs
    subst hs
    exact xOp_exit (wpX_cons.1 h)

theorem wpAnyX_B {wt : Nat → Nat → Bool} (hwt : ∀ j i, wt j i = true → Region.Anc md ops j i) (hs : Region.noSelect ops = true) :
    ∀ (fuel : Nat) (b : BT) (n : Nat) (listed : Array Bool) (a : Act) (w : World), I w → Region.Closed md ops listed → Region.chkB wt md ops kds fuel b n listed = true → wpB P ops Q I kds b a w → wpAnyX P md ops Q I kds n listed a w
  | fuel, .lin l, n, listed, a, w, hI, hc, hB, h => by
    unfold Region.chkB at hB
    simp only [Bool.and_eq_true, beq_iff_eq] at hB
    rw [← hB.1]
    exact wpAnyX_ord hwt hs l listed a w hI hc hB.2 h
  | 0, .fork l s t, n, listed, a, w, hI, hc, hB, h => by simp [Region.chkB] at hB
  | fuel + 1, .fork l s t, n, listed, a, w, hI, hc, hB, h => by
    unfold Region.chkB at hB
    split at hB
    · cases hB
    rename_i li hp
    split at hB
    case h_2 => cases hB
    rename_i i ri j rj hsi htj
    simp only [Bool.and_eq_true, decide_eq_true_eq, List.all_eq_true, Bool.or_eq_true, beq_iff_eq, Bool.not_eq_true', List.isEmpty_eq_false_iff] at hB
    obtain ⟨⟨⟨⟨hn, hne⟩, hall⟩, hi, hB1⟩, hj, hB2⟩ := hB
    have hi' : i ∈ Region.ready md ops li := by simpa using hi
    have hj' : j ∈ Region.ready md ops li := by simpa using hj
    have e : n = (n - l.length - 1 + 1) + l.length := by omega
    rw [e]
    refine wpAnyX_pre hwt hs (n - l.length - 1 + 1) li l listed a w hI hc hp ?_ h
    intro hcl a w hI hE
    refine ⟨fun h0 => (hne h0).elim, fun k hk => ?_⟩
    rcases hall k hk with rfl | rfl
    · exact xOp_mono (fun a w hI hK => wpAnyX_B hwt hs fuel s.tail _ _ a w hI (hcl.set hi') hB1 hK) hI (wpB_first hsi hE.1)
    · exact xOp_mono (fun a w hI hK => wpAnyX_B hwt hs fuel t.tail _ _ a w hI (hcl.set hj') hB2 hK) hI (wpB_first htj hE.2)

def Region.forkB (md : Region.Mode) (ops : Array Oper) (kds : Nat → Kd) (b : BT) : Bool :=
  Region.noSelect ops && Region.chkB (Region.wtOf (Region.masks md ops.toList [])) md ops kds 8 b ops.size (Array.replicate ops.size false)

/-- A region that draws its order is walked in ours, on each way of our forks. -/
theorem wp_region_fork {id : Nat} {a : Act} {w : World} (I : World → Prop) (b : BT) (kds : Nat → Kd) (hm : P.follows .mixedOrders = true) (hB : Region.forkB .any ops kds b = true)
    (hI : I w.drew) (h : wpB P ops Q I kds b a w.drew) : (Code.region id ops true).wp P Q a w := by
  simp only [Region.forkB, Bool.and_eq_true] at hB
  obtain ⟨h1, h3⟩ := hB
  refine wp_region_noPanic (wp_region_any hm (wpAny_of_X (I := I) (kds := kds) _ _ _ _ hI ?_))
  have hwt : ∀ j i, Region.wtOf (Region.masks .any ops.toList []) j i = true → Region.Anc .any ops j i :=
    Region.masks_spec ops.toList 0 [] (fun j => by simp) rfl (fun j i h => by simp at h)
  exact wpAnyX_B (P := P) (Q := Q) (kds := kds) hwt h1 8 b _ _ a w.drew hI (Region.closed_none _ _ _) h3 h

/-- An operation that answers the same in any world. -/
theorem wpX_pv {i : Nat} {rest : List Nat} {a : Act} {w : World} {o : Oper} (v : Value) (hi : ops[i]? = some o) (hg : Region.wanted o (yielded ops a.tmps) = true) (hk : kds i = .p)
    (hv : ∀ w', (execOp a.eval o).run P w' = .ok (.value v) w') (h : wpX P ops Q I kds rest (a.put o.dst v) w) : wpX P ops Q I kds (i :: rest) a w := by
  refine wpX_step hi hg fun K hK => ?_
  rw [hk]
  refine ⟨v, fun w' => ?_, hK _ _ h⟩
  unfold Oper.val
  rw [hv w']
  exact ⟨rfl, rfl⟩
theorem wpB_lin {l : List Nat} {a : Act} {w : World} (h : wpX P ops Q I kds l a w) : wpB P ops Q I kds (.lin l) a w := h
theorem wpB_fork {l : List Nat} {s t : BT} {a : Act} {w : World} (h : wpX P ops (atEnd Q fun a w => wpB P ops Q I kds s a w ∧ wpB P ops Q I kds t a w) I kds l a w) : wpB P ops Q I kds (.fork l s t) a w := h
theorem wpX_fork {E F : Act → World → Prop} {a : Act} {w : World} (h1 : E a w) (h2 : F a w) : wpX P ops (atEnd Q fun a w => E a w ∧ F a w) I kds [] a w := wpX_nil.2 ⟨h1, h2⟩
end
end Go
