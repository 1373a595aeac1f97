import Derived.Test.YtgcicljklejmjaaDoorMb16
import Derived.Test.YtgcicljklejmjaaDoorMb17
import Derived.Test.YtgcicljklejmjaaDoorMb13
import Derived.Test.YtgcicljklejmjaaDoorMb07
import Derived.Test.YtgcicljklejmjaaDoorMb09
import Derived.Lib.TrimUEq

/- KeyTakes, plain: bytes that are read as a tuple are the bytes of that tuple. -/
namespace Go.Proofs.YtgcicljklejmjaaDoor
open Tr

theorem bare_one {α : Type} (x : Tr α) : oneErr (bare x) = oneErr x := by
  unfold oneErr
  rw [bare_check, bare_keyed, bare_enc]
theorem bare_encD {α : Type} (d : Bool) (x : Tr α) : encD d (bare x) = encD d x := by
  unfold encD
  rw [bare_enc]
theorem bare_encT {α : Type} (d : Nat → Bool) : ∀ (i : Nat) (l : List (Tr α)), encT d i (l.map bare) = encT d i l
  | _, [] => rfl
  | i, x :: l => by rw [List.map_cons, encT, encT, bare_encD, bare_encT d (i + 1) l]
theorem bare_tup {α : Type} (l : List (Tr α)) : tupErr (l.map bare) = tupErr l := by
  unfold tupErr
  rw [List.length_map, bare_encT, List.map_map, show ((oneErr ∘ bare : Tr α → Nat)) = oneErr from funext bare_one]
theorem keyedA_of {α : Type} {x : Tr α} (h : KeyedAll x) : PlainAll x → keyed x = true := by
  induction h with
  | mk x hk hl ih =>
    intro hp
    unfold keyed
    rw [keyed_kids]
    have hf := hp.here.f
    have h7 : (x.k != 7) = true := by
      rw [bne_iff_ne]
      intro h
      have hk1 := hk.1
      rw [h] at hk1
      rcases hk1 with h | h | h | h | h | h <;> exact absurd h (by decide)
    rw [h7, Bool.true_and, List.all_eq_true]
    intro y hy
    unfold kids at hy
    rw [hf, List.map_nil, List.append_nil] at hy
    exact ih y hy (hp.l y hy)
theorem one_two {α : Type} {x : Tr α} (hc : check x = 0) (hk : KeyedAll x) (hp : PlainAll x) : oneErr x = 0 ∨ oneErr x = 42 ∧ 160 < (enc x).length := by
  unfold oneErr
  rw [if_neg (by omega), if_neg (by rw [keyedA_of hk hp]; exact Bool.noConfusion)]
  by_cases h : 160 < (enc x).length
  · exact .inr ⟨if_pos h, h⟩
  · exact .inl (if_neg h)
theorem first_two : ∀ l : List Nat, (∀ e ∈ l, e = 0 ∨ e = 42) → firstErr l = 0 ∨ firstErr l = 42 ∧ 42 ∈ l
  | [], _ => .inl rfl
  | e :: l, h => by
    rcases h e (.head _) with he | he
    · subst he
      rcases first_two l (fun e he => h e (.tail _ he)) with h2 | ⟨h2, h3⟩
      · exact .inl (by rw [firstErr, if_neg (by omega)]; exact h2)
      · exact .inr ⟨by rw [firstErr, if_neg (by omega)]; exact h2, .tail _ h3⟩
    · subst he
      exact .inr ⟨by rw [firstErr, if_pos (by omega)], .head _⟩
theorem encT_mem {α : Type} (d : Nat → Bool) : ∀ (i : Nat) (l : List (Tr α)) (x : Tr α), x ∈ l → (enc x).length ≤ (encT d i l).length
  | i, y :: l, x, h => by
    rw [encT, List.length_append, encD_len]
    cases h with
    | head => omega
    | tail _ h => have := encT_mem d (i + 1) l x h; omega
theorem takes_ok {d : Nat → Bool} {b : List UInt8} {l : List (Tr Unit)} (h : decT d b.length 0 b = .ok l) : b = encT d 0 l ∧ (tupErr l = 0 ∨ tupErr l = 42 ∧ 160 < b.length) := by
  obtain ⟨h1, h2, h3⟩ := decT_ok d b.length 0 b l (Nat.le_refl _) h
  refine ⟨h1, ?_⟩
  have hl : l.length ≤ 4 := by
    cases l with
    | nil => exact Nat.zero_le _
    | cons x l => have := h3 (by simp); omega
  unfold tupErr
  rw [if_neg (by omega)]
  have hf := first_two (l.map oneErr) (fun e he => by
    obtain ⟨x, hx, rfl⟩ := List.mem_map.1 he
    obtain ⟨a, b, c⟩ := h2 x hx
    exact (one_two a b c).imp_right And.left)
  rcases hf with hf | ⟨hf, hm⟩
  · rw [if_neg (by omega)]
    by_cases hn : 160 < (encT (fun _ => false) 0 l).length
    · exact .inr ⟨if_pos hn, by rw [h1, encT_len d 0 0]; exact hn⟩
    · exact .inl (if_neg hn)
  · rw [if_pos (by omega)]
    refine .inr ⟨hf, ?_⟩
    obtain ⟨x, hx, he⟩ := List.mem_map.1 hm
    obtain ⟨a, b2, c⟩ := h2 x hx
    rcases one_two a b2 c with h | ⟨_, h⟩
    · omega
    · have := encT_mem d 0 l x hx
      rw [← h1] at this
      omega
theorem takes_one {down : Bool} {b s : List UInt8} {x : Tr Mm} (h : splitE down b = some (bare x, s)) : b = encD down x ++ s ∧ check x = 0 ∧ (oneErr x = 0 ∨ oneErr x = 42 ∧ 160 < b.length) := by
  obtain ⟨h1, h2, h3, h4⟩ := splitE_some h
  have h5 := one_two h2 h3 h4
  rw [bare_encD] at h1
  rw [bare_one, bare_enc] at h5
  rw [bare_check] at h2
  refine ⟨h1, h2, h5.imp_right fun h => ⟨h.1, ?_⟩⟩
  rw [h1, List.length_append, encD_len]
  omega
theorem takes_none {d : Nat → Bool} {b : List UInt8} (h : splitE (d 0) b = none) (hb : b ≠ []) : decT d b.length 0 b = .error b.length := by
  cases b with
  | nil => exact absurd rfl hb
  | cons c r => rw [List.length_cons, decT_cons (by simp), h, List.length_cons]
end Go.Proofs.YtgcicljklejmjaaDoor

/- codicilref03.kids, deep, parts. -/
namespace Go.Proofs.YtgcicljklejmjaaDoor
open Go.RowKit Go.Shelf
open Tr

theorem parts_kids (x : Tr Mm) : parts x = 1 + (x.kids.map parts).sum := by
  unfold parts
  rw [pre_eq, List.length_cons, Nat.add_comm]
  congr 1
  rw [List.length_flatMap]
  congr 1
  exact List.map_congr_left (fun y _ => pre_len 2 1 y)
theorem parts_pos (x : Tr Mm) : 1 ≤ parts x := by rw [parts_kids]; omega
theorem sum_ge {α : Type} {f : α → Nat} {l : List α} (h : ∀ y ∈ l, 1 ≤ f y) : l.length ≤ (l.map f).sum := by
  induction l with
  | nil => simp
  | cons a l ih =>
    have h1 := h a (.head _)
    have h2 := ih (fun y hy => h y (.tail _ hy))
    simp only [List.length_cons, List.map_cons, List.sum_cons]
    omega
theorem sum_mem {α : Type} {f : α → Nat} {l : List α} {y : α} (h : y ∈ l) : f y ≤ (l.map f).sum := by
  induction l with
  | nil => cases h
  | cons a l ih =>
    simp only [List.map_cons, List.sum_cons]
    rcases List.mem_cons.1 h with rfl | h
    · omega
    · have := ih h; omega
theorem kids_le (x : Tr Mm) : x.kids.length ≤ parts x := by
  have := sum_ge (f := parts) (l := x.kids) (fun y _ => parts_pos y)
  rw [parts_kids]; omega
theorem parts_kid {x y : Tr Mm} (h : y ∈ x.kids) : parts y ≤ parts x := by
  have := sum_mem (f := parts) h
  rw [parts_kids x]; omega

set_option maxRecDepth 100000 in
set_option maxHeartbeats 4000000 in
theorem kids3_any (w : World) (x : Tr Mm) (hx : Tr.Good w x) (hp : parts x ≤ 1000000) : Calls Tryd.prog 92 #[x.agg] w fun e w' => ∃ A c, e = .returned (.slice A x.kids.length c) ∧ In w' (.slice A x.kids.length c) x.kids ∧ Fr no w w' := by
  obtain ⟨BA, bc, LA, lc, FA, fc, hf⟩ := hx.node.forms
  have hkl := kids_le x
  have hkk : x.kids.length = x.l.length + x.f.length := by unfold kids; rw [List.length_append, List.length_map]
  have hL := hx.inL; have hF := hx.inF
  rw [hf.agg]
  rw [hf.L] at hL; rw [hf.F] at hF
  have hlf : x.l.length + x.f.length ≤ 1000000 := by omega
  have HX := Lib.hid hx; have HL := Lib.hid hL; have HF := Lib.hid hF; have HKK := Lib.hid hkk
  clear hx hf hL hF hkl hkk hp
  go_enter Tryd.func92, Tryd.ntmps92
  have fz : Fr no w (w.alloc (.cells #[.int .u8 x.k.toNat, .bool x.b, .int .i64 x.i, .string ⟨x.t.toArray⟩, .slice BA x.bs.length bc, .slice LA x.l.length lc, .slice FA x.f.length fc] 33)) := (Fr.refl no w).alloc _
  have hb0 := heap_alloc_new w (.cells #[.int .u8 x.k.toNat, .bool x.b, .int .i64 x.i, .string ⟨x.t.toArray⟩, .slice BA x.bs.length bc, .slice LA x.l.length lc, .slice FA x.f.length fc] 33)
  have FZ := Lib.hid fz; have HB0 := Lib.hid hb0
  clear fz hb0
  go_wp2_with (at_builtin; refine wpList_apo (n := 0) (xs := []) (m := x.l.length) (news := x.l.flatMap cells) rfl (.tmp 5) (.tmp 7) 25 rfl tbV (ow_none _ _ _) (HL.out.kept0 FZ.out).sl rfl rfl (cells_one x.l (fun y hy => (HL.out.good y hy).node.forms)) ?b1 ?b2 ?go)
  case b1 => simp only [maxLen]; omega
  case b2 => omega
  case go =>
    intro P N pc w2 hN ho2 _ hf2 hs2
    obtain rfl : N = x.l.length := by omega
    have f2 : Fr no w w2 := FZ.out.trans hf2 (fun _ _ h => nomatch h)
    have hb2 := hf2.heap HB0.out (fun h => nomatch h)
    have hnew : ∀ k, Value.ownBlock (.slice P x.l.length pc) = some k → w.heap.size < k := fun k hk => by
      rcases stays_own hs2 k hk with h | h
      · cases h
      · rw [World.size_alloc] at h; omega
    have F2 := Lib.hid f2; have HB2 := Lib.hid hb2; have HO2 := Lib.hid ho2; have HN2 := Lib.hid hnew
    clear f2 hf2 hb2 ho2 hs2 hnew
    go_wp2
    go_loopw [3, 4] (fun ov iv wr => ∃ (j : Nat) (O : Option Addr) (oc : Nat), j ≤ x.f.length ∧ iv = .int .i64 (j : Int) ∧ ov = .slice O (x.l.length + j) oc ∧ Ow wr 33 7 (.slice O (x.l.length + j) oc) (x.l.length + j) ((x.l ++ (x.f.take j).map Prod.snd).flatMap cells) ∧ (∀ k, Value.ownBlock (.slice O (x.l.length + j) oc) = some k → w.heap.size < k) ∧ Fr no w wr ∧
      wr.heap[w.heap.size]? = some (.cells #[.int .u8 x.k.toNat, .bool x.b, .int .i64 x.i, .string ⟨x.t.toArray⟩, .slice BA x.bs.length bc, .slice LA x.l.length lc, .slice FA x.f.length fc] 33 (0, 0))) (fun _ iv _ => x.f.length - (intOf iv).toNat)
    case atStart => exact ⟨0, P, pc, Nat.zero_le _, rfl, rfl, by simpa using HO2.out, HN2.out, F2.out, HB2.out⟩
    case round =>
      obtain ⟨j, O, oc, hj, rfl, rfl, how, hon, hfr, hbr⟩ := hrel
      obtain ⟨q0, q1, q2, q3, q4, q5, q6, qz, ql⟩ := seven_cells hbr
      have HOW := Lib.hid how; have HON := Lib.hid hon; have FR := Lib.hid hfr; have HBR := Lib.hid hbr
      clear how hon hfr hbr
      by_cases hlt : j < x.f.length
      · have hFr := HF.out.kept0 FR.out
        obtain ⟨b, o, KB, kb, KL, kl, KF, kf, rfl, hfj, n0, r0, r1, r2, r3, r4, r5, r6, rl⟩ := InF.get hFr j hlt
        have hcl : x.f[j].2.cells = [.int .u8 x.f[j].2.k.toNat, .bool x.f[j].2.b, .int .i64 x.f[j].2.i, .string ⟨x.f[j].2.t.toArray⟩, .slice KB x.f[j].2.bs.length kb, .slice KL x.f[j].2.l.length kl, .slice KF x.f[j].2.f.length kf] := by unfold cells; rw [hfj.B, hfj.L, hfj.F]
        have hal := (Fr.refl no wr).alloc (.cells #[.int .u8 x.f[j].2.k.toNat, .bool x.f[j].2.b, .int .i64 x.f[j].2.i, .string ⟨x.f[j].2.t.toArray⟩, .slice KB x.f[j].2.bs.length kb, .slice KL x.f[j].2.l.length kl, .slice KF x.f[j].2.f.length kf] 33)
        have hbx := built7 wr (.int .u8 x.f[j].2.k.toNat) (.bool x.f[j].2.b) (.int .i64 x.f[j].2.i) (.string ⟨x.f[j].2.t.toArray⟩) (.slice KB x.f[j].2.bs.length kb) (.slice KL x.f[j].2.l.length kl) (.slice KF x.f[j].2.f.length kf) 33
        have HAL := Lib.hid hal; have HBX := Lib.hid hbx; have HCL := Lib.hid hcl
        clear hfj hFr hal hbx hcl
        go_wp2_with (at_builtin; refine wpList_apo (n := x.l.length + j) (xs := (x.l ++ (x.f.take j).map Prod.snd).flatMap cells) (m := 1) (news := [.int .u8 x.f[j].2.k.toNat, .bool x.f[j].2.b, .int .i64 x.f[j].2.i, .string ⟨x.f[j].2.t.toArray⟩, .slice KB x.f[j].2.bs.length kb, .slice KL x.f[j].2.l.length kl, .slice KF x.f[j].2.f.length kf]) rfl (.tmp 16) (.tmp 23) 25 rfl tbV (HOW.out.kept0 HAL.out) HBX.out rfl rfl (by intro u hu; simp only [List.mem_cons, List.not_mem_nil, or_false] at hu; rcases hu with rfl | rfl | rfl | rfl | rfl | rfl | rfl <;> rfl) ?c1 ?c2 ?go2)
        case c1 => simp only [maxLen]; omega
        case c2 => omega
        case go2 =>
          intro A' N c' w7 hN ho7 _ hf7 hs7
          obtain rfl : N = x.l.length + (j + 1) := by omega
          have fr7 : Fr no w w7 := (FR.out.trans HAL.out (fun _ _ h => h)).trans hf7 (fun k hk h => by have := HON.out k h; omega)
          have hb7 := hf7.heap (HAL.out.heap HBR.out (fun h => h)) (fun h => by have := HON.out _ h; omega)
          have hn7 : ∀ k, Value.ownBlock (.slice A' (x.l.length + (j + 1)) c') = some k → w.heap.size < k := fun k hk => by
            rcases stays_own hs7 k hk with h | h
            · exact HON.out k h
            · have h1 := FR.out.size; have h2 := (Array.getElem?_eq_some_iff.1 HBR.out).1; have h3 := HAL.out.size; omega
          have ho8 : Ow w7 33 7 (.slice A' (x.l.length + (j + 1)) c') (x.l.length + (j + 1)) ((x.l ++ (x.f.take (j + 1)).map Prod.snd).flatMap cells) := by
            rw [List.take_succ_eq_append_getElem hlt, List.map_append, ← List.append_assoc, List.flatMap_append, List.map_singleton, List.flatMap_singleton, HCL.out]
            simpa [List.flatMap_append, List.map_take, List.append_assoc] using ho7
          have F7 := Lib.hid fr7; have HB7 := Lib.hid hb7; have HN7 := Lib.hid hn7; have HO8 := Lib.hid ho8
          clear fr7 hb7 hn7 ho8 ho7 hf7 hs7 hN
          go_wp2
          go_roundw
          case rel => exact ⟨j + 1, A', c', by omega, by go_num, rfl, HO8.out, HN7.out, F7.out, HB7.out⟩
          case measure => simp [intOf]; omega
      · obtain rfl : j = x.f.length := by omega
        have hin : In wr (.slice O x.kids.length oc) x.kids := by
          refine ⟨?_, fun z hz => (HX.out.kids z hz).kept0 FR.out, by rw [HKK.out]; simp only [reachBytes]; omega, by rw [HKK.out]; simp only [reachBytes]; omega⟩
          have h := HOW.out.sl
          rw [List.take_length] at h
          rw [HKK.out]
          exact h
        have HIN := Lib.hid hin
        clear hin
        go_wp2
        go_ret
        exact ⟨O, oc, by rw [HKK.out]; rfl, HIN.out, FR.out⟩
end Go.Proofs.YtgcicljklejmjaaDoor

/- codicilref03.deep, parts, all. -/
namespace Go.Proofs.YtgcicljklejmjaaDoor
open Go.RowKit Go.Shelf
open Tr

set_option maxRecDepth 100000 in
set_option maxHeartbeats 2000000 in
theorem deep3_any (n : Nat) : ∀ (_ : n ≤ 1000) (x : Tr Mm) (w : World) (_ : Tr.Good w x) (_ : parts x ≤ 1000000), Calls Tryd.prog 73 #[x.agg, .int .i64 (n : Int)] w fun e w' => e = .returned (.bool (deep n x)) ∧ Fr no w w' := by
  induction n with
  | zero =>
    intro _ x w hx hp
    obtain ⟨BA, bc, LA, lc, FA, fc, hf⟩ := hx.node.forms
    rw [hf.agg]
    have hd : deep 0 x = true := rfl
    have HD := Lib.hid hd
    clear hd hf hx
    go_enter Tryd.func73, Tryd.ntmps73
    go_wp2
    go_ret
    exact ⟨by rw [HD.out]; rfl, by (repeat first | exact Fr.refl _ _ | exact Fr.drewN _ _ _ | apply Fr.drew | apply Fr.alloc | apply Fr.setAt | apply Fr.moreN)⟩
  | succ n ih =>
    intro hn x w hx hp
    obtain ⟨BA, bc, LA, lc, FA, fc, hf⟩ := hx.node.forms
    have hk := fun W (f : Fr no w W) => kids3_any W x (hx.kept0 f) hp
    have hkl := kids_le x
    have hd : deep (n + 1) x = x.kids.any (deep n) := rfl
    have hpk : ∀ y ∈ x.kids, parts y ≤ 1000000 := fun y hy => Nat.le_trans (parts_kid hy) hp
    rw [hf.agg] at hk ⊢
    have g0 : (((n + 1 : Nat) : Int) == 0) = false := by rw [beq_eq_false_iff_ne]; omega
    have hw : IntKind.i64.wrap ((n : Int) + 1 - 1) = (n : Int) := (IntWalk.i64_in _ ⟨by omega, by omega⟩).trans (by omega)
    have hk6 : x.kids.length ≤ 1000000 := by omega
    have HK := Lib.hid hk; have HD := Lib.hid hd; have IH := Lib.hid (ih (by omega)); have HPK := Lib.hid hpk
    clear hk hd hf hx ih hkl hpk
    go_enter Tryd.func73, Tryd.ntmps73
    go_wp2_with fail
    refine (HK.out _ (by (repeat first | exact Fr.refl _ _ | exact Fr.drewN _ _ _ | apply Fr.drew | apply Fr.alloc | apply Fr.setAt | apply Fr.moreN))).mono ?_
    rintro e w2 ⟨A, c, rfl, hin, f2⟩
    have F2 := Lib.hid ((by (repeat first | exact Fr.refl _ _ | exact Fr.drewN _ _ _ | apply Fr.drew | apply Fr.alloc | apply Fr.setAt | apply Fr.moreN) : Fr no w _).trans f2 (fun _ _ h => h)); have HIN := Lib.hid hin
    clear f2 hin
    go_wp2
    go_loopw [6] (fun iv wr => ∃ j : Nat, j ≤ x.kids.length ∧ iv = .int .i64 (j : Int) ∧ Fr no w2 wr ∧ ∀ i (hi : i < x.kids.length), i < j → deep n x.kids[i] = false) (fun iv _ => x.kids.length - (intOf iv).toNat)
    case atStart => exact ⟨0, Nat.zero_le _, rfl, Fr.refl _ _, fun i _ h => absurd h (Nat.not_lt_zero i)⟩
    case round =>
      obtain ⟨j, hj, rfl, hfr, hall⟩ := hrel
      have HALL := Lib.hid hall; have FR := Lib.hid hfr
      clear hall hfr
      by_cases hlt : j < x.kids.length
      · have hi2 := HIN.out.kept0 FR.out
        obtain ⟨b, o, KB, kb, KL, kl, KF, kf, rfl, hfj, q0, q1, q2, q3, q4, q5, q6, hgl⟩ := In.get hi2 j hlt
        have hcall := IH.out x.kids[j] wr (hi2.good _ (List.getElem_mem _)) (HPK.out _ (List.getElem_mem _))
        rw [hfj.agg] at hcall
        have HC := Lib.hid hcall
        clear hcall hfj hi2
        go_wp2_with fail
        refine HC.out.mono ?_
        rintro e w5 ⟨rfl, fy⟩
        have FY := Lib.hid (FR.out.trans fy (fun _ _ h => h))
        clear fy
        cases hdj : deep n x.kids[j] with
        | true =>
          have hv : deep (n + 1) x = true := by
            rw [HD.out, List.any_eq_true]
            exact ⟨_, List.getElem_mem hlt, hdj⟩
          have HV := Lib.hid hv
          clear hv hdj
          go_wp2
          go_ret
          exact ⟨by rw [HV.out]; rfl, F2.out.trans FY.out (fun _ _ h => h)⟩
        | false =>
          have HDJ := Lib.hid hdj
          clear hdj
          go_wp2
          go_roundw
          case rel => exact ⟨j + 1, by omega, by go_num, FY.out, fun i hi h => by
            by_cases e : i = j
            · subst e; exact HDJ.out
            · exact HALL.out i hi (by omega)⟩
          case measure => simp [intOf]; omega
      · have hv : deep (n + 1) x = false := by
          rw [HD.out, Bool.eq_false_iff]
          intro h
          rw [List.any_eq_true] at h
          obtain ⟨y, hy, h⟩ := h
          obtain ⟨i, hi, rfl⟩ := List.getElem_of_mem hy
          rw [HALL.out i hi (by omega)] at h
          cases h
        have HV := Lib.hid hv
        clear hv
        go_wp2
        go_ret
        exact ⟨by rw [HV.out]; rfl, F2.out.trans FR.out (fun _ _ h => h)⟩

/-- What parts says: as many as there are, or more than 512. -/
def PartsOut (x : Tr Mm) (n : Nat) (w : World) (e : Ending) (w' : World) : Prop := Fr no w w' ∧ ∃ N : Nat, e = .returned (.int .i64 (N : Int)) ∧ N ≤ n + parts x ∧ (n + parts x ≤ 512 → N = n + parts x) ∧ (512 < n + parts x → 512 < N)

set_option maxRecDepth 100000 in
set_option maxHeartbeats 2000000 in
theorem parts3_any (x : Tr Mm) : ∀ (w : World) (_ : Tr.Good w x) (_ : parts x ≤ 1000000) (n : Nat) (_ : n ≤ 512), Calls Tryd.prog 74 #[x.agg, .int .i64 (n : Int)] w fun e w' => PartsOut x n w e w' := by
  induction x using Tr.ind with
  | h x ih =>
    intro w hx hp n hn
    obtain ⟨BA, bc, LA, lc, FA, fc, hf⟩ := hx.node.forms
    have hk := fun W (f : Fr no w W) => kids3_any W x (hx.kept0 f) hp
    have hkl := kids_le x
    have hpe := parts_kids x
    have hpk : ∀ y ∈ x.kids, parts y ≤ 1000000 := fun y hy => Nat.le_trans (parts_kid hy) hp
    rw [hf.agg] at hk ⊢
    have hk6 : x.kids.length ≤ 1000000 := by omega
    have hw : IntKind.i64.wrap ((n : Int) + 1) = (n : Int) + 1 := IntWalk.i64_in _ ⟨by omega, by omega⟩
    have HK := Lib.hid hk; have HPE := Lib.hid hpe; have IH := Lib.hid ih; have HPK := Lib.hid hpk
    clear hk hf hx ih hkl hpk hpe
    go_enter Tryd.func74, Tryd.ntmps74
    go_wp2_with fail
    refine (HK.out _ (by (repeat first | exact Fr.refl _ _ | exact Fr.drewN _ _ _ | apply Fr.drew | apply Fr.alloc | apply Fr.setAt | apply Fr.moreN))).mono ?_
    rintro e w2 ⟨A, c, rfl, hin, f2⟩
    have F2 := Lib.hid ((by (repeat first | exact Fr.refl _ _ | exact Fr.drewN _ _ _ | apply Fr.drew | apply Fr.alloc | apply Fr.setAt | apply Fr.moreN) : Fr no w _).trans f2 (fun _ _ h => h)); have HIN := Lib.hid hin
    clear f2 hin
    go_wp2
    go_loopw [1, 6] (fun nv iv wr => ∃ j N : Nat, j ≤ x.kids.length ∧ iv = .int .i64 (j : Int) ∧ nv = .int .i64 (N : Int) ∧ Fr no w2 wr ∧ N ≤ n + 1 + ((x.kids.take j).map parts).sum ∧ (n + 1 + ((x.kids.take j).map parts).sum ≤ 512 → N = n + 1 + ((x.kids.take j).map parts).sum) ∧ (512 < n + 1 + ((x.kids.take j).map parts).sum → 512 < N)) (fun _ iv _ => x.kids.length - (intOf iv).toNat)
    case atStart => exact ⟨0, n + 1, Nat.zero_le _, rfl, by first | rfl | go_num, Fr.refl _ _, by simp, by simp, by simp⟩
    case round =>
      obtain ⟨j, N, hj, rfl, rfl, hfr, h1, h2, h3⟩ := hrel
      have FR := Lib.hid hfr; have H1 := Lib.hid h1; have H2 := Lib.hid h2; have H3 := Lib.hid h3
      clear hfr h1 h2 h3
      have hsum : ((x.kids.take j).map parts).sum ≤ (x.kids.map parts).sum := by
        conv => rhs; rw [← List.take_append_drop j x.kids, List.map_append, List.sum_append]
        omega
      have hNb : N ≤ 2000000 := by have := H1.out; have := HPE.out; omega
      by_cases hcase : j < x.kids.length ∧ N ≤ 512
      · obtain ⟨hlt, hN⟩ := hcase
        have hi2 := HIN.out.kept0 FR.out
        obtain ⟨b, o, KB, kb, KL, kl, KF, kf, rfl, hfj, q0, q1, q2, q3, q4, q5, q6, hgl⟩ := In.get hi2 j hlt
        have hcall := IH.out x.kids[j] (List.getElem_mem _) wr (hi2.good _ (List.getElem_mem _)) (HPK.out _ (List.getElem_mem _)) N hN
        rw [hfj.agg] at hcall
        have hsn : ((x.kids.take (j + 1)).map parts).sum = ((x.kids.take j).map parts).sum + parts x.kids[j] := by
          rw [List.take_succ_eq_append_getElem hlt, List.map_append, List.sum_append]; simp
        have HC := Lib.hid hcall; have HSN := Lib.hid hsn
        clear hcall hfj hi2 hsn hsum
        go_wp2_with fail
        refine HC.out.mono ?_
        rintro e w5 ⟨fy, M, rfl, m1, m2, m3⟩
        have FY := Lib.hid (FR.out.trans fy (fun _ _ h => h)); have M1 := Lib.hid m1; have M2 := Lib.hid m2; have M3 := Lib.hid m3
        clear fy m1 m2 m3
        have hN0 : N = n + 1 + ((x.kids.take j).map parts).sum := by
          rcases Nat.lt_or_ge 512 (n + 1 + ((x.kids.take j).map parts).sum) with h | h
          · have := H3.out h; omega
          · exact H2.out h
        have HN0 := Lib.hid hN0
        clear hN0
        go_wp2
        go_roundw
        case rel => exact ⟨j + 1, M, by omega, by go_num, rfl, FY.out, by have := M1.out; have := HSN.out; have := HN0.out; omega, fun h => by have h5 := HSN.out; have h6 := HN0.out; have := M2.out (by omega); omega, fun h => by have h5 := HSN.out; have h6 := HN0.out; exact M3.out (by omega)⟩
        case measure => simp [intOf]; omega
      · have hfin : PartsOut x n w (.returned (.int .i64 (N : Int))) wr := by
          refine ⟨F2.out.trans FR.out (fun _ _ h => h), N, rfl, by have := H1.out; have := HPE.out; omega, fun h => ?_, fun h => ?_⟩
          · have h5 := HPE.out
            have h6 := H2.out (by omega)
            have hjl : j = x.kids.length := by omega
            subst hjl
            rw [List.take_length] at h6
            omega
          · have h5 := HPE.out
            by_cases hjl : j = x.kids.length
            · subst hjl
              have h7 := H3.out
              rw [List.take_length] at h7
              exact h7 (by omega)
            · omega
        have HFIN := Lib.hid hfin
        clear hfin hsum
        by_cases hlt : j < x.kids.length
        · have hN : 512 < N := by omega
          clear hcase
          go_wp2
          go_ret
          exact HFIN.out
        · clear hcase
          go_wp2
          go_ret
          exact HFIN.out
end Go.Proofs.YtgcicljklejmjaaDoor

/- codicilref03.all, Check: behind its own (a hypothesis of these). -/
namespace Go.Proofs.YtgcicljklejmjaaDoor
open Go.RowKit Go.Shelf
open Tr

/-- What codicilref03.own is to say. -/
def Own3 : Prop := ∀ (x : Tr Mm) (w : World), Tr.Good w x → Calls Tryd.prog 93 #[x.agg] w fun e w' => e = .returned (.int .i64 (Tr.own x : Int)) ∧ Fr no w w'

theorem pre_own (x : Tr Mm) : ∀ d e : Nat, (pre d x).map (fun p => Tr.own p.2) = (pre e x).map (fun p => Tr.own p.2) := by
  induction x using Tr.ind with
  | h x ih =>
    intro d e
    rw [pre_eq d, pre_eq e]
    simp only [List.map_cons, List.map_flatMap]
    congr 1
    have : ∀ l : List (Tr Mm), (∀ y ∈ l, y ∈ x.kids) → (l.flatMap fun a => (pre (d + 1) a).map fun p => Tr.own p.2) = l.flatMap fun a => (pre (e + 1) a).map fun p => Tr.own p.2 := by
      intro l
      induction l with
      | nil => intro _; rfl
      | cons a l ih2 =>
        intro h
        rw [List.flatMap_cons, List.flatMap_cons, ih a (h a (.head _)) (d + 1) (e + 1), ih2 (fun y hy => h y (.tail _ hy))]
    exact this x.kids (fun y hy => hy)
theorem firstErr_flat {α : Type} (g : α → List Nat) (l : List α) : firstErr (l.flatMap g) = firstErr (l.map fun a => firstErr (g a)) := by
  induction l with
  | nil => rfl
  | cons a l ih =>
    rw [List.flatMap_cons, firstErr_append, ih, List.map_cons, firstErr]
theorem allErr_eq (x : Tr Mm) : allErr x = if Tr.own x ≠ 0 then Tr.own x else firstErr (x.kids.map allErr) := by
  unfold allErr
  rw [pre_eq]
  simp only [List.map_cons, List.map_flatMap, firstErr]
  have e : firstErr (x.kids.flatMap fun a => (pre 2 a).map fun p => Tr.own p.2) = firstErr (x.kids.map fun a => firstErr ((pre 1 a).map fun p => Tr.own p.2)) := by
    rw [firstErr_flat]
    congr 1
    exact List.map_congr_left (fun a _ => by rw [pre_own a 2 1])
  rw [e]
theorem firstErr_take {l : List Nat} {j : Nat} (h : firstErr (l.take j) ≠ 0) : firstErr l = firstErr (l.take j) := by
  conv => lhs; rw [← List.take_append_drop j l, firstErr_append, if_pos h]

set_option maxRecDepth 100000 in
set_option maxHeartbeats 2000000 in
theorem all3_any (ho : Own3) (x : Tr Mm) : ∀ (w : World) (_ : Tr.Good w x) (_ : parts x ≤ 1000000), Calls Tryd.prog 75 #[x.agg] w fun e w' => e = .returned (.int .i64 (allErr x : Int)) ∧ Fr no w w' := by
  induction x using Tr.ind with
  | h x ih =>
    intro w hx hp
    obtain ⟨BA, bc, LA, lc, FA, fc, hf⟩ := hx.node.forms
    have hk := fun W (f : Fr no w W) => kids3_any W x (hx.kept0 f) hp
    have how := fun W (f : Fr no w W) => ho x W (hx.kept0 f)
    have hkl := kids_le x
    have hae := allErr_eq x
    have hpk : ∀ y ∈ x.kids, parts y ≤ 1000000 := fun y hy => Nat.le_trans (parts_kid hy) hp
    rw [hf.agg] at hk how ⊢
    have hk6 : x.kids.length ≤ 1000000 := by omega
    have HK := Lib.hid hk; have HOW := Lib.hid how; have HAE := Lib.hid hae; have IH := Lib.hid ih; have HPK := Lib.hid hpk
    clear hk how hf hx ih hkl hpk hae ho
    go_enter Tryd.func75, Tryd.ntmps75
    go_wp2_with fail
    refine (HOW.out _ (by (repeat first | exact Fr.refl _ _ | exact Fr.drewN _ _ _ | apply Fr.drew | apply Fr.alloc | apply Fr.setAt | apply Fr.moreN))).mono ?_
    rintro e w1 ⟨rfl, f1⟩
    have hb1 := f1.heap (heap_alloc_new w (.cells #[.int .u8 x.k.toNat, .bool x.b, .int .i64 x.i, .string ⟨x.t.toArray⟩, .slice BA x.bs.length bc, .slice LA x.l.length lc, .slice FA x.f.length fc] 33)) (fun h => h)
    obtain ⟨q0, q1, q2, q3, q4, q5, q6, qz, ql⟩ := seven_cells hb1
    have F1 := Lib.hid ((by (repeat first | exact Fr.refl _ _ | exact Fr.drewN _ _ _ | apply Fr.drew | apply Fr.alloc | apply Fr.setAt | apply Fr.moreN) : Fr no w _).trans f1 (fun _ _ h => h))
    clear f1 hb1
    go_wp2_with fail
    refine (HK.out _ F1.out).mono ?_
    rintro e w2 ⟨A, c, rfl, hin, f2⟩
    have F2 := Lib.hid (F1.out.trans f2 (fun _ _ h => h)); have HIN := Lib.hid hin
    clear f2 hin q0 q1 q2 q3 q4 q5 q6 qz ql
    go_wp2
    go_loopw [3, 5] (fun ev iv wr => ∃ j E : Nat, j ≤ x.kids.length ∧ iv = .int .i64 (j : Int) ∧ ev = .int .i64 (E : Int) ∧ Fr no w2 wr ∧ E = (if Tr.own x ≠ 0 then Tr.own x else firstErr ((x.kids.take j).map allErr))) (fun _ iv _ => x.kids.length - (intOf iv).toNat)
    case atStart => exact ⟨0, Tr.own x, Nat.zero_le _, rfl, rfl, Fr.refl _ _, by split <;> simp_all [firstErr]⟩
    case round =>
      obtain ⟨j, E, hj, rfl, rfl, hfr, hE⟩ := hrel
      have FR := Lib.hid hfr; have HE := Lib.hid hE
      clear hfr hE
      by_cases hcase : j < x.kids.length ∧ E = 0
      · obtain ⟨hlt, hE0⟩ := hcase
        have hi2 := HIN.out.kept0 FR.out
        obtain ⟨b, o, KB, kb, KL, kl, KF, kf, rfl, hfj, q0, q1, q2, q3, q4, q5, q6, hgl⟩ := In.get hi2 j hlt
        have hcall := IH.out x.kids[j] (List.getElem_mem _) wr (hi2.good _ (List.getElem_mem _)) (HPK.out _ (List.getElem_mem _))
        rw [hfj.agg] at hcall
        have hnew : allErr x.kids[j] = (if Tr.own x ≠ 0 then Tr.own x else firstErr ((x.kids.take (j + 1)).map allErr)) := by
          have h := HE.out
          rw [hE0] at h
          have hox : ¬ Tr.own x ≠ 0 := fun h2 => by rw [if_pos h2] at h; omega
          rw [if_neg hox] at h ⊢
          rw [List.take_succ_eq_append_getElem hlt, List.map_append, firstErr_append, if_neg (by omega), List.map_singleton, firstErr, firstErr]
          split
          · rfl
          · omega
        have HC := Lib.hid hcall; have HNEW := Lib.hid hnew
        subst hE0
        clear hcall hfj hi2 hnew
        go_wp2_with fail
        refine HC.out.mono ?_
        rintro e w5 ⟨rfl, fy⟩
        have FY := Lib.hid (FR.out.trans fy (fun _ _ h => h))
        clear fy
        go_wp2
        go_roundw
        case rel => exact ⟨j + 1, allErr x.kids[j], by omega, by go_num, rfl, FY.out, HNEW.out⟩
        case measure => simp [intOf]; omega
      · have hfin : allErr x = E := by
          rw [HAE.out, HE.out]
          by_cases hox : Tr.own x ≠ 0
          · rw [if_pos hox, if_pos hox]
          · rw [if_neg hox, if_neg hox]
            by_cases hjl : j = x.kids.length
            · subst hjl; rw [List.take_length]
            · have hE0 : E ≠ 0 := fun h => hcase ⟨by omega, h⟩
              have h := HE.out
              rw [if_neg hox] at h
              rw [List.map_take] at h ⊢
              exact firstErr_take (by omega)
        have HFIN := Lib.hid hfin
        clear hfin
        by_cases hlt : j < x.kids.length
        · have gE : ((E : Int) == 0) = false := by rw [beq_eq_false_iff_ne]; intro h; exact hcase ⟨hlt, by omega⟩
          clear hcase
          go_wp2
          go_ret
          exact ⟨by rw [HFIN.out]; rfl, F2.out.trans FR.out (fun _ _ h => h)⟩
        · clear hcase
          go_wp2
          go_ret
          exact ⟨by rw [HFIN.out]; rfl, F2.out.trans FR.out (fun _ _ h => h)⟩

set_option maxRecDepth 100000 in
set_option maxHeartbeats 2000000 in
theorem check3_any (ho : Own3) (x : Tr Mm) (w : World) (hx : Tr.Good w x) (hp : parts x ≤ 1000000) : Calls Tryd.prog 31 #[x.agg] w fun e w' => e = .returned (.int .i64 (check x : Int)) ∧ Fr no w w' := by
  obtain ⟨BA, bc, LA, lc, FA, fc, hf⟩ := hx.node.forms
  have hd := fun W (f : Fr no w W) => deep3_any 8 (by omega) x W (hx.kept0 f) hp
  have hpt := fun W (f : Fr no w W) => parts3_any x W (hx.kept0 f) hp 0 (by omega)
  have hal := fun W (f : Fr no w W) => all3_any ho x W (hx.kept0 f) hp
  rw [hf.agg] at hd hpt hal ⊢
  have HD := Lib.hid hd; have HPT := Lib.hid hpt; have HAL := Lib.hid hal
  clear hd hpt hal hf hx ho
  go_enter Tryd.func31, Tryd.ntmps31
  go_wp2_with fail
  refine (HD.out _ (by (repeat first | exact Fr.refl _ _ | exact Fr.drewN _ _ _ | apply Fr.drew | apply Fr.alloc | apply Fr.setAt | apply Fr.moreN))).mono ?_
  rintro e w1 ⟨rfl, f1⟩
  have hb1 := f1.heap (heap_alloc_new w (.cells #[.int .u8 x.k.toNat, .bool x.b, .int .i64 x.i, .string ⟨x.t.toArray⟩, .slice BA x.bs.length bc, .slice LA x.l.length lc, .slice FA x.f.length fc] 33)) (fun h => h)
  obtain ⟨q0, q1, q2, q3, q4, q5, q6, qz, ql⟩ := seven_cells hb1
  have F1 := Lib.hid ((by (repeat first | exact Fr.refl _ _ | exact Fr.drewN _ _ _ | apply Fr.drew | apply Fr.alloc | apply Fr.setAt | apply Fr.moreN) : Fr no w _).trans f1 (fun _ _ h => h)); have HB1 := Lib.hid hb1
  clear f1 hb1
  cases hdp : deep 8 x with
  | true =>
    have hc : check x = 31 := by unfold check; rw [if_pos hdp]
    have HC := Lib.hid hc
    clear hc hdp
    go_wp2
    go_ret
    exact ⟨by rw [HC.out]; rfl, F1.out⟩
  | false =>
    have HDP := Lib.hid hdp
    clear hdp
    go_wp2_with fail
    refine (HPT.out _ F1.out).mono ?_
    rintro e w2 ⟨f2, N, rfl, hN1, hN2, hN3⟩
    have hb2 := f2.heap HB1.out (fun h => h)
    obtain ⟨q0, q1, q2, q3, q4, q5, q6, qz, ql⟩ := seven_cells hb2
    have F2 := Lib.hid (F1.out.trans f2 (fun _ _ h => h))
    clear f2 hb2
    by_cases h512 : 512 < N
    · have hc : check x = 32 := by
        unfold check
        rw [if_neg (by rw [HDP.out]; simp), if_pos (by rcases Nat.lt_or_ge 512 (parts x) with h | h; exact h; exact absurd (hN2 (by omega)) (by omega))]
      have HC := Lib.hid hc
      clear hc hN1 hN2 hN3
      go_wp2
      go_ret
      exact ⟨by rw [HC.out]; rfl, F2.out⟩
    · have hc : check x = allErr x := by
        unfold check
        rw [if_neg (by rw [HDP.out]; simp), if_neg (fun h => h512 (hN3 (by omega)))]
      have HC := Lib.hid hc
      clear hc hN1 hN2 hN3
      go_wp2_with fail
      refine (HAL.out _ F2.out).mono ?_
      rintro e w3 ⟨rfl, f3⟩
      have F3 := Lib.hid (F2.out.trans f3 (fun _ _ h => h))
      clear f3
      go_wp2
      go_ret
      exact ⟨by rw [HC.out]; rfl, F3.out⟩
end Go.Proofs.YtgcicljklejmjaaDoor

/- UTF-8 without a program: the rune that bytes begin with, as the document's answer reads it. -/
namespace Go.Proofs.YtgcicljklejmjaaDoor
open Go.RowKit Go.Lib

theorem decodeL_pos {l : List UInt8} (h : l ≠ []) : 1 ≤ (decodeL l).2 := by
  refine decode_width_pos _ 0 ?_
  cases l with
  | nil => exact absurd rfl h
  | cons a l => show 0 < (a :: l).toArray.size; simp

/-- The rune and its width; (0, 0): none. -/
def runeR (l : List UInt8) : Nat × Nat := if l = [] then (0, 0) else if (decodeL l).1 = 65533 ∧ (decodeL l).2 = 1 then (0, 0) else decodeL l
theorem runeR_zero {l : List UInt8} (h : l ≠ []) : (runeR l).2 = 0 ↔ ((decodeL l).1 = 65533 ∧ (decodeL l).2 = 1) := by
  unfold runeR
  rw [if_neg h]
  have := decodeL_pos h
  split
  · rename_i h1; simp [h1]
  · rename_i h1
    constructor
    · intro h2; omega
    · intro h2; exact absurd h2 h1
theorem runeR_width {l : List UInt8} (h : (runeR l).2 ≠ 0) : (runeR l).2 = (decodeL l).2 ∧ l ≠ [] := by
  unfold runeR at h ⊢
  split
  · rename_i h1; rw [if_pos h1] at h; simp at h
  · rename_i h1
    rw [if_neg h1] at h
    split
    · rename_i h2; rw [if_pos h2] at h; simp at h
    · exact ⟨rfl, h1⟩

theorem validGoD_fuel : ∀ (n m : Nat) (l : List UInt8), l.length ≤ n → l.length ≤ m → validGoD n l = validGoD m l
  | 0, m, l, h, _ => by
    have : l = [] := List.eq_nil_of_length_eq_zero (by omega)
    subst this
    cases m <;> simp [validGoD]
  | n + 1, 0, l, _, h => by
    have : l = [] := List.eq_nil_of_length_eq_zero (by omega)
    subst this
    simp [validGoD]
  | n + 1, m + 1, l, h1, h2 => by
    simp only [validGoD]
    by_cases hl : l = []
    · rw [if_pos hl, if_pos hl]
    · rw [if_neg hl, if_neg hl]
      split
      · rfl
      · have := decodeL_pos hl
        exact validGoD_fuel n m _ (by rw [List.length_drop]; omega) (by rw [List.length_drop]; omega)
theorem validD_nil : validD [] = true := rfl
theorem validD_bad {l : List UInt8} (h : l ≠ []) (hr : (runeR l).2 = 0) : validD l = false := by
  unfold validD
  cases hn : l.length with
  | zero => exact absurd (List.eq_nil_of_length_eq_zero hn) h
  | succ n => simp only [validGoD]; rw [if_neg h, if_pos ((runeR_zero h).1 hr)]
theorem validD_step {l : List UInt8} (hr : (runeR l).2 ≠ 0) : validD l = validD (l.drop (runeR l).2) := by
  obtain ⟨hw, h⟩ := runeR_width hr
  have hp := decodeL_pos h
  unfold validD
  cases hn : l.length with
  | zero => exact absurd (List.eq_nil_of_length_eq_zero hn) h
  | succ n =>
    simp only [validGoD]
    rw [if_neg h, if_neg (fun e => hr ((runeR_zero h).2 e)), hw]
    exact validGoD_fuel _ _ _ (by rw [List.length_drop]; omega) (Nat.le_refl _)

/-- How many runes, of a list. -/
def cntD : Nat → List UInt8 → Nat
  | 0, _ => 0
  | f + 1, l => if l = [] then 0 else 1 + cntD f (l.drop (decodeL l).2)
theorem cntD_fuel : ∀ (n m : Nat) (l : List UInt8), l.length ≤ n → l.length ≤ m → cntD n l = cntD m l
  | 0, m, l, h, _ => by
    have : l = [] := List.eq_nil_of_length_eq_zero (by omega)
    subst this
    cases m <;> simp [cntD]
  | n + 1, 0, l, _, h => by
    have : l = [] := List.eq_nil_of_length_eq_zero (by omega)
    subst this
    simp [cntD]
  | n + 1, m + 1, l, h1, h2 => by
    simp only [cntD]
    by_cases hl : l = []
    · rw [if_pos hl, if_pos hl]
    · rw [if_neg hl, if_neg hl]
      have := decodeL_pos hl
      rw [cntD_fuel n m _ (by rw [List.length_drop]; omega) (by rw [List.length_drop]; omega)]
theorem cnt_from (s : ByteArray) : ∀ (fuel pos : Nat), runeCountFrom s fuel pos = cntD fuel (s.data.toList.drop pos)
  | 0, pos => rfl
  | f + 1, pos => by
    simp only [runeCountFrom, cntD]
    have hsz : s.data.toList.length = s.size := Array.length_toList
    by_cases h : pos < s.size
    · rw [if_pos h, if_neg (by intro e; have := congrArg List.length e; rw [List.length_drop] at this; simp only [List.length_nil] at this; omega), cnt_from s f, decodeL_drop, List.drop_drop]
    · rw [if_neg h, if_pos (List.drop_eq_nil_of_le (by omega))]
theorem count_eq (l : List UInt8) : runeCountL l = cntD l.length l := by
  unfold runeCountL runeCount
  rw [cnt_from]
  show cntD (⟨l.toArray⟩ : ByteArray).size l = _
  congr 1
theorem count_nil : runeCountL [] = 0 := by rw [count_eq]; rfl
theorem count_step {l : List UInt8} (hr : (runeR l).2 ≠ 0) : runeCountL l = 1 + runeCountL (l.drop (runeR l).2) := by
  obtain ⟨hw, h⟩ := runeR_width hr
  have hp := decodeL_pos h
  rw [count_eq, count_eq]
  cases hn : l.length with
  | zero => exact absurd (List.eq_nil_of_length_eq_zero hn) h
  | succ n =>
    simp only [cntD]
    rw [if_neg h, hw]
    rw [cntD_fuel n _ _ (by rw [List.length_drop]; omega) (Nat.le_refl _)]
theorem rget_at (l : List UInt8) (k : Nat) : (⟨l.toArray⟩ : ByteArray).get! k = l.getD k 0 := by
  show (l.toArray)[k]! = _
  rw [List.getElem!_toArray]
  simp [List.getElem!_eq_getElem?_getD]
  rfl

/-- What is said of a number that was read. -/
def finR (v least k : Nat) : Nat × Nat := if v < least ∨ Utf8.valid v = false then (0, 0) else (v, k)
/-- A continuation byte. -/
def ctR (d : Nat) : Bool := decide (128 ≤ d) && decide (d < 192)
/-- The rune at the head of n bytes b0, b1, b2, b3 ... -/
def valR (n b0 b1 b2 b3 : Nat) : Nat × Nat :=
  if b0 < 128 then (b0, 1)
  else if 192 ≤ b0 ∧ b0 < 224 then (if n < 2 then (0, 0) else if ctR b1 = false then (0, 0) else finR (64 * (b0 - 192) + b1 - 128) 128 2)
  else if 224 ≤ b0 ∧ b0 < 240 then (if n < 3 then (0, 0) else if ctR b1 = false then (0, 0) else if ctR b2 = false then (0, 0) else finR (64 * (64 * (b0 - 224) + b1 - 128) + b2 - 128) 2048 3)
  else if 240 ≤ b0 ∧ b0 < 248 then (if n < 4 then (0, 0) else if ctR b1 = false then (0, 0) else if ctR b2 = false then (0, 0) else if ctR b3 = false then (0, 0) else finR (64 * (64 * (64 * (b0 - 240) + b1 - 128) + b2 - 128) + b3 - 128) 65536 4)
  else (0, 0)
theorem ct_iff (d : Nat) (_ : d < 256) : (d / 64 == 2) = ctR d := by
  unfold ctR
  rw [Bool.eq_iff_iff]
  simp only [beq_iff_eq, Bool.and_eq_true, decide_eq_true_eq]
  omega
theorem ct_mod {d : Nat} (h : ctR d = true) : d % 64 = d - 128 ∧ 128 ≤ d ∧ d < 192 := by
  unfold ctR at h
  simp only [Bool.and_eq_true, decide_eq_true_eq] at h
  omega

theorem runeR_val {l : List UInt8} (hl : l ≠ []) : runeR l = valR l.length (l.getD 0 0).toNat (l.getD 1 0).toNat (l.getD 2 0).toNat (l.getD 3 0).toNat := by
  have h0 := (l.getD 0 0).toNat_lt; have h1 := (l.getD 1 0).toNat_lt; have h2 := (l.getD 2 0).toNat_lt; have h3 := (l.getD 3 0).toNat_lt
  have hs : (⟨l.toArray⟩ : ByteArray).size = l.length := by show l.toArray.size = _; simp
  unfold runeR
  rw [if_neg hl]
  unfold decodeL Utf8.decode
  simp only [rget_at, hs, Nat.zero_add]
  generalize (l.getD 0 0).toNat = b0 at *
  generalize (l.getD 1 0).toNat = b1 at *
  generalize (l.getD 2 0).toNat = b2 at *
  generalize (l.getD 3 0).toNat = b3 at *
  generalize l.length = n at *
  rw [ct_iff b1 h1, ct_iff b2 h2, ct_iff b3 h3]
  unfold valR
  by_cases c0 : b0 < 128
  · rw [if_pos c0, if_pos c0]
    rw [if_neg (by simp only [not_and]; omega)]
  · rw [if_neg c0, if_neg c0]
    have bad : (if ((Utf8.runeError, 1) : Nat × Nat).1 = 65533 ∧ ((Utf8.runeError, 1) : Nat × Nat).2 = 1 then ((0, 0) : Nat × Nat) else (Utf8.runeError, 1)) = (0, 0) := rfl
    have good : ∀ v k : Nat, 1 < k → (if (v, k).1 = 65533 ∧ (v, k).2 = 1 then ((0, 0) : Nat × Nat) else (v, k)) = (v, k) := fun v k h => if_neg (by simp only [not_and]; omega)
    by_cases c1 : 192 ≤ b0 ∧ b0 < 224
    · rw [if_pos c1]
      have e1 : (b0 / 32 == 6) = true := by rw [beq_iff_eq]; omega
      have e2 : (b0 / 16 == 14) = false := by rw [beq_eq_false_iff_ne]; omega
      have e3 : (b0 / 8 == 30) = false := by rw [beq_eq_false_iff_ne]; omega
      simp only [e1, e2, e3, Bool.true_and, Bool.false_and, Bool.false_eq_true, if_false]
      by_cases n2 : n < 2
      · have d2 : decide (1 < n) = false := decide_eq_false (by omega)
        rw [if_pos n2, d2]
        exact bad
      · have d2 : decide (1 < n) = true := decide_eq_true (by omega)
        rw [if_neg n2, d2, Bool.true_and]
        cases hc : ctR b1 with
        | false => exact bad
        | true =>
          obtain ⟨m1, m2, m3⟩ := ct_mod hc
          have ev : b0 % 32 * 64 + b1 % 64 = 64 * (b0 - 192) + b1 - 128 := by omega
          simp only [if_true, ev, Bool.true_eq_false, if_false]
          have hv : Utf8.valid ((64 * (b0 - 192) + b1 - 128 : Nat) : Int) = true := by unfold Utf8.valid; simp; omega
          unfold finR
          have hV : 64 * (b0 - 192) + b1 - 128 < 65533 := by omega
          clear ev m1 m2 m3 hc d2 n2 e1 e2 e3 c1
          generalize 64 * (b0 - 192) + b1 - 128 = V at *
          by_cases hl2 : V < 128
          · have hi : ¬ V ≥ 128 := by omega
            simp only [hi, if_false, hl2, true_or, if_true]
            exact bad
          · have hi : V ≥ 128 := by omega
            have hno : ¬ (V < 128 ∨ Utf8.valid (V : Int) = false) := by rw [hv]; simp; omega
            rw [if_neg hno]
            simp only [hi, if_true]
            exact good _ 2 (by omega)
    · rw [if_neg c1]
      by_cases c2 : 224 ≤ b0 ∧ b0 < 240
      · rw [if_pos c2]
        have e1 : (b0 / 32 == 6) = false := by rw [beq_eq_false_iff_ne]; omega
        have e2 : (b0 / 16 == 14) = true := by rw [beq_iff_eq]; omega
        have e3 : (b0 / 8 == 30) = false := by rw [beq_eq_false_iff_ne]; omega
        simp only [e1, e2, e3, Bool.true_and, Bool.false_and, Bool.false_eq_true, if_false]
        by_cases n2 : n < 3
        · have d2 : decide (2 < n) = false := decide_eq_false (by omega)
          rw [if_pos n2, d2, Bool.false_and, Bool.and_false]
          exact bad
        · have d1 : decide (1 < n) = true := decide_eq_true (by omega)
          have d2 : decide (2 < n) = true := decide_eq_true (by omega)
          rw [if_neg n2, d1, d2, Bool.true_and, Bool.true_and]
          cases hc : ctR b1 with
          | false => exact bad
          | true =>
            rw [Bool.true_and]
            cases hc2 : ctR b2 with
            | false => simp only [Bool.true_eq_false, if_false, if_true]; exact bad
            | true =>
              obtain ⟨m1, m2, m3⟩ := ct_mod hc
              obtain ⟨p1, p2, p3⟩ := ct_mod hc2
              have ev : b0 % 16 * 4096 + b1 % 64 * 64 + b2 % 64 = 64 * (64 * (b0 - 224) + b1 - 128) + b2 - 128 := by omega
              simp only [if_true, ev, Bool.true_eq_false, if_false]
              unfold finR
              clear ev
              generalize 64 * (64 * (b0 - 224) + b1 - 128) + b2 - 128 = V at *
              cases hv : Utf8.valid (V : Int) with
              | false =>
                have hy : V < 2048 ∨ false = false := .inr rfl
                rw [if_pos hy]
                simp only [Bool.and_false, Bool.false_eq_true, if_false]
                exact bad
              | true =>
                by_cases hl2 : V < 2048
                · have hi : decide (V ≥ 2048) = false := decide_eq_false (by omega)
                  rw [if_pos (show V < 2048 ∨ true = false from .inl hl2)]
                  simp only [hi, Bool.false_and, Bool.false_eq_true, if_false]
                  exact bad
                · have hi : decide (V ≥ 2048) = true := decide_eq_true (by omega)
                  have hno : ¬ (V < 2048 ∨ true = false) := by simp; omega
                  rw [if_neg hno]
                  simp only [hi, Bool.true_and, if_true]
                  exact good _ 3 (by omega)
      · rw [if_neg c2]
        by_cases c3 : 240 ≤ b0 ∧ b0 < 248
        · rw [if_pos c3]
          have e1 : (b0 / 32 == 6) = false := by rw [beq_eq_false_iff_ne]; omega
          have e2 : (b0 / 16 == 14) = false := by rw [beq_eq_false_iff_ne]; omega
          have e3 : (b0 / 8 == 30) = true := by rw [beq_iff_eq]; omega
          simp only [e1, e2, e3, Bool.true_and, Bool.false_and, Bool.false_eq_true, if_false]
          by_cases n2 : n < 4
          · have d2 : decide (3 < n) = false := decide_eq_false (by omega)
            rw [if_pos n2, d2, Bool.false_and, Bool.and_false]
            exact bad
          · have d1 : decide (1 < n) = true := decide_eq_true (by omega)
            have d2 : decide (2 < n) = true := decide_eq_true (by omega)
            have d3 : decide (3 < n) = true := decide_eq_true (by omega)
            rw [if_neg n2, d1, d2, d3, Bool.true_and, Bool.true_and, Bool.true_and]
            cases hc : ctR b1 with
            | false => exact bad
            | true =>
              rw [Bool.true_and]
              cases hc2 : ctR b2 with
              | false => simp only [Bool.true_eq_false, if_false, if_true]; exact bad
              | true =>
                rw [Bool.true_and]
                cases hc3 : ctR b3 with
                | false => simp only [Bool.true_eq_false, if_false, if_true]; exact bad
                | true =>
                  obtain ⟨m1, m2, m3⟩ := ct_mod hc
                  obtain ⟨p1, p2, p3⟩ := ct_mod hc2
                  obtain ⟨q1, q2, q3⟩ := ct_mod hc3
                  have ev : b0 % 8 * 262144 + b1 % 64 * 4096 + b2 % 64 * 64 + b3 % 64 = 64 * (64 * (64 * (b0 - 240) + b1 - 128) + b2 - 128) + b3 - 128 := by omega
                  simp only [if_true, ev, Bool.true_eq_false, if_false]
                  unfold finR
                  clear ev
                  generalize 64 * (64 * (64 * (b0 - 240) + b1 - 128) + b2 - 128) + b3 - 128 = V at *
                  cases hv : Utf8.valid (V : Int) with
                  | false =>
                    have hy : V < 65536 ∨ false = false := .inr rfl
                    rw [if_pos hy]
                    simp only [Bool.and_false, Bool.false_eq_true, if_false]
                    exact bad
                  | true =>
                    by_cases hl2 : V < 65536
                    · have hi : decide (V ≥ 65536) = false := decide_eq_false (by omega)
                      rw [if_pos (show V < 65536 ∨ true = false from .inl hl2)]
                      simp only [hi, Bool.false_and, Bool.false_eq_true, if_false]
                      exact bad
                    · have hi : decide (V ≥ 65536) = true := decide_eq_true (by omega)
                      have hno : ¬ (V < 65536 ∨ true = false) := by simp; omega
                      rw [if_neg hno]
                      simp only [hi, Bool.true_and, if_true]
                      exact good _ 4 (by omega)
        · rw [if_neg c3]
          have e1 : (b0 / 32 == 6) = false := by rw [beq_eq_false_iff_ne]; omega
          have e2 : (b0 / 16 == 14) = false := by rw [beq_eq_false_iff_ne]; omega
          have e3 : (b0 / 8 == 30) = false := by rw [beq_eq_false_iff_ne]; omega
          simp only [e1, e2, e3, Bool.false_and, Bool.false_eq_true, if_false]
          exact bad
theorem runeR_le {l : List UInt8} : (runeR l).2 ≤ l.length := by
  by_cases hl : l = []
  · unfold runeR; rw [if_pos hl]; simp
  · rw [runeR_val hl]
    have hp : 0 < l.length := Nat.pos_of_ne_zero (fun e => hl (List.eq_nil_of_length_eq_zero e))
    unfold valR finR
    repeat' split
    all_goals (simp only; omega)
end Go.Proofs.YtgcicljklejmjaaDoor
