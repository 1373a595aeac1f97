import Derived.Test.YtgcicljklejmjaaDoorMr08
import Derived.Test.YtgcicljklejmjaaDoorMb06
import Derived.Test.YtgcicljklejmjaaDoorMb04
import Derived.Test.YtgcicljklejmjaaDoorMr06
import Derived.Test.YtgcicljklejmjaaDoorMb16
import Derived.Test.YtgcicljklejmjaaDoorMr05
import Derived.Test.YtgcicljklejmjaaDoorMb02

/- The book: bytes, values, fields put into it. Printed by mkbookv.py. -/
namespace Go.Proofs.YtgcicljklejmjaaDoor
open Go.RowKit Go.Shelf
open Tr

/-- The book's own blocks. -/
def BkO (b : Nat) (V : Nat → Value) : Nat → Prop := fun k => k = b ∨ ∃ i, (V i).ownBlock = some k
theorem BkO.bc {b : Nat} {V : Nat → Value} {R : Nat → List Value} {k : Nat} (h : BkO b V k) : BcF b V R k := by
  rcases h with h | h
  · exact .inl h
  · exact .inr (.inl h)

/-- What putting into the book leaves: the book with more rows; N: the blocks of what was put in. -/
structure GrB (w w' : World) (b : Nat) (V : Nat → Value) (R : Nat → List Value) (V' : Nat → Value) (R' : Nat → List Value) (N : Nat → Prop) (g : Nat) : Prop where
  bc : Bc w' b V' R'
  fr : Fr (BkO b V) w w'
  more : ∀ k, BcF b V' R' k → BcF b V R k ∨ N k ∨ w.heap.size ≤ k
  own : ∀ k, BkO b V' k → BkO b V k ∨ w.heap.size ≤ k
  len : ∀ i, (R' i).length ≤ (R i).length + g
def Grown (w w' : World) (b : Nat) (V : Nat → Value) (R : Nat → List Value) (N : Nat → Prop) (g : Nat) (e : Ending) : Prop :=
  e = .returned (.tuple #[]) ∧ ∃ V' R', GrB w w' b V R V' R' N g
theorem GrB.refl {w w1 : World} {b : Nat} {V : Nat → Value} {R : Nat → List Value} (h : Bc w b V R) (f : Fr no w w1) : GrB w w1 b V R V R no 0 :=
  ⟨h.kept0 f, f.mono (fun _ _ h => h.elim), fun _ h => .inl h, fun _ h => .inl h, fun _ => Nat.le_refl _⟩
theorem GrB.trans {w w1 w2 w3 : World} {b g1 g2 : Nat} {V V1 V2 : Nat → Value} {R R1 R2 : Nat → List Value} {N1 N2 : Nat → Prop} (h1 : GrB w w1 b V R V1 R1 N1 g1) (f : Fr no w1 w2) (h2 : GrB w2 w3 b V1 R1 V2 R2 N2 g2) : GrB w w3 b V R V2 R2 (fun k => N1 k ∨ N2 k) (g1 + g2) := by
  have s1 := h1.fr.size; have s2 := f.size
  refine ⟨h2.bc, (h1.fr.trans f (fun _ _ h => h.elim)).trans h2.fr (fun k hk h => ?_), fun k hk => ?_, fun k hk => ?_, fun i => ?_⟩
  · rcases h1.own k h with h3 | h3
    · exact h3
    · omega
  · rcases h2.more k hk with h3 | h3 | h3
    · rcases h1.more k h3 with h4 | h4 | h4
      · exact .inl h4
      · exact .inr (.inl (.inl h4))
      · exact .inr (.inr h4)
    · exact .inr (.inl (.inr h3))
    · exact .inr (.inr (by omega))
  · rcases h2.own k hk with h3 | h3
    · exact h1.own k h3
    · exact .inr (by omega)
  · have a := h1.len i; have b := h2.len i; omega
theorem GrB.weaken {w w1 : World} {b g g' : Nat} {V V1 : Nat → Value} {R R1 : Nat → List Value} {N N' : Nat → Prop} (h : GrB w w1 b V R V1 R1 N g) (hn : ∀ k, N k → N' k) (hg : g ≤ g') : GrB w w1 b V R V1 R1 N' g' :=
  ⟨h.bc, h.fr, fun k hk => (h.more k hk).imp_right (fun h => h.imp_left (hn k)), h.own, fun i => Nat.le_trans (h.len i) (by omega)⟩
theorem GrB.after {w w1 w2 : World} {b g : Nat} {V V1 : Nat → Value} {R R1 : Nat → List Value} {N : Nat → Prop} (h : GrB w w1 b V R V1 R1 N g) (f : Fr no w1 w2) : GrB w w2 b V R V1 R1 N g :=
  ⟨h.bc.kept0 f, h.fr.trans f (fun _ _ h => h.elim), h.more, h.own, h.len⟩
theorem GrB.before {w w1 w2 : World} {b g : Nat} {V V1 : Nat → Value} {R R1 : Nat → List Value} {N : Nat → Prop} (f : Fr no w w1) (h : GrB w1 w2 b V R V1 R1 N g) : GrB w w2 b V R V1 R1 N g := by
  have s := f.size
  exact ⟨h.bc, (f.mono (fun _ _ h => h.elim)).trans h.fr (fun _ _ h => h), fun k hk => (h.more k hk).imp_right (fun h => h.imp_right (fun h => by omega)), fun k hk => (h.own k hk).imp_right (fun h => by omega), h.len⟩

theorem Bc.put {w w0 w2 : World} {b i N : Nat} {V : Nat → Value} {R : Nat → List Value} {r v' : Value} (h : Bc w b V R) (f0 : Fr no w w0) (hk : kept4 i) (f : Fr (fun k => (V i).ownBlock = some k) w0 w2) (hN : N = (R i).length + 1)
    (ho : Ow w2 (eT i) 1 v' N (R i ++ [r])) (st : Stays w0 w2 (V i) v' (R i).length N) (hr : RowOk w i r) (hd : ∀ k, r.ownBlock = some k → ¬ BcF b V R k) :
    Bc (w2.setCell ⟨b, i, none⟩ v') b (upd V i v') (upd R i (R i ++ [r])) ∧ Fr (BkO b V) w (w2.setCell ⟨b, i, none⟩ v') ∧ (∀ k, BcF b (upd V i v') (upd R i (R i ++ [r])) k → BcF b V R k ∨ r.ownBlock = some k ∨ w.heap.size ≤ k) ∧ (∀ k, BkO b (upd V i v') k → BkO b V k ∨ w.heap.size ≤ k) ∧ ∀ j, (upd R i (R i ++ [r]) j).length ≤ (R j).length + 1 := by
  obtain ⟨q1, q2, q3⟩ := (h.kept0 f0).bq.put hk f hN ho st
  have hs := f0.size
  obtain ⟨a1, a2⟩ := (h.kept0 f0).add q1 q2 (fun k hk => by rcases q3 k hk with h1 | h1; exact .inl h1; exact .inr h1.1) (by obtain ⟨n, xs, h1, h2⟩ := hr; exact ⟨n, xs, h1, h2.kept0 f0⟩) hd
  refine ⟨a1, (f0.mono (fun _ _ h => h.elim)).trans q2 (fun k _ e => ?_), fun k hk => ?_, fun k hk => ?_, fun j => ?_⟩
  · rcases e with e | e
    · exact .inl e
    · exact .inr ⟨i, e⟩
  · rcases a2 k hk with h1 | h1 | h1
    · exact .inl h1
    · exact .inr (.inl h1)
    · exact .inr (.inr (by omega))
  · rcases hk with h1 | ⟨j, h1⟩
    · exact .inl (.inl h1)
    · by_cases hji : j = i
      · subst hji; rw [upd_same] at h1
        rcases q3 k h1 with h2 | h2
        · exact .inl (.inr ⟨_, h2⟩)
        · exact .inr (by omega)
      · rw [upd_other hji] at h1; exact .inl (.inr ⟨j, h1⟩)
  · by_cases hji : j = i
    · subst hji; rw [upd_same]; simp
    · rw [upd_other hji]; omega

theorem Fr.trans2 {S T : Nat → Prop} {w w1 w2 : World} (h : Fr S w w1) (h' : Fr T w1 w2) (hs : ∀ k, k < w.heap.size → T k → S k) : Fr S w w2 := h.trans h' hs

set_option maxRecDepth 100000 in
theorem bc_bytes (w : World) (b : Nat) (V : Nat → Value) (R : Nat → List Value) (A : Option Addr) (n c : Nat) (h : Bc w b V R) (hl : (R 0).length ≤ 1000000) (hr : RowOk w 0 (.slice A n c)) (hd : ∀ k, (Value.slice A n c).ownBlock = some k → ¬ BcF b V R k) :
    Calls Tryd.prog 19 #[.pointer (some ⟨b, 0, none⟩), .slice A n c] w fun e w' => Grown w w' b V R (fun k => (Value.slice A n c).ownBlock = some k) 1 e := by
  have hc0 := h.bq.cell 0 (by omega)
  have hfz := h.bq.frozen 0
  have hbs := h.bq.lt
  have hrow := h.bq.row 0 (.inl rfl)
  obtain ⟨B, d, hv, _, _⟩ := hrow.form
  rw [hv] at hc0
  have HB := Lib.hid h; have HR := Lib.hid hr; have HD := Lib.hid hd; have HV := Lib.hid hv
  rw [hv] at hrow
  have HROW := Lib.hid hrow
  clear h hr hd hv hrow
  go_enter Tryd.func19, Tryd.ntmps19
  go_wp2_with (at_builtin; refine wpList_apo rfl (.tmp 8) (.tmp 10) 43 rfl tbRows (HROW.out.kept0 ((Fr.refl no _).alloc _)) (Sl.built w _ _) rfl rfl (by simp [Value.oneCell']) ?b1 ?b2 ?go)
  case b1 => simp only [maxLen]; omega
  case b2 => omega
  case go =>
    intro A' N c' w2 hN ho hold hf2 hst
    have f0 := (Fr.refl no w).alloc (.cells #[.slice A n c] 22)
    have hp := Bc.put (i := 0) HB.out f0 (.inl rfl) (by rw [HV.out]; exact hf2) hN ho (by rw [HV.out]; exact hst) HR.out HD.out
    have hnb : ¬ (Value.slice B (R 0).length d).ownBlock = some b := by rw [← HV.out]; exact HB.out.bq.ne 0
    have hh := hf2.heap (f0.heap HB.out.bq.at_ (fun h => h)) hnb
    have hc1 : w2.cell? ⟨b, 0, none⟩ = some (V 0) := by simp [World.cell?, hh, cells23]
    rw [HV.out] at hc1
    have hz1 : w2.frozen? ⟨b, 0, none⟩ = false := by simp [World.frozen?, hh]
    have hl1 : b < w2.heap.size := (Array.getElem?_eq_some_iff.1 hh).1
    have HP := Lib.hid hp; clear ho hold hf2 hst f0 hp hnb hh hN
    go_wp2
    go_end0
    obtain ⟨p1, p2, p3, p5, p4⟩ := HP.out
    exact ⟨rfl, _, _, p1, p2, p3, p5, p4⟩


/-- What the lists need of Value, of Field. -/
def BookOk (y : Tr Mm) : Prop := ∀ (w : World) (b : Nat) (V : Nat → Value) (R : Nat → List Value), Bc w b V R → Tr.Own w y → Tr.Good w y → (∀ k, Blk y k → ¬ BcF b V R k) → (∀ i, (R i).length + 3 * parts y ≤ 1000000) → Calls Tryd.prog 18 #[.pointer (some ⟨b, 0, none⟩), y.agg] w fun e w' => Grown w w' b V R (Blk y) (3 * parts y) e
def BookFOk (p : List UInt8 × Tr Mm) : Prop := ∀ (w : World) (b : Nat) (V : Nat → Value) (R : Nat → List Value), Bc w b V R → Tr.Own w p.2 → Tr.Good w p.2 → (∀ k, Blk p.2 k → ¬ BcF b V R k) → (∀ i, (R i).length + 3 * parts p.2 ≤ 1000000) → Calls Tryd.prog 86 #[.pointer (some ⟨b, 0, none⟩), fagg p] w fun e w' => Grown w w' b V R (Blk p.2) (3 * parts p.2) e

set_option maxRecDepth 100000 in
set_option maxHeartbeats 4000000 in
theorem bc_values_of (l : List (Tr Mm)) (ih : ∀ y ∈ l, BookOk y) (w : World) (b : Nat) (V : Nat → Value) (R : Nat → List Value) (X : Value) (h : Bc w b V R) (ho : Ow w 33 7 X l.length (l.flatMap cells)) (hi : In w X l) (how : ∀ y ∈ l, Tr.Own w ( y)) (hpw : l.Pairwise fun y z => ∀ k, Blk ( y) k → ¬ Blk ( z) k) (hne : ∀ y ∈ l, ∀ k, Blk ( y) k → X.ownBlock ≠ some k) (hd : ∀ k, (X.ownBlock = some k ∨ ∃ y ∈ l, Blk ( y) k) → ¬ BcF b V R k) (hln : l.length ≤ 1000000) (hl : ∀ i, (R i).length + (1 + 3 * (l.map fun y => parts ( y)).sum) ≤ 1000000) :
    Calls Tryd.prog 17 #[.pointer (some ⟨b, 0, none⟩), X] w fun e w' => Grown w w' b V R (fun k => X.ownBlock = some k ∨ ∃ y ∈ l, Blk ( y) k) (1 + 3 * (l.map fun y => parts ( y)).sum) e := by
  obtain ⟨A, c, rfl, _, _⟩ := hi.sl.form
  have hnl : l.length ≤ 140737488351232 := hi.n
  have hc0 := h.bq.cell 18 (by omega)
  have hfz := h.bq.frozen 18
  have hbs := h.bq.lt
  have hrow := h.bq.row 18 (by unfold kept4; omega)
  have hr : RowOk w 18 (.slice A l.length c) := ⟨l.length, _, by show l.length ≤ 1000000; omega, ho⟩
  have hlr : (R 18).length ≤ 1000000 := by have := hl 18; omega
  obtain ⟨B, d, hv, _, _⟩ := hrow.form
  rw [hv] at hc0
  have HB := Lib.hid h; have HR := Lib.hid hr; have HD := Lib.hid hd; have HV := Lib.hid hv; have HO := Lib.hid ho; have HI := Lib.hid hi; have HOW := Lib.hid how; have HPW := Lib.hid hpw; have HNE := Lib.hid hne; have HL := Lib.hid hl; have IH := Lib.hid ih
  rw [hv] at hrow
  have HROW := Lib.hid hrow
  clear h hr hd hv hrow ho hi how hpw hne hl ih
  go_enter Tryd.func17, Tryd.ntmps17
  go_wp2_with (at_builtin; refine wpList_apo rfl (.tmp 9) (.tmp 11) 61 rfl tbVV (HROW.out.kept0 ((Fr.refl no _).alloc _)) (Sl.built w _ _) rfl rfl (by simp [Value.oneCell']) ?b1 ?b2 ?go)
  case b1 => simp only [maxLen]; omega
  case b2 => omega
  case go =>
    intro A' N c' w2 hN ho hold hf2 hst
    have f0 := (Fr.refl no w).alloc (.cells #[.slice A l.length c] 25)
    have hp := Bc.put (i := 18) HB.out f0 (by unfold kept4; omega) (by rw [HV.out]; exact hf2) hN ho (by rw [HV.out]; exact hst) HR.out (fun k hk => HD.out k (.inl hk))
    have hnb : ¬ (Value.slice B (R 18).length d).ownBlock = some b := by rw [← HV.out]; exact HB.out.bq.ne 18
    have hh := hf2.heap (f0.heap HB.out.bq.at_ (fun h => h)) hnb
    have hc1 : w2.cell? ⟨b, 18, none⟩ = some (V 18) := by simp [World.cell?, hh, cells23]
    rw [HV.out] at hc1
    have hz1 : w2.frozen? ⟨b, 18, none⟩ = false := by simp [World.frozen?, hh]
    have hl1 : b < w2.heap.size := (Array.getElem?_eq_some_iff.1 hh).1
    have HP := Lib.hid hp; clear ho hold hf2 hst f0 hp hnb hh hN hc0 hfz hbs
    go_wp2
    clear hc1 hz1 hl1
    obtain ⟨p1, p2, p3, p5, p4⟩ := HP.out
    have hg0 : GrB w (w2.setCell ⟨b, 18, none⟩ (.slice A' N c')) b V R (upd V 18 (.slice A' N c')) (upd R 18 (R 18 ++ [.slice A l.length c])) (fun k => (Value.slice A l.length c).ownBlock = some k) 1 := ⟨p1, p2, p3, p5, p4⟩
    have HG0 := Lib.hid hg0
    clear p1 p2 p3 p5 p4 hg0 HP
    go_loopw [4] (fun iv wr => ∃ (j : Nat) (V1 : Nat → Value) (R1 : Nat → List Value), j ≤ l.length ∧ iv = .int .i64 (j : Int) ∧ GrB w wr b V R V1 R1 (fun k => (Value.slice A l.length c).ownBlock = some k ∨ ∃ y ∈ l.take j, Blk ( y) k) (1 + 3 * ((l.take j).map fun y => parts ( y)).sum)) (fun iv _ => l.length - (intOf iv).toNat)
    case atStart => exact ⟨0, _, _, Nat.zero_le _, rfl, HG0.out.weaken (fun k h => .inl h) (by simp)⟩
    case round =>
      obtain ⟨j, V1, R1, hj, rfl, hg⟩ := hrel
      have HG := Lib.hid hg; clear hg
      by_cases hlt : j < l.length
      · have hmem : l[j] ∈ l := List.getElem_mem _
        have hnb : ∀ k, (Value.slice A l.length c).ownBlock = some k → ¬ BkO b V k := fun k hk h => HD.out k (.inl hk) h.bc
        have hnk : ∀ y ∈ l, ∀ k, Blk ( y) k → ¬ BkO b V k := fun y hy k hk h => HD.out k (.inr ⟨y, hy, hk⟩) h.bc
        have hrw := HO.out.kept HG.out.fr hnb
        have hoj := fun y hy => (HOW.out y hy).kept HG.out.fr (hnk y hy)
        have hgd : ∀ y ∈ l, Tr.Good wr ( y) := fun y hy => (hoj y hy).good rfl (HI.out.good y hy)
        have hX : In wr (.slice A l.length c) l := ⟨hrw.sl, hgd, HI.out.n, HI.out.nw⟩
        obtain ⟨xb, xo, KB, kb, KL, kl, KF, kf, rfl, hfj, q0, q1, q2, q3, q4, q5, q6, hgl⟩ := In.get hX j hlt
        have hdj : ∀ k, Blk ( l[j]) k → ¬ BcF b V1 R1 k := fun k hk h => by
          rcases HG.out.more k h with h1 | h1 | h1
          · exact HD.out k (.inr ⟨_, hmem, hk⟩) h1
          · rcases h1 with h1 | ⟨y, hy, h1⟩
            · exact HNE.out _ hmem k hk h1
            · obtain ⟨i, hi2, rfl⟩ := List.getElem_of_mem hy
              rw [List.getElem_take] at h1
              rw [List.length_take] at hi2
              exact (List.pairwise_iff_getElem.1 HPW.out) i j (by omega) hlt (by omega) k h1 hk
          · have := (HOW.out _ hmem).lt k hk; omega
        have hsum : ((l.take (j + 1)).map fun y => parts ( y)).sum = ((l.take j).map fun y => parts ( y)).sum + parts ( l[j]) := by
          rw [List.take_succ_eq_append_getElem hlt, List.map_append, List.sum_append]
          simp
        have hle : ((l.take (j + 1)).map fun y => parts ( y)).sum ≤ (l.map fun y => parts ( y)).sum := by
          have e : l.map (fun y => parts ( y)) = (l.take (j + 1)).map (fun y => parts ( y)) ++ (l.drop (j + 1)).map (fun y => parts ( y)) := by rw [← List.map_append, List.take_append_drop]
          rw [e, List.sum_append]
          omega
        have hcall := fun W (f : Fr no wr W) => IH.out l[j] hmem W b V1 R1 (HG.out.bc.kept0 f) ((hoj _ hmem).kept0 f) ((hgd _ hmem).kept0 f) hdj (fun i => by have a := HL.out i; have b := HG.out.len i; omega)
        rw [hfj.agg] at hcall
        have HC := Lib.hid hcall; have HSUM := Lib.hid hsum
        clear hcall hX hrw hoj hgd hdj hfj hnb hnk hsum hle
        go_wp2_with fail
        refine (HC.out _ (by (repeat first | exact Fr.refl _ _ | exact Fr.drewN _ _ _ | apply Fr.drew | apply Fr.alloc | apply Fr.setAt | apply Fr.moreN))).mono ?_
        rintro e w5 ⟨rfl, V2, R2, hg2⟩
        have hg3 := (HG.out.trans (by (repeat first | exact Fr.refl _ _ | exact Fr.drewN _ _ _ | apply Fr.drew | apply Fr.alloc | apply Fr.setAt | apply Fr.moreN) : Fr no wr _) hg2).weaken (N' := fun k => (Value.slice (some ⟨xb, xo, none⟩) l.length c).ownBlock = some k ∨ ∃ y ∈ l.take (j + 1), Blk ( y) k) (g' := 1 + 3 * ((l.take (j + 1)).map fun y => parts ( y)).sum) (fun k hk => by
          rcases hk with (hk | ⟨y, hy, hk⟩) | hk
          · exact .inl hk
          · exact .inr ⟨y, List.take_subset_take_left l (Nat.le_succ j) hy, hk⟩
          · exact .inr ⟨_, (by rw [List.take_succ_eq_append_getElem hlt]; exact List.mem_append_right _ (List.mem_singleton.2 rfl)), hk⟩) (by rw [HSUM.out]; omega)
        have HG3 := Lib.hid hg3
        clear hg2 hg3 q0 q1 q2 q3 q4 q5 q6 hgl
        go_wp2
        go_roundw
        case rel => exact ⟨j + 1, V2, R2, hlt, by first | rfl | go_num, HG3.out⟩
        case measure => simp [intOf]; omega
      · obtain rfl : j = l.length := by omega
        have hg := HG.out
        rw [List.take_length] at hg
        have HG2 := Lib.hid hg
        clear hg HG
        go_wp2
        go_end0
        exact ⟨rfl, V1, R1, HG2.out⟩

set_option maxRecDepth 100000 in
set_option maxHeartbeats 4000000 in
theorem bc_fields_of (l : List (List UInt8 × Tr Mm)) (ih : ∀ y ∈ l, BookFOk y) (w : World) (b : Nat) (V : Nat → Value) (R : Nat → List Value) (X : Value) (h : Bc w b V R) (ho : Ow w 138 8 X l.length (l.flatMap fcells)) (hi : InF w X l) (how : ∀ y ∈ l, Tr.Own w (Prod.snd y)) (hpw : l.Pairwise fun y z => ∀ k, Blk (Prod.snd y) k → ¬ Blk (Prod.snd z) k) (hne : ∀ y ∈ l, ∀ k, Blk (Prod.snd y) k → X.ownBlock ≠ some k) (hd : ∀ k, (X.ownBlock = some k ∨ ∃ y ∈ l, Blk (Prod.snd y) k) → ¬ BcF b V R k) (hln : l.length ≤ 1000000) (hl : ∀ i, (R i).length + (1 + 3 * (l.map fun y => parts (Prod.snd y)).sum) ≤ 1000000) :
    Calls Tryd.prog 42 #[.pointer (some ⟨b, 0, none⟩), X] w fun e w' => Grown w w' b V R (fun k => X.ownBlock = some k ∨ ∃ y ∈ l, Blk (Prod.snd y) k) (1 + 3 * (l.map fun y => parts (Prod.snd y)).sum) e := by
  obtain ⟨A, c, rfl, _, _⟩ := hi.sl.form
  have hnl : l.length ≤ 140737488351232 := hi.n
  have hc0 := h.bq.cell 19 (by omega)
  have hfz := h.bq.frozen 19
  have hbs := h.bq.lt
  have hrow := h.bq.row 19 (by unfold kept4; omega)
  have hr : RowOk w 19 (.slice A l.length c) := ⟨l.length, _, by show l.length ≤ 1000000; omega, ho⟩
  have hlr : (R 19).length ≤ 1000000 := by have := hl 19; omega
  obtain ⟨B, d, hv, _, _⟩ := hrow.form
  rw [hv] at hc0
  have HB := Lib.hid h; have HR := Lib.hid hr; have HD := Lib.hid hd; have HV := Lib.hid hv; have HO := Lib.hid ho; have HI := Lib.hid hi; have HOW := Lib.hid how; have HPW := Lib.hid hpw; have HNE := Lib.hid hne; have HL := Lib.hid hl; have IH := Lib.hid ih
  rw [hv] at hrow
  have HROW := Lib.hid hrow
  clear h hr hd hv hrow ho hi how hpw hne hl ih
  go_enter Tryd.func42, Tryd.ntmps42
  go_wp2_with (at_builtin; refine wpList_apo rfl (.tmp 9) (.tmp 11) 62 rfl tbFF (HROW.out.kept0 ((Fr.refl no _).alloc _)) (Sl.built w _ _) rfl rfl (by simp [Value.oneCell']) ?b1 ?b2 ?go)
  case b1 => simp only [maxLen]; omega
  case b2 => omega
  case go =>
    intro A' N c' w2 hN ho hold hf2 hst
    have f0 := (Fr.refl no w).alloc (.cells #[.slice A l.length c] 31)
    have hp := Bc.put (i := 19) HB.out f0 (by unfold kept4; omega) (by rw [HV.out]; exact hf2) hN ho (by rw [HV.out]; exact hst) HR.out (fun k hk => HD.out k (.inl hk))
    have hnb : ¬ (Value.slice B (R 19).length d).ownBlock = some b := by rw [← HV.out]; exact HB.out.bq.ne 19
    have hh := hf2.heap (f0.heap HB.out.bq.at_ (fun h => h)) hnb
    have hc1 : w2.cell? ⟨b, 19, none⟩ = some (V 19) := by simp [World.cell?, hh, cells23]
    rw [HV.out] at hc1
    have hz1 : w2.frozen? ⟨b, 19, none⟩ = false := by simp [World.frozen?, hh]
    have hl1 : b < w2.heap.size := (Array.getElem?_eq_some_iff.1 hh).1
    have HP := Lib.hid hp; clear ho hold hf2 hst f0 hp hnb hh hN hc0 hfz hbs
    go_wp2
    clear hc1 hz1 hl1
    obtain ⟨p1, p2, p3, p5, p4⟩ := HP.out
    have hg0 : GrB w (w2.setCell ⟨b, 19, none⟩ (.slice A' N c')) b V R (upd V 19 (.slice A' N c')) (upd R 19 (R 19 ++ [.slice A l.length c])) (fun k => (Value.slice A l.length c).ownBlock = some k) 1 := ⟨p1, p2, p3, p5, p4⟩
    have HG0 := Lib.hid hg0
    clear p1 p2 p3 p5 p4 hg0 HP
    go_loopw [4] (fun iv wr => ∃ (j : Nat) (V1 : Nat → Value) (R1 : Nat → List Value), j ≤ l.length ∧ iv = .int .i64 (j : Int) ∧ GrB w wr b V R V1 R1 (fun k => (Value.slice A l.length c).ownBlock = some k ∨ ∃ y ∈ l.take j, Blk (Prod.snd y) k) (1 + 3 * ((l.take j).map fun y => parts (Prod.snd y)).sum)) (fun iv _ => l.length - (intOf iv).toNat)
    case atStart => exact ⟨0, _, _, Nat.zero_le _, rfl, HG0.out.weaken (fun k h => .inl h) (by simp)⟩
    case round =>
      obtain ⟨j, V1, R1, hj, rfl, hg⟩ := hrel
      have HG := Lib.hid hg; clear hg
      by_cases hlt : j < l.length
      · have hmem : l[j] ∈ l := List.getElem_mem _
        have hnb : ∀ k, (Value.slice A l.length c).ownBlock = some k → ¬ BkO b V k := fun k hk h => HD.out k (.inl hk) h.bc
        have hnk : ∀ y ∈ l, ∀ k, Blk (Prod.snd y) k → ¬ BkO b V k := fun y hy k hk h => HD.out k (.inr ⟨y, hy, hk⟩) h.bc
        have hrw := HO.out.kept HG.out.fr hnb
        have hoj := fun y hy => (HOW.out y hy).kept HG.out.fr (hnk y hy)
        have hgd : ∀ y ∈ l, Tr.Good wr (Prod.snd y) := fun y hy => (hoj y hy).good rfl (HI.out.good y hy)
        have hX : InF wr (.slice A l.length c) l := ⟨hrw.sl, hgd, HI.out.n, HI.out.nm, HI.out.nw⟩
        obtain ⟨xb, xo, KB, kb, KL, kl, KF, kf, rfl, hfj, q0, q1, q2, q3, q4, q5, q6, q7, hgl⟩ := InF.get hX j hlt
        have hdj : ∀ k, Blk (Prod.snd l[j]) k → ¬ BcF b V1 R1 k := fun k hk h => by
          rcases HG.out.more k h with h1 | h1 | h1
          · exact HD.out k (.inr ⟨_, hmem, hk⟩) h1
          · rcases h1 with h1 | ⟨y, hy, h1⟩
            · exact HNE.out _ hmem k hk h1
            · obtain ⟨i, hi2, rfl⟩ := List.getElem_of_mem hy
              rw [List.getElem_take] at h1
              rw [List.length_take] at hi2
              exact (List.pairwise_iff_getElem.1 HPW.out) i j (by omega) hlt (by omega) k h1 hk
          · have := (HOW.out _ hmem).lt k hk; omega
        have hsum : ((l.take (j + 1)).map fun y => parts (Prod.snd y)).sum = ((l.take j).map fun y => parts (Prod.snd y)).sum + parts (Prod.snd l[j]) := by
          rw [List.take_succ_eq_append_getElem hlt, List.map_append, List.sum_append]
          simp
        have hle : ((l.take (j + 1)).map fun y => parts (Prod.snd y)).sum ≤ (l.map fun y => parts (Prod.snd y)).sum := by
          have e : l.map (fun y => parts (Prod.snd y)) = (l.take (j + 1)).map (fun y => parts (Prod.snd y)) ++ (l.drop (j + 1)).map (fun y => parts (Prod.snd y)) := by rw [← List.map_append, List.take_append_drop]
          rw [e, List.sum_append]
          omega
        have hcall := fun W (f : Fr no wr W) => IH.out l[j] hmem W b V1 R1 (HG.out.bc.kept0 f) ((hoj _ hmem).kept0 f) ((hgd _ hmem).kept0 f) hdj (fun i => by have a := HL.out i; have b := HG.out.len i; omega)
        unfold fagg at hcall
        rw [hfj.B, hfj.L, hfj.F] at hcall
        have HC := Lib.hid hcall; have HSUM := Lib.hid hsum
        clear hcall hX hrw hoj hgd hdj hfj hnb hnk hsum hle
        go_wp2_with fail
        refine (HC.out _ (by (repeat first | exact Fr.refl _ _ | exact Fr.drewN _ _ _ | apply Fr.drew | apply Fr.alloc | apply Fr.setAt | apply Fr.moreN))).mono ?_
        rintro e w5 ⟨rfl, V2, R2, hg2⟩
        have hg3 := (HG.out.trans (by (repeat first | exact Fr.refl _ _ | exact Fr.drewN _ _ _ | apply Fr.drew | apply Fr.alloc | apply Fr.setAt | apply Fr.moreN) : Fr no wr _) hg2).weaken (N' := fun k => (Value.slice (some ⟨xb, xo, none⟩) l.length c).ownBlock = some k ∨ ∃ y ∈ l.take (j + 1), Blk (Prod.snd y) k) (g' := 1 + 3 * ((l.take (j + 1)).map fun y => parts (Prod.snd y)).sum) (fun k hk => by
          rcases hk with (hk | ⟨y, hy, hk⟩) | hk
          · exact .inl hk
          · exact .inr ⟨y, List.take_subset_take_left l (Nat.le_succ j) hy, hk⟩
          · exact .inr ⟨_, (by rw [List.take_succ_eq_append_getElem hlt]; exact List.mem_append_right _ (List.mem_singleton.2 rfl)), hk⟩) (by rw [HSUM.out]; omega)
        have HG3 := Lib.hid hg3
        clear hg2 hg3 q0 q1 q2 q3 q4 q5 q6 q7 hgl
        go_wp2
        go_roundw
        case rel => exact ⟨j + 1, V2, R2, hlt, by first | rfl | go_num, HG3.out⟩
        case measure => simp [intOf]; omega
      · obtain rfl : j = l.length := by omega
        have hg := HG.out
        rw [List.take_length] at hg
        have HG2 := Lib.hid hg
        clear hg HG
        go_wp2
        go_end0
        exact ⟨rfl, V1, R1, HG2.out⟩
end Go.Proofs.YtgcicljklejmjaaDoor

/- The book finds what it has its owner's. Printed by mkbookv.py. -/
namespace Go.Proofs.YtgcicljklejmjaaDoor
open Go.RowKit

theorem Bc.two {w w' : World} {b i : Nat} {V : Nat → Value} {R : Nat → List Value} (h : Bc w b V R) (hk : kept4 i) (f : Fr (fun k => ∃ j, j < i ∧ InRows (R j) k) w w') :
    ∃ (ns : Nat → Nat) (C : Nat → List Value) (A : Option Addr) (c : Nat), (∀ j, ns j ≤ rL i) ∧ V i = .slice A (R i).length c ∧ Two w' (rT i) (rS i) (.slice A (R i).length c) (R i) ns C := by
  have hex : ∀ j, ∃ nc : Nat × List Value, nc.1 ≤ rL i ∧ ∀ h2 : j < (R i).length, Ow w (rT i) (rS i) (R i)[j] nc.1 nc.2 := fun j => by
    by_cases h2 : j < (R i).length
    · obtain ⟨n, xs, h3, h4⟩ := h.ok i _ (List.getElem_mem h2)
      exact ⟨(n, xs), h3, fun _ => h4⟩
    · exact ⟨(0, []), Nat.zero_le _, fun h3 => absurd h3 h2⟩
  obtain ⟨A, c, hv, _, _⟩ := (h.bq.row i hk).form
  have hr : ∀ v ∈ R i, ∀ k, v.ownBlock = some k → ¬ ∃ j, j < i ∧ InRows (R j) k := fun v hv k hk2 ⟨j, hj, v', hv', e⟩ => h.px j i (by omega) v' hv' v hv k e hk2
  refine ⟨fun j => (Classical.choose (hex j)).1, fun j => (Classical.choose (hex j)).2, A, c, fun j => (Classical.choose_spec (hex j)).1, hv, ?_, ?_, fun j hj => ?_, fun j j' hj hj' k hne e e2 => ?_⟩
  · rw [← hv]
    exact ((h.bq.row i hk).kept f (fun k hk2 ⟨j, _, v', hv', e⟩ => (h.away j v' hv' k e).2 i hk2)).sl
  · rintro k hk2 ⟨v, hv2, e⟩
    rw [← hv] at hk2
    exact (h.away i v hv2 k e).2 i hk2
  · exact ((Classical.choose_spec (hex j)).2 hj).kept f (fun k hk2 => hr _ (List.getElem_mem hj) k hk2)
  · have := h.pi i
    rw [List.pairwise_iff_getElem] at this
    rcases Nat.lt_or_gt_of_ne hne with h1 | h1
    · exact this j j' hj hj' h1 k e e2
    · exact this j' j hj' hj h1 k e2 e

/-- The book's rows ahead of the i-th list. -/
def RowsTo (R : Nat → List Value) (i : Nat) : Nat → Prop := fun k => ∃ j, j < i ∧ InRows (R j) k

set_option maxRecDepth 100000 in
theorem bc_own (w : World) (b : Nat) (V : Nat → Value) (R : Nat → List Value) (h : Bc w b V R) (hl : ∀ i, (R i).length ≤ 1000000) :
    Calls Tryd.prog 24 #[.pointer (some ⟨b, 0, none⟩)] w fun e w' => e = .returned (.bool true) ∧ Fr (RowsTo R 23) w w' := by
  have hstep : ∀ i w' w'', Fr (RowsTo R i) w w' → Fr (InRows (R i)) w' w'' → Fr (RowsTo R (i + 1)) w w'' := fun i w' w'' h1 h2 =>
    (h1.mono (fun k _ ⟨j, hj, e⟩ => ⟨j, by omega, e⟩)).trans h2 (fun k _ e => ⟨i, by omega, e⟩)
  have hmore : ∀ i w', Fr (RowsTo R i) w w' → Fr (RowsTo R (i + 1)) w w' := fun i w' h1 => h1.mono (fun k _ ⟨j, hj, e⟩ => ⟨j, by omega, e⟩)
  have hnil : ∀ f : FuncId, (∀ w' : World, Calls Tryd.prog f #[.slice none 0 0] w' fun e w'' => e = .returned (.bool true) ∧ w'' = w') → ∀ i, ¬ kept4 i → ∀ w', Fr (RowsTo R i) w w' →
      Calls Tryd.prog f #[V i] w' fun e w'' => e = .returned (.bool true) ∧ Fr (RowsTo R (i + 1)) w w'' := by
    intro f hf i hi w' hw
    rw [(h.bq.none_ i hi).1]
    exact (hf w').mono fun e w'' ⟨h1, h2⟩ => ⟨h1, by rw [h2]; exact hmore i w' hw⟩
  have hcell : ∀ i w', i < 23 → Fr (RowsTo R i) w w' → w'.cell? ⟨b, i, none⟩ = some (V i) := fun i w' hi hw => by
    refine hw.cell (h.bq.cell i hi) ?_
    rintro ⟨j, _, v, hv, e⟩
    exact (h.away j v hv b e).1 rfl
  have hVl : ∀ i, kept4 i → ∀ w', Fr (RowsTo R i) w w' → ∀ k, (V i).ownBlock = some k → k < w'.heap.size := fun i hi w' hw k hk => Nat.lt_of_lt_of_le ((h.bq.row i hi).lt k hk) hw.size
  refine (own_all b w V (fun i w' => Fr (RowsTo R i) w w') (Fr.refl _ _) hcell ?q0 (hnil _ ownTexts_nil 1 (by unfold kept4; omega)) (hnil _ ownInts_nil 2 (by unfold kept4; omega)) (hnil _ ownLongs_nil 3 (by unfold kept4; omega)) (hnil _ ownNumbers_nil 4 (by unfold kept4; omega)) (hnil _ ownWords_nil 5 (by unfold kept4; omega)) (hnil _ ownSteps_nil 6 (by unfold kept4; omega)) (hnil _ ownParts_nil 7 (by unfold kept4; omega)) (hnil _ ownDones_nil 8 (by unfold kept4; omega)) (hnil _ ownRows_nil 9 (by unfold kept4; omega)) (hnil _ ownLists_nil 10 (by unfold kept4; omega)) (hnil _ ownIntLists_nil 11 (by unfold kept4; omega)) (hnil _ ownPaths_nil 12 (by unfold kept4; omega)) (hnil _ ownPairs_nil 13 (by unfold kept4; omega)) (hnil _ ownChanges_nil 14 (by unfold kept4; omega)) (hnil _ ownSpans_nil 15 (by unfold kept4; omega)) (hnil _ ownEntries_nil 16 (by unfold kept4; omega)) ?q17 ?q18 ?q19 (hnil _ ownIndexes_nil 20 (by unfold kept4; omega)) (hnil _ ownEvents_nil 21 (by unfold kept4; omega)) (hnil _ ownCommits_nil 22 (by unfold kept4; omega))).mono (fun e w' h => h)
  case q0 =>
    intro w' hw
    obtain ⟨ns, C, A, c, h1, h2, h3⟩ := h.two (i := 0) (by unfold kept4; omega) hw
    have h4 := hVl 0 (by unfold kept4; omega) w' hw
    rw [h2] at h4 ⊢
    exact (own_bytes w' A c (R 0) ns C h3 h4 (hl 0) h1).mono fun e w'' ⟨h5, h6⟩ => ⟨h5, hstep 0 w' w'' hw h6⟩
  case q18 =>
    intro w' hw
    obtain ⟨ns, C, A, c, h1, h2, h3⟩ := h.two (i := 18) (by unfold kept4; omega) hw
    have h4 := hVl 18 (by unfold kept4; omega) w' hw
    rw [h2] at h4 ⊢
    exact (own_vals w' A c (R 18) ns C h3 h4 (hl 18) h1).mono fun e w'' ⟨h5, h6⟩ => ⟨h5, hstep 18 w' w'' hw h6⟩
  case q19 =>
    intro w' hw
    obtain ⟨ns, C, A, c, h1, h2, h3⟩ := h.two (i := 19) (by unfold kept4; omega) hw
    have h4 := hVl 19 (by unfold kept4; omega) w' hw
    rw [h2] at h4 ⊢
    exact (own_flds w' A c (R 19) ns C h3 h4 (hl 19) h1).mono fun e w'' ⟨h5, h6⟩ => ⟨h5, hstep 19 w' w'' hw h6⟩
  case q17 =>
    intro w' hw
    rw [(h.bq.none_ 17 (by unfold kept4; omega)).1]
    exact (ownBools_nil w').mono fun e w'' ⟨h1, h2⟩ => ⟨h1, hmore 17 w'' (hw.trans h2 (fun _ _ h => h.elim))⟩
end Go.Proofs.YtgcicljklejmjaaDoor

/- The book: a value, with all below it. -/
namespace Go.Proofs.YtgcicljklejmjaaDoor
open Go.RowKit Go.Shelf
open Tr

theorem parts_sum (x : Tr Mm) : parts x = 1 + ((x.l.map fun y => parts y).sum + (x.f.map fun p => parts p.2).sum) := by
  have h2 : ∀ l : List (Tr Mm), (l.map fun a => (pre 2 a).length) = l.map parts := fun l => List.map_congr_left (fun y _ => pre_len 2 1 y)
  unfold parts
  rw [pre_eq, List.length_cons, List.length_flatMap, h2]
  unfold kids
  rw [List.map_append, List.sum_append, List.map_map]
  rw [Nat.add_comm]
  rfl
theorem len_parts {α : Type} (f : α → Tr Mm) : ∀ l : List α, l.length ≤ (l.map fun y => parts (f y)).sum
  | [] => Nat.le_refl _
  | x :: l => by
    have h1 := pre_pos 1 (f x)
    have h2 := len_parts f l
    simp only [List.length_cons, List.map_cons, List.sum_cons]
    unfold parts at h2 ⊢
    omega

set_option maxRecDepth 100000 in
theorem bc_field_of (p : List UInt8 × Tr Mm) (ih : BookOk p.2) : BookFOk p := by
  obtain ⟨n, x⟩ := p
  intro w b V R h ho hg hd hl
  obtain ⟨BA, bc, LA, lc, FA, fc, hf⟩ := hg.node.forms
  have hcall := fun W (f : Fr no w W) => ih W b V R (h.kept0 f) (ho.kept0 f) (hg.kept0 f) hd hl
  simp only at hf hcall
  rw [hf.agg] at hcall
  unfold fagg
  simp only
  rw [hf.B, hf.L, hf.F]
  have HC := Lib.hid hcall
  clear h ho hg hd hl ih hf hcall
  go_enter Tryd.func86, Tryd.ntmps86
  go_wp2_with fail
  refine (HC.out _ (by (repeat first | exact Fr.refl _ _ | exact Fr.drewN _ _ _ | apply Fr.drew | apply Fr.alloc | apply Fr.setAt | apply Fr.moreN))).mono ?_
  rintro e w5 ⟨rfl, V2, R2, hg2⟩
  have HG := Lib.hid (hg2.before (by (repeat first | exact Fr.refl _ _ | exact Fr.drewN _ _ _ | apply Fr.drew | apply Fr.alloc | apply Fr.setAt | apply Fr.moreN) : Fr no w _))
  clear hg2
  go_wp2
  go_end0
  exact ⟨rfl, V2, R2, HG.out⟩

set_option maxRecDepth 100000 in
set_option maxHeartbeats 4000000 in
theorem bc_value_any (x : Tr Mm) : BookOk x := by
  induction x using Tr.ind with
  | h x ih =>
    intro w b V R h ho hg hd hl
    obtain ⟨BA, bc, LA, lc, FA, fc, hf⟩ := hg.node.forms
    have hps := parts_sum x
    have hl1 := len_parts (fun y : Tr Mm => y) x.l
    have hl2 := len_parts (fun p : List UInt8 × Tr Mm => p.2) x.f
    have hle : 3 * parts x ≤ 1000000 := by have := hl 0; omega
    have hnb : x.bs.length ≤ 140737488351232 := hg.node.bs
    have hap := ho.ap
    have hpk := hap.kids
    unfold kids at hpk
    have hpl := (List.pairwise_append.1 hpk).1
    have hpf : x.f.Pairwise fun p q => ∀ k, Blk p.2 k → ¬ Blk q.2 k := List.pairwise_map.1 (List.pairwise_append.1 hpk).2.1
    have hplf := (List.pairwise_append.1 hpk).2.2
    have hLk : ∀ z ∈ x.l, z ∈ x.kids := fun z hz => List.mem_append_left _ hz
    have hFk : ∀ p ∈ x.f, p.2 ∈ x.kids := fun p hp => List.mem_append_right _ (List.mem_map_of_mem hp)
    have hbl := h.lt
    have hlo := ho.lt
    have hbo : ∀ k, Blk x k → ¬ BkO b V k := fun k hk h2 => hd k hk h2.bc
    have c1 := fun W (f : Fr no w W) => bc_bytes W b V R BA x.bs.length bc (h.kept0 f) (by have := hl 0; omega) ⟨x.bs.length, _, hnb, by rw [← hf.B]; exact ho.B.kept0 f⟩ (fun k hk => hd k (.B x k (by rw [hf.B]; exact hk)))
    rw [hf.agg]
    have hb0 := heap_alloc_new w (.cells #[.int .u8 x.k.toNat, .bool x.b, .int .i64 x.i, .string ⟨x.t.toArray⟩, .slice BA x.bs.length bc, .slice LA x.l.length lc, .slice FA x.f.length fc] 33)
    have hf0 : Fr no w (w.alloc (.cells #[.int .u8 x.k.toNat, .bool x.b, .int .i64 x.i, .string ⟨x.t.toArray⟩, .slice BA x.bs.length bc, .slice LA x.l.length lc, .slice FA x.f.length fc] 33)) := by (repeat first | exact Fr.refl _ _ | exact Fr.drewN _ _ _ | apply Fr.drew | apply Fr.alloc | apply Fr.setAt | apply Fr.moreN)
    have hnw : ¬ BkO b V w.heap.size := fun h2 => by have := hbl _ h2.bc; omega
    have H := Lib.hid h; have HO := Lib.hid ho; have HG := Lib.hid hg; have HD := Lib.hid hd; have HL := Lib.hid hl; have HF := Lib.hid hf; have HPS := Lib.hid hps; have HL1 := Lib.hid hl1; have HL2 := Lib.hid hl2; have HLE := Lib.hid hle; have HPL := Lib.hid hpl; have HPF := Lib.hid hpf; have HPLF := Lib.hid hplf; have HLK := Lib.hid hLk; have HFK := Lib.hid hFk; have HLO := Lib.hid hlo; have HBO := Lib.hid hbo; have HC1 := Lib.hid c1; have HB0 := Lib.hid hb0; have HF0 := Lib.hid hf0; have HNW := Lib.hid hnw; have HAP := Lib.hid hap; have IH := Lib.hid ih
    clear h ho hg hd hl hf hps hl1 hl2 hle hpl hpf hplf hLk hFk hbl hlo hbo c1 hb0 hf0 hnw hap hpk ih
    go_enter Tryd.func18, Tryd.ntmps18
    go_wp2_with fail
    refine (HC1.out _ HF0.out).mono ?_
    rintro e w1 ⟨rfl, V1, R1, g1⟩
    have g1' := g1.before HF0.out
    have hr1 := g1.fr.heap HB0.out HNW.out
    have ho1 := HO.out.kept g1'.fr HBO.out
    have hg1 : Tr.Good w1 x := ho1.good rfl HG.out
    have hb1 : ∀ k, Blk x k → (Value.slice BA x.bs.length bc).ownBlock ≠ some k → ¬ BcF b V1 R1 k := fun k hk hne h2 => by
      rcases g1'.more k h2 with h3 | h3 | h3
      · exact HD.out k hk h3
      · exact hne h3
      · have := HLO.out k hk; omega
    have c2 := bc_values_of x.l (fun z hz => IH.out z (HLK.out z hz)) w1 b V1 R1 (.slice LA x.l.length lc) g1.bc (by rw [← HF.out.L]; exact ho1.L) (by rw [← HF.out.L]; exact hg1.inL) (fun z hz => ho1.kids z (HLK.out z hz)) HPL.out (fun z hz k hk => by rw [← HF.out.L]; exact (HAP.out.kid z (HLK.out z hz) k hk).2.1) (fun k hk => by
        rcases hk with hk | ⟨z, hz, hk⟩
        · exact hb1 k (.L x k (by rw [HF.out.L]; exact hk)) (fun e => HAP.out.bl k (by rw [HF.out.B]; exact e) (by rw [HF.out.L]; exact hk))
        · exact hb1 k (.kid x z k (HLK.out z hz) hk) (by rw [← HF.out.B]; exact (HAP.out.kid z (HLK.out z hz) k hk).1)) (by have := HL1.out; have := HPS.out; have := HLE.out; omega) (fun i => by have a := HL.out i; have b := g1.len i; have c := HPS.out; omega)
    have hnw1 : ¬ BkO b V1 w.heap.size := fun h2 => by
      rcases g1.own _ h2 with h3 | h3
      · exact HNW.out h3
      · rw [World.size_alloc] at h3; omega
    have hbo1 : ∀ k, Blk x k → ¬ BkO b V1 k := fun k hk h2 => by
      rcases g1'.own _ h2 with h3 | h3
      · exact HBO.out k hk h3
      · have := HLO.out k hk; omega
    have hs1 : w.heap.size ≤ w1.heap.size := g1'.fr.size
    have C2 := Lib.hid c2; have G1 := Lib.hid g1'; have HR1 := Lib.hid hr1; have HO1 := Lib.hid ho1; have HB1 := Lib.hid hb1; have HNW1 := Lib.hid hnw1; have HBO1 := Lib.hid hbo1; have HS1 := Lib.hid hs1
    clear g1 g1' hr1 ho1 hg1 hb1 c2 HC1 hnw1 hbo1 hs1
    obtain ⟨q0, q1, q2, q3, q4, q5, q6, qz, ql⟩ := seven_cells HR1.out
    go_wp2_with fail
    refine C2.out.mono ?_
    rintro e w2 ⟨rfl, V2, R2, g2⟩
    clear q0 q1 q2 q3 q4 q5 q6 qz ql
    have hr2 := g2.fr.heap HR1.out HNW1.out
    have ho2 := HO1.out.kept g2.fr HBO1.out
    have hg2 : Tr.Good w2 x := ho2.good rfl HG.out
    have hb2 : ∀ k, Blk x k → (Value.slice BA x.bs.length bc).ownBlock ≠ some k → (Value.slice LA x.l.length lc).ownBlock ≠ some k → (∀ z ∈ x.l, ¬ Blk z k) → ¬ BcF b V2 R2 k := fun k hk hne hne2 hnl h2 => by
      rcases g2.more k h2 with h3 | h3 | h3
      · exact HB1.out k hk hne h3
      · rcases h3 with h3 | ⟨z, hz, h3⟩
        · exact hne2 h3
        · exact hnl z hz h3
      · have := HLO.out k hk; have := HS1.out; omega
    have c3 := bc_fields_of x.f (fun p hp => bc_field_of p (IH.out p.2 (HFK.out p hp))) w2 b V2 R2 (.slice FA x.f.length fc) g2.bc (by rw [← HF.out.F]; exact ho2.F) (by rw [← HF.out.F]; exact hg2.inF) (fun p hp => ho2.kids p.2 (HFK.out p hp)) HPF.out (fun p hp k hk => by rw [← HF.out.F]; exact (HAP.out.kid p.2 (HFK.out p hp) k hk).2.2) (fun k hk => by
        rcases hk with hk | ⟨p, hp, hk⟩
        · refine hb2 k (.F x k (by rw [HF.out.F]; exact hk)) (fun e => HAP.out.bf k (by rw [HF.out.B]; exact e) (by rw [HF.out.F]; exact hk)) (fun e => HAP.out.lf k (by rw [HF.out.L]; exact e) (by rw [HF.out.F]; exact hk)) (fun z hz hzk => (HAP.out.kid z (HLK.out z hz) k hzk).2.2 (by rw [HF.out.F]; exact hk))
        · refine hb2 k (.kid x p.2 k (HFK.out p hp) hk) (by rw [← HF.out.B]; exact (HAP.out.kid p.2 (HFK.out p hp) k hk).1) (by rw [← HF.out.L]; exact (HAP.out.kid p.2 (HFK.out p hp) k hk).2.1) (fun z hz hzk => HPLF.out z hz p.2 (List.mem_map_of_mem hp) k hzk hk)) (by have := HL2.out; have := HPS.out; have := HLE.out; omega) (fun i => by have a := HL.out i; have b := G1.out.len i; have d := g2.len i; have c := HPS.out; omega)
    have hg12 := G1.out.trans (Fr.refl no w1) g2
    have C3 := Lib.hid c3; have G12 := Lib.hid hg12; have HR2 := Lib.hid hr2
    clear c3 hg12 hr2 g2 ho2 hg2 hb2 C2
    obtain ⟨q0, q1, q2, q3, q4, q5, q6, qz, ql⟩ := seven_cells HR2.out
    go_wp2_with fail
    refine C3.out.mono ?_
    rintro e w3 ⟨rfl, V3, R3, g3⟩
    clear q0 q1 q2 q3 q4 q5 q6 qz ql
    have hg := (G12.out.trans (Fr.refl no w2) g3).weaken (N' := Blk x) (g' := 3 * parts x) (fun k hk => by
      rcases hk with (hk | hk) | hk
      · exact .B x k (by rw [HF.out.B]; exact hk)
      · rcases hk with hk | ⟨z, hz, hk⟩
        · exact .L x k (by rw [HF.out.L]; exact hk)
        · exact .kid x z k (HLK.out z hz) hk
      · rcases hk with hk | ⟨p, hp, hk⟩
        · exact .F x k (by rw [HF.out.F]; exact hk)
        · exact .kid x p.2 k (HFK.out p hp) hk) (by have := HPS.out; omega)
    have HGF := Lib.hid hg
    clear g3 hg
    go_wp2
    go_end0
    exact ⟨rfl, V3, R3, HGF.out⟩
end Go.Proofs.YtgcicljklejmjaaDoor

/- KeyTakes, plain: bytes that are read as a tuple are the bytes of that tuple. -/
namespace Go.Proofs.YtgcicljklejmjaaDoor
open Tr

theorem bare_one {α : Type} (x : Tr α) : oneErr (bare x) = oneErr x := by
  unfold oneErr
  rw [bare_check, bare_keyed, bare_enc]
theorem bare_encD {α : Type} (d : Bool) (x : Tr α) : encD d (bare x) = encD d x := by
  unfold encD
  rw [bare_enc]
theorem bare_encT {α : Type} (d : Nat → Bool) : ∀ (i : Nat) (l : List (Tr α)), encT d i (l.map bare) = encT d i l
  | _, [] => rfl
  | i, x :: l => by rw [List.map_cons, encT, encT, bare_encD, bare_encT d (i + 1) l]
theorem bare_tup {α : Type} (l : List (Tr α)) : tupErr (l.map bare) = tupErr l := by
  unfold tupErr
  rw [List.length_map, bare_encT, List.map_map, show ((oneErr ∘ bare : Tr α → Nat)) = oneErr from funext bare_one]
theorem keyedA_of {α : Type} {x : Tr α} (h : KeyedAll x) : PlainAll x → keyed x = true := by
  induction h with
  | mk x hk hl ih =>
    intro hp
    unfold keyed
    rw [keyed_kids]
    have hf := hp.here.f
    have h7 : (x.k != 7) = true := by
      rw [bne_iff_ne]
      intro h
      have hk1 := hk.1
      rw [h] at hk1
      rcases hk1 with h | h | h | h | h | h <;> exact absurd h (by decide)
    rw [h7, Bool.true_and, List.all_eq_true]
    intro y hy
    unfold kids at hy
    rw [hf, List.map_nil, List.append_nil] at hy
    exact ih y hy (hp.l y hy)
theorem one_two {α : Type} {x : Tr α} (hc : check x = 0) (hk : KeyedAll x) (hp : PlainAll x) : oneErr x = 0 ∨ oneErr x = 42 ∧ 160 < (enc x).length := by
  unfold oneErr
  rw [if_neg (by omega), if_neg (by rw [keyedA_of hk hp]; exact Bool.noConfusion)]
  by_cases h : 160 < (enc x).length
  · exact .inr ⟨if_pos h, h⟩
  · exact .inl (if_neg h)
theorem first_two : ∀ l : List Nat, (∀ e ∈ l, e = 0 ∨ e = 42) → firstErr l = 0 ∨ firstErr l = 42 ∧ 42 ∈ l
  | [], _ => .inl rfl
  | e :: l, h => by
    rcases h e (.head _) with he | he
    · subst he
      rcases first_two l (fun e he => h e (.tail _ he)) with h2 | ⟨h2, h3⟩
      · exact .inl (by rw [firstErr, if_neg (by omega)]; exact h2)
      · exact .inr ⟨by rw [firstErr, if_neg (by omega)]; exact h2, .tail _ h3⟩
    · subst he
      exact .inr ⟨by rw [firstErr, if_pos (by omega)], .head _⟩
theorem encT_mem {α : Type} (d : Nat → Bool) : ∀ (i : Nat) (l : List (Tr α)) (x : Tr α), x ∈ l → (enc x).length ≤ (encT d i l).length
  | i, y :: l, x, h => by
    rw [encT, List.length_append, encD_len]
    cases h with
    | head => omega
    | tail _ h => have := encT_mem d (i + 1) l x h; omega
theorem takes_ok {d : Nat → Bool} {b : List UInt8} {l : List (Tr Unit)} (h : decT d b.length 0 b = .ok l) : b = encT d 0 l ∧ (tupErr l = 0 ∨ tupErr l = 42 ∧ 160 < b.length) := by
  obtain ⟨h1, h2, h3⟩ := decT_ok d b.length 0 b l (Nat.le_refl _) h
  refine ⟨h1, ?_⟩
  have hl : l.length ≤ 4 := by
    cases l with
    | nil => exact Nat.zero_le _
    | cons x l => have := h3 (by simp); omega
  unfold tupErr
  rw [if_neg (by omega)]
  have hf := first_two (l.map oneErr) (fun e he => by
    obtain ⟨x, hx, rfl⟩ := List.mem_map.1 he
    obtain ⟨a, b, c⟩ := h2 x hx
    exact (one_two a b c).imp_right And.left)
  rcases hf with hf | ⟨hf, hm⟩
  · rw [if_neg (by omega)]
    by_cases hn : 160 < (encT (fun _ => false) 0 l).length
    · exact .inr ⟨if_pos hn, by rw [h1, encT_len d 0 0]; exact hn⟩
    · exact .inl (if_neg hn)
  · rw [if_pos (by omega)]
    refine .inr ⟨hf, ?_⟩
    obtain ⟨x, hx, he⟩ := List.mem_map.1 hm
    obtain ⟨a, b2, c⟩ := h2 x hx
    rcases one_two a b2 c with h | ⟨_, h⟩
    · omega
    · have := encT_mem d 0 l x hx
      rw [← h1] at this
      omega
theorem takes_one {down : Bool} {b s : List UInt8} {x : Tr Mm} (h : splitE down b = some (bare x, s)) : b = encD down x ++ s ∧ check x = 0 ∧ (oneErr x = 0 ∨ oneErr x = 42 ∧ 160 < b.length) := by
  obtain ⟨h1, h2, h3, h4⟩ := splitE_some h
  have h5 := one_two h2 h3 h4
  rw [bare_encD] at h1
  rw [bare_one, bare_enc] at h5
  rw [bare_check] at h2
  refine ⟨h1, h2, h5.imp_right fun h => ⟨h.1, ?_⟩⟩
  rw [h1, List.length_append, encD_len]
  omega
theorem takes_none {d : Nat → Bool} {b : List UInt8} (h : splitE (d 0) b = none) (hb : b ≠ []) : decT d b.length 0 b = .error b.length := by
  cases b with
  | nil => exact absurd rfl hb
  | cons c r => rw [List.length_cons, decT_cons (by simp), h, List.length_cons]
end Go.Proofs.YtgcicljklejmjaaDoor

/- KeyReads: the calls in one form each; the book's conditions. -/
namespace Go.Proofs.YtgcicljklejmjaaDoor
open Go.RowKit Go.Shelf
open Tr

/-- No value. -/
def zeroM : Tr Mm := .mk 0 false 0 [] [] nil3 [] []
theorem zero_agg : zeroM.agg = .agg #[.int .u8 0, .bool false, .int .i64 0, .string ⟨#[]⟩, .slice none 0 0, .slice none 0 0, .slice none 0 0] := rfl
theorem zero_good (w : World) : Tr.Good w zeroM := good_leaf w ⟨by decide, by decide⟩ (by simp)
theorem zero_bare : bare zeroM = only 0 := bare_leaf
theorem zero_parts : parts zeroM ≤ 512 := by
  rw [parts_kids, show zeroM.kids = [] from rfl]
  decide

/-- What any bytes are as a tuple: the values, the code, the place. -/
def DX (dl : List Bool) (b : List UInt8) : List (Tr Unit) × Nat × Nat := match decT (fallsB dl) b.length 0 b with | .ok l => (l, 0, 0) | .error m => ([], 40, b.length - m)
/-- What any bytes begin with. -/
def SX (down : Bool) (b : List UInt8) : Tr Unit × List UInt8 × Nat := match splitE down b with | some (x, s) => (x, s, 0) | none => (only 0, [], 40)
theorem DX_le (dl : List Bool) (b : List UInt8) : (DX dl b).2.1 ≤ 40 ∧ (DX dl b).2.2 ≤ b.length := by
  unfold DX
  split
  · exact ⟨Nat.zero_le _, Nat.zero_le _⟩
  · exact ⟨Nat.le_refl _, Nat.sub_le _ _⟩
theorem SX_le (down : Bool) (b : List UInt8) : (SX down b).2.2 ≤ 40 ∧ (SX down b).2.1.length ≤ b.length := by
  unfold SX
  split
  · rename_i h
    exact ⟨Nat.zero_le _, Nat.le_of_lt (splitE_less h)⟩
  · exact ⟨Nat.le_refl _, Nat.zero_le _⟩

def DecU (k : IntKind) (dl : List Bool) (b : List UInt8) (w : World) (e : Ending) (w' : World) : Prop :=
  Fr no w w' ∧ ∃ ys A c, e = .returned (.tuple #[.slice A ys.length c, .int k ((DX dl b).2.1 : Nat), .int .i64 ((DX dl b).2.2 : Nat)]) ∧ ys.map bare = (DX dl b).1 ∧ ys.length ≤ 4 ∧ (ys.map fun y => parts y).sum ≤ 2048 ∧ VRow w.heap.size w' ys A c
def SplU (k : IntKind) (down : Bool) (b : List UInt8) (w : World) (e : Ending) (w' : World) : Prop :=
  Fr no w w' ∧ ∃ (x : Tr Mm) (A : Option Addr) (n c : Nat), e = .returned (.tuple #[x.agg, .slice A n c, .int k ((SX down b).2.2 : Nat)]) ∧ bare x = (SX down b).1 ∧ n = (SX down b).2.1.length ∧ parts x ≤ 512 ∧ Tr.Own w' x ∧ Tr.Good w' x ∧ (∀ j, Blk x j → w.heap.size ≤ j) ∧ Ow w' 5 1 (.slice A n c) n (bvs (SX down b).2.1) ∧ (∀ j, Value.ownBlock (.slice A n c) = some j → w.heap.size ≤ j ∧ ¬ Blk x j)

theorem sum_parts : ∀ ys : List (Tr Mm), (∀ y ∈ ys, parts y ≤ 512) → (ys.map fun y => parts y).sum ≤ 512 * ys.length
  | [], _ => Nat.le_refl _
  | y :: ys, h => by
    simp only [List.map_cons, List.sum_cons, List.length_cons]
    have := h y (.head _)
    have := sum_parts ys (fun x hx => h x (.tail _ hx))
    omega
theorem dec_parts {d : Nat → Bool} {b : List UInt8} {ys : List (Tr Mm)} (h : decT d b.length 0 b = .ok (ys.map bare)) (h4 : ys.length ≤ 4) : (ys.map fun y => parts y).sum ≤ 2048 := by
  have h1 := (decT_ok d _ _ _ _ (Nat.le_refl _) h).2.1
  have h2 := sum_parts ys (fun y hy => by
    have h3 := (h1 (bare y) (List.mem_map_of_mem hy)).1
    have h4 := (check_zero.1 h3).2.1
    rwa [bare_parts] at h4)
  omega
theorem decu_any (w : World) (X D : Value) (b : List UInt8) (dl : List Bool) (hx : Sl w 1 X b.length (bvs b)) (hl : b.length ≤ 1000000000) (hX : ∀ k, X.ownBlock = some k → k < w.heap.size) (hd : Sl w 1 D dl.length (bls dl)) (hdn : dl.length ≤ reachBytes) (hT : Tabs w) :
    Calls Tryd.prog 11 #[X, D] w fun e w' => DecU .u16 dl b w e w' :=
  (decode_any w X D b dl hx hl hX hd hdn hT).mono (by
    rintro e w' ⟨f, ⟨ys, A, n, hd, rfl, h4, rfl, hv⟩ | ⟨m, hd, hm, rfl⟩⟩
    · have e1 : DX dl b = (ys.map bare, 0, 0) := by unfold DX; rw [hd]
      exact ⟨f, ys, A, _, by rw [e1]; rfl, by rw [e1], h4, dec_parts hd h4, hv⟩
    · have e1 : DX dl b = ([], 40, b.length - m) := by unfold DX; rw [hd]
      exact ⟨f, [], none, 0, by rw [e1]; rfl, by rw [e1]; rfl, by simp, by simp, VRow.nil _ _⟩)
theorem decu4_any (w : World) (X D : Value) (b : List UInt8) (dl : List Bool) (hx : Sl w 1 X b.length (bvs b)) (hl : b.length ≤ 1000000) (hX : ∀ k, X.ownBlock = some k → k < w.heap.size) (hd : Sl w 1 D dl.length (bls dl)) (hdn : dl.length ≤ reachBytes) :
    Calls Tryd.prog 15 #[X, D] w fun e w' => DecU .i64 dl b w e w' :=
  (decode4_any w X D b dl hx hl hX hd hdn).mono (by
    rintro e w' ⟨f, ⟨ys, A, n, hd, h4, rfl, hv⟩ | ⟨m, hd, hm, rfl⟩⟩
    · have e1 : DX dl b = (ys.map bare, 0, 0) := by unfold DX; rw [hd]
      exact ⟨f, ys, A, _, by rw [e1]; rfl, by rw [e1], h4, dec_parts hd h4, hv⟩
    · have e1 : DX dl b = ([], 40, b.length - m) := by unfold DX; rw [hd]
      exact ⟨f, [], none, 0, by rw [e1]; rfl, by rw [e1]; rfl, by simp, by simp, VRow.nil _ _⟩)
theorem spl_parts {down : Bool} {b s : List UInt8} {x : Tr Mm} (h : splitE down b = some (bare x, s)) : parts x ≤ 512 := by
  have h1 := (check_zero.1 (splitE_some h).2.1).2.1
  rwa [bare_parts] at h1
theorem splu_any (w : World) (X : Value) (b : List UInt8) (down : Bool) (hx : Sl w 1 X b.length (bvs b)) (hl : b.length ≤ 1000000000) (hT : Tabs w) (hX : ∀ k, X.ownBlock = some k → k < w.heap.size) :
    Calls Tryd.prog 12 #[X, .bool down] w fun e w' => SplU .u16 down b w e w' :=
  (split_any w X b down hx hl hT hX).mono (by
    rintro e w' ⟨f, ⟨x, s, A, n, hs, rfl, rfl, ho, hg, hb, hw, hn⟩ | ⟨hs, rfl⟩⟩
    · have e1 : SX down b = (bare x, s, 0) := by unfold SX; rw [hs]
      exact ⟨f, x, A, _, _, by rw [e1]; rfl, by rw [e1], by rw [e1], spl_parts hs, ho, hg, hb, by rw [e1]; exact hw, hn⟩
    · have e1 : SX down b = (only 0, [], 40) := by unfold SX; rw [hs]
      exact ⟨f, zeroM, none, 0, 0, by rw [e1, zero_agg]; rfl, by rw [e1, zero_bare], by rw [e1]; rfl, zero_parts, own_leaf _ _ _ _ _, zero_good _, fun k hk => (blk_leaf hk).elim, by rw [e1]; exact ow_none _ _ _, fun k hk => nomatch hk⟩)
theorem splu4_any (w : World) (X : Value) (b : List UInt8) (down : Bool) (hx : Sl w 1 X b.length (bvs b)) (hl : b.length ≤ 1000000) :
    Calls Tryd.prog 16 #[X, .bool down] w fun e w' => SplU .i64 down b w e w' :=
  (split4_any w X b down hx hl).mono (by
    rintro e w' ⟨f, ⟨x, s, A, n, c, hs, rfl, rfl, ho, hg, hb, hw, hn⟩ | ⟨hs, rfl⟩⟩
    · have e1 : SX down b = (bare x, s, 0) := by unfold SX; rw [hs]
      exact ⟨f, x, A, _, _, by rw [e1]; rfl, by rw [e1], by rw [e1], spl_parts hs, ho, hg, hb, by rw [e1]; exact hw, hn⟩
    · have e1 : SX down b = (only 0, [], 40) := by unfold SX; rw [hs]
      exact ⟨f, zeroM, none, 0, 0, by rw [e1, zero_agg]; rfl, by rw [e1, zero_bare], by rw [e1]; rfl, zero_parts, own_leaf _ _ _ _ _, zero_good _, fun k hk => (blk_leaf hk).elim, by rw [e1]; exact ow_none _ _ _, fun k hk => nomatch hk⟩)

abbrev V0 : Nat → Value := fun _ => .slice none 0 0
abbrev R0 : Nat → List Value := fun _ => []
/-- An empty book. -/
theorem bcv_nil {w : World} {b : Nat} (h : w.heap[b]? = some (.cells (cells23 V0) 67 (0, 0))) : Bc w b V0 R0 := by
  refine ⟨⟨h, fun i _ => ⟨rfl, .inl ⟨rfl, rfl⟩⟩, fun i _ => ⟨rfl, rfl⟩, fun i => by simp [Value.ownBlock], fun i j _ k hk => by simp [Value.ownBlock] at hk⟩, fun i v hv => (nomatch hv), fun i => List.Pairwise.nil, fun i j _ v hv => (nomatch hv), fun i v hv => (nomatch hv)⟩
theorem bcf_nil {b k : Nat} (h : BcF b V0 R0 k) : k = b := by
  rcases h with h | ⟨i, h⟩ | ⟨i, v, hv, _⟩
  · exact h
  · cases h
  · cases hv
theorem bko_nil {b k : Nat} (h : BkO b V0 k) : k = b := by
  rcases h with h | ⟨i, h⟩
  · exact h
  · cases h
theorem GrB.far {w w1 : World} {b g : Nat} {V1 : Nat → Value} {R1 : Nat → List Value} {N : Nat → Prop} (h : GrB w w1 b V0 R0 V1 R1 N g) (hb : b < w.heap.size) {k : Nat} (hk : k < b) (hN : ¬ N k) : ¬ BcF b V1 R1 k := by
  intro h1
  rcases h.more k h1 with h2 | h2 | h2
  · have := bcf_nil h2; omega
  · exact hN h2
  · omega
theorem GrB.fr0 {w0 w w1 : World} {b g : Nat} {V1 : Nat → Value} {R1 : Nat → List Value} {N : Nat → Prop} (h : GrB w w1 b V0 R0 V1 R1 N g) (f : Fr no w0 w) (hb : b = w0.heap.size) : Fr no w0 w1 :=
  Fr.since f h.fr (fun k hk => by have := bko_nil hk; omega)
theorem GrB.len0 {w w1 : World} {b g : Nat} {V1 : Nat → Value} {R1 : Nat → List Value} {N : Nat → Prop} (h : GrB w w1 b V0 R0 V1 R1 N g) (i : Nat) : (R1 i).length ≤ g := by
  have := h.len i
  simpa using this
theorem err_i64 (n : Nat) (h : n ≤ 40) : IntKind.i64.wrap (n : Int) = (n : Int) := IntWalk.i64_in _ ⟨by omega, by omega⟩
theorem ieq_self (n : Nat) : ((n : Int) == (n : Int)) = true := by rw [beq_iff_eq]
end Go.Proofs.YtgcicljklejmjaaDoor

/- append onto a row of one's own that has room: it stays where it is. General. -/
namespace Go
open Go.RowKit
section
variable {P : Program} {w : World} {o : Oper} {a : Act} {K : Act → World → Prop} {Q : Exit → Act → World → Prop}

theorem run_apr {t e : TypeId} {z : Value} {size bytes : Nat} (tb : Tb P t e z size bytes) (ty : TypeId) {g n cap : Nat} {xs : List Value} (hown : w.ownsRow 0 e size (.slice (some ⟨g, 0, none⟩) n cap) n xs)
    {x : Value} {m : Nat} {news : List Value} (hx : Sl w size x m news) (h1 : ∀ u ∈ news, u.oneCell' = true) (hr : n + m ≤ cap) :
    ∃ w', (Builtin.append_ #[t, t] ty #[.slice (some ⟨g, 0, none⟩) n cap, x]).run P w = .ok (.slice (some ⟨g, 0, none⟩) (n + m) cap) w' ∧ w'.ownsRow 0 e size (.slice (some ⟨g, 0, none⟩) (n + m) cap) (n + m) (xs ++ news) ∧ Fr (fun k => k = g) w w' := by
  obtain ⟨i, hi, hz0, hz1, hz2⟩ := info_parts tb.info
  have hx2 : (x = .slice none 0 0 ∧ m = 0) ∨ ∃ y cap', x = .slice (some y) m cap' ∧ ∀ j u, news[j]? = some u → w.cell? (y.add j) = some u := by
    rcases hx.2 with ⟨Y, h1, h2⟩ | ⟨b, off, cap', h1, _, _, hc⟩
    · subst h1; subst h2
      cases Y with
      | none => exact .inl ⟨rfl, rfl⟩
      | some y => exact .inr ⟨y, 0, rfl, fun j u hu => by
          have hn : news = [] := List.eq_nil_of_length_eq_zero (by simpa using hx.1)
          subst hn; simp at hu⟩
    · exact .inr ⟨⟨b, off, none⟩, cap', h1, fun j u hu => by rw [Addr.add_lit]; exact hc j u hu⟩
  rcases hx2 with ⟨rfl, rfl⟩ | ⟨y, cap', rfl, hnews⟩
  · have hn : news = [] := List.eq_nil_of_length_eq_zero (by simpa using hx.1)
    subst hn
    exact ⟨w, run_append_owned_none (P := P) w 0 t ty e i size tb.und hi _ n xs hown, by simpa using hown, Fr.refl _ _⟩
  · rcases hown.2 with ⟨h, _⟩ | ⟨g', cap0, cur, h, hbg, hg, hnc, hcm, hcs, htake⟩
    · simp at h
    · simp only [Value.slice.injEq, Option.some.injEq, Addr.mk.injEq, and_true, true_and] at h
      obtain ⟨rfl, rfl⟩ := h
      subst hz1
      have hfit : n * i.size + news.length ≤ cur.size := by rw [hx.1, hcs, ← Nat.add_mul]; exact Nat.mul_le_mul_right _ hr
      have hrun := run_append_room (P := P) w t ty e i tb.und hi g n cap cur hg y m cap' news hx.1 hnews h1 hr hfit
      refine ⟨_, hrun, ⟨by rw [List.length_append, hown.1, hx.1, Nat.add_mul], .inr ⟨g, cap, _, rfl, hbg, setRow_heap w g cur _ e _ hg, hr, hcm, ?_, ?_⟩⟩, ⟨rfl, rfl, rfl, by simp, fun k _ hk => setRow_other w g k _ (fun e => hk e)⟩⟩
      · simp only [List.size_toArray, List.length_append, List.length_take, List.length_drop, Array.length_toList]
        omega
      · have hlen : (xs ++ news).length = (n + m) * i.size := by rw [List.length_append, hown.1, hx.1, Nat.add_mul]
        rw [htake, ← hlen]
        exact List.take_left

theorem wp_apr (s x : Operand) (t : TypeId) (ho : o.op = .call { callee := .builtin .append, args := #[s, x], argTypes := #[t, t] })
    {e : TypeId} {z : Value} {size bytes : Nat} (tb : Tb P t e z size bytes) {g n cap : Nat} {xs : List Value} (hown : w.ownsRow 0 e size (.slice (some ⟨g, 0, none⟩) n cap) n xs)
    {vx : Value} {m : Nat} {news : List Value} (hx : Sl w size vx m news) (hse : a.eval s = .slice (some ⟨g, 0, none⟩) n cap) (hxe : a.eval x = vx) (h1 : ∀ u ∈ news, u.oneCell' = true) (hr : n + m ≤ cap)
    (h : ∀ N w', N = n + m → w'.ownsRow 0 e size (.slice (some ⟨g, 0, none⟩) N cap) N (xs ++ news) → Fr (fun k => k = g) w w' → K (a.put o.dst (.slice (some ⟨g, 0, none⟩) N cap)) w') : o.wp P a w K Q := by
  obtain ⟨w', hrun, h2, h3⟩ := run_apr (P := P) tb o.type hown hx h1 hr
  unfold Oper.wp execOp
  simp only [ho, resolve, invoke, builtin, Sem.run_bind, Sem.run_pure, Result.andThen_ok, List.map_toArray, List.map_cons, List.map_nil, hse, hxe, hrun]
  exact h _ w' rfl h2 h3
variable {ops : Array Oper} {rest : List Oper}
theorem wpList_apr (hgd : o.guard = none) (s x : Operand) (t : TypeId) (ho : o.op = .call { callee := .builtin .append, args := #[s, x], argTypes := #[t, t] })
    {e : TypeId} {z : Value} {size bytes : Nat} (tb : Tb P t e z size bytes) {g n cap : Nat} {xs : List Value} (hown : w.ownsRow 0 e size (.slice (some ⟨g, 0, none⟩) n cap) n xs)
    {vx : Value} {m : Nat} {news : List Value} (hx : Sl w size vx m news) (hse : a.eval s = .slice (some ⟨g, 0, none⟩) n cap) (hxe : a.eval x = vx) (h1 : ∀ u ∈ news, u.oneCell' = true) (hr : n + m ≤ cap)
    (h : ∀ N w', N = n + m → w'.ownsRow 0 e size (.slice (some ⟨g, 0, none⟩) N cap) N (xs ++ news) → Fr (fun k => k = g) w w' → wpList P ops Q rest (a.put o.dst (.slice (some ⟨g, 0, none⟩) N cap)) w') : wpList P ops Q (o :: rest) a w :=
  wpList_plain hgd fun _ hK => wp_apr s x t ho tb hown hx hse hxe h1 hr fun N w' h2 h3 h4 => hK _ _ (h N w' h2 h3 h4)
end
end Go
