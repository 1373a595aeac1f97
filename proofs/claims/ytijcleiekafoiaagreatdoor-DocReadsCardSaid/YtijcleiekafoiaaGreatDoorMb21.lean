import Derived.Test.YtijcleiekafoiaaGreatDoorMb20
import Derived.Test.YtijcleiekafoiaaGreatDoorMb10
import Derived.Test.YtijcleiekafoiaaGreatDoorMb09
import Derived.Test.YtijcleiekafoiaaGreatDoorMb16
import Derived.Test.YtijcleiekafoiaaGreatDoorMb17
import Derived.Test.YtijcleiekafoiaaGreatDoorMb02
import Derived.ProofKit
import Derived.OpenShut
import Derived.ChangeOld
import Derived.SizedLaws

/- The book: bytes, values, fields put into it. Printed by mkbookv.py. -/
namespace Go.Proofs.YtijcleiekafoiaaGreatDoor
open Go.RowKit Go.Shelf
open Tr

/-- The book's own blocks. -/
def BkO (b : Nat) (V : Nat → Value) : Nat → Prop := fun k => k = b ∨ ∃ i, (V i).ownBlock = some k
theorem BkO.bc {b : Nat} {V : Nat → Value} {R : Nat → List Value} {k : Nat} (h : BkO b V k) : BcF b V R k := by
  rcases h with h | h
  · exact .inl h
  · exact .inr (.inl h)

/-- What putting into the book leaves: the book with more rows; N: the blocks of what was put in. -/
structure GrB (w w' : World) (b : Nat) (V : Nat → Value) (R : Nat → List Value) (V' : Nat → Value) (R' : Nat → List Value) (N : Nat → Prop) (g : Nat) : Prop where
  bc : Bc w' b V' R'
  fr : Fr (BkO b V) w w'
  more : ∀ k, BcF b V' R' k → BcF b V R k ∨ N k ∨ w.heap.size ≤ k
  own : ∀ k, BkO b V' k → BkO b V k ∨ w.heap.size ≤ k
  len : ∀ i, (R' i).length ≤ (R i).length + g
def Grown (w w' : World) (b : Nat) (V : Nat → Value) (R : Nat → List Value) (N : Nat → Prop) (g : Nat) (e : Ending) : Prop :=
  e = .returned (.tuple #[]) ∧ ∃ V' R', GrB w w' b V R V' R' N g
theorem GrB.refl {w w1 : World} {b : Nat} {V : Nat → Value} {R : Nat → List Value} (h : Bc w b V R) (f : Fr no w w1) : GrB w w1 b V R V R no 0 :=
  ⟨h.kept0 f, f.mono (fun _ _ h => h.elim), fun _ h => .inl h, fun _ h => .inl h, fun _ => Nat.le_refl _⟩
theorem GrB.trans {w w1 w2 w3 : World} {b g1 g2 : Nat} {V V1 V2 : Nat → Value} {R R1 R2 : Nat → List Value} {N1 N2 : Nat → Prop} (h1 : GrB w w1 b V R V1 R1 N1 g1) (f : Fr no w1 w2) (h2 : GrB w2 w3 b V1 R1 V2 R2 N2 g2) : GrB w w3 b V R V2 R2 (fun k => N1 k ∨ N2 k) (g1 + g2) := by
  have s1 := h1.fr.size; have s2 := f.size
  refine ⟨h2.bc, (h1.fr.trans f (fun _ _ h => h.elim)).trans h2.fr (fun k hk h => ?_), fun k hk => ?_, fun k hk => ?_, fun i => ?_⟩
  · rcases h1.own k h with h3 | h3
    · exact h3
    · omega
  · rcases h2.more k hk with h3 | h3 | h3
    · rcases h1.more k h3 with h4 | h4 | h4
      · exact .inl h4
      · exact .inr (.inl (.inl h4))
      · exact .inr (.inr h4)
    · exact .inr (.inl (.inr h3))
    · exact .inr (.inr (by omega))
  · rcases h2.own k hk with h3 | h3
    · exact h1.own k h3
    · exact .inr (by omega)
  · have a := h1.len i; have b := h2.len i; omega
theorem GrB.weaken {w w1 : World} {b g g' : Nat} {V V1 : Nat → Value} {R R1 : Nat → List Value} {N N' : Nat → Prop} (h : GrB w w1 b V R V1 R1 N g) (hn : ∀ k, N k → N' k) (hg : g ≤ g') : GrB w w1 b V R V1 R1 N' g' :=
  ⟨h.bc, h.fr, fun k hk => (h.more k hk).imp_right (fun h => h.imp_left (hn k)), h.own, fun i => Nat.le_trans (h.len i) (by omega)⟩
theorem GrB.after {w w1 w2 : World} {b g : Nat} {V V1 : Nat → Value} {R R1 : Nat → List Value} {N : Nat → Prop} (h : GrB w w1 b V R V1 R1 N g) (f : Fr no w1 w2) : GrB w w2 b V R V1 R1 N g :=
  ⟨h.bc.kept0 f, h.fr.trans f (fun _ _ h => h.elim), h.more, h.own, h.len⟩
theorem GrB.before {w w1 w2 : World} {b g : Nat} {V V1 : Nat → Value} {R R1 : Nat → List Value} {N : Nat → Prop} (f : Fr no w w1) (h : GrB w1 w2 b V R V1 R1 N g) : GrB w w2 b V R V1 R1 N g := by
  have s := f.size
  exact ⟨h.bc, (f.mono (fun _ _ h => h.elim)).trans h.fr (fun _ _ h => h), fun k hk => (h.more k hk).imp_right (fun h => h.imp_right (fun h => by omega)), fun k hk => (h.own k hk).imp_right (fun h => by omega), h.len⟩

theorem Bc.put {w w0 w2 : World} {b i N : Nat} {V : Nat → Value} {R : Nat → List Value} {r v' : Value} (h : Bc w b V R) (f0 : Fr no w w0) (hk : kept4 i) (f : Fr (fun k => (V i).ownBlock = some k) w0 w2) (hN : N = (R i).length + 1)
    (ho : Ow w2 (eT i) 1 v' N (R i ++ [r])) (st : Stays w0 w2 (V i) v' (R i).length N) (hr : RowOk w i r) (hd : ∀ k, r.ownBlock = some k → ¬ BcF b V R k) :
    Bc (w2.setCell ⟨b, i, none⟩ v') b (upd V i v') (upd R i (R i ++ [r])) ∧ Fr (BkO b V) w (w2.setCell ⟨b, i, none⟩ v') ∧ (∀ k, BcF b (upd V i v') (upd R i (R i ++ [r])) k → BcF b V R k ∨ r.ownBlock = some k ∨ w.heap.size ≤ k) ∧ (∀ k, BkO b (upd V i v') k → BkO b V k ∨ w.heap.size ≤ k) ∧ ∀ j, (upd R i (R i ++ [r]) j).length ≤ (R j).length + 1 := by
  obtain ⟨q1, q2, q3⟩ := (h.kept0 f0).bq.put hk f hN ho st
  have hs := f0.size
  obtain ⟨a1, a2⟩ := (h.kept0 f0).add q1 q2 (fun k hk => by rcases q3 k hk with h1 | h1; exact .inl h1; exact .inr h1.1) (by obtain ⟨n, xs, h1, h2⟩ := hr; exact ⟨n, xs, h1, h2.kept0 f0⟩) hd
  refine ⟨a1, (f0.mono (fun _ _ h => h.elim)).trans q2 (fun k _ e => ?_), fun k hk => ?_, fun k hk => ?_, fun j => ?_⟩
  · rcases e with e | e
    · exact .inl e
    · exact .inr ⟨i, e⟩
  · rcases a2 k hk with h1 | h1 | h1
    · exact .inl h1
    · exact .inr (.inl h1)
    · exact .inr (.inr (by omega))
  · rcases hk with h1 | ⟨j, h1⟩
    · exact .inl (.inl h1)
    · by_cases hji : j = i
      · subst hji; rw [upd_same] at h1
        rcases q3 k h1 with h2 | h2
        · exact .inl (.inr ⟨_, h2⟩)
        · exact .inr (by omega)
      · rw [upd_other hji] at h1; exact .inl (.inr ⟨j, h1⟩)
  · by_cases hji : j = i
    · subst hji; rw [upd_same]; simp
    · rw [upd_other hji]; omega

theorem Fr.trans2 {S T : Nat → Prop} {w w1 w2 : World} (h : Fr S w w1) (h' : Fr T w1 w2) (hs : ∀ k, k < w.heap.size → T k → S k) : Fr S w w2 := h.trans h' hs

set_option maxRecDepth 100000 in
theorem bc_bytes (w : World) (b : Nat) (V : Nat → Value) (R : Nat → List Value) (A : Option Addr) (n c : Nat) (h : Bc w b V R) (hl : (R 0).length ≤ 1000000) (hr : RowOk w 0 (.slice A n c)) (hd : ∀ k, (Value.slice A n c).ownBlock = some k → ¬ BcF b V R k) :
    Calls Tryz.prog 11 #[.pointer (some ⟨b, 0, none⟩), .slice A n c] w fun e w' => Grown w w' b V R (fun k => (Value.slice A n c).ownBlock = some k) 1 e := by
  have hc0 := h.bq.cell 0 (by omega)
  have hfz := h.bq.frozen 0
  have hbs := h.bq.lt
  have hrow := h.bq.row 0 (.inl rfl)
  obtain ⟨B, d, hv, _, _⟩ := hrow.form
  rw [hv] at hc0
  have HB := Lib.hid h; have HR := Lib.hid hr; have HD := Lib.hid hd; have HV := Lib.hid hv
  rw [hv] at hrow
  have HROW := Lib.hid hrow
  clear h hr hd hv hrow
  go_enter Tryz.func11, Tryz.ntmps11
  go_wp2_with (at_builtin; refine wpList_apo rfl (.tmp 8) (.tmp 10) 39 rfl tbRows (HROW.out.kept0 ((Fr.refl no _).alloc _)) (Sl.built w _ _) rfl rfl (by simp [Value.oneCell']) ?b1 ?b2 ?go)
  case b1 => simp only [maxLen]; omega
  case b2 => omega
  case go =>
    intro A' N c' w2 hN ho hold hf2 hst
    have f0 := (Fr.refl no w).alloc (.cells #[.slice A n c] 23)
    have hp := Bc.put (i := 0) HB.out f0 (.inl rfl) (by rw [HV.out]; exact hf2) hN ho (by rw [HV.out]; exact hst) HR.out HD.out
    have hnb : ¬ (Value.slice B (R 0).length d).ownBlock = some b := by rw [← HV.out]; exact HB.out.bq.ne 0
    have hh := hf2.heap (f0.heap HB.out.bq.at_ (fun h => h)) hnb
    have hc1 : w2.cell? ⟨b, 0, none⟩ = some (V 0) := by simp [World.cell?, hh, cells23]
    rw [HV.out] at hc1
    have hz1 : w2.frozen? ⟨b, 0, none⟩ = false := by simp [World.frozen?, hh]
    have hl1 : b < w2.heap.size := (Array.getElem?_eq_some_iff.1 hh).1
    have HP := Lib.hid hp; clear ho hold hf2 hst f0 hp hnb hh hN
    go_wp2
    go_end0
    obtain ⟨p1, p2, p3, p5, p4⟩ := HP.out
    exact ⟨rfl, _, _, p1, p2, p3, p5, p4⟩


/-- What the lists need of Value, of Field. -/
def BookOk (y : Tr Mm) : Prop := ∀ (w : World) (b : Nat) (V : Nat → Value) (R : Nat → List Value), Bc w b V R → Tr.Own w y → Tr.Good w y → (∀ k, Blk y k → ¬ BcF b V R k) → (∀ i, (R i).length + 3 * parts y ≤ 1000000) → Calls Tryz.prog 22 #[.pointer (some ⟨b, 0, none⟩), y.agg] w fun e w' => Grown w w' b V R (Blk y) (3 * parts y) e
def BookFOk (p : List UInt8 × Tr Mm) : Prop := ∀ (w : World) (b : Nat) (V : Nat → Value) (R : Nat → List Value), Bc w b V R → Tr.Own w p.2 → Tr.Good w p.2 → (∀ k, Blk p.2 k → ¬ BcF b V R k) → (∀ i, (R i).length + 3 * parts p.2 ≤ 1000000) → Calls Tryz.prog 104 #[.pointer (some ⟨b, 0, none⟩), fagg p] w fun e w' => Grown w w' b V R (Blk p.2) (3 * parts p.2) e

set_option maxRecDepth 100000 in
set_option maxHeartbeats 4000000 in
theorem bc_values_of (l : List (Tr Mm)) (ih : ∀ y ∈ l, BookOk y) (w : World) (b : Nat) (V : Nat → Value) (R : Nat → List Value) (X : Value) (h : Bc w b V R) (ho : Ow w 27 7 X l.length (l.flatMap cells)) (hi : In w X l) (how : ∀ y ∈ l, Tr.Own w ( y)) (hpw : l.Pairwise fun y z => ∀ k, Blk ( y) k → ¬ Blk ( z) k) (hne : ∀ y ∈ l, ∀ k, Blk ( y) k → X.ownBlock ≠ some k) (hd : ∀ k, (X.ownBlock = some k ∨ ∃ y ∈ l, Blk ( y) k) → ¬ BcF b V R k) (hln : l.length ≤ 1000000) (hl : ∀ i, (R i).length + (1 + 3 * (l.map fun y => parts ( y)).sum) ≤ 1000000) :
    Calls Tryz.prog 66 #[.pointer (some ⟨b, 0, none⟩), X] w fun e w' => Grown w w' b V R (fun k => X.ownBlock = some k ∨ ∃ y ∈ l, Blk ( y) k) (1 + 3 * (l.map fun y => parts ( y)).sum) e := by
  obtain ⟨A, c, rfl, _, _⟩ := hi.sl.form
  have hnl : l.length ≤ 140737488351232 := hi.n
  have hc0 := h.bq.cell 18 (by omega)
  have hfz := h.bq.frozen 18
  have hbs := h.bq.lt
  have hrow := h.bq.row 18 (by unfold kept4; omega)
  have hr : RowOk w 18 (.slice A l.length c) := ⟨l.length, _, by show l.length ≤ 1000000; omega, ho⟩
  have hlr : (R 18).length ≤ 1000000 := by have := hl 18; omega
  obtain ⟨B, d, hv, _, _⟩ := hrow.form
  rw [hv] at hc0
  have HB := Lib.hid h; have HR := Lib.hid hr; have HD := Lib.hid hd; have HV := Lib.hid hv; have HO := Lib.hid ho; have HI := Lib.hid hi; have HOW := Lib.hid how; have HPW := Lib.hid hpw; have HNE := Lib.hid hne; have HL := Lib.hid hl; have IH := Lib.hid ih
  rw [hv] at hrow
  have HROW := Lib.hid hrow
  clear h hr hd hv hrow ho hi how hpw hne hl ih
  go_enter Tryz.func66, Tryz.ntmps66
  go_wp2_with (at_builtin; refine wpList_apo rfl (.tmp 9) (.tmp 11) 57 rfl tbVV (HROW.out.kept0 ((Fr.refl no _).alloc _)) (Sl.built w _ _) rfl rfl (by simp [Value.oneCell']) ?b1 ?b2 ?go)
  case b1 => simp only [maxLen]; omega
  case b2 => omega
  case go =>
    intro A' N c' w2 hN ho hold hf2 hst
    have f0 := (Fr.refl no w).alloc (.cells #[.slice A l.length c] 24)
    have hp := Bc.put (i := 18) HB.out f0 (by unfold kept4; omega) (by rw [HV.out]; exact hf2) hN ho (by rw [HV.out]; exact hst) HR.out (fun k hk => HD.out k (.inl hk))
    have hnb : ¬ (Value.slice B (R 18).length d).ownBlock = some b := by rw [← HV.out]; exact HB.out.bq.ne 18
    have hh := hf2.heap (f0.heap HB.out.bq.at_ (fun h => h)) hnb
    have hc1 : w2.cell? ⟨b, 18, none⟩ = some (V 18) := by simp [World.cell?, hh, cells23]
    rw [HV.out] at hc1
    have hz1 : w2.frozen? ⟨b, 18, none⟩ = false := by simp [World.frozen?, hh]
    have hl1 : b < w2.heap.size := (Array.getElem?_eq_some_iff.1 hh).1
    have HP := Lib.hid hp; clear ho hold hf2 hst f0 hp hnb hh hN hc0 hfz hbs
    go_wp2
    clear hc1 hz1 hl1
    obtain ⟨p1, p2, p3, p5, p4⟩ := HP.out
    have hg0 : GrB w (w2.setCell ⟨b, 18, none⟩ (.slice A' N c')) b V R (upd V 18 (.slice A' N c')) (upd R 18 (R 18 ++ [.slice A l.length c])) (fun k => (Value.slice A l.length c).ownBlock = some k) 1 := ⟨p1, p2, p3, p5, p4⟩
    have HG0 := Lib.hid hg0
    clear p1 p2 p3 p5 p4 hg0 HP
    go_loopw [4] (fun iv wr => ∃ (j : Nat) (V1 : Nat → Value) (R1 : Nat → List Value), j ≤ l.length ∧ iv = .int .i64 (j : Int) ∧ GrB w wr b V R V1 R1 (fun k => (Value.slice A l.length c).ownBlock = some k ∨ ∃ y ∈ l.take j, Blk ( y) k) (1 + 3 * ((l.take j).map fun y => parts ( y)).sum)) (fun iv _ => l.length - (intOf iv).toNat)
    case atStart => exact ⟨0, _, _, Nat.zero_le _, rfl, HG0.out.weaken (fun k h => .inl h) (by simp)⟩
    case round =>
      obtain ⟨j, V1, R1, hj, rfl, hg⟩ := hrel
      have HG := Lib.hid hg; clear hg
      by_cases hlt : j < l.length
      · have hmem : l[j] ∈ l := List.getElem_mem _
        have hnb : ∀ k, (Value.slice A l.length c).ownBlock = some k → ¬ BkO b V k := fun k hk h => HD.out k (.inl hk) h.bc
        have hnk : ∀ y ∈ l, ∀ k, Blk ( y) k → ¬ BkO b V k := fun y hy k hk h => HD.out k (.inr ⟨y, hy, hk⟩) h.bc
        have hrw := HO.out.kept HG.out.fr hnb
        have hoj := fun y hy => (HOW.out y hy).kept HG.out.fr (hnk y hy)
        have hgd : ∀ y ∈ l, Tr.Good wr ( y) := fun y hy => (hoj y hy).good rfl (HI.out.good y hy)
        have hX : In wr (.slice A l.length c) l := ⟨hrw.sl, hgd, HI.out.n, HI.out.nw⟩
        obtain ⟨xb, xo, KB, kb, KL, kl, KF, kf, rfl, hfj, q0, q1, q2, q3, q4, q5, q6, hgl⟩ := In.get hX j hlt
        have hdj : ∀ k, Blk ( l[j]) k → ¬ BcF b V1 R1 k := fun k hk h => by
          rcases HG.out.more k h with h1 | h1 | h1
          · exact HD.out k (.inr ⟨_, hmem, hk⟩) h1
          · rcases h1 with h1 | ⟨y, hy, h1⟩
            · exact HNE.out _ hmem k hk h1
            · obtain ⟨i, hi2, rfl⟩ := List.getElem_of_mem hy
              rw [List.getElem_take] at h1
              rw [List.length_take] at hi2
              exact (List.pairwise_iff_getElem.1 HPW.out) i j (by omega) hlt (by omega) k h1 hk
          · have := (HOW.out _ hmem).lt k hk; omega
        have hsum : ((l.take (j + 1)).map fun y => parts ( y)).sum = ((l.take j).map fun y => parts ( y)).sum + parts ( l[j]) := by
          rw [List.take_succ_eq_append_getElem hlt, List.map_append, List.sum_append]
          simp
        have hle : ((l.take (j + 1)).map fun y => parts ( y)).sum ≤ (l.map fun y => parts ( y)).sum := by
          have e : l.map (fun y => parts ( y)) = (l.take (j + 1)).map (fun y => parts ( y)) ++ (l.drop (j + 1)).map (fun y => parts ( y)) := by rw [← List.map_append, List.take_append_drop]
          rw [e, List.sum_append]
          omega
        have hcall := fun W (f : Fr no wr W) => IH.out l[j] hmem W b V1 R1 (HG.out.bc.kept0 f) ((hoj _ hmem).kept0 f) ((hgd _ hmem).kept0 f) hdj (fun i => by have a := HL.out i; have b := HG.out.len i; omega)
        rw [hfj.agg] at hcall
        have HC := Lib.hid hcall; have HSUM := Lib.hid hsum
        clear hcall hX hrw hoj hgd hdj hfj hnb hnk hsum hle
        go_wp2_with fail
        refine (HC.out _ (by (repeat first | exact Fr.refl _ _ | exact Fr.drewN _ _ _ | apply Fr.drew | apply Fr.alloc | apply Fr.setAt | apply Fr.moreN))).mono ?_
        rintro e w5 ⟨rfl, V2, R2, hg2⟩
        have hg3 := (HG.out.trans (by (repeat first | exact Fr.refl _ _ | exact Fr.drewN _ _ _ | apply Fr.drew | apply Fr.alloc | apply Fr.setAt | apply Fr.moreN) : Fr no wr _) hg2).weaken (N' := fun k => (Value.slice (some ⟨xb, xo, none⟩) l.length c).ownBlock = some k ∨ ∃ y ∈ l.take (j + 1), Blk ( y) k) (g' := 1 + 3 * ((l.take (j + 1)).map fun y => parts ( y)).sum) (fun k hk => by
          rcases hk with (hk | ⟨y, hy, hk⟩) | hk
          · exact .inl hk
          · exact .inr ⟨y, List.take_subset_take_left l (Nat.le_succ j) hy, hk⟩
          · exact .inr ⟨_, (by rw [List.take_succ_eq_append_getElem hlt]; exact List.mem_append_right _ (List.mem_singleton.2 rfl)), hk⟩) (by rw [HSUM.out]; omega)
        have HG3 := Lib.hid hg3
        clear hg2 hg3 q0 q1 q2 q3 q4 q5 q6 hgl
        go_wp2
        go_roundw
        case rel => exact ⟨j + 1, V2, R2, hlt, by first | rfl | go_num, HG3.out⟩
        case measure => simp [intOf]; omega
      · obtain rfl : j = l.length := by omega
        have hg := HG.out
        rw [List.take_length] at hg
        have HG2 := Lib.hid hg
        clear hg HG
        go_wp2
        go_end0
        exact ⟨rfl, V1, R1, HG2.out⟩

set_option maxRecDepth 100000 in
set_option maxHeartbeats 4000000 in
theorem bc_fields_of (l : List (List UInt8 × Tr Mm)) (ih : ∀ y ∈ l, BookFOk y) (w : World) (b : Nat) (V : Nat → Value) (R : Nat → List Value) (X : Value) (h : Bc w b V R) (ho : Ow w 87 8 X l.length (l.flatMap fcells)) (hi : InF w X l) (how : ∀ y ∈ l, Tr.Own w (Prod.snd y)) (hpw : l.Pairwise fun y z => ∀ k, Blk (Prod.snd y) k → ¬ Blk (Prod.snd z) k) (hne : ∀ y ∈ l, ∀ k, Blk (Prod.snd y) k → X.ownBlock ≠ some k) (hd : ∀ k, (X.ownBlock = some k ∨ ∃ y ∈ l, Blk (Prod.snd y) k) → ¬ BcF b V R k) (hln : l.length ≤ 1000000) (hl : ∀ i, (R i).length + (1 + 3 * (l.map fun y => parts (Prod.snd y)).sum) ≤ 1000000) :
    Calls Tryz.prog 67 #[.pointer (some ⟨b, 0, none⟩), X] w fun e w' => Grown w w' b V R (fun k => X.ownBlock = some k ∨ ∃ y ∈ l, Blk (Prod.snd y) k) (1 + 3 * (l.map fun y => parts (Prod.snd y)).sum) e := by
  obtain ⟨A, c, rfl, _, _⟩ := hi.sl.form
  have hnl : l.length ≤ 140737488351232 := hi.n
  have hc0 := h.bq.cell 19 (by omega)
  have hfz := h.bq.frozen 19
  have hbs := h.bq.lt
  have hrow := h.bq.row 19 (by unfold kept4; omega)
  have hr : RowOk w 19 (.slice A l.length c) := ⟨l.length, _, by show l.length ≤ 1000000; omega, ho⟩
  have hlr : (R 19).length ≤ 1000000 := by have := hl 19; omega
  obtain ⟨B, d, hv, _, _⟩ := hrow.form
  rw [hv] at hc0
  have HB := Lib.hid h; have HR := Lib.hid hr; have HD := Lib.hid hd; have HV := Lib.hid hv; have HO := Lib.hid ho; have HI := Lib.hid hi; have HOW := Lib.hid how; have HPW := Lib.hid hpw; have HNE := Lib.hid hne; have HL := Lib.hid hl; have IH := Lib.hid ih
  rw [hv] at hrow
  have HROW := Lib.hid hrow
  clear h hr hd hv hrow ho hi how hpw hne hl ih
  go_enter Tryz.func67, Tryz.ntmps67
  go_wp2_with (at_builtin; refine wpList_apo rfl (.tmp 9) (.tmp 11) 58 rfl tbFF (HROW.out.kept0 ((Fr.refl no _).alloc _)) (Sl.built w _ _) rfl rfl (by simp [Value.oneCell']) ?b1 ?b2 ?go)
  case b1 => simp only [maxLen]; omega
  case b2 => omega
  case go =>
    intro A' N c' w2 hN ho hold hf2 hst
    have f0 := (Fr.refl no w).alloc (.cells #[.slice A l.length c] 25)
    have hp := Bc.put (i := 19) HB.out f0 (by unfold kept4; omega) (by rw [HV.out]; exact hf2) hN ho (by rw [HV.out]; exact hst) HR.out (fun k hk => HD.out k (.inl hk))
    have hnb : ¬ (Value.slice B (R 19).length d).ownBlock = some b := by rw [← HV.out]; exact HB.out.bq.ne 19
    have hh := hf2.heap (f0.heap HB.out.bq.at_ (fun h => h)) hnb
    have hc1 : w2.cell? ⟨b, 19, none⟩ = some (V 19) := by simp [World.cell?, hh, cells23]
    rw [HV.out] at hc1
    have hz1 : w2.frozen? ⟨b, 19, none⟩ = false := by simp [World.frozen?, hh]
    have hl1 : b < w2.heap.size := (Array.getElem?_eq_some_iff.1 hh).1
    have HP := Lib.hid hp; clear ho hold hf2 hst f0 hp hnb hh hN hc0 hfz hbs
    go_wp2
    clear hc1 hz1 hl1
    obtain ⟨p1, p2, p3, p5, p4⟩ := HP.out
    have hg0 : GrB w (w2.setCell ⟨b, 19, none⟩ (.slice A' N c')) b V R (upd V 19 (.slice A' N c')) (upd R 19 (R 19 ++ [.slice A l.length c])) (fun k => (Value.slice A l.length c).ownBlock = some k) 1 := ⟨p1, p2, p3, p5, p4⟩
    have HG0 := Lib.hid hg0
    clear p1 p2 p3 p5 p4 hg0 HP
    go_loopw [4] (fun iv wr => ∃ (j : Nat) (V1 : Nat → Value) (R1 : Nat → List Value), j ≤ l.length ∧ iv = .int .i64 (j : Int) ∧ GrB w wr b V R V1 R1 (fun k => (Value.slice A l.length c).ownBlock = some k ∨ ∃ y ∈ l.take j, Blk (Prod.snd y) k) (1 + 3 * ((l.take j).map fun y => parts (Prod.snd y)).sum)) (fun iv _ => l.length - (intOf iv).toNat)
    case atStart => exact ⟨0, _, _, Nat.zero_le _, rfl, HG0.out.weaken (fun k h => .inl h) (by simp)⟩
    case round =>
      obtain ⟨j, V1, R1, hj, rfl, hg⟩ := hrel
      have HG := Lib.hid hg; clear hg
      by_cases hlt : j < l.length
      · have hmem : l[j] ∈ l := List.getElem_mem _
        have hnb : ∀ k, (Value.slice A l.length c).ownBlock = some k → ¬ BkO b V k := fun k hk h => HD.out k (.inl hk) h.bc
        have hnk : ∀ y ∈ l, ∀ k, Blk (Prod.snd y) k → ¬ BkO b V k := fun y hy k hk h => HD.out k (.inr ⟨y, hy, hk⟩) h.bc
        have hrw := HO.out.kept HG.out.fr hnb
        have hoj := fun y hy => (HOW.out y hy).kept HG.out.fr (hnk y hy)
        have hgd : ∀ y ∈ l, Tr.Good wr (Prod.snd y) := fun y hy => (hoj y hy).good rfl (HI.out.good y hy)
        have hX : InF wr (.slice A l.length c) l := ⟨hrw.sl, hgd, HI.out.n, HI.out.nm, HI.out.nw⟩
        obtain ⟨xb, xo, KB, kb, KL, kl, KF, kf, rfl, hfj, q0, q1, q2, q3, q4, q5, q6, q7, hgl⟩ := InF.get hX j hlt
        have hdj : ∀ k, Blk (Prod.snd l[j]) k → ¬ BcF b V1 R1 k := fun k hk h => by
          rcases HG.out.more k h with h1 | h1 | h1
          · exact HD.out k (.inr ⟨_, hmem, hk⟩) h1
          · rcases h1 with h1 | ⟨y, hy, h1⟩
            · exact HNE.out _ hmem k hk h1
            · obtain ⟨i, hi2, rfl⟩ := List.getElem_of_mem hy
              rw [List.getElem_take] at h1
              rw [List.length_take] at hi2
              exact (List.pairwise_iff_getElem.1 HPW.out) i j (by omega) hlt (by omega) k h1 hk
          · have := (HOW.out _ hmem).lt k hk; omega
        have hsum : ((l.take (j + 1)).map fun y => parts (Prod.snd y)).sum = ((l.take j).map fun y => parts (Prod.snd y)).sum + parts (Prod.snd l[j]) := by
          rw [List.take_succ_eq_append_getElem hlt, List.map_append, List.sum_append]
          simp
        have hle : ((l.take (j + 1)).map fun y => parts (Prod.snd y)).sum ≤ (l.map fun y => parts (Prod.snd y)).sum := by
          have e : l.map (fun y => parts (Prod.snd y)) = (l.take (j + 1)).map (fun y => parts (Prod.snd y)) ++ (l.drop (j + 1)).map (fun y => parts (Prod.snd y)) := by rw [← List.map_append, List.take_append_drop]
          rw [e, List.sum_append]
          omega
        have hcall := fun W (f : Fr no wr W) => IH.out l[j] hmem W b V1 R1 (HG.out.bc.kept0 f) ((hoj _ hmem).kept0 f) ((hgd _ hmem).kept0 f) hdj (fun i => by have a := HL.out i; have b := HG.out.len i; omega)
        unfold fagg at hcall
        rw [hfj.B, hfj.L, hfj.F] at hcall
        have HC := Lib.hid hcall; have HSUM := Lib.hid hsum
        clear hcall hX hrw hoj hgd hdj hfj hnb hnk hsum hle
        go_wp2_with fail
        refine (HC.out _ (by (repeat first | exact Fr.refl _ _ | exact Fr.drewN _ _ _ | apply Fr.drew | apply Fr.alloc | apply Fr.setAt | apply Fr.moreN))).mono ?_
        rintro e w5 ⟨rfl, V2, R2, hg2⟩
        have hg3 := (HG.out.trans (by (repeat first | exact Fr.refl _ _ | exact Fr.drewN _ _ _ | apply Fr.drew | apply Fr.alloc | apply Fr.setAt | apply Fr.moreN) : Fr no wr _) hg2).weaken (N' := fun k => (Value.slice (some ⟨xb, xo, none⟩) l.length c).ownBlock = some k ∨ ∃ y ∈ l.take (j + 1), Blk (Prod.snd y) k) (g' := 1 + 3 * ((l.take (j + 1)).map fun y => parts (Prod.snd y)).sum) (fun k hk => by
          rcases hk with (hk | ⟨y, hy, hk⟩) | hk
          · exact .inl hk
          · exact .inr ⟨y, List.take_subset_take_left l (Nat.le_succ j) hy, hk⟩
          · exact .inr ⟨_, (by rw [List.take_succ_eq_append_getElem hlt]; exact List.mem_append_right _ (List.mem_singleton.2 rfl)), hk⟩) (by rw [HSUM.out]; omega)
        have HG3 := Lib.hid hg3
        clear hg2 hg3 q0 q1 q2 q3 q4 q5 q6 q7 hgl
        go_wp2
        go_roundw
        case rel => exact ⟨j + 1, V2, R2, hlt, by first | rfl | go_num, HG3.out⟩
        case measure => simp [intOf]; omega
      · obtain rfl : j = l.length := by omega
        have hg := HG.out
        rw [List.take_length] at hg
        have HG2 := Lib.hid hg
        clear hg HG
        go_wp2
        go_end0
        exact ⟨rfl, V1, R1, HG2.out⟩
end Go.Proofs.YtijcleiekafoiaaGreatDoor

/- The book finds what it has its owner's. Printed by mkbookv.py. -/
namespace Go.Proofs.YtijcleiekafoiaaGreatDoor
open Go.RowKit

theorem Bc.two {w w' : World} {b i : Nat} {V : Nat → Value} {R : Nat → List Value} (h : Bc w b V R) (hk : kept4 i) (f : Fr (fun k => ∃ j, j < i ∧ InRows (R j) k) w w') :
    ∃ (ns : Nat → Nat) (C : Nat → List Value) (A : Option Addr) (c : Nat), (∀ j, ns j ≤ rL i) ∧ V i = .slice A (R i).length c ∧ Two w' (rT i) (rS i) (.slice A (R i).length c) (R i) ns C := by
  have hex : ∀ j, ∃ nc : Nat × List Value, nc.1 ≤ rL i ∧ ∀ h2 : j < (R i).length, Ow w (rT i) (rS i) (R i)[j] nc.1 nc.2 := fun j => by
    by_cases h2 : j < (R i).length
    · obtain ⟨n, xs, h3, h4⟩ := h.ok i _ (List.getElem_mem h2)
      exact ⟨(n, xs), h3, fun _ => h4⟩
    · exact ⟨(0, []), Nat.zero_le _, fun h3 => absurd h3 h2⟩
  obtain ⟨A, c, hv, _, _⟩ := (h.bq.row i hk).form
  have hr : ∀ v ∈ R i, ∀ k, v.ownBlock = some k → ¬ ∃ j, j < i ∧ InRows (R j) k := fun v hv k hk2 ⟨j, hj, v', hv', e⟩ => h.px j i (by omega) v' hv' v hv k e hk2
  refine ⟨fun j => (Classical.choose (hex j)).1, fun j => (Classical.choose (hex j)).2, A, c, fun j => (Classical.choose_spec (hex j)).1, hv, ?_, ?_, fun j hj => ?_, fun j j' hj hj' k hne e e2 => ?_⟩
  · rw [← hv]
    exact ((h.bq.row i hk).kept f (fun k hk2 ⟨j, _, v', hv', e⟩ => (h.away j v' hv' k e).2 i hk2)).sl
  · rintro k hk2 ⟨v, hv2, e⟩
    rw [← hv] at hk2
    exact (h.away i v hv2 k e).2 i hk2
  · exact ((Classical.choose_spec (hex j)).2 hj).kept f (fun k hk2 => hr _ (List.getElem_mem hj) k hk2)
  · have := h.pi i
    rw [List.pairwise_iff_getElem] at this
    rcases Nat.lt_or_gt_of_ne hne with h1 | h1
    · exact this j j' hj hj' h1 k e e2
    · exact this j' j hj' hj h1 k e2 e

/-- The book's rows ahead of the i-th list. -/
def RowsTo (R : Nat → List Value) (i : Nat) : Nat → Prop := fun k => ∃ j, j < i ∧ InRows (R j) k

set_option maxRecDepth 100000 in
theorem bc_own (w : World) (b : Nat) (V : Nat → Value) (R : Nat → List Value) (h : Bc w b V R) (hl : ∀ i, (R i).length ≤ 1000000) :
    Calls Tryz.prog 15 #[.pointer (some ⟨b, 0, none⟩)] w fun e w' => e = .returned (.bool true) ∧ Fr (RowsTo R 23) w w' := by
  have hstep : ∀ i w' w'', Fr (RowsTo R i) w w' → Fr (InRows (R i)) w' w'' → Fr (RowsTo R (i + 1)) w w'' := fun i w' w'' h1 h2 =>
    (h1.mono (fun k _ ⟨j, hj, e⟩ => ⟨j, by omega, e⟩)).trans h2 (fun k _ e => ⟨i, by omega, e⟩)
  have hmore : ∀ i w', Fr (RowsTo R i) w w' → Fr (RowsTo R (i + 1)) w w' := fun i w' h1 => h1.mono (fun k _ ⟨j, hj, e⟩ => ⟨j, by omega, e⟩)
  have hnil : ∀ f : FuncId, (∀ w' : World, Calls Tryz.prog f #[.slice none 0 0] w' fun e w'' => e = .returned (.bool true) ∧ w'' = w') → ∀ i, ¬ kept4 i → ∀ w', Fr (RowsTo R i) w w' →
      Calls Tryz.prog f #[V i] w' fun e w'' => e = .returned (.bool true) ∧ Fr (RowsTo R (i + 1)) w w'' := by
    intro f hf i hi w' hw
    rw [(h.bq.none_ i hi).1]
    exact (hf w').mono fun e w'' ⟨h1, h2⟩ => ⟨h1, by rw [h2]; exact hmore i w' hw⟩
  have hcell : ∀ i w', i < 23 → Fr (RowsTo R i) w w' → w'.cell? ⟨b, i, none⟩ = some (V i) := fun i w' hi hw => by
    refine hw.cell (h.bq.cell i hi) ?_
    rintro ⟨j, _, v, hv, e⟩
    exact (h.away j v hv b e).1 rfl
  have hVl : ∀ i, kept4 i → ∀ w', Fr (RowsTo R i) w w' → ∀ k, (V i).ownBlock = some k → k < w'.heap.size := fun i hi w' hw k hk => Nat.lt_of_lt_of_le ((h.bq.row i hi).lt k hk) hw.size
  refine (own_all b w V (fun i w' => Fr (RowsTo R i) w w') (Fr.refl _ _) hcell ?q0 (hnil _ ownTexts_nil 1 (by unfold kept4; omega)) (hnil _ ownInts_nil 2 (by unfold kept4; omega)) (hnil _ ownLongs_nil 3 (by unfold kept4; omega)) (hnil _ ownNumbers_nil 4 (by unfold kept4; omega)) (hnil _ ownWords_nil 5 (by unfold kept4; omega)) (hnil _ ownSteps_nil 6 (by unfold kept4; omega)) (hnil _ ownParts_nil 7 (by unfold kept4; omega)) (hnil _ ownDones_nil 8 (by unfold kept4; omega)) (hnil _ ownRows_nil 9 (by unfold kept4; omega)) (hnil _ ownLists_nil 10 (by unfold kept4; omega)) (hnil _ ownIntLists_nil 11 (by unfold kept4; omega)) (hnil _ ownPaths_nil 12 (by unfold kept4; omega)) (hnil _ ownPairs_nil 13 (by unfold kept4; omega)) (hnil _ ownChanges_nil 14 (by unfold kept4; omega)) (hnil _ ownSpans_nil 15 (by unfold kept4; omega)) (hnil _ ownEntries_nil 16 (by unfold kept4; omega)) ?q17 ?q18 ?q19 (hnil _ ownIndexes_nil 20 (by unfold kept4; omega)) (hnil _ ownEvents_nil 21 (by unfold kept4; omega)) (hnil _ ownCommits_nil 22 (by unfold kept4; omega))).mono (fun e w' h => h)
  case q0 =>
    intro w' hw
    obtain ⟨ns, C, A, c, h1, h2, h3⟩ := h.two (i := 0) (by unfold kept4; omega) hw
    have h4 := hVl 0 (by unfold kept4; omega) w' hw
    rw [h2] at h4 ⊢
    exact (own_bytes w' A c (R 0) ns C h3 h4 (hl 0) h1).mono fun e w'' ⟨h5, h6⟩ => ⟨h5, hstep 0 w' w'' hw h6⟩
  case q18 =>
    intro w' hw
    obtain ⟨ns, C, A, c, h1, h2, h3⟩ := h.two (i := 18) (by unfold kept4; omega) hw
    have h4 := hVl 18 (by unfold kept4; omega) w' hw
    rw [h2] at h4 ⊢
    exact (own_vals w' A c (R 18) ns C h3 h4 (hl 18) h1).mono fun e w'' ⟨h5, h6⟩ => ⟨h5, hstep 18 w' w'' hw h6⟩
  case q19 =>
    intro w' hw
    obtain ⟨ns, C, A, c, h1, h2, h3⟩ := h.two (i := 19) (by unfold kept4; omega) hw
    have h4 := hVl 19 (by unfold kept4; omega) w' hw
    rw [h2] at h4 ⊢
    exact (own_flds w' A c (R 19) ns C h3 h4 (hl 19) h1).mono fun e w'' ⟨h5, h6⟩ => ⟨h5, hstep 19 w' w'' hw h6⟩
  case q17 =>
    intro w' hw
    rw [(h.bq.none_ 17 (by unfold kept4; omega)).1]
    exact (ownBools_nil w').mono fun e w'' ⟨h1, h2⟩ => ⟨h1, hmore 17 w'' (hw.trans h2 (fun _ _ h => h.elim))⟩
end Go.Proofs.YtijcleiekafoiaaGreatDoor

/- The book: a value, with all below it. -/
namespace Go.Proofs.YtijcleiekafoiaaGreatDoor
open Go.RowKit Go.Shelf
open Tr

theorem parts_sum (x : Tr Mm) : parts x = 1 + ((x.l.map fun y => parts y).sum + (x.f.map fun p => parts p.2).sum) := by
  have h2 : ∀ l : List (Tr Mm), (l.map fun a => (pre 2 a).length) = l.map parts := fun l => List.map_congr_left (fun y _ => pre_len 2 1 y)
  unfold parts
  rw [pre_eq, List.length_cons, List.length_flatMap, h2]
  unfold kids
  rw [List.map_append, List.sum_append, List.map_map]
  rw [Nat.add_comm]
  rfl
theorem len_parts {α : Type} (f : α → Tr Mm) : ∀ l : List α, l.length ≤ (l.map fun y => parts (f y)).sum
  | [] => Nat.le_refl _
  | x :: l => by
    have h1 := pre_pos 1 (f x)
    have h2 := len_parts f l
    simp only [List.length_cons, List.map_cons, List.sum_cons]
    unfold parts at h2 ⊢
    omega

set_option maxRecDepth 100000 in
theorem bc_field_of (p : List UInt8 × Tr Mm) (ih : BookOk p.2) : BookFOk p := by
  obtain ⟨n, x⟩ := p
  intro w b V R h ho hg hd hl
  obtain ⟨BA, bc, LA, lc, FA, fc, hf⟩ := hg.node.forms
  have hcall := fun W (f : Fr no w W) => ih W b V R (h.kept0 f) (ho.kept0 f) (hg.kept0 f) hd hl
  simp only at hf hcall
  rw [hf.agg] at hcall
  unfold fagg
  simp only
  rw [hf.B, hf.L, hf.F]
  have HC := Lib.hid hcall
  clear h ho hg hd hl ih hf hcall
  go_enter Tryz.func104, Tryz.ntmps104
  go_wp2_with fail
  refine (HC.out _ (by (repeat first | exact Fr.refl _ _ | exact Fr.drewN _ _ _ | apply Fr.drew | apply Fr.alloc | apply Fr.setAt | apply Fr.moreN))).mono ?_
  rintro e w5 ⟨rfl, V2, R2, hg2⟩
  have HG := Lib.hid (hg2.before (by (repeat first | exact Fr.refl _ _ | exact Fr.drewN _ _ _ | apply Fr.drew | apply Fr.alloc | apply Fr.setAt | apply Fr.moreN) : Fr no w _))
  clear hg2
  go_wp2
  go_end0
  exact ⟨rfl, V2, R2, HG.out⟩

set_option maxRecDepth 100000 in
set_option maxHeartbeats 4000000 in
theorem bc_value_any (x : Tr Mm) : BookOk x := by
  induction x using Tr.ind with
  | h x ih =>
    intro w b V R h ho hg hd hl
    obtain ⟨BA, bc, LA, lc, FA, fc, hf⟩ := hg.node.forms
    have hps := parts_sum x
    have hl1 := len_parts (fun y : Tr Mm => y) x.l
    have hl2 := len_parts (fun p : List UInt8 × Tr Mm => p.2) x.f
    have hle : 3 * parts x ≤ 1000000 := by have := hl 0; omega
    have hnb : x.bs.length ≤ 140737488351232 := hg.node.bs
    have hap := ho.ap
    have hpk := hap.kids
    unfold kids at hpk
    have hpl := (List.pairwise_append.1 hpk).1
    have hpf : x.f.Pairwise fun p q => ∀ k, Blk p.2 k → ¬ Blk q.2 k := List.pairwise_map.1 (List.pairwise_append.1 hpk).2.1
    have hplf := (List.pairwise_append.1 hpk).2.2
    have hLk : ∀ z ∈ x.l, z ∈ x.kids := fun z hz => List.mem_append_left _ hz
    have hFk : ∀ p ∈ x.f, p.2 ∈ x.kids := fun p hp => List.mem_append_right _ (List.mem_map_of_mem hp)
    have hbl := h.lt
    have hlo := ho.lt
    have hbo : ∀ k, Blk x k → ¬ BkO b V k := fun k hk h2 => hd k hk h2.bc
    have c1 := fun W (f : Fr no w W) => bc_bytes W b V R BA x.bs.length bc (h.kept0 f) (by have := hl 0; omega) ⟨x.bs.length, _, hnb, by rw [← hf.B]; exact ho.B.kept0 f⟩ (fun k hk => hd k (.B x k (by rw [hf.B]; exact hk)))
    rw [hf.agg]
    have hb0 := heap_alloc_new w (.cells #[.int .u8 x.k.toNat, .bool x.b, .int .i64 x.i, .string ⟨x.t.toArray⟩, .slice BA x.bs.length bc, .slice LA x.l.length lc, .slice FA x.f.length fc] 27)
    have hf0 : Fr no w (w.alloc (.cells #[.int .u8 x.k.toNat, .bool x.b, .int .i64 x.i, .string ⟨x.t.toArray⟩, .slice BA x.bs.length bc, .slice LA x.l.length lc, .slice FA x.f.length fc] 27)) := by (repeat first | exact Fr.refl _ _ | exact Fr.drewN _ _ _ | apply Fr.drew | apply Fr.alloc | apply Fr.setAt | apply Fr.moreN)
    have hnw : ¬ BkO b V w.heap.size := fun h2 => by have := hbl _ h2.bc; omega
    have H := Lib.hid h; have HO := Lib.hid ho; have HG := Lib.hid hg; have HD := Lib.hid hd; have HL := Lib.hid hl; have HF := Lib.hid hf; have HPS := Lib.hid hps; have HL1 := Lib.hid hl1; have HL2 := Lib.hid hl2; have HLE := Lib.hid hle; have HPL := Lib.hid hpl; have HPF := Lib.hid hpf; have HPLF := Lib.hid hplf; have HLK := Lib.hid hLk; have HFK := Lib.hid hFk; have HLO := Lib.hid hlo; have HBO := Lib.hid hbo; have HC1 := Lib.hid c1; have HB0 := Lib.hid hb0; have HF0 := Lib.hid hf0; have HNW := Lib.hid hnw; have HAP := Lib.hid hap; have IH := Lib.hid ih
    clear h ho hg hd hl hf hps hl1 hl2 hle hpl hpf hplf hLk hFk hbl hlo hbo c1 hb0 hf0 hnw hap hpk ih
    go_enter Tryz.func22, Tryz.ntmps22
    go_wp2_with fail
    refine (HC1.out _ HF0.out).mono ?_
    rintro e w1 ⟨rfl, V1, R1, g1⟩
    have g1' := g1.before HF0.out
    have hr1 := g1.fr.heap HB0.out HNW.out
    have ho1 := HO.out.kept g1'.fr HBO.out
    have hg1 : Tr.Good w1 x := ho1.good rfl HG.out
    have hb1 : ∀ k, Blk x k → (Value.slice BA x.bs.length bc).ownBlock ≠ some k → ¬ BcF b V1 R1 k := fun k hk hne h2 => by
      rcases g1'.more k h2 with h3 | h3 | h3
      · exact HD.out k hk h3
      · exact hne h3
      · have := HLO.out k hk; omega
    have c2 := bc_values_of x.l (fun z hz => IH.out z (HLK.out z hz)) w1 b V1 R1 (.slice LA x.l.length lc) g1.bc (by rw [← HF.out.L]; exact ho1.L) (by rw [← HF.out.L]; exact hg1.inL) (fun z hz => ho1.kids z (HLK.out z hz)) HPL.out (fun z hz k hk => by rw [← HF.out.L]; exact (HAP.out.kid z (HLK.out z hz) k hk).2.1) (fun k hk => by
        rcases hk with hk | ⟨z, hz, hk⟩
        · exact hb1 k (.L x k (by rw [HF.out.L]; exact hk)) (fun e => HAP.out.bl k (by rw [HF.out.B]; exact e) (by rw [HF.out.L]; exact hk))
        · exact hb1 k (.kid x z k (HLK.out z hz) hk) (by rw [← HF.out.B]; exact (HAP.out.kid z (HLK.out z hz) k hk).1)) (by have := HL1.out; have := HPS.out; have := HLE.out; omega) (fun i => by have a := HL.out i; have b := g1.len i; have c := HPS.out; omega)
    have hnw1 : ¬ BkO b V1 w.heap.size := fun h2 => by
      rcases g1.own _ h2 with h3 | h3
      · exact HNW.out h3
      · rw [World.size_alloc] at h3; omega
    have hbo1 : ∀ k, Blk x k → ¬ BkO b V1 k := fun k hk h2 => by
      rcases g1'.own _ h2 with h3 | h3
      · exact HBO.out k hk h3
      · have := HLO.out k hk; omega
    have hs1 : w.heap.size ≤ w1.heap.size := g1'.fr.size
    have C2 := Lib.hid c2; have G1 := Lib.hid g1'; have HR1 := Lib.hid hr1; have HO1 := Lib.hid ho1; have HB1 := Lib.hid hb1; have HNW1 := Lib.hid hnw1; have HBO1 := Lib.hid hbo1; have HS1 := Lib.hid hs1
    clear g1 g1' hr1 ho1 hg1 hb1 c2 HC1 hnw1 hbo1 hs1
    obtain ⟨q0, q1, q2, q3, q4, q5, q6, qz, ql⟩ := seven_cells HR1.out
    go_wp2_with fail
    refine C2.out.mono ?_
    rintro e w2 ⟨rfl, V2, R2, g2⟩
    clear q0 q1 q2 q3 q4 q5 q6 qz ql
    have hr2 := g2.fr.heap HR1.out HNW1.out
    have ho2 := HO1.out.kept g2.fr HBO1.out
    have hg2 : Tr.Good w2 x := ho2.good rfl HG.out
    have hb2 : ∀ k, Blk x k → (Value.slice BA x.bs.length bc).ownBlock ≠ some k → (Value.slice LA x.l.length lc).ownBlock ≠ some k → (∀ z ∈ x.l, ¬ Blk z k) → ¬ BcF b V2 R2 k := fun k hk hne hne2 hnl h2 => by
      rcases g2.more k h2 with h3 | h3 | h3
      · exact HB1.out k hk hne h3
      · rcases h3 with h3 | ⟨z, hz, h3⟩
        · exact hne2 h3
        · exact hnl z hz h3
      · have := HLO.out k hk; have := HS1.out; omega
    have c3 := bc_fields_of x.f (fun p hp => bc_field_of p (IH.out p.2 (HFK.out p hp))) w2 b V2 R2 (.slice FA x.f.length fc) g2.bc (by rw [← HF.out.F]; exact ho2.F) (by rw [← HF.out.F]; exact hg2.inF) (fun p hp => ho2.kids p.2 (HFK.out p hp)) HPF.out (fun p hp k hk => by rw [← HF.out.F]; exact (HAP.out.kid p.2 (HFK.out p hp) k hk).2.2) (fun k hk => by
        rcases hk with hk | ⟨p, hp, hk⟩
        · refine hb2 k (.F x k (by rw [HF.out.F]; exact hk)) (fun e => HAP.out.bf k (by rw [HF.out.B]; exact e) (by rw [HF.out.F]; exact hk)) (fun e => HAP.out.lf k (by rw [HF.out.L]; exact e) (by rw [HF.out.F]; exact hk)) (fun z hz hzk => (HAP.out.kid z (HLK.out z hz) k hzk).2.2 (by rw [HF.out.F]; exact hk))
        · refine hb2 k (.kid x p.2 k (HFK.out p hp) hk) (by rw [← HF.out.B]; exact (HAP.out.kid p.2 (HFK.out p hp) k hk).1) (by rw [← HF.out.L]; exact (HAP.out.kid p.2 (HFK.out p hp) k hk).2.1) (fun z hz hzk => HPLF.out z hz p.2 (List.mem_map_of_mem hp) k hzk hk)) (by have := HL2.out; have := HPS.out; have := HLE.out; omega) (fun i => by have a := HL.out i; have b := G1.out.len i; have d := g2.len i; have c := HPS.out; omega)
    have hg12 := G1.out.trans (Fr.refl no w1) g2
    have C3 := Lib.hid c3; have G12 := Lib.hid hg12; have HR2 := Lib.hid hr2
    clear c3 hg12 hr2 g2 ho2 hg2 hb2 C2
    obtain ⟨q0, q1, q2, q3, q4, q5, q6, qz, ql⟩ := seven_cells HR2.out
    go_wp2_with fail
    refine C3.out.mono ?_
    rintro e w3 ⟨rfl, V3, R3, g3⟩
    clear q0 q1 q2 q3 q4 q5 q6 qz ql
    have hg := (G12.out.trans (Fr.refl no w2) g3).weaken (N' := Blk x) (g' := 3 * parts x) (fun k hk => by
      rcases hk with (hk | hk) | hk
      · exact .B x k (by rw [HF.out.B]; exact hk)
      · rcases hk with hk | ⟨z, hz, hk⟩
        · exact .L x k (by rw [HF.out.L]; exact hk)
        · exact .kid x z k (HLK.out z hz) hk
      · rcases hk with hk | ⟨p, hp, hk⟩
        · exact .F x k (by rw [HF.out.F]; exact hk)
        · exact .kid x p.2 k (HFK.out p hp) hk) (by have := HPS.out; omega)
    have HGF := Lib.hid hg
    clear g3 hg
    go_wp2
    go_end0
    exact ⟨rfl, V3, R3, HGF.out⟩
end Go.Proofs.YtijcleiekafoiaaGreatDoor

/- An empty book. -/
namespace Go.Proofs.YtijcleiekafoiaaGreatDoor
open Go.RowKit
open Tr

abbrev V0 : Nat → Value := fun _ => .slice none 0 0
abbrev R0 : Nat → List Value := fun _ => []
/-- An empty book. -/
theorem bcv_nil {w : World} {b : Nat} (h : w.heap[b]? = some (.cells (cells23 V0) 63 (0, 0))) : Bc w b V0 R0 := by
  refine ⟨⟨h, fun i _ => ⟨rfl, .inl ⟨rfl, rfl⟩⟩, fun i _ => ⟨rfl, rfl⟩, fun i => by simp [Value.ownBlock], fun i j _ k hk => by simp [Value.ownBlock] at hk⟩, fun i v hv => (nomatch hv), fun i => List.Pairwise.nil, fun i j _ v hv => (nomatch hv), fun i v hv => (nomatch hv)⟩
theorem bcf_nil {b k : Nat} (h : BcF b V0 R0 k) : k = b := by
  rcases h with h | ⟨i, h⟩ | ⟨i, v, hv, _⟩
  · exact h
  · cases h
  · cases hv
theorem bko_nil {b k : Nat} (h : BkO b V0 k) : k = b := by
  rcases h with h | ⟨i, h⟩
  · exact h
  · cases h
theorem GrB.far {w w1 : World} {b g : Nat} {V1 : Nat → Value} {R1 : Nat → List Value} {N : Nat → Prop} (h : GrB w w1 b V0 R0 V1 R1 N g) (hb : b < w.heap.size) {k : Nat} (hk : k < b) (hN : ¬ N k) : ¬ BcF b V1 R1 k := by
  intro h1
  rcases h.more k h1 with h2 | h2 | h2
  · have := bcf_nil h2; omega
  · exact hN h2
  · omega
theorem GrB.fr0 {w0 w w1 : World} {b g : Nat} {V1 : Nat → Value} {R1 : Nat → List Value} {N : Nat → Prop} (h : GrB w w1 b V0 R0 V1 R1 N g) (f : Fr no w0 w) (hb : b = w0.heap.size) : Fr no w0 w1 :=
  Fr.since f h.fr (fun k hk => by have := bko_nil hk; omega)
theorem GrB.len0 {w w1 : World} {b g : Nat} {V1 : Nat → Value} {R1 : Nat → List Value} {N : Nat → Prop} (h : GrB w w1 b V0 R0 V1 R1 N g) (i : Nat) : (R1 i).length ≤ g := by
  have := h.len i
  simpa using this
end Go.Proofs.YtijcleiekafoiaaGreatDoor

/- What is read as data, opened by its type: numbers, texts, structs, slices of any of these. General. -/
namespace Go
open Go.ChangeShapes Go.WideShapes Go.ChangeAt Go.RowKit

/-- A slice that is handed in lies in a block that is there. -/
theorem okWide_lt {P : Program} {w : World} {r : Reach} {base : Nat} {t e : TypeId} {v : Value} (ht : P.underlying t = some (.slice e)) (h : Value.okWide P w r base t v) : ∀ k, v.ownBlock = some k → k < w.heap.size := by
  simp only [Value.okWide, ht, Cell.okWide] at h
  intro k hk
  cases v <;> simp only [Value.ownBlock] at hk <;> try (cases hk; done)
  rename_i a len cap
  cases a with
  | none => simp at hk
  | some a =>
    simp only [Option.some.injEq] at hk
    subst hk
    simp only [Cell.ok, ht, World.has] at h
    obtain ⟨_, _, _, _, row, cells, h1, _⟩ := h
    unfold World.shape? at h1
    split at h1
    · rename_i h2; exact (Array.getElem?_eq_some_iff.1 h2).1
    · cases h1

/-- Cells that read as a datum of type t, within the reach. -/
def Td (P : Program) (w : World) (t : TypeId) (cs : List Value) : Prop :=
  ∃ (H : Type) (enc : TypeId × Value → H) (held : Bool) (fuel : Nat) (x : DataW H × List MemPlace), DataW.trod enc P w 0 (fun _ => true) held fuel t cs = some x ∧ ∀ n ∈ x.1.weights P t, n ≤ reachBytes

theorem wAll_mem {H : Type} {P : Program} {e : TypeId} : ∀ {l : List (DataW H)} {d : DataW H}, d ∈ l → ∀ n ∈ d.weights P e, n ∈ DataW.weightsAll P e l
  | d' :: r, d, hd, n, hn => by
    simp only [DataW.weightsAll, List.mem_append]
    rcases List.mem_cons.1 hd with rfl | h
    · exact Or.inl hn
    · exact Or.inr (wAll_mem h n hn)

theorem wEach_mem {H : Type} {P : Program} : ∀ {ts : List TypeId} {l : List (DataW H)} {j : Nat} {t : TypeId} {d : DataW H}, ts[j]? = some t → l[j]? = some d → ∀ n ∈ d.weights P t, n ∈ DataW.weightsEach P ts l
  | t' :: ts, d' :: r, 0, t, d, ht, hd, n, hn => by
    simp at ht hd; subst ht; subst hd
    simp only [DataW.weightsEach, List.mem_append]
    exact .inl hn
  | t' :: ts, d' :: r, j + 1, t, d, ht, hd, n, hn => by
    simp only [DataW.weightsEach, List.mem_append]
    exact .inr (wEach_mem (by simpa using ht) (by simpa using hd) n hn)
  | [], _, j, t, d, ht, hd, n, hn => by simp at ht
  | _ :: _, [], j, t, d, ht, hd, n, hn => by simp at hd

theorem trodAll_at {H : Type} {enc : TypeId × Value → H} {P : Program} {w : World} {base : Nat} {spare : Nat → Bool} {held : Bool} : ∀ {ts : List TypeId} {vs : List Value} {ds : List (DataW H)} {ps : List MemPlace},
    DataW.TrodAll enc P w base spare held ts vs ds ps → ∀ (j : Nat) t v, ts[j]? = some t → vs[j]? = some v → ∃ d p, ds[j]? = some d ∧ DataW.Trod enc P w base spare held t v d p
  | [], _, _, _, _, j, t, v, ht, _ => by simp at ht
  | t' :: ts, [], ds, ps, h, j, t, v, ht, hv => by simp at hv
  | t' :: ts, v' :: vs, [], ps, h, j, t, v, ht, hv => by simp [DataW.TrodAll] at h
  | t' :: ts, v' :: vs, d' :: ds, ps, h, j, t, v, ht, hv => by
    obtain ⟨p, q, h1, h2, rfl⟩ := h
    cases j with
    | zero => simp at ht hv; subst ht; subst hv; exact ⟨d', p, rfl, h1⟩
    | succ j => simpa using trodAll_at h2 j t v (by simpa using ht) (by simpa using hv)

/-- Of a row's hypotheses: each argument. -/
theorem Td.arg {H : Type} {enc : TypeId × Value → H} {P : Program} {w : World} {held : Bool} {ts : List TypeId} {vs : List Value} {ds : List (DataW H)} {ps : List MemPlace} {ts2 : List TypeId} {gs : List (DataW H)}
    (h : DataW.TrodAll enc P w 0 (fun _ => true) held ts vs ds ps) (hz : (DataW.weightsEach P (ts ++ ts2) (ds ++ gs)).all (· ≤ reachBytes) = true) (j : Nat) (t : TypeId) (v : Value) (ht : ts[j]? = some t) (hv : vs[j]? = some v) : Td P w t v.cells.toList := by
  obtain ⟨d, p, hd, fuel, hf⟩ := trodAll_at h j t v ht hv
  refine ⟨H, enc, held, fuel, (d, p), hf, fun n hn => ?_⟩
  have hj1 := (List.getElem?_eq_some_iff.1 ht).1
  have hj2 := (List.getElem?_eq_some_iff.1 hd).1
  have := List.all_eq_true.1 hz n (wEach_mem (j := j) (t := t) (d := d) (by rw [List.getElem?_append_left hj1, ht]) (by rw [List.getElem?_append_left hj2, hd]) n hn)
  simpa using this

theorem cell_spot0 {w : World} {b o : Nat} {sp : Option Nat} {v : Value} (h : w.cell? ⟨b, o, sp⟩ = some v) : sp = none := by
  cases sp with
  | none => rfl
  | some x =>
    unfold World.cell? at h
    split at h <;> simp at h

/-- Lists of lists of one length. -/
theorem flat_get {α : Type} {sz : Nat} (hs : 0 < sz) : ∀ (css : List (List α)) (_ : ∀ c ∈ css, c.length = sz) (j : Nat), css.flatten[j]? = (css[j / sz]?).bind (fun c => c[j % sz]?)
  | [], _, j => by simp
  | c :: css, h, j => by
    have hc := h c (.head _)
    rw [List.flatten_cons, List.getElem?_append]
    split
    · rename_i hj
      rw [Nat.div_eq_of_lt (by omega), Nat.mod_eq_of_lt (by omega)]
      simp
    · rename_i hj
      rw [flat_get hs css (fun c hc => h c (.tail _ hc)), hc]
      obtain ⟨k, rfl⟩ : ∃ k, j = k + sz := ⟨j - sz, by omega⟩
      rw [Nat.add_sub_cancel, Nat.add_div_right _ hs, Nat.add_mod_right]
      simp

theorem flat_len {α : Type} {sz : Nat} : ∀ (css : List (List α)) (_ : ∀ c ∈ css, c.length = sz), css.flatten.length = css.length * sz
  | [], _ => by simp
  | c :: css, h => by
    rw [List.flatten_cons, List.length_append, flat_len css (fun c hc => h c (.tail _ hc)), h c (.head _), List.length_cons, Nat.succ_mul, Nat.add_comm]

namespace Td
variable {P : Program} {w : World} {t e : TypeId} {cs : List Value}

theorem int {k : IntKind} (ht : P.underlying t = some (.int k)) (h : Td P w t cs) : ∃ n, cs = [.int k n] ∧ (Lit.int k n).wf = true := by
  obtain ⟨H, enc, held, fuel, x, hx, _⟩ := h
  obtain ⟨n, h1, _, h3⟩ := DataW.trod_int ht hx
  exact ⟨n, h1, h3⟩

theorem bool (ht : P.underlying t = some .bool) (h : Td P w t cs) : ∃ b, cs = [.bool b] := by
  obtain ⟨H, enc, held, fuel, x, hx, _⟩ := h
  obtain ⟨n, h1, _⟩ := DataW.trod_bool ht hx
  exact ⟨n, h1⟩

theorem str (ht : P.underlying t = some .string) (h : Td P w t cs) : ∃ s : ByteArray, cs = [.string s] ∧ s.size ≤ reachBytes := by
  obtain ⟨H, enc, held, fuel, x, hx, hw⟩ := h
  obtain ⟨s, h1, rfl, _⟩ := DataW.trod_string ht hx
  refine ⟨s, h1, hw _ ?_⟩
  simp [DataW.weights]

theorem struct {fs : Array Field} (ht : P.underlying t = some (.struct fs)) (h : Td P w t cs) : cs.length = P.cellsOf t ∧ ∀ (i : Nat) (f : Field), fs[i]? = some f → Td P w f.type ((cs.drop f.offset).take (P.cellsOf f.type)) := by
  obtain ⟨H, enc, held, fuel, x, hx, hw⟩ := h
  obtain ⟨xs, n, _, rfl, hl, hlen, hf⟩ := DataW.trod_struct ht hx
  refine ⟨hl, fun i f hi => ?_⟩
  have h1 := hf i f hi
  have hi2 := (Array.getElem?_eq_some_iff.1 hi).1
  obtain ⟨y, hy⟩ : ∃ y, xs[i]? = some y := ⟨xs[i]'(by omega), by simp⟩
  refine ⟨H, enc, held, n, y, by rw [h1, hy], fun m hm => hw m ?_⟩
  simp only [DataW.weights, ht]
  exact wEach_mem (j := i) (t := f.type) (d := y.1) (by simp [hi]) (by simp [hy]) m hm

theorem slice (ht : P.underlying t = some (.slice e)) (hs : 0 < P.cellsOf e) (h : Td P w t cs) :
    ∃ (v : Value) (css : List (List Value)), cs = [v] ∧ Sl w (P.cellsOf e) v css.length css.flatten ∧ (∀ c ∈ css, c.length = P.cellsOf e ∧ Td P w e c) ∧ css.length * P.bytesOf e ≤ reachBytes := by
  obtain ⟨H, enc, held, fuel, x, hx, hw⟩ := h
  rcases DataW.trod_slice ht hx with ⟨rfl, rfl⟩ | ⟨a, len, cap, elems, rest, n, _, rfl, rfl, _, hlc, hcm, hlen, hel, hsp, _⟩
  · exact ⟨_, [], rfl, Sl.nil _ _, by simp, by simp⟩
  · have hweigh : ∀ y ∈ elems, ∀ m ∈ y.1.weights P e, m ≤ reachBytes := fun y hy m hm => hw m (by
      simp only [DataW.weights, ht]
      exact .tail _ (List.mem_append_left _ (wAll_mem (List.mem_map_of_mem hy) m hm)))
    have hbytes : len * P.bytesOf e ≤ reachBytes := by
      have h1 := hw ((elems.length + rest.length) * P.bytesOf e) (by simp only [DataW.weights, ht, List.length_map]; exact .head _)
      have h2 : len * P.bytesOf e ≤ (elems.length + rest.length) * P.bytesOf e := Nat.mul_le_mul_right _ (by omega)
      omega
    have each : ∀ i, i < len → ∃ c, w.cells? 0 (a.add (i * P.cellsOf e)) (P.cellsOf e) = some c ∧ Td P w e c := by
      intro i hi
      have h1 := hel i hi
      have hy : elems[i]? = some (elems[i]'(by omega)) := by simp
      rw [hy, Option.bind_eq_some_iff] at h1
      obtain ⟨c, h2, h3⟩ := h1
      exact ⟨c, h2, H, enc, held, n, _, h3, hweigh _ (List.getElem_mem _)⟩
    by_cases hl0 : len = 0
    · by_cases hc0 : cap = 0
      · subst hl0; subst hc0
        exact ⟨_, [], rfl, ⟨by simp, .inl ⟨_, rfl, rfl⟩⟩, by simp, by simp⟩
      · subst hl0
        obtain ⟨hr, hj⟩ := hsp rfl
        have h1 := hj 0 (by omega)
        have hy : rest[0]? = some (rest[0]'(by omega)) := by simp
        rw [hy, Option.bind_eq_some_iff] at h1
        obtain ⟨c, h2, _⟩ := h1
        have h3 := (World.cells?_some h2).2
        have h4 := h3.2 0 hs
        simp only [Nat.zero_add, Nat.zero_mul, Addr.add_zero'] at h4
        obtain ⟨b, o, sp⟩ := a
        have h5 : sp = none := by
          have : c[0]? = some (c[0]'(by omega)) := by simp
          rw [this] at h4
          exact cell_spot0 h4
        subst h5
        exact ⟨_, [], rfl, ⟨by simp, .inr ⟨b, o, cap, rfl, by simp, hcm, by simp⟩⟩, by simp, by simp⟩
    · obtain ⟨b, o, sp⟩ := a
      have hsp0 : sp = none := by
        obtain ⟨c, h2, _⟩ := each 0 (by omega)
        have h3 := (World.cells?_some h2).2
        have h4 := h3.2 0 hs
        simp only [Nat.zero_mul, Addr.add_zero'] at h4
        have : c[0]? = some (c[0]'(by omega)) := by simp
        rw [this] at h4
        exact cell_spot0 h4
      subst hsp0
      refine ⟨_, (List.range len).map fun i => (w.cells? 0 ((⟨b, o, none⟩ : Addr).add (i * P.cellsOf e)) (P.cellsOf e)).getD [], rfl, ?_, ?_, ?_⟩
      · have hall : ∀ c ∈ (List.range len).map fun i => (w.cells? 0 ((⟨b, o, none⟩ : Addr).add (i * P.cellsOf e)) (P.cellsOf e)).getD [], c.length = P.cellsOf e := by
          intro c hc
          obtain ⟨i, hi, rfl⟩ := List.mem_map.1 hc
          obtain ⟨c, h2, _⟩ := each i (by simpa using hi)
          rw [h2]; exact (World.cells?_some h2).2.1
        refine ⟨flat_len _ hall, .inr ⟨b, o, cap, by simp, by simpa using hlc, hcm, fun j u hu => ?_⟩⟩
        rw [flat_get hs _ hall, Option.bind_eq_some_iff] at hu
        obtain ⟨c, h1, h2⟩ := hu
        rw [List.getElem?_map, Option.map_eq_some_iff] at h1
        obtain ⟨i, h3, rfl⟩ := h1
        obtain ⟨hi, rfl⟩ : j / P.cellsOf e < len ∧ i = j / P.cellsOf e := by
          have := List.getElem?_eq_some_iff.1 h3
          obtain ⟨h, h4⟩ := this
          simp at h h4
          exact ⟨h, h4.symm⟩
        obtain ⟨c, h4, _⟩ := each _ hi
        rw [h4] at h2
        have h5 := (World.cells?_some h4).2.2 (j % P.cellsOf e) (Nat.mod_lt _ hs)
        simp only [Option.getD_some] at h2
        rw [h2, Addr.add_add, Addr.add_lit, Nat.mul_comm, Nat.div_add_mod] at h5
        exact h5
      · intro c hc
        obtain ⟨i, hi, rfl⟩ := List.mem_map.1 hc
        obtain ⟨c, h2, h3⟩ := each i (by simpa using hi)
        rw [h2]; exact ⟨(World.cells?_some h2).2.1, h3⟩
      · simpa using hbytes

end Td

theorem u8_of_wf {n : Int} (h : (Lit.int .u8 n).wf = true) : 0 ≤ n ∧ n < 256 := by
  simp only [Lit.wf, Bool.and_eq_true, IntKind.min, IntKind.max, IntKind.signed, IntKind.bits] at h
  simp at h
  omega

theorem u64_of_wf {n : Int} (h : (Lit.int .u64 n).wf = true) : 0 ≤ n ∧ n < 18446744073709551616 := by
  simp only [Lit.wf, Bool.and_eq_true, IntKind.min, IntKind.max, IntKind.signed, IntKind.bits] at h
  simp at h
  omega

theorem i64_of_wf {n : Int} (h : (Lit.int .i64 n).wf = true) : -9223372036854775808 ≤ n ∧ n ≤ 9223372036854775807 := by
  simp only [Lit.wf, Bool.and_eq_true, IntKind.min, IntKind.max, IntKind.signed, IntKind.bits] at h
  simp at h
  omega

/-- A slice of bytes. -/
theorem Td.bytes {P : Program} {w : World} {t e : TypeId} {cs : List Value} (ht : P.underlying t = some (.slice e)) (he : P.underlying e = some (.int .u8)) (hc : P.cellsOf e = 1) (hb : P.bytesOf e = 1) (h : Td P w t cs) :
    ∃ (v : Value) (l : List UInt8), cs = [v] ∧ Sl w 1 v l.length (bvs l) ∧ l.length ≤ reachBytes := by
  obtain ⟨v, css, rfl, h1, h2, h3⟩ := h.slice ht (by omega)
  rw [hc] at h1
  have key : ∀ (css : List (List Value)), (∀ c ∈ css, c.length = P.cellsOf e ∧ Td P w e c) → ∃ l : List UInt8, l.length = css.length ∧ css.flatten = bvs l := by
    intro css
    induction css with
    | nil => intro _; exact ⟨[], rfl, rfl⟩
    | cons c css ih =>
      intro hall
      obtain ⟨l, e1, e2⟩ := ih fun c hc => hall c (.tail _ hc)
      obtain ⟨n, rfl, hn⟩ := (hall c (.head _)).2.int he
      obtain ⟨n0, n1⟩ := u8_of_wf hn
      refine ⟨UInt8.ofNat n.toNat :: l, by simp [e1], ?_⟩
      rw [List.flatten_cons, e2]
      simp only [bvs, Bv, List.map_cons, UInt8.toNat_ofNat', List.cons_append, List.nil_append, List.cons.injEq, and_true]
      congr 1
      omega
  obtain ⟨l, e1, e2⟩ := key css h2
  rw [e2, ← e1] at h1
  exact ⟨v, l, rfl, h1, by rw [hb, Nat.mul_one] at h3; omega⟩
end Go
