import Derived.Test.YtijcleiekafoiaaGreatDoorMr03
import Derived.Test.YtijcleiekafoiaaGreatDoorMb09
import Derived.Test.YtijcleiekafoiaaGreatDoorMb19

/- codicilref03.deep, parts, all. -/
namespace Go.Proofs.YtijcleiekafoiaaGreatDoor
open Go.RowKit Go.Shelf
open Tr

set_option maxRecDepth 100000 in
set_option maxHeartbeats 2000000 in
theorem deep3_any (n : Nat) : ∀ (_ : n ≤ 1000) (x : Tr Mm) (w : World) (_ : Tr.Good w x) (_ : parts x ≤ 1000000), Calls Tryz.prog 82 #[x.agg, .int .i64 (n : Int)] w fun e w' => e = .returned (.bool (deep n x)) ∧ Fr no w w' := by
  induction n with
  | zero =>
    intro _ x w hx hp
    obtain ⟨BA, bc, LA, lc, FA, fc, hf⟩ := hx.node.forms
    rw [hf.agg]
    have hd : deep 0 x = true := rfl
    have HD := Lib.hid hd
    clear hd hf hx
    go_enter Tryz.func82, Tryz.ntmps82
    go_wp2
    go_ret
    exact ⟨by rw [HD.out]; rfl, by (repeat first | exact Fr.refl _ _ | exact Fr.drewN _ _ _ | apply Fr.drew | apply Fr.alloc | apply Fr.setAt | apply Fr.moreN)⟩
  | succ n ih =>
    intro hn x w hx hp
    obtain ⟨BA, bc, LA, lc, FA, fc, hf⟩ := hx.node.forms
    have hk := fun W (f : Fr no w W) => kids3_any W x (hx.kept0 f) hp
    have hkl := kids_le x
    have hd : deep (n + 1) x = x.kids.any (deep n) := rfl
    have hpk : ∀ y ∈ x.kids, parts y ≤ 1000000 := fun y hy => Nat.le_trans (parts_kid hy) hp
    rw [hf.agg] at hk ⊢
    have g0 : (((n + 1 : Nat) : Int) == 0) = false := by rw [beq_eq_false_iff_ne]; omega
    have hw : IntKind.i64.wrap ((n : Int) + 1 - 1) = (n : Int) := (IntWalk.i64_in _ ⟨by omega, by omega⟩).trans (by omega)
    have hk6 : x.kids.length ≤ 1000000 := by omega
    have HK := Lib.hid hk; have HD := Lib.hid hd; have IH := Lib.hid (ih (by omega)); have HPK := Lib.hid hpk
    clear hk hd hf hx ih hkl hpk
    go_enter Tryz.func82, Tryz.ntmps82
    go_wp2_with fail
    refine (HK.out _ (by (repeat first | exact Fr.refl _ _ | exact Fr.drewN _ _ _ | apply Fr.drew | apply Fr.alloc | apply Fr.setAt | apply Fr.moreN))).mono ?_
    rintro e w2 ⟨A, c, rfl, hin, f2⟩
    have F2 := Lib.hid ((by (repeat first | exact Fr.refl _ _ | exact Fr.drewN _ _ _ | apply Fr.drew | apply Fr.alloc | apply Fr.setAt | apply Fr.moreN) : Fr no w _).trans f2 (fun _ _ h => h)); have HIN := Lib.hid hin
    clear f2 hin
    go_wp2
    go_loopw [6] (fun iv wr => ∃ j : Nat, j ≤ x.kids.length ∧ iv = .int .i64 (j : Int) ∧ Fr no w2 wr ∧ ∀ i (hi : i < x.kids.length), i < j → deep n x.kids[i] = false) (fun iv _ => x.kids.length - (intOf iv).toNat)
    case atStart => exact ⟨0, Nat.zero_le _, rfl, Fr.refl _ _, fun i _ h => absurd h (Nat.not_lt_zero i)⟩
    case round =>
      obtain ⟨j, hj, rfl, hfr, hall⟩ := hrel
      have HALL := Lib.hid hall; have FR := Lib.hid hfr
      clear hall hfr
      by_cases hlt : j < x.kids.length
      · have hi2 := HIN.out.kept0 FR.out
        obtain ⟨b, o, KB, kb, KL, kl, KF, kf, rfl, hfj, q0, q1, q2, q3, q4, q5, q6, hgl⟩ := In.get hi2 j hlt
        have hcall := IH.out x.kids[j] wr (hi2.good _ (List.getElem_mem _)) (HPK.out _ (List.getElem_mem _))
        rw [hfj.agg] at hcall
        have HC := Lib.hid hcall
        clear hcall hfj hi2
        go_wp2_with fail
        refine HC.out.mono ?_
        rintro e w5 ⟨rfl, fy⟩
        have FY := Lib.hid (FR.out.trans fy (fun _ _ h => h))
        clear fy
        cases hdj : deep n x.kids[j] with
        | true =>
          have hv : deep (n + 1) x = true := by
            rw [HD.out, List.any_eq_true]
            exact ⟨_, List.getElem_mem hlt, hdj⟩
          have HV := Lib.hid hv
          clear hv hdj
          go_wp2
          go_ret
          exact ⟨by rw [HV.out]; rfl, F2.out.trans FY.out (fun _ _ h => h)⟩
        | false =>
          have HDJ := Lib.hid hdj
          clear hdj
          go_wp2
          go_roundw
          case rel => exact ⟨j + 1, by omega, by go_num, FY.out, fun i hi h => by
            by_cases e : i = j
            · subst e; exact HDJ.out
            · exact HALL.out i hi (by omega)⟩
          case measure => simp [intOf]; omega
      · have hv : deep (n + 1) x = false := by
          rw [HD.out, Bool.eq_false_iff]
          intro h
          rw [List.any_eq_true] at h
          obtain ⟨y, hy, h⟩ := h
          obtain ⟨i, hi, rfl⟩ := List.getElem_of_mem hy
          rw [HALL.out i hi (by omega)] at h
          cases h
        have HV := Lib.hid hv
        clear hv
        go_wp2
        go_ret
        exact ⟨by rw [HV.out]; rfl, F2.out.trans FR.out (fun _ _ h => h)⟩

/-- What parts says: as many as there are, or more than 512. -/
def PartsOut (x : Tr Mm) (n : Nat) (w : World) (e : Ending) (w' : World) : Prop := Fr no w w' ∧ ∃ N : Nat, e = .returned (.int .i64 (N : Int)) ∧ N ≤ n + parts x ∧ (n + parts x ≤ 512 → N = n + parts x) ∧ (512 < n + parts x → 512 < N)

set_option maxRecDepth 100000 in
set_option maxHeartbeats 2000000 in
theorem parts3_any (x : Tr Mm) : ∀ (w : World) (_ : Tr.Good w x) (_ : parts x ≤ 1000000) (n : Nat) (_ : n ≤ 512), Calls Tryz.prog 83 #[x.agg, .int .i64 (n : Int)] w fun e w' => PartsOut x n w e w' := by
  induction x using Tr.ind with
  | h x ih =>
    intro w hx hp n hn
    obtain ⟨BA, bc, LA, lc, FA, fc, hf⟩ := hx.node.forms
    have hk := fun W (f : Fr no w W) => kids3_any W x (hx.kept0 f) hp
    have hkl := kids_le x
    have hpe := parts_kids x
    have hpk : ∀ y ∈ x.kids, parts y ≤ 1000000 := fun y hy => Nat.le_trans (parts_kid hy) hp
    rw [hf.agg] at hk ⊢
    have hk6 : x.kids.length ≤ 1000000 := by omega
    have hw : IntKind.i64.wrap ((n : Int) + 1) = (n : Int) + 1 := IntWalk.i64_in _ ⟨by omega, by omega⟩
    have HK := Lib.hid hk; have HPE := Lib.hid hpe; have IH := Lib.hid ih; have HPK := Lib.hid hpk
    clear hk hf hx ih hkl hpk hpe
    go_enter Tryz.func83, Tryz.ntmps83
    go_wp2_with fail
    refine (HK.out _ (by (repeat first | exact Fr.refl _ _ | exact Fr.drewN _ _ _ | apply Fr.drew | apply Fr.alloc | apply Fr.setAt | apply Fr.moreN))).mono ?_
    rintro e w2 ⟨A, c, rfl, hin, f2⟩
    have F2 := Lib.hid ((by (repeat first | exact Fr.refl _ _ | exact Fr.drewN _ _ _ | apply Fr.drew | apply Fr.alloc | apply Fr.setAt | apply Fr.moreN) : Fr no w _).trans f2 (fun _ _ h => h)); have HIN := Lib.hid hin
    clear f2 hin
    go_wp2
    go_loopw [1, 6] (fun nv iv wr => ∃ j N : Nat, j ≤ x.kids.length ∧ iv = .int .i64 (j : Int) ∧ nv = .int .i64 (N : Int) ∧ Fr no w2 wr ∧ N ≤ n + 1 + ((x.kids.take j).map parts).sum ∧ (n + 1 + ((x.kids.take j).map parts).sum ≤ 512 → N = n + 1 + ((x.kids.take j).map parts).sum) ∧ (512 < n + 1 + ((x.kids.take j).map parts).sum → 512 < N)) (fun _ iv _ => x.kids.length - (intOf iv).toNat)
    case atStart => exact ⟨0, n + 1, Nat.zero_le _, rfl, by first | rfl | go_num, Fr.refl _ _, by simp, by simp, by simp⟩
    case round =>
      obtain ⟨j, N, hj, rfl, rfl, hfr, h1, h2, h3⟩ := hrel
      have FR := Lib.hid hfr; have H1 := Lib.hid h1; have H2 := Lib.hid h2; have H3 := Lib.hid h3
      clear hfr h1 h2 h3
      have hsum : ((x.kids.take j).map parts).sum ≤ (x.kids.map parts).sum := by
        conv => rhs; rw [← List.take_append_drop j x.kids, List.map_append, List.sum_append]
        omega
      have hNb : N ≤ 2000000 := by have := H1.out; have := HPE.out; omega
      by_cases hcase : j < x.kids.length ∧ N ≤ 512
      · obtain ⟨hlt, hN⟩ := hcase
        have hi2 := HIN.out.kept0 FR.out
        obtain ⟨b, o, KB, kb, KL, kl, KF, kf, rfl, hfj, q0, q1, q2, q3, q4, q5, q6, hgl⟩ := In.get hi2 j hlt
        have hcall := IH.out x.kids[j] (List.getElem_mem _) wr (hi2.good _ (List.getElem_mem _)) (HPK.out _ (List.getElem_mem _)) N hN
        rw [hfj.agg] at hcall
        have hsn : ((x.kids.take (j + 1)).map parts).sum = ((x.kids.take j).map parts).sum + parts x.kids[j] := by
          rw [List.take_succ_eq_append_getElem hlt, List.map_append, List.sum_append]; simp
        have HC := Lib.hid hcall; have HSN := Lib.hid hsn
        clear hcall hfj hi2 hsn hsum
        go_wp2_with fail
        refine HC.out.mono ?_
        rintro e w5 ⟨fy, M, rfl, m1, m2, m3⟩
        have FY := Lib.hid (FR.out.trans fy (fun _ _ h => h)); have M1 := Lib.hid m1; have M2 := Lib.hid m2; have M3 := Lib.hid m3
        clear fy m1 m2 m3
        have hN0 : N = n + 1 + ((x.kids.take j).map parts).sum := by
          rcases Nat.lt_or_ge 512 (n + 1 + ((x.kids.take j).map parts).sum) with h | h
          · have := H3.out h; omega
          · exact H2.out h
        have HN0 := Lib.hid hN0
        clear hN0
        go_wp2
        go_roundw
        case rel => exact ⟨j + 1, M, by omega, by go_num, rfl, FY.out, by have := M1.out; have := HSN.out; have := HN0.out; omega, fun h => by have h5 := HSN.out; have h6 := HN0.out; have := M2.out (by omega); omega, fun h => by have h5 := HSN.out; have h6 := HN0.out; exact M3.out (by omega)⟩
        case measure => simp [intOf]; omega
      · have hfin : PartsOut x n w (.returned (.int .i64 (N : Int))) wr := by
          refine ⟨F2.out.trans FR.out (fun _ _ h => h), N, rfl, by have := H1.out; have := HPE.out; omega, fun h => ?_, fun h => ?_⟩
          · have h5 := HPE.out
            have h6 := H2.out (by omega)
            have hjl : j = x.kids.length := by omega
            subst hjl
            rw [List.take_length] at h6
            omega
          · have h5 := HPE.out
            by_cases hjl : j = x.kids.length
            · subst hjl
              have h7 := H3.out
              rw [List.take_length] at h7
              exact h7 (by omega)
            · omega
        have HFIN := Lib.hid hfin
        clear hfin hsum
        by_cases hlt : j < x.kids.length
        · have hN : 512 < N := by omega
          clear hcase
          go_wp2
          go_ret
          exact HFIN.out
        · clear hcase
          go_wp2
          go_ret
          exact HFIN.out
end Go.Proofs.YtijcleiekafoiaaGreatDoor

/- codicilref03.all, Check: behind its own (a hypothesis of these). -/
namespace Go.Proofs.YtijcleiekafoiaaGreatDoor
open Go.RowKit Go.Shelf
open Tr

/-- What codicilref03.own is to say. -/
def Own3 : Prop := ∀ (x : Tr Mm) (w : World), Tr.Good w x → Calls Tryz.prog 118 #[x.agg] w fun e w' => e = .returned (.int .i64 (Tr.own x : Int)) ∧ Fr no w w'

theorem pre_own (x : Tr Mm) : ∀ d e : Nat, (pre d x).map (fun p => Tr.own p.2) = (pre e x).map (fun p => Tr.own p.2) := by
  induction x using Tr.ind with
  | h x ih =>
    intro d e
    rw [pre_eq d, pre_eq e]
    simp only [List.map_cons, List.map_flatMap]
    congr 1
    have : ∀ l : List (Tr Mm), (∀ y ∈ l, y ∈ x.kids) → (l.flatMap fun a => (pre (d + 1) a).map fun p => Tr.own p.2) = l.flatMap fun a => (pre (e + 1) a).map fun p => Tr.own p.2 := by
      intro l
      induction l with
      | nil => intro _; rfl
      | cons a l ih2 =>
        intro h
        rw [List.flatMap_cons, List.flatMap_cons, ih a (h a (.head _)) (d + 1) (e + 1), ih2 (fun y hy => h y (.tail _ hy))]
    exact this x.kids (fun y hy => hy)
theorem firstErr_flat {α : Type} (g : α → List Nat) (l : List α) : firstErr (l.flatMap g) = firstErr (l.map fun a => firstErr (g a)) := by
  induction l with
  | nil => rfl
  | cons a l ih =>
    rw [List.flatMap_cons, firstErr_append, ih, List.map_cons, firstErr]
theorem allErr_eq (x : Tr Mm) : allErr x = if Tr.own x ≠ 0 then Tr.own x else firstErr (x.kids.map allErr) := by
  unfold allErr
  rw [pre_eq]
  simp only [List.map_cons, List.map_flatMap, firstErr]
  have e : firstErr (x.kids.flatMap fun a => (pre 2 a).map fun p => Tr.own p.2) = firstErr (x.kids.map fun a => firstErr ((pre 1 a).map fun p => Tr.own p.2)) := by
    rw [firstErr_flat]
    congr 1
    exact List.map_congr_left (fun a _ => by rw [pre_own a 2 1])
  rw [e]
theorem firstErr_take {l : List Nat} {j : Nat} (h : firstErr (l.take j) ≠ 0) : firstErr l = firstErr (l.take j) := by
  conv => lhs; rw [← List.take_append_drop j l, firstErr_append, if_pos h]

set_option maxRecDepth 100000 in
set_option maxHeartbeats 2000000 in
theorem all3_any (ho : Own3) (x : Tr Mm) : ∀ (w : World) (_ : Tr.Good w x) (_ : parts x ≤ 1000000), Calls Tryz.prog 84 #[x.agg] w fun e w' => e = .returned (.int .i64 (allErr x : Int)) ∧ Fr no w w' := by
  induction x using Tr.ind with
  | h x ih =>
    intro w hx hp
    obtain ⟨BA, bc, LA, lc, FA, fc, hf⟩ := hx.node.forms
    have hk := fun W (f : Fr no w W) => kids3_any W x (hx.kept0 f) hp
    have how := fun W (f : Fr no w W) => ho x W (hx.kept0 f)
    have hkl := kids_le x
    have hae := allErr_eq x
    have hpk : ∀ y ∈ x.kids, parts y ≤ 1000000 := fun y hy => Nat.le_trans (parts_kid hy) hp
    rw [hf.agg] at hk how ⊢
    have hk6 : x.kids.length ≤ 1000000 := by omega
    have HK := Lib.hid hk; have HOW := Lib.hid how; have HAE := Lib.hid hae; have IH := Lib.hid ih; have HPK := Lib.hid hpk
    clear hk how hf hx ih hkl hpk hae ho
    go_enter Tryz.func84, Tryz.ntmps84
    go_wp2_with fail
    refine (HOW.out _ (by (repeat first | exact Fr.refl _ _ | exact Fr.drewN _ _ _ | apply Fr.drew | apply Fr.alloc | apply Fr.setAt | apply Fr.moreN))).mono ?_
    rintro e w1 ⟨rfl, f1⟩
    have hb1 := f1.heap (heap_alloc_new w (.cells #[.int .u8 x.k.toNat, .bool x.b, .int .i64 x.i, .string ⟨x.t.toArray⟩, .slice BA x.bs.length bc, .slice LA x.l.length lc, .slice FA x.f.length fc] 27)) (fun h => h)
    obtain ⟨q0, q1, q2, q3, q4, q5, q6, qz, ql⟩ := seven_cells hb1
    have F1 := Lib.hid ((by (repeat first | exact Fr.refl _ _ | exact Fr.drewN _ _ _ | apply Fr.drew | apply Fr.alloc | apply Fr.setAt | apply Fr.moreN) : Fr no w _).trans f1 (fun _ _ h => h))
    clear f1 hb1
    go_wp2_with fail
    refine (HK.out _ F1.out).mono ?_
    rintro e w2 ⟨A, c, rfl, hin, f2⟩
    have F2 := Lib.hid (F1.out.trans f2 (fun _ _ h => h)); have HIN := Lib.hid hin
    clear f2 hin q0 q1 q2 q3 q4 q5 q6 qz ql
    go_wp2
    go_loopw [3, 5] (fun ev iv wr => ∃ j E : Nat, j ≤ x.kids.length ∧ iv = .int .i64 (j : Int) ∧ ev = .int .i64 (E : Int) ∧ Fr no w2 wr ∧ E = (if Tr.own x ≠ 0 then Tr.own x else firstErr ((x.kids.take j).map allErr))) (fun _ iv _ => x.kids.length - (intOf iv).toNat)
    case atStart => exact ⟨0, Tr.own x, Nat.zero_le _, rfl, rfl, Fr.refl _ _, by split <;> simp_all [firstErr]⟩
    case round =>
      obtain ⟨j, E, hj, rfl, rfl, hfr, hE⟩ := hrel
      have FR := Lib.hid hfr; have HE := Lib.hid hE
      clear hfr hE
      by_cases hcase : j < x.kids.length ∧ E = 0
      · obtain ⟨hlt, hE0⟩ := hcase
        have hi2 := HIN.out.kept0 FR.out
        obtain ⟨b, o, KB, kb, KL, kl, KF, kf, rfl, hfj, q0, q1, q2, q3, q4, q5, q6, hgl⟩ := In.get hi2 j hlt
        have hcall := IH.out x.kids[j] (List.getElem_mem _) wr (hi2.good _ (List.getElem_mem _)) (HPK.out _ (List.getElem_mem _))
        rw [hfj.agg] at hcall
        have hnew : allErr x.kids[j] = (if Tr.own x ≠ 0 then Tr.own x else firstErr ((x.kids.take (j + 1)).map allErr)) := by
          have h := HE.out
          rw [hE0] at h
          have hox : ¬ Tr.own x ≠ 0 := fun h2 => by rw [if_pos h2] at h; omega
          rw [if_neg hox] at h ⊢
          rw [List.take_succ_eq_append_getElem hlt, List.map_append, firstErr_append, if_neg (by omega), List.map_singleton, firstErr, firstErr]
          split
          · rfl
          · omega
        have HC := Lib.hid hcall; have HNEW := Lib.hid hnew
        subst hE0
        clear hcall hfj hi2 hnew
        go_wp2_with fail
        refine HC.out.mono ?_
        rintro e w5 ⟨rfl, fy⟩
        have FY := Lib.hid (FR.out.trans fy (fun _ _ h => h))
        clear fy
        go_wp2
        go_roundw
        case rel => exact ⟨j + 1, allErr x.kids[j], by omega, by go_num, rfl, FY.out, HNEW.out⟩
        case measure => simp [intOf]; omega
      · have hfin : allErr x = E := by
          rw [HAE.out, HE.out]
          by_cases hox : Tr.own x ≠ 0
          · rw [if_pos hox, if_pos hox]
          · rw [if_neg hox, if_neg hox]
            by_cases hjl : j = x.kids.length
            · subst hjl; rw [List.take_length]
            · have hE0 : E ≠ 0 := fun h => hcase ⟨by omega, h⟩
              have h := HE.out
              rw [if_neg hox] at h
              rw [List.map_take] at h ⊢
              exact firstErr_take (by omega)
        have HFIN := Lib.hid hfin
        clear hfin
        by_cases hlt : j < x.kids.length
        · have gE : ((E : Int) == 0) = false := by rw [beq_eq_false_iff_ne]; intro h; exact hcase ⟨hlt, by omega⟩
          clear hcase
          go_wp2
          go_ret
          exact ⟨by rw [HFIN.out]; rfl, F2.out.trans FR.out (fun _ _ h => h)⟩
        · clear hcase
          go_wp2
          go_ret
          exact ⟨by rw [HFIN.out]; rfl, F2.out.trans FR.out (fun _ _ h => h)⟩

set_option maxRecDepth 100000 in
set_option maxHeartbeats 2000000 in
theorem check3_any (ho : Own3) (x : Tr Mm) (w : World) (hx : Tr.Good w x) (hp : parts x ≤ 1000000) : Calls Tryz.prog 33 #[x.agg] w fun e w' => e = .returned (.int .i64 (check x : Int)) ∧ Fr no w w' := by
  obtain ⟨BA, bc, LA, lc, FA, fc, hf⟩ := hx.node.forms
  have hd := fun W (f : Fr no w W) => deep3_any 8 (by omega) x W (hx.kept0 f) hp
  have hpt := fun W (f : Fr no w W) => parts3_any x W (hx.kept0 f) hp 0 (by omega)
  have hal := fun W (f : Fr no w W) => all3_any ho x W (hx.kept0 f) hp
  rw [hf.agg] at hd hpt hal ⊢
  have HD := Lib.hid hd; have HPT := Lib.hid hpt; have HAL := Lib.hid hal
  clear hd hpt hal hf hx ho
  go_enter Tryz.func33, Tryz.ntmps33
  go_wp2_with fail
  refine (HD.out _ (by (repeat first | exact Fr.refl _ _ | exact Fr.drewN _ _ _ | apply Fr.drew | apply Fr.alloc | apply Fr.setAt | apply Fr.moreN))).mono ?_
  rintro e w1 ⟨rfl, f1⟩
  have hb1 := f1.heap (heap_alloc_new w (.cells #[.int .u8 x.k.toNat, .bool x.b, .int .i64 x.i, .string ⟨x.t.toArray⟩, .slice BA x.bs.length bc, .slice LA x.l.length lc, .slice FA x.f.length fc] 27)) (fun h => h)
  obtain ⟨q0, q1, q2, q3, q4, q5, q6, qz, ql⟩ := seven_cells hb1
  have F1 := Lib.hid ((by (repeat first | exact Fr.refl _ _ | exact Fr.drewN _ _ _ | apply Fr.drew | apply Fr.alloc | apply Fr.setAt | apply Fr.moreN) : Fr no w _).trans f1 (fun _ _ h => h)); have HB1 := Lib.hid hb1
  clear f1 hb1
  cases hdp : deep 8 x with
  | true =>
    have hc : check x = 31 := by unfold check; rw [if_pos hdp]
    have HC := Lib.hid hc
    clear hc hdp
    go_wp2
    go_ret
    exact ⟨by rw [HC.out]; rfl, F1.out⟩
  | false =>
    have HDP := Lib.hid hdp
    clear hdp
    go_wp2_with fail
    refine (HPT.out _ F1.out).mono ?_
    rintro e w2 ⟨f2, N, rfl, hN1, hN2, hN3⟩
    have hb2 := f2.heap HB1.out (fun h => h)
    obtain ⟨q0, q1, q2, q3, q4, q5, q6, qz, ql⟩ := seven_cells hb2
    have F2 := Lib.hid (F1.out.trans f2 (fun _ _ h => h))
    clear f2 hb2
    by_cases h512 : 512 < N
    · have hc : check x = 32 := by
        unfold check
        rw [if_neg (by rw [HDP.out]; simp), if_pos (by rcases Nat.lt_or_ge 512 (parts x) with h | h; exact h; exact absurd (hN2 (by omega)) (by omega))]
      have HC := Lib.hid hc
      clear hc hN1 hN2 hN3
      go_wp2
      go_ret
      exact ⟨by rw [HC.out]; rfl, F2.out⟩
    · have hc : check x = allErr x := by
        unfold check
        rw [if_neg (by rw [HDP.out]; simp), if_neg (fun h => h512 (hN3 (by omega)))]
      have HC := Lib.hid hc
      clear hc hN1 hN2 hN3
      go_wp2_with fail
      refine (HAL.out _ F2.out).mono ?_
      rintro e w3 ⟨rfl, f3⟩
      have F3 := Lib.hid (F2.out.trans f3 (fun _ _ h => h))
      clear f3
      go_wp2
      go_ret
      exact ⟨by rw [HC.out]; rfl, F3.out⟩
end Go.Proofs.YtijcleiekafoiaaGreatDoor

/- codicilref03.Runes, Name. -/
namespace Go.Proofs.YtijcleiekafoiaaGreatDoor
open Go.RowKit Go.Lib

/-- How many runes; -1: none. -/
def runesV (l : List UInt8) : Int := if validD l then (runeCountL l : Int) else -1

theorem ba_extract (l : List UInt8) (k : Nat) : (⟨l.toArray⟩ : ByteArray).extract k l.length = ⟨(l.drop k).toArray⟩ := by
  apply ByteArray.ext
  simp only [ByteArray.data_extract, List.extract_toArray, List.extract_eq_take_drop]
  rw [List.take_of_length_le (by rw [List.length_drop]; omega)]

set_option maxRecDepth 100000 in
set_option maxHeartbeats 2000000 in
theorem runes3_any (w : World) (l : List UInt8) (hn : l.length ≤ reachBytes) : Calls Tryz.prog 132 #[.string ⟨l.toArray⟩] w fun e w' => e = .returned (.int .i64 (runesV l)) ∧ w' = w := by
  have hn : l.length ≤ 140737488351232 := hn
  go_enter Tryz.func132, Tryz.ntmps132
  go_wp2
  go_loop [0, 3] (fun sv nv => ∃ (s : List UInt8) (n : Nat), sv = .string ⟨s.toArray⟩ ∧ nv = .int .i64 (n : Int) ∧ n + s.length ≤ l.length ∧ validD l = validD s ∧ runeCountL l = n + runeCountL s) (fun sv _ => match sv with | .string b => b.size | _ => 0)
  case atStart => exact ⟨l, 0, rfl, rfl, by omega, rfl, by omega⟩
  case round =>
    obtain ⟨s, n, rfl, rfl, hsl, hv, hc⟩ := hrel
    have HV := Lib.hid hv; have HC := Lib.hid hc
    clear hv hc
    cases s with
    | nil =>
      have hr : runesV l = (n : Int) := by
        unfold runesV
        rw [HV.out, HC.out, count_nil]
        simp [validD_nil]
      have HR := Lib.hid hr; clear hr
      go_wp2
      go_ret
      exact ⟨by rw [HR.out]; rfl, rfl⟩
    | cons c r =>
      simp only [List.length_cons] at hsl
      have hru := rune_any w (c :: r) (by simp only [List.length_cons, reachBytes]; omega)
      have HRU := Lib.hid hru
      clear hru
      by_cases hk : (runeR (c :: r)).2 = 0
      · have hb : runesV l = -1 := by unfold runesV; rw [HV.out, validD_bad (by simp) hk]; rfl
        have HB := Lib.hid hb
        have gk : (((runeR (c :: r)).2 : Int) == 0) = true := by rw [hk]; rfl
        clear hb hk
        go_wp2_with fail
        refine HRU.out.mono ?_
        rintro e w' ⟨rfl, hw⟩
        subst w'
        go_wp2
        go_ret
        exact ⟨by rw [HB.out]; rfl, rfl⟩
      · have hs1 := validD_step hk
        have hs2 := count_step hk
        have hle := runeR_le (l := c :: r)
        have gk : (((runeR (c :: r)).2 : Int) == 0) = false := by rw [beq_eq_false_iff_ne]; omega
        have hdl : ((c :: r).drop (runeR (c :: r)).2).length = r.length + 1 - (runeR (c :: r)).2 := by rw [List.length_drop, List.length_cons]
        obtain ⟨k, hkk⟩ : ∃ k, k = (runeR (c :: r)).2 := ⟨_, rfl⟩
        rw [← hkk] at hs1 hs2 hle gk hdl hk
        have HKK := Lib.hid hkk; have HS1 := Lib.hid hs1; have HS2 := Lib.hid hs2; have HDL := Lib.hid hdl
        have hrp : RuneOut (c :: r) = RuneOut (c :: r) := rfl
        clear hkk hs1 hs2 hdl hrp
        simp only [List.length_cons] at hle
        go_wp2_with fail
        refine HRU.out.mono ?_
        rintro e w' ⟨rfl, hw⟩
        subst w'
        rw [← HKK.out]
        have hex := ba_extract (c :: r) k
        rw [List.length_cons] at hex
        have HEX := Lib.hid hex; clear hex
        go_wp2
        go_round
        case rel => exact ⟨(c :: r).drop k, n + 1, by rw [HEX.out], by first | rfl | go_num, by rw [HDL.out]; omega, HV.out.trans HS1.out, by rw [HC.out, HS2.out]; omega⟩
        case measure =>
          show ((⟨(c :: r).toArray⟩ : ByteArray).extract k (r.length + 1)).size < (⟨(c :: r).toArray⟩ : ByteArray).size
          rw [HEX.out]
          show ((c :: r).drop k).toArray.size < (c :: r).toArray.size
          rw [List.size_toArray, List.size_toArray, HDL.out, List.length_cons]
          omega
end Go.Proofs.YtijcleiekafoiaaGreatDoor

/- codicilref03.Name. Printed by mkname3.py. -/
namespace Go.Proofs.YtijcleiekafoiaaGreatDoor
open Go.RowKit Go.Lib
attribute [local go_sem] ba_get

/-- The i-th byte of a name. -/
def okN (l : List UInt8) (i : Nat) : Bool := letterB (l.getD i 0) || (digitB (l.getD i 0) && i != 0)
theorem letters_all {l : List UInt8} (h : ∀ i, i < l.length → okN l i = true) : lettersB l = true := by
  cases l with
  | nil => rfl
  | cons c r =>
    have h0 := h 0 (by simp)
    have hc : letterB c = true := by simpa [okN] using h0
    simp only [lettersB, hc, Bool.true_and, List.all_eq_true]
    intro x hx
    obtain ⟨i, hi, rfl⟩ := List.getElem_of_mem hx
    have := h (i + 1) (by simpa using hi)
    have e : (c :: r).getD (i + 1) 0 = r[i] := by simp [hi]
    rw [okN, e] at this
    simpa using this
theorem letters_not {l : List UInt8} {i : Nat} (hi : i < l.length) (h : okN l i = false) : lettersB l = false := by
  cases l with
  | nil => simp at hi
  | cons c r =>
    cases i with
    | zero =>
      have : letterB c = false := by simpa [okN] using h
      simp [lettersB, this]
    | succ i =>
      have hi2 : i < r.length := by simpa using hi
      have e : (c :: r).getD (i + 1) 0 = r[i] := by simp [hi2]
      rw [okN, e] at h
      have hx : (letterB r[i] || digitB r[i]) = false := by simpa using h
      have : (r.all fun c => letterB c || digitB c) = false := by
        rw [Bool.eq_false_iff]
        intro ha
        rw [List.all_eq_true] at ha
        have := ha _ (List.getElem_mem hi2)
        rw [hx] at this
        cases this
      simp [lettersB, this]
theorem letter_is (c : UInt8) : letterB c = letterR c.toNat := (letterR_byte c).symm
theorem digit_is (c : UInt8) : digitB c = (decide (48 ≤ c.toNat) && decide (c.toNat ≤ 57)) := by
  unfold digitB
  rw [show (decide (48 ≤ c)) = decide (48 ≤ c.toNat) from decide_eq_decide.2 UInt8.le_iff_toNat_le, show (decide (c ≤ 57)) = decide (c.toNat ≤ 57) from decide_eq_decide.2 UInt8.le_iff_toNat_le]

set_option maxRecDepth 100000 in
set_option maxHeartbeats 8000000 in
theorem name3_any (w : World) (l : List UInt8) (hn : l.length ≤ reachBytes) : Calls Tryz.prog 131 #[.string ⟨l.toArray⟩] w fun e w' => e = .returned (.bool (nameV l)) ∧ w' = w := by
  have hru := runes3_any w l hn
  have hn : l.length ≤ 140737488351232 := hn
  have hcl : runeCountL l ≤ l.length := by
    have := runeCount_le ⟨l.toArray⟩
    have h2 : (⟨l.toArray⟩ : ByteArray).size = l.length := by show l.toArray.size = _; simp
    rw [h2] at this
    exact this
  have hne : l ≠ [] → 1 ≤ runeCountL l := fun h => by
    rw [count_eq]
    cases hl : l.length with
    | zero => exact absurd (List.eq_nil_of_length_eq_zero hl) h
    | succ n => simp only [cntD]; rw [if_neg h]; omega
  have HRU := Lib.hid hru
  clear hru
  by_cases hv : validD l = true
  rotate_left
  · have hr : runesV l = -1 := by unfold runesV; rw [if_neg hv]
    have hnv : nameV l = false := by unfold nameV; simp [hv]
    have HNV := Lib.hid hnv; have HR := Lib.hid hr
    clear hr hnv hv hne
    go_enter Tryz.func131, Tryz.ntmps131
    go_wp2_with fail
    refine HRU.out.mono ?_
    rintro e w' ⟨rfl, hw⟩
    subst w'
    rw [HR.out]
    go_wp2
    go_ret
    exact ⟨by rw [HNV.out]; rfl, rfl⟩
  have hr : runesV l = (runeCountL l : Int) := by unfold runesV; rw [if_pos hv]
  by_cases h1 : 1 ≤ runeCountL l
  rotate_left
  · have hl : l = [] := Decidable.byContradiction (fun h => h1 (hne h))
    have hnv : nameV l = false := by unfold nameV; simp [hl]
    have g1 : decide ((runeCountL l : Int) < 1) = true := decide_eq_true (by omega)
    have HNV := Lib.hid hnv; have HR := Lib.hid hr
    clear hr hnv hv hne hl h1
    go_enter Tryz.func131, Tryz.ntmps131
    go_wp2_with fail
    refine HRU.out.mono ?_
    rintro e w' ⟨rfl, hw⟩
    subst w'
    rw [HR.out]
    go_wp2
    go_ret
    exact ⟨by rw [HNV.out]; rfl, rfl⟩
  have g1 : decide ((runeCountL l : Int) < 1) = false := decide_eq_false (by omega)
  by_cases h2 : runeCountL l ≤ 32
  rotate_left
  · have hnv : nameV l = false := by unfold nameV; simp [h2]
    have g2 : decide ((32 : Int) < (runeCountL l : Int)) = true := decide_eq_true (by omega)
    have HNV := Lib.hid hnv; have HR := Lib.hid hr
    clear hr hnv hv hne h1 h2
    go_enter Tryz.func131, Tryz.ntmps131
    go_wp2_with fail
    refine HRU.out.mono ?_
    rintro e w' ⟨rfl, hw⟩
    subst w'
    rw [HR.out]
    go_wp2
    go_ret
    exact ⟨by rw [HNV.out]; rfl, rfl⟩
  have g2 : decide ((32 : Int) < (runeCountL l : Int)) = false := decide_eq_false (by omega)
  have hl : l ≠ [] := fun h => by rw [h, count_nil] at h1; omega
  have hnv : nameV l = lettersB l := by
    have he : l.isEmpty = false := by cases l; exact absurd rfl hl; rfl
    unfold nameV
    rw [hv, decide_eq_true h2, he]
    simp
  have HNV := Lib.hid hnv; have HR := Lib.hid hr
  clear hr hnv hv hne h1 h2 hl
  go_enter Tryz.func131, Tryz.ntmps131
  go_wp2_with fail
  refine HRU.out.mono ?_
  rintro e w' ⟨rfl, hw⟩
  subst w'
  rw [HR.out]
  go_wp2
  go_loop [4] (fun iv => ∃ j : Nat, j ≤ l.length ∧ iv = .int .i64 (j : Int) ∧ ∀ i, i < j → okN l i = true) (fun iv => l.length - (RowKit.intOf iv).toNat)
  case atStart => exact ⟨0, Nat.zero_le _, rfl, fun i h => absurd h (Nat.not_lt_zero i)⟩
  case round =>
    obtain ⟨j, hj, rfl, hall⟩ := hrel
    by_cases hlt : j < l.length
    · obtain ⟨c, hc⟩ : ∃ c, c = l[j] := ⟨_, rfl⟩
      have hgd : l.getD j 0 = c := by rw [hc]; simp [hlt]
      have hix : (⟨l.toArray⟩ : ByteArray)[j]'(by show j < l.toArray.size; simpa using hlt) = c := by rw [hc]; rfl
      have hcl2 := c.toNat_lt
      have HALL := Lib.hid hall; have HGD := Lib.hid hgd
      have hstep : okN l j = true → ∀ i, i < j + 1 → okN l i = true := fun h i hi => by
        by_cases e : i = j
        · subst e; exact h
        · exact HALL.out i (by omega)
      have hok : okN l j = (letterR c.toNat || ((decide (48 ≤ c.toNat) && decide (c.toNat ≤ 57)) && j != 0)) := by unfold okN; rw [hgd, letter_is, digit_is]
      have HST := Lib.hid hstep; have HOK := Lib.hid hok
      have hcl3 : c = l[j] := hc
      clear hall hgd hstep hok
      have hr : c.toNat < 48 ∨ (48 ≤ c.toNat ∧ c.toNat ≤ 57) ∨ (58 ≤ c.toNat ∧ c.toNat ≤ 64) ∨ (65 ≤ c.toNat ∧ c.toNat ≤ 90) ∨ (91 ≤ c.toNat ∧ c.toNat ≤ 94) ∨ c.toNat = 95 ∨ c.toNat = 96 ∨ (97 ≤ c.toNat ∧ c.toNat ≤ 122) ∨ (123 ≤ c.toNat ∧ c.toNat ≤ 127) ∨ 128 ≤ c.toNat := by omega
      clear hcl3 hc
      rcases hr with h | h | h | h | h | h | h | h | h | h
      · skip
        have fa : decide ((97 : Int) ≤ (c.toNat : Int)) = false := by simp; omega
        have fb : decide ((c.toNat : Int) ≤ 122) = true := by simp; omega
        have fc : decide ((65 : Int) ≤ (c.toNat : Int)) = false := by simp; omega
        have fd : decide ((c.toNat : Int) ≤ 90) = true := by simp; omega
        have fe : ((c.toNat : Int) == 95) = false := by simp; omega
        have ff : decide ((128 : Int) ≤ (c.toNat : Int)) = false := by simp; omega
        have fg : decide ((c.toNat : Int) < 48) = true := by simp; omega
        have fh : decide ((57 : Int) < (c.toNat : Int)) = false := by simp; omega
        have hko : okN l j = false := by rw [HOK.out]; unfold letterR; simp; omega
        clear h
        have hln := letters_not hlt hko
        have HLN := Lib.hid (HNV.out.trans hln)
        clear hln hko
        go_wp2
        go_ret
        exact ⟨by rw [HLN.out]; rfl, rfl⟩
      · skip
        have fa : decide ((97 : Int) ≤ (c.toNat : Int)) = false := by simp; omega
        have fb : decide ((c.toNat : Int) ≤ 122) = true := by simp; omega
        have fc : decide ((65 : Int) ≤ (c.toNat : Int)) = false := by simp; omega
        have fd : decide ((c.toNat : Int) ≤ 90) = true := by simp; omega
        have fe : ((c.toNat : Int) == 95) = false := by simp; omega
        have ff : decide ((128 : Int) ≤ (c.toNat : Int)) = false := by simp; omega
        have fg : decide ((c.toNat : Int) < 48) = false := by simp; omega
        have fh : decide ((57 : Int) < (c.toNat : Int)) = false := by simp; omega
        by_cases hj0 : j = 0
        · have gj : ((j : Int) == 0) = true := by rw [hj0]; rfl
          have hko : okN l j = false := by rw [HOK.out, hj0]; unfold letterR; simp; omega
          clear h hj0
          have hln := letters_not hlt hko
          have HLN := Lib.hid (HNV.out.trans hln)
          clear hln hko
          go_wp2
          go_ret
          exact ⟨by rw [HLN.out]; rfl, rfl⟩
        · have gj : ((j : Int) == 0) = false := by rw [beq_eq_false_iff_ne]; omega
          have hko : okN l j = true := by rw [HOK.out]; unfold letterR; simp; omega
          have HST2 := Lib.hid (HST.out hko)
          clear h hj0 hko
          go_wp2
          go_round
          case rel => exact ⟨j + 1, by omega, by go_num, HST2.out⟩
          case measure => simp [RowKit.intOf]; omega
      · skip
        have fa : decide ((97 : Int) ≤ (c.toNat : Int)) = false := by simp; omega
        have fb : decide ((c.toNat : Int) ≤ 122) = true := by simp; omega
        have fc : decide ((65 : Int) ≤ (c.toNat : Int)) = false := by simp; omega
        have fd : decide ((c.toNat : Int) ≤ 90) = true := by simp; omega
        have fe : ((c.toNat : Int) == 95) = false := by simp; omega
        have ff : decide ((128 : Int) ≤ (c.toNat : Int)) = false := by simp; omega
        have fg : decide ((c.toNat : Int) < 48) = false := by simp; omega
        have fh : decide ((57 : Int) < (c.toNat : Int)) = true := by simp; omega
        have hko : okN l j = false := by rw [HOK.out]; unfold letterR; simp; omega
        clear h
        have hln := letters_not hlt hko
        have HLN := Lib.hid (HNV.out.trans hln)
        clear hln hko
        go_wp2
        go_ret
        exact ⟨by rw [HLN.out]; rfl, rfl⟩
      · skip
        have fa : decide ((97 : Int) ≤ (c.toNat : Int)) = false := by simp; omega
        have fb : decide ((c.toNat : Int) ≤ 122) = true := by simp; omega
        have fc : decide ((65 : Int) ≤ (c.toNat : Int)) = true := by simp; omega
        have fd : decide ((c.toNat : Int) ≤ 90) = true := by simp; omega
        have fe : ((c.toNat : Int) == 95) = false := by simp; omega
        have ff : decide ((128 : Int) ≤ (c.toNat : Int)) = false := by simp; omega
        have fg : decide ((c.toNat : Int) < 48) = false := by simp; omega
        have fh : decide ((57 : Int) < (c.toNat : Int)) = true := by simp; omega
        have hko : okN l j = true := by rw [HOK.out]; unfold letterR; simp; omega
        have HST2 := Lib.hid (HST.out hko)
        clear hko h
        go_wp2
        go_round
        case rel => exact ⟨j + 1, by omega, by go_num, HST2.out⟩
        case measure => simp [RowKit.intOf]; omega
      · skip
        have fa : decide ((97 : Int) ≤ (c.toNat : Int)) = false := by simp; omega
        have fb : decide ((c.toNat : Int) ≤ 122) = true := by simp; omega
        have fc : decide ((65 : Int) ≤ (c.toNat : Int)) = true := by simp; omega
        have fd : decide ((c.toNat : Int) ≤ 90) = false := by simp; omega
        have fe : ((c.toNat : Int) == 95) = false := by simp; omega
        have ff : decide ((128 : Int) ≤ (c.toNat : Int)) = false := by simp; omega
        have fg : decide ((c.toNat : Int) < 48) = false := by simp; omega
        have fh : decide ((57 : Int) < (c.toNat : Int)) = true := by simp; omega
        have hko : okN l j = false := by rw [HOK.out]; unfold letterR; simp; omega
        clear h
        have hln := letters_not hlt hko
        have HLN := Lib.hid (HNV.out.trans hln)
        clear hln hko
        go_wp2
        go_ret
        exact ⟨by rw [HLN.out]; rfl, rfl⟩
      · skip
        have fa : decide ((97 : Int) ≤ (c.toNat : Int)) = false := by simp; omega
        have fb : decide ((c.toNat : Int) ≤ 122) = true := by simp; omega
        have fc : decide ((65 : Int) ≤ (c.toNat : Int)) = true := by simp; omega
        have fd : decide ((c.toNat : Int) ≤ 90) = false := by simp; omega
        have fe : ((c.toNat : Int) == 95) = true := by simp; omega
        have ff : decide ((128 : Int) ≤ (c.toNat : Int)) = false := by simp; omega
        have fg : decide ((c.toNat : Int) < 48) = false := by simp; omega
        have fh : decide ((57 : Int) < (c.toNat : Int)) = true := by simp; omega
        have hko : okN l j = true := by rw [HOK.out]; unfold letterR; simp; omega
        have HST2 := Lib.hid (HST.out hko)
        clear hko h
        go_wp2
        go_round
        case rel => exact ⟨j + 1, by omega, by go_num, HST2.out⟩
        case measure => simp [RowKit.intOf]; omega
      · skip
        have fa : decide ((97 : Int) ≤ (c.toNat : Int)) = false := by simp; omega
        have fb : decide ((c.toNat : Int) ≤ 122) = true := by simp; omega
        have fc : decide ((65 : Int) ≤ (c.toNat : Int)) = true := by simp; omega
        have fd : decide ((c.toNat : Int) ≤ 90) = false := by simp; omega
        have fe : ((c.toNat : Int) == 95) = false := by simp; omega
        have ff : decide ((128 : Int) ≤ (c.toNat : Int)) = false := by simp; omega
        have fg : decide ((c.toNat : Int) < 48) = false := by simp; omega
        have fh : decide ((57 : Int) < (c.toNat : Int)) = true := by simp; omega
        have hko : okN l j = false := by rw [HOK.out]; unfold letterR; simp; omega
        clear h
        have hln := letters_not hlt hko
        have HLN := Lib.hid (HNV.out.trans hln)
        clear hln hko
        go_wp2
        go_ret
        exact ⟨by rw [HLN.out]; rfl, rfl⟩
      · skip
        have fa : decide ((97 : Int) ≤ (c.toNat : Int)) = true := by simp; omega
        have fb : decide ((c.toNat : Int) ≤ 122) = true := by simp; omega
        have fc : decide ((65 : Int) ≤ (c.toNat : Int)) = true := by simp; omega
        have fd : decide ((c.toNat : Int) ≤ 90) = false := by simp; omega
        have fe : ((c.toNat : Int) == 95) = false := by simp; omega
        have ff : decide ((128 : Int) ≤ (c.toNat : Int)) = false := by simp; omega
        have fg : decide ((c.toNat : Int) < 48) = false := by simp; omega
        have fh : decide ((57 : Int) < (c.toNat : Int)) = true := by simp; omega
        have hko : okN l j = true := by rw [HOK.out]; unfold letterR; simp; omega
        have HST2 := Lib.hid (HST.out hko)
        clear hko h
        go_wp2
        go_round
        case rel => exact ⟨j + 1, by omega, by go_num, HST2.out⟩
        case measure => simp [RowKit.intOf]; omega
      · skip
        have fa : decide ((97 : Int) ≤ (c.toNat : Int)) = true := by simp; omega
        have fb : decide ((c.toNat : Int) ≤ 122) = false := by simp; omega
        have fc : decide ((65 : Int) ≤ (c.toNat : Int)) = true := by simp; omega
        have fd : decide ((c.toNat : Int) ≤ 90) = false := by simp; omega
        have fe : ((c.toNat : Int) == 95) = false := by simp; omega
        have ff : decide ((128 : Int) ≤ (c.toNat : Int)) = false := by simp; omega
        have fg : decide ((c.toNat : Int) < 48) = false := by simp; omega
        have fh : decide ((57 : Int) < (c.toNat : Int)) = true := by simp; omega
        have hko : okN l j = false := by rw [HOK.out]; unfold letterR; simp; omega
        clear h
        have hln := letters_not hlt hko
        have HLN := Lib.hid (HNV.out.trans hln)
        clear hln hko
        go_wp2
        go_ret
        exact ⟨by rw [HLN.out]; rfl, rfl⟩
      · skip
        have fa : decide ((97 : Int) ≤ (c.toNat : Int)) = true := by simp; omega
        have fb : decide ((c.toNat : Int) ≤ 122) = false := by simp; omega
        have fc : decide ((65 : Int) ≤ (c.toNat : Int)) = true := by simp; omega
        have fd : decide ((c.toNat : Int) ≤ 90) = false := by simp; omega
        have fe : ((c.toNat : Int) == 95) = false := by simp; omega
        have ff : decide ((128 : Int) ≤ (c.toNat : Int)) = true := by simp; omega
        have fg : decide ((c.toNat : Int) < 48) = false := by simp; omega
        have fh : decide ((57 : Int) < (c.toNat : Int)) = true := by simp; omega
        have hko : okN l j = true := by rw [HOK.out]; unfold letterR; simp; omega
        have HST2 := Lib.hid (HST.out hko)
        clear hko h
        go_wp2
        go_round
        case rel => exact ⟨j + 1, by omega, by go_num, HST2.out⟩
        case measure => simp [RowKit.intOf]; omega
    · obtain rfl : j = l.length := by omega
      have hle := letters_all hall
      have HLE := Lib.hid (HNV.out.trans hle)
      clear hle hall
      go_wp2
      go_ret
      exact ⟨by rw [HLE.out]; rfl, rfl⟩
end Go.Proofs.YtijcleiekafoiaaGreatDoor

/- codicilref03.own, kind by kind. (printed by mkown5.py) -/
namespace Go.Proofs.YtijcleiekafoiaaGreatDoor
open Go.RowKit Go.Shelf
open Tr

def cnt3 (R : Int) (nb : Nat) : Nat := if R < 0 then 34 else if 1000 < R ∨ 4000 < nb then 33 else 0

set_option maxRecDepth 100000 in
set_option maxHeartbeats 8000000 in
theorem own3_b1 (w : World) (b : Bool) (i : Int) (t : List UInt8) {BA LA FA : Option Addr} {nb bc nl lc nf fc : Nat}
    (hbad : ¬ (b = false ∧ i = 0 ∧ t = [] ∧ nb = 0 ∧ nl = 0 ∧ nf = 0)) :
    Calls Tryz.prog 118 #[.agg #[.int .u8 1, .bool b, .int .i64 i, .string ⟨t.toArray⟩, .slice BA nb bc, .slice LA nl lc, .slice FA nf fc]] w fun e w' => e = .returned (.int .i64 (30 : Nat)) ∧ Fr no w w' := by
  have HB := Lib.hid hbad
  clear hbad
  go_enter Tryz.func118, Tryz.ntmps118
  go_wp2_with fail
  all_goals first
    | (go_ret; exact ⟨rfl, by (repeat first | exact Fr.refl _ _ | exact Fr.drewN _ _ _ | apply Fr.drew | apply Fr.alloc | apply Fr.setAt | apply Fr.moreN)⟩)
    | (exfalso; apply HB.out; clear HB; simp_all; done)
    | (exfalso; apply HB.out; clear HB; simp_all; omega)

set_option maxRecDepth 100000 in
set_option maxHeartbeats 8000000 in
theorem own3_b2 (w : World) (b : Bool) (i : Int) (t : List UInt8) {BA LA FA : Option Addr} {nb bc nl lc nf fc : Nat}
    (hbad : ¬ (i = 0 ∧ t = [] ∧ nb = 0 ∧ nl = 0 ∧ nf = 0)) :
    Calls Tryz.prog 118 #[.agg #[.int .u8 2, .bool b, .int .i64 i, .string ⟨t.toArray⟩, .slice BA nb bc, .slice LA nl lc, .slice FA nf fc]] w fun e w' => e = .returned (.int .i64 (30 : Nat)) ∧ Fr no w w' := by
  have HB := Lib.hid hbad
  clear hbad
  go_enter Tryz.func118, Tryz.ntmps118
  go_wp2_with fail
  all_goals first
    | (go_ret; exact ⟨rfl, by (repeat first | exact Fr.refl _ _ | exact Fr.drewN _ _ _ | apply Fr.drew | apply Fr.alloc | apply Fr.setAt | apply Fr.moreN)⟩)
    | (exfalso; apply HB.out; clear HB; simp_all; done)
    | (exfalso; apply HB.out; clear HB; simp_all; omega)

set_option maxRecDepth 100000 in
set_option maxHeartbeats 8000000 in
theorem own3_b3 (w : World) (b : Bool) (i : Int) (t : List UInt8) {BA LA FA : Option Addr} {nb bc nl lc nf fc : Nat}
    (hbad : ¬ (b = false ∧ t = [] ∧ nb = 0 ∧ nl = 0 ∧ nf = 0)) :
    Calls Tryz.prog 118 #[.agg #[.int .u8 3, .bool b, .int .i64 i, .string ⟨t.toArray⟩, .slice BA nb bc, .slice LA nl lc, .slice FA nf fc]] w fun e w' => e = .returned (.int .i64 (30 : Nat)) ∧ Fr no w w' := by
  have HB := Lib.hid hbad
  clear hbad
  go_enter Tryz.func118, Tryz.ntmps118
  go_wp2_with fail
  all_goals first
    | (go_ret; exact ⟨rfl, by (repeat first | exact Fr.refl _ _ | exact Fr.drewN _ _ _ | apply Fr.drew | apply Fr.alloc | apply Fr.setAt | apply Fr.moreN)⟩)
    | (exfalso; apply HB.out; clear HB; simp_all; done)
    | (exfalso; apply HB.out; clear HB; simp_all; omega)

set_option maxRecDepth 100000 in
set_option maxHeartbeats 8000000 in
theorem own3_b4 (w : World) (b : Bool) (i : Int) (t : List UInt8) {BA LA FA : Option Addr} {nb bc nl lc nf fc : Nat}
    (hbad : ¬ (b = false ∧ i = 0 ∧ nb = 0 ∧ nl = 0 ∧ nf = 0)) :
    Calls Tryz.prog 118 #[.agg #[.int .u8 4, .bool b, .int .i64 i, .string ⟨t.toArray⟩, .slice BA nb bc, .slice LA nl lc, .slice FA nf fc]] w fun e w' => e = .returned (.int .i64 (30 : Nat)) ∧ Fr no w w' := by
  have HB := Lib.hid hbad
  clear hbad
  go_enter Tryz.func118, Tryz.ntmps118
  go_wp2_with fail
  all_goals first
    | (go_ret; exact ⟨rfl, by (repeat first | exact Fr.refl _ _ | exact Fr.drewN _ _ _ | apply Fr.drew | apply Fr.alloc | apply Fr.setAt | apply Fr.moreN)⟩)
    | (exfalso; apply HB.out; clear HB; simp_all; done)
    | (exfalso; apply HB.out; clear HB; simp_all; omega)

set_option maxRecDepth 100000 in
set_option maxHeartbeats 8000000 in
theorem own3_b5 (w : World) (b : Bool) (i : Int) (t : List UInt8) {BA LA FA : Option Addr} {nb bc nl lc nf fc : Nat}
    (hbad : ¬ (b = false ∧ i = 0 ∧ t = [] ∧ nl = 0 ∧ nf = 0)) :
    Calls Tryz.prog 118 #[.agg #[.int .u8 5, .bool b, .int .i64 i, .string ⟨t.toArray⟩, .slice BA nb bc, .slice LA nl lc, .slice FA nf fc]] w fun e w' => e = .returned (.int .i64 (30 : Nat)) ∧ Fr no w w' := by
  have HB := Lib.hid hbad
  clear hbad
  go_enter Tryz.func118, Tryz.ntmps118
  go_wp2_with fail
  all_goals first
    | (go_ret; exact ⟨rfl, by (repeat first | exact Fr.refl _ _ | exact Fr.drewN _ _ _ | apply Fr.drew | apply Fr.alloc | apply Fr.setAt | apply Fr.moreN)⟩)
    | (exfalso; apply HB.out; clear HB; simp_all; done)
    | (exfalso; apply HB.out; clear HB; simp_all; omega)

set_option maxRecDepth 100000 in
set_option maxHeartbeats 8000000 in
theorem own3_b6 (w : World) (b : Bool) (i : Int) (t : List UInt8) {BA LA FA : Option Addr} {nb bc nl lc nf fc : Nat}
    (hbad : ¬ (b = false ∧ i = 0 ∧ t = [] ∧ nb = 0 ∧ nf = 0)) :
    Calls Tryz.prog 118 #[.agg #[.int .u8 6, .bool b, .int .i64 i, .string ⟨t.toArray⟩, .slice BA nb bc, .slice LA nl lc, .slice FA nf fc]] w fun e w' => e = .returned (.int .i64 (30 : Nat)) ∧ Fr no w w' := by
  have HB := Lib.hid hbad
  clear hbad
  go_enter Tryz.func118, Tryz.ntmps118
  go_wp2_with fail
  all_goals first
    | (go_ret; exact ⟨rfl, by (repeat first | exact Fr.refl _ _ | exact Fr.drewN _ _ _ | apply Fr.drew | apply Fr.alloc | apply Fr.setAt | apply Fr.moreN)⟩)
    | (exfalso; apply HB.out; clear HB; simp_all; done)
    | (exfalso; apply HB.out; clear HB; simp_all; omega)

set_option maxRecDepth 100000 in
set_option maxHeartbeats 8000000 in
theorem own3_b7 (w : World) (b : Bool) (i : Int) (t : List UInt8) {BA LA FA : Option Addr} {nb bc nl lc nf fc : Nat}
    (hbad : ¬ (b = false ∧ i = 0 ∧ t = [] ∧ nb = 0 ∧ nl = 0)) :
    Calls Tryz.prog 118 #[.agg #[.int .u8 7, .bool b, .int .i64 i, .string ⟨t.toArray⟩, .slice BA nb bc, .slice LA nl lc, .slice FA nf fc]] w fun e w' => e = .returned (.int .i64 (30 : Nat)) ∧ Fr no w w' := by
  have HB := Lib.hid hbad
  clear hbad
  go_enter Tryz.func118, Tryz.ntmps118
  go_wp2_with fail
  all_goals first
    | (go_ret; exact ⟨rfl, by (repeat first | exact Fr.refl _ _ | exact Fr.drewN _ _ _ | apply Fr.drew | apply Fr.alloc | apply Fr.setAt | apply Fr.moreN)⟩)
    | (exfalso; apply HB.out; clear HB; simp_all; done)
    | (exfalso; apply HB.out; clear HB; simp_all; omega)

set_option maxRecDepth 100000 in
set_option maxHeartbeats 8000000 in
theorem own3_bo (w : World) (kz : Int) (b : Bool) (i : Int) (t : List UInt8) {BA LA FA : Option Addr} {nb bc nl lc nf fc : Nat}
    (hbad : kz < 1 ∨ 7 < kz) :
    Calls Tryz.prog 118 #[.agg #[.int .u8 kz, .bool b, .int .i64 i, .string ⟨t.toArray⟩, .slice BA nb bc, .slice LA nl lc, .slice FA nf fc]] w fun e w' => e = .returned (.int .i64 (30 : Nat)) ∧ Fr no w w' := by
  rcases hbad with h | h
  · have g1 : decide (kz < 1) = true := decide_eq_true h
    clear h
    go_enter Tryz.func118, Tryz.ntmps118
    go_wp2_with fail
    go_ret
    exact ⟨rfl, by (repeat first | exact Fr.refl _ _ | exact Fr.drewN _ _ _ | apply Fr.drew | apply Fr.alloc | apply Fr.setAt | apply Fr.moreN)⟩
  · have g1 : decide (kz < 1) = false := decide_eq_false (by omega)
    have g2 : decide (7 < kz) = true := decide_eq_true h
    clear h
    go_enter Tryz.func118, Tryz.ntmps118
    go_wp2_with fail
    go_ret
    exact ⟨rfl, by (repeat first | exact Fr.refl _ _ | exact Fr.drewN _ _ _ | apply Fr.drew | apply Fr.alloc | apply Fr.setAt | apply Fr.moreN)⟩

set_option maxRecDepth 100000 in
set_option maxHeartbeats 8000000 in
theorem own3_g1 (w : World) {BA LA FA : Option Addr} {bc lc fc : Nat} (R : Int)
    (hru : ∀ W, Fr no w W → Calls Tryz.prog 132 #[.string ⟨#[]⟩] W fun e w' => e = .returned (.int .i64 R) ∧ w' = W) :
    Calls Tryz.prog 118 #[.agg #[.int .u8 1, .bool false, .int .i64 0, .string ⟨#[]⟩, .slice BA 0 bc, .slice LA 0 lc, .slice FA 0 fc]] w fun e w' => e = .returned (.int .i64 (cnt3 R 0)) ∧ Fr no w w' := by
  have HRU := Lib.hid hru
  clear hru
  have r1 : R < 0 → cnt3 R 0 = 34 := fun h => by unfold cnt3; rw [if_pos h]
  have r2 : ¬ R < 0 → 1000 < R ∨ 4000 < 0 → cnt3 R 0 = 33 := fun h h2 => by unfold cnt3; rw [if_neg h, if_pos h2]
  have r3 : ¬ R < 0 → ¬ (1000 < R ∨ 4000 < 0) → cnt3 R 0 = 0 := fun h h2 => by unfold cnt3; rw [if_neg h, if_neg h2]
  have R1 := Lib.hid r1; have R2 := Lib.hid r2; have R3 := Lib.hid r3
  clear r1 r2 r3
  go_enter Tryz.func118, Tryz.ntmps118
  go_wp2_with fail
  all_goals (
    go_loop [3] (fun iv => iv = .int .i64 0) (fun _ => 0)
    case atStart => rfl
    case round =>
      obtain rfl := hrel
      go_wp2_with fail
      refine (HRU.out _ (by (repeat first | exact Fr.refl _ _ | exact Fr.drewN _ _ _ | apply Fr.drew | apply Fr.alloc | apply Fr.setAt | apply Fr.moreN))).mono ?_
      rintro e w7 ⟨rfl, hw⟩
      subst w7
      go_wp2
      all_goals (go_ret; exact ⟨by first | (rw [R1.out (by omega)]; rfl) | (rw [R2.out (by omega) (by omega)]; rfl) | (rw [R3.out (by omega) (by omega)]; rfl), by (repeat first | exact Fr.refl _ _ | exact Fr.drewN _ _ _ | apply Fr.drew | apply Fr.alloc | apply Fr.setAt | apply Fr.moreN)⟩))

set_option maxRecDepth 100000 in
set_option maxHeartbeats 8000000 in
theorem own3_g2 (w : World) (b : Bool) {BA LA FA : Option Addr} {bc lc fc : Nat} (R : Int)
    (hru : ∀ W, Fr no w W → Calls Tryz.prog 132 #[.string ⟨#[]⟩] W fun e w' => e = .returned (.int .i64 R) ∧ w' = W) :
    Calls Tryz.prog 118 #[.agg #[.int .u8 2, .bool b, .int .i64 0, .string ⟨#[]⟩, .slice BA 0 bc, .slice LA 0 lc, .slice FA 0 fc]] w fun e w' => e = .returned (.int .i64 (cnt3 R 0)) ∧ Fr no w w' := by
  have HRU := Lib.hid hru
  clear hru
  have r1 : R < 0 → cnt3 R 0 = 34 := fun h => by unfold cnt3; rw [if_pos h]
  have r2 : ¬ R < 0 → 1000 < R ∨ 4000 < 0 → cnt3 R 0 = 33 := fun h h2 => by unfold cnt3; rw [if_neg h, if_pos h2]
  have r3 : ¬ R < 0 → ¬ (1000 < R ∨ 4000 < 0) → cnt3 R 0 = 0 := fun h h2 => by unfold cnt3; rw [if_neg h, if_neg h2]
  have R1 := Lib.hid r1; have R2 := Lib.hid r2; have R3 := Lib.hid r3
  clear r1 r2 r3
  go_enter Tryz.func118, Tryz.ntmps118
  go_wp2_with fail
  all_goals (
    go_loop [3] (fun iv => iv = .int .i64 0) (fun _ => 0)
    case atStart => rfl
    case round =>
      obtain rfl := hrel
      go_wp2_with fail
      refine (HRU.out _ (by (repeat first | exact Fr.refl _ _ | exact Fr.drewN _ _ _ | apply Fr.drew | apply Fr.alloc | apply Fr.setAt | apply Fr.moreN))).mono ?_
      rintro e w7 ⟨rfl, hw⟩
      subst w7
      go_wp2
      all_goals (go_ret; exact ⟨by first | (rw [R1.out (by omega)]; rfl) | (rw [R2.out (by omega) (by omega)]; rfl) | (rw [R3.out (by omega) (by omega)]; rfl), by (repeat first | exact Fr.refl _ _ | exact Fr.drewN _ _ _ | apply Fr.drew | apply Fr.alloc | apply Fr.setAt | apply Fr.moreN)⟩))

set_option maxRecDepth 100000 in
set_option maxHeartbeats 8000000 in
theorem own3_g3 (w : World) (i : Int) {BA LA FA : Option Addr} {bc lc fc : Nat} (R : Int)
    (hru : ∀ W, Fr no w W → Calls Tryz.prog 132 #[.string ⟨#[]⟩] W fun e w' => e = .returned (.int .i64 R) ∧ w' = W) :
    Calls Tryz.prog 118 #[.agg #[.int .u8 3, .bool false, .int .i64 i, .string ⟨#[]⟩, .slice BA 0 bc, .slice LA 0 lc, .slice FA 0 fc]] w fun e w' => e = .returned (.int .i64 (cnt3 R 0)) ∧ Fr no w w' := by
  have HRU := Lib.hid hru
  clear hru
  have r1 : R < 0 → cnt3 R 0 = 34 := fun h => by unfold cnt3; rw [if_pos h]
  have r2 : ¬ R < 0 → 1000 < R ∨ 4000 < 0 → cnt3 R 0 = 33 := fun h h2 => by unfold cnt3; rw [if_neg h, if_pos h2]
  have r3 : ¬ R < 0 → ¬ (1000 < R ∨ 4000 < 0) → cnt3 R 0 = 0 := fun h h2 => by unfold cnt3; rw [if_neg h, if_neg h2]
  have R1 := Lib.hid r1; have R2 := Lib.hid r2; have R3 := Lib.hid r3
  clear r1 r2 r3
  go_enter Tryz.func118, Tryz.ntmps118
  go_wp2_with fail
  all_goals (
    go_loop [3] (fun iv => iv = .int .i64 0) (fun _ => 0)
    case atStart => rfl
    case round =>
      obtain rfl := hrel
      go_wp2_with fail
      refine (HRU.out _ (by (repeat first | exact Fr.refl _ _ | exact Fr.drewN _ _ _ | apply Fr.drew | apply Fr.alloc | apply Fr.setAt | apply Fr.moreN))).mono ?_
      rintro e w7 ⟨rfl, hw⟩
      subst w7
      go_wp2
      all_goals (go_ret; exact ⟨by first | (rw [R1.out (by omega)]; rfl) | (rw [R2.out (by omega) (by omega)]; rfl) | (rw [R3.out (by omega) (by omega)]; rfl), by (repeat first | exact Fr.refl _ _ | exact Fr.drewN _ _ _ | apply Fr.drew | apply Fr.alloc | apply Fr.setAt | apply Fr.moreN)⟩))

set_option maxRecDepth 100000 in
set_option maxHeartbeats 8000000 in
theorem own3_g4 (w : World) (T : ByteArray) {BA LA FA : Option Addr} {bc lc fc : Nat} (R : Int)
    (hru : ∀ W, Fr no w W → Calls Tryz.prog 132 #[.string T] W fun e w' => e = .returned (.int .i64 R) ∧ w' = W) :
    Calls Tryz.prog 118 #[.agg #[.int .u8 4, .bool false, .int .i64 0, .string T, .slice BA 0 bc, .slice LA 0 lc, .slice FA 0 fc]] w fun e w' => e = .returned (.int .i64 (cnt3 R 0)) ∧ Fr no w w' := by
  have HRU := Lib.hid hru
  clear hru
  have r1 : R < 0 → cnt3 R 0 = 34 := fun h => by unfold cnt3; rw [if_pos h]
  have r2 : ¬ R < 0 → 1000 < R ∨ 4000 < 0 → cnt3 R 0 = 33 := fun h h2 => by unfold cnt3; rw [if_neg h, if_pos h2]
  have r3 : ¬ R < 0 → ¬ (1000 < R ∨ 4000 < 0) → cnt3 R 0 = 0 := fun h h2 => by unfold cnt3; rw [if_neg h, if_neg h2]
  have R1 := Lib.hid r1; have R2 := Lib.hid r2; have R3 := Lib.hid r3
  clear r1 r2 r3
  go_enter Tryz.func118, Tryz.ntmps118
  go_wp2_with fail
  all_goals (
    go_loop [3] (fun iv => iv = .int .i64 0) (fun _ => 0)
    case atStart => rfl
    case round =>
      obtain rfl := hrel
      go_wp2_with fail
      refine (HRU.out _ (by (repeat first | exact Fr.refl _ _ | exact Fr.drewN _ _ _ | apply Fr.drew | apply Fr.alloc | apply Fr.setAt | apply Fr.moreN))).mono ?_
      rintro e w7 ⟨rfl, hw⟩
      subst w7
      go_wp2
      all_goals (go_ret; exact ⟨by first | (rw [R1.out (by omega)]; rfl) | (rw [R2.out (by omega) (by omega)]; rfl) | (rw [R3.out (by omega) (by omega)]; rfl), by (repeat first | exact Fr.refl _ _ | exact Fr.drewN _ _ _ | apply Fr.drew | apply Fr.alloc | apply Fr.setAt | apply Fr.moreN)⟩))

set_option maxRecDepth 100000 in
set_option maxHeartbeats 8000000 in
theorem own3_g5 (w : World) {nb : Nat} (hnb : nb ≤ 140737488351232) {BA LA FA : Option Addr} {bc lc fc : Nat} (R : Int)
    (hru : ∀ W, Fr no w W → Calls Tryz.prog 132 #[.string ⟨#[]⟩] W fun e w' => e = .returned (.int .i64 R) ∧ w' = W) :
    Calls Tryz.prog 118 #[.agg #[.int .u8 5, .bool false, .int .i64 0, .string ⟨#[]⟩, .slice BA nb bc, .slice LA 0 lc, .slice FA 0 fc]] w fun e w' => e = .returned (.int .i64 (cnt3 R nb)) ∧ Fr no w w' := by
  have HRU := Lib.hid hru
  clear hru
  have r1 : R < 0 → cnt3 R nb = 34 := fun h => by unfold cnt3; rw [if_pos h]
  have r2 : ¬ R < 0 → 1000 < R ∨ 4000 < nb → cnt3 R nb = 33 := fun h h2 => by unfold cnt3; rw [if_neg h, if_pos h2]
  have r3 : ¬ R < 0 → ¬ (1000 < R ∨ 4000 < nb) → cnt3 R nb = 0 := fun h h2 => by unfold cnt3; rw [if_neg h, if_neg h2]
  have R1 := Lib.hid r1; have R2 := Lib.hid r2; have R3 := Lib.hid r3
  clear r1 r2 r3
  go_enter Tryz.func118, Tryz.ntmps118
  go_wp2_with fail
  all_goals (
    go_loop [3] (fun iv => iv = .int .i64 0) (fun _ => 0)
    case atStart => rfl
    case round =>
      obtain rfl := hrel
      go_wp2_with fail
      refine (HRU.out _ (by (repeat first | exact Fr.refl _ _ | exact Fr.drewN _ _ _ | apply Fr.drew | apply Fr.alloc | apply Fr.setAt | apply Fr.moreN))).mono ?_
      rintro e w7 ⟨rfl, hw⟩
      subst w7
      go_wp2
      all_goals (go_ret; exact ⟨by first | (rw [R1.out (by omega)]; rfl) | (rw [R2.out (by omega) (by omega)]; rfl) | (rw [R3.out (by omega) (by omega)]; rfl), by (repeat first | exact Fr.refl _ _ | exact Fr.drewN _ _ _ | apply Fr.drew | apply Fr.alloc | apply Fr.setAt | apply Fr.moreN)⟩))

set_option maxRecDepth 100000 in
set_option maxHeartbeats 8000000 in
theorem own3_g6 (w : World) {nl : Nat} {BA LA FA : Option Addr} {bc lc fc : Nat} (R : Int)
    (hru : ∀ W, Fr no w W → Calls Tryz.prog 132 #[.string ⟨#[]⟩] W fun e w' => e = .returned (.int .i64 R) ∧ w' = W) :
    Calls Tryz.prog 118 #[.agg #[.int .u8 6, .bool false, .int .i64 0, .string ⟨#[]⟩, .slice BA 0 bc, .slice LA nl lc, .slice FA 0 fc]] w fun e w' => e = .returned (.int .i64 (cnt3 R 0)) ∧ Fr no w w' := by
  have HRU := Lib.hid hru
  clear hru
  have r1 : R < 0 → cnt3 R 0 = 34 := fun h => by unfold cnt3; rw [if_pos h]
  have r2 : ¬ R < 0 → 1000 < R ∨ 4000 < 0 → cnt3 R 0 = 33 := fun h h2 => by unfold cnt3; rw [if_neg h, if_pos h2]
  have r3 : ¬ R < 0 → ¬ (1000 < R ∨ 4000 < 0) → cnt3 R 0 = 0 := fun h h2 => by unfold cnt3; rw [if_neg h, if_neg h2]
  have R1 := Lib.hid r1; have R2 := Lib.hid r2; have R3 := Lib.hid r3
  clear r1 r2 r3
  go_enter Tryz.func118, Tryz.ntmps118
  go_wp2_with fail
  all_goals (
    go_loop [3] (fun iv => iv = .int .i64 0) (fun _ => 0)
    case atStart => rfl
    case round =>
      obtain rfl := hrel
      go_wp2_with fail
      refine (HRU.out _ (by (repeat first | exact Fr.refl _ _ | exact Fr.drewN _ _ _ | apply Fr.drew | apply Fr.alloc | apply Fr.setAt | apply Fr.moreN))).mono ?_
      rintro e w7 ⟨rfl, hw⟩
      subst w7
      go_wp2
      all_goals (go_ret; exact ⟨by first | (rw [R1.out (by omega)]; rfl) | (rw [R2.out (by omega) (by omega)]; rfl) | (rw [R3.out (by omega) (by omega)]; rfl), by (repeat first | exact Fr.refl _ _ | exact Fr.drewN _ _ _ | apply Fr.drew | apply Fr.alloc | apply Fr.setAt | apply Fr.moreN)⟩))
end Go.Proofs.YtijcleiekafoiaaGreatDoor
