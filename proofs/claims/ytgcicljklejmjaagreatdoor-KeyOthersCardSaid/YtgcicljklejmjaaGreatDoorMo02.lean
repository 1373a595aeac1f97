import Derived.Test.YtgcicljklejmjaaGreatDoorMb17
import Derived.Test.YtgcicljklejmjaaGreatDoorMo01

/- value.Cmp: the order of values. Printed by mkvcomp.py. -/
namespace Go.Proofs.YtgcicljklejmjaaGreatDoor
open Go.RowKit Go.Shelf
open Tr

/-- What the lists need of Cmp. -/
def CmpV (x : Tr Mm) : Prop := ∀ (y : Tr Mm) (w : World), Tr.Good w x → Tr.Good w y → Calls Tryz.prog 66 #[x.agg, y.agg] w fun e w' => e = .returned (.int .i64 (cmp x y)) ∧ Fr no w w'

/-- Fields compared. -/
def fcmp (p q : List UInt8 × Tr Mm) : Int := if cb p.1 q.1 ≠ 0 then cb p.1 q.1 else cmp p.2 q.2
theorem cmpF_step2 {l k : List (List UInt8 × Tr Mm)} {j : Nat} (h1 : j < l.length) (h2 : j < k.length) : cmpF (l.drop j) (k.drop j) = if fcmp l[j] k[j] ≠ 0 then fcmp l[j] k[j] else cmpF (l.drop (j + 1)) (k.drop (j + 1)) := by
  rw [cmpF_step h1 h2]
  unfold fcmp
  by_cases h : cb l[j].1 k[j].1 = 0
  · simp only [h, ne_eq, not_true_eq_false, if_false]
  · simp only [h, ne_eq, not_false_eq_true, if_true]

set_option maxRecDepth 100000 in
set_option maxHeartbeats 2000000 in
theorem fcomp_any (p q : List UInt8 × Tr Mm) (ih : CmpV p.2) (w : World) (hx : Tr.Good w p.2) (hy : Tr.Good w q.2) :
    Calls Tryz.prog 152 #[fagg p, fagg q] w fun e w' => e = .returned (.int .i64 (fcmp p q)) ∧ Fr no w w' := by
  obtain ⟨n, x⟩ := p
  obtain ⟨m, y⟩ := q
  obtain ⟨BA, bc, LA, lc, FA, fc, hf⟩ := hx.node.forms
  obtain ⟨BB, bd, LB, ld, FB, fd, hg⟩ := hy.node.forms
  have hcall := fun W (f : Fr no w W) => ih y W (hx.kept0 f) (hy.kept0 f)
  simp only at hf hg hcall
  rw [hf.agg, hg.agg] at hcall
  unfold fagg
  simp only
  rw [hf.B, hf.L, hf.F, hg.B, hg.L, hg.F]
  have HC := Lib.hid hcall
  clear hx hy ih hf hg hcall
  by_cases hn : cb n m = 0
  · have hv : fcmp (n, x) (m, y) = cmp x y := if_neg (by simpa using hn)
    rw [hv]
    have HN := Lib.hid hn; clear hn hv
    go_enter Tryz.func152, Tryz.ntmps152
    go_wp2_with fail
    refine (scomp_any _ n m).mono ?_
    rintro e w4 ⟨rfl, hw⟩
    subst w4
    rw [HN.out]
    go_wp2_with fail
    refine (HC.out _ (by (repeat first | exact Fr.refl _ _ | exact Fr.drewN _ _ _ | apply Fr.drew | apply Fr.alloc | apply Fr.setAt | apply Fr.moreN))).mono ?_
    rintro e w5 ⟨rfl, fy⟩
    have FY := Lib.hid ((by (repeat first | exact Fr.refl _ _ | exact Fr.drewN _ _ _ | apply Fr.drew | apply Fr.alloc | apply Fr.setAt | apply Fr.moreN) : Fr no w _).trans fy (fun _ _ h => h))
    clear fy
    go_wp2
    go_ret
    exact ⟨rfl, FY.out⟩
  · have hv : fcmp (n, x) (m, y) = cb n m := if_pos hn
    rw [hv]
    have gn : (cb n m != 0) = true := by rw [bne_iff_ne]; exact hn
    have HN := Lib.hid hn; clear hn hv HC
    go_enter Tryz.func152, Tryz.ntmps152
    go_wp2_with fail
    refine (scomp_any _ n m).mono ?_
    rintro e w4 ⟨rfl, hw⟩
    subst w4
    go_wp2
    go_ret
    exact ⟨rfl, by (repeat first | exact Fr.refl _ _ | exact Fr.drewN _ _ _ | apply Fr.drew | apply Fr.alloc | apply Fr.setAt | apply Fr.moreN)⟩

set_option maxRecDepth 100000 in
set_option maxHeartbeats 4000000 in
theorem cfl_any (l k : List (Tr Mm)) (ih : ∀ x ∈ l, CmpV x) (w : World) (X Y : Value) (hx : In w X l) (hy : In w Y k) :
    Calls Tryz.prog 149 #[X, Y, .func (.func 66) #[] #[]] w fun e w' => e = .returned (.int .i64 (cmpL l k)) ∧ Fr no w w' := by
  obtain ⟨A, c, rfl, hc1, hc2⟩ := hx.sl.form
  obtain ⟨B, d, rfl, hd1, hd2⟩ := hy.sl.form
  have hnl : l.length ≤ 140737488351232 := hx.n
  have hnk : k.length ≤ 140737488351232 := hy.n
  have HX := Lib.hid hx; have HY := Lib.hid hy; have IH := Lib.hid ih
  clear hx hy ih hc1 hc2 hd1 hd2
  go_enter Tryz.func149, Tryz.ntmps149
  go_wp2
  go_loopw [13] (fun i wr => ∃ j : Nat, j ≤ l.length ∧ j ≤ k.length ∧ i = .int .i64 j ∧ Fr no w wr ∧ cmpL l k = cmpL (l.drop j) (k.drop j)) (fun i _ => l.length - (intOf i).toNat)
  case atStart => exact ⟨0, Nat.zero_le _, Nat.zero_le _, rfl, Fr.refl _ _, rfl⟩
  case round =>
    obtain ⟨j, hj, hj2, rfl, hfr, hcm⟩ := hrel
    have HCM := Lib.hid hcm; clear hcm
    by_cases hlt : j < l.length
    · by_cases hlt2 : j < k.length
      · have hX := HX.out.kept0 hfr
        have hY := HY.out.kept0 hfr
        obtain ⟨b, o, KB, kb, KL, kl, KF, kf, rfl, hfj, q0, q1, q2, q3, q4, q5, q6, hgl⟩ := In.get hX j hlt
        obtain ⟨b', o', LB, lb, LL, ll, LF, lf, rfl, hfj', r0, r1, r2, r3, r4, r5, r6, hgl'⟩ := In.get hY j hlt2
        have hcall := fun W (f : Fr no wr W) => IH.out l[j] (List.getElem_mem _) k[j] W ((hX.good _ (List.getElem_mem _)).kept0 f) ((hY.good _ (List.getElem_mem _)).kept0 f)
        rw [hfj.agg, hfj'.agg] at hcall
        have hst := cmpL_step hlt hlt2
        have HC := Lib.hid hcall; have HFR := Lib.hid hfr; have HST := Lib.hid hst
        clear hcall hfr hX hY hfj hfj' hst
        go_wp2_with fail
        refine (HC.out _ (by (repeat first | exact Fr.refl _ _ | exact Fr.drewN _ _ _ | apply Fr.drew | apply Fr.alloc | apply Fr.setAt | apply Fr.moreN))).mono ?_
        rintro e w5 ⟨rfl, fy⟩
        have FY := Lib.hid ((by (repeat first | exact Fr.refl _ _ | exact Fr.drewN _ _ _ | apply Fr.drew | apply Fr.alloc | apply Fr.setAt | apply Fr.moreN) : Fr no wr _).trans fy (fun _ _ h => h))
        clear fy q0 q1 q2 q3 q4 q5 q6 r0 r1 r2 r3 r4 r5 r6 hgl hgl'
        by_cases hc : cmp l[j] k[j] = 0
        · have hst : cmpL l k = cmpL (l.drop (j + 1)) (k.drop (j + 1)) := by rw [HCM.out, HST.out, if_neg (by simpa using hc)]
          have HS2 := Lib.hid hst
          rw [hc]
          clear hst hc
          go_wp2
          go_roundw
          case rel => exact ⟨j + 1, by omega, by omega, by go_num, HFR.out.trans FY.out (fun _ _ h => h), HS2.out⟩
          case measure => simp [intOf]; omega
        · have hst : cmpL l k = cmp l[j] k[j] := by rw [HCM.out, HST.out, if_pos hc]
          have gc : (cmp l[j] k[j] != 0) = true := by rw [bne_iff_ne]; exact hc
          have HS2 := Lib.hid hst
          clear hst hc
          go_wp2
          go_ret
          exact ⟨by rw [HS2.out]; rfl, HFR.out.trans FY.out (fun _ _ h => h)⟩
      · have hen := cmpL_end hj hj2 (.inr (by omega))
        have hv : cmpL l k = 1 := by rw [HCM.out, hen]; unfold numC; rw [if_neg (by omega), if_pos (by omega)]
        have hX := HX.out.kept0 hfr
        obtain ⟨b, o, KB, kb, KL, kl, KF, kf, rfl, hfj, q0, q1, q2, q3, q4, q5, q6, hgl⟩ := In.get hX j hlt
        have HV := Lib.hid hv; have HFR := Lib.hid hfr
        clear hen hv hX hfr hfj
        go_wp2
        go_ret
        exact ⟨by rw [HV.out]; rfl, HFR.out.trans (by (repeat first | exact Fr.refl _ _ | exact Fr.drewN _ _ _ | apply Fr.drew | apply Fr.alloc | apply Fr.setAt | apply Fr.moreN)) (fun _ _ h => h)⟩
    · have hen := cmpL_end hj hj2 (.inl (by omega))
      have HFR := Lib.hid hfr; clear hfr
      by_cases hle : l.length < k.length
      · have hv : cmpL l k = -1 := by rw [HCM.out, hen]; unfold numC; rw [if_pos (by omega)]
        have HV := Lib.hid hv
        clear hen hv
        go_wp2
        go_ret
        exact ⟨by rw [HV.out]; rfl, HFR.out⟩
      · have hv : cmpL l k = 0 := by rw [HCM.out, hen]; unfold numC; rw [if_neg (by omega), if_neg (by omega)]
        have HV := Lib.hid hv
        clear hen hv
        go_wp2
        go_ret
        exact ⟨by rw [HV.out]; rfl, HFR.out⟩
set_option maxRecDepth 100000 in
set_option maxHeartbeats 4000000 in
theorem cff_any (l k : List (List UInt8 × Tr Mm)) (ih : ∀ p ∈ l, CmpV p.2) (w : World) (X Y : Value) (hx : InF w X l) (hy : InF w Y k) :
    Calls Tryz.prog 151 #[X, Y, .func (.func 152) #[] #[]] w fun e w' => e = .returned (.int .i64 (cmpF l k)) ∧ Fr no w w' := by
  obtain ⟨A, c, rfl, hc1, hc2⟩ := hx.sl.form
  obtain ⟨B, d, rfl, hd1, hd2⟩ := hy.sl.form
  have hnl : l.length ≤ 140737488351232 := hx.n
  have hnk : k.length ≤ 140737488351232 := hy.n
  have HX := Lib.hid hx; have HY := Lib.hid hy; have IH := Lib.hid ih
  clear hx hy ih hc1 hc2 hd1 hd2
  go_enter Tryz.func151, Tryz.ntmps151
  go_wp2
  go_loopw [13] (fun i wr => ∃ j : Nat, j ≤ l.length ∧ j ≤ k.length ∧ i = .int .i64 j ∧ Fr no w wr ∧ cmpF l k = cmpF (l.drop j) (k.drop j)) (fun i _ => l.length - (intOf i).toNat)
  case atStart => exact ⟨0, Nat.zero_le _, Nat.zero_le _, rfl, Fr.refl _ _, rfl⟩
  case round =>
    obtain ⟨j, hj, hj2, rfl, hfr, hcm⟩ := hrel
    have HCM := Lib.hid hcm; clear hcm
    by_cases hlt : j < l.length
    · by_cases hlt2 : j < k.length
      · have hX := HX.out.kept0 hfr
        have hY := HY.out.kept0 hfr
        obtain ⟨b, o, KB, kb, KL, kl, KF, kf, rfl, hfj, q0, q1, q2, q3, q4, q5, q6, q7, hgl⟩ := InF.get hX j hlt
        obtain ⟨b', o', LB, lb, LL, ll, LF, lf, rfl, hfj', r0, r1, r2, r3, r4, r5, r6, r7, hgl'⟩ := InF.get hY j hlt2
        have hcall := fun W (f : Fr no wr W) => fcomp_any l[j] k[j] (IH.out l[j] (List.getElem_mem _)) W ((hX.good _ (List.getElem_mem _)).kept0 f) ((hY.good _ (List.getElem_mem _)).kept0 f)
        unfold fagg at hcall
        rw [hfj.B, hfj.L, hfj.F, hfj'.B, hfj'.L, hfj'.F] at hcall
        have hst := cmpF_step2 hlt hlt2
        have HC := Lib.hid hcall; have HFR := Lib.hid hfr; have HST := Lib.hid hst
        clear hcall hfr hX hY hfj hfj' hst
        go_wp2_with fail
        refine (HC.out _ (by (repeat first | exact Fr.refl _ _ | exact Fr.drewN _ _ _ | apply Fr.drew | apply Fr.alloc | apply Fr.setAt | apply Fr.moreN))).mono ?_
        rintro e w5 ⟨rfl, fy⟩
        have FY := Lib.hid ((by (repeat first | exact Fr.refl _ _ | exact Fr.drewN _ _ _ | apply Fr.drew | apply Fr.alloc | apply Fr.setAt | apply Fr.moreN) : Fr no wr _).trans fy (fun _ _ h => h))
        clear fy q0 q1 q2 q3 q4 q5 q6 q7 r0 r1 r2 r3 r4 r5 r6 r7 hgl hgl'
        by_cases hc : fcmp l[j] k[j] = 0
        · have hst : cmpF l k = cmpF (l.drop (j + 1)) (k.drop (j + 1)) := by rw [HCM.out, HST.out, if_neg (by simpa using hc)]
          have HS2 := Lib.hid hst
          rw [hc]
          clear hst hc
          go_wp2
          go_roundw
          case rel => exact ⟨j + 1, by omega, by omega, by go_num, HFR.out.trans FY.out (fun _ _ h => h), HS2.out⟩
          case measure => simp [intOf]; omega
        · have hst : cmpF l k = fcmp l[j] k[j] := by rw [HCM.out, HST.out, if_pos hc]
          have gc : (fcmp l[j] k[j] != 0) = true := by rw [bne_iff_ne]; exact hc
          have HS2 := Lib.hid hst
          clear hst hc
          go_wp2
          go_ret
          exact ⟨by rw [HS2.out]; rfl, HFR.out.trans FY.out (fun _ _ h => h)⟩
      · have hen := cmpF_end hj hj2 (.inr (by omega))
        have hv : cmpF l k = 1 := by rw [HCM.out, hen]; unfold numC; rw [if_neg (by omega), if_pos (by omega)]
        have hX := HX.out.kept0 hfr
        obtain ⟨b, o, KB, kb, KL, kl, KF, kf, rfl, hfj, q0, q1, q2, q3, q4, q5, q6, q7, hgl⟩ := InF.get hX j hlt
        have HV := Lib.hid hv; have HFR := Lib.hid hfr
        clear hen hv hX hfr hfj
        go_wp2
        go_ret
        exact ⟨by rw [HV.out]; rfl, HFR.out.trans (by (repeat first | exact Fr.refl _ _ | exact Fr.drewN _ _ _ | apply Fr.drew | apply Fr.alloc | apply Fr.setAt | apply Fr.moreN)) (fun _ _ h => h)⟩
    · have hen := cmpF_end hj hj2 (.inl (by omega))
      have HFR := Lib.hid hfr; clear hfr
      by_cases hle : l.length < k.length
      · have hv : cmpF l k = -1 := by rw [HCM.out, hen]; unfold numC; rw [if_pos (by omega)]
        have HV := Lib.hid hv
        clear hen hv
        go_wp2
        go_ret
        exact ⟨by rw [HV.out]; rfl, HFR.out⟩
      · have hv : cmpF l k = 0 := by rw [HCM.out, hen]; unfold numC; rw [if_neg (by omega), if_neg (by omega)]
        have HV := Lib.hid hv
        clear hen hv
        go_wp2
        go_ret
        exact ⟨by rw [HV.out]; rfl, HFR.out⟩
set_option maxRecDepth 100000 in
theorem list_comp (l k : List (Tr Mm)) (ih : ∀ x ∈ l, CmpV x) (w : World) (X Y : Value) (hx : In w X l) (hy : In w Y k) : Calls Tryz.prog 148 #[X, .iface 192 Y] w fun e w' => e = .returned (.int .i64 (cmpL l k)) ∧ Fr no w w' := by
  have hta := fun (w : World) (v : Value) => run_assert_own (P := Tryz.prog) w 192 166 v Tryz.underlying192 rfl
  go_enter Tryz.func148, Tryz.ntmps148
  go_wp2_with fail
  refine (cfl_any l k ih _ _ _ hx hy).mono ?_
  rintro e w1 ⟨rfl, f1⟩
  have F1 := Lib.hid f1; clear f1
  go_wp2
  go_ret
  exact ⟨rfl, F1.out⟩
set_option maxRecDepth 100000 in
theorem fields_comp (l k : List (List UInt8 × Tr Mm)) (ih : ∀ p ∈ l, CmpV p.2) (w : World) (X Y : Value) (hx : InF w X l) (hy : InF w Y k) : Calls Tryz.prog 150 #[X, .iface 193 Y] w fun e w' => e = .returned (.int .i64 (cmpF l k)) ∧ Fr no w w' := by
  have hta := fun (w : World) (v : Value) => run_assert_own (P := Tryz.prog) w 193 166 v Tryz.underlying193 rfl
  go_enter Tryz.func150, Tryz.ntmps150
  go_wp2_with fail
  refine (cff_any l k ih _ _ _ hx hy).mono ?_
  rintro e w1 ⟨rfl, f1⟩
  have F1 := Lib.hid f1; clear f1
  go_wp2
  go_ret
  exact ⟨rfl, F1.out⟩

set_option maxRecDepth 100000 in
set_option maxHeartbeats 8000000 in
theorem vcmp_any (x : Tr Mm) : CmpV x := by
  induction x using Tr.ind with
  | h x ih =>
    intro y w hx hy
    obtain ⟨BA, bc, LA, lc, FA, fc, hf⟩ := hx.node.forms
    obtain ⟨BB, bd, LB, ld, FB, fd, hg⟩ := hy.node.forms
    have hxl := fun W (f : Fr no w W) => (hx.kept0 f).inL; have hyl := fun W (f : Fr no w W) => (hy.kept0 f).inL
    have hxf := fun W (f : Fr no w W) => (hx.kept0 f).inF; have hyf := fun W (f : Fr no w W) => (hy.kept0 f).inF
    have hxb := fun W (f : Fr no w W) => (hx.kept0 f).node.B; have hyb := fun W (f : Fr no w W) => (hy.kept0 f).node.B
    rw [hf.agg, hg.agg]
    rw [hf.L] at hxl; rw [hg.L] at hyl; rw [hf.F] at hxf; rw [hg.F] at hyf; rw [hf.B] at hxb; rw [hg.B] at hyb
    have hce : cmp x y = if x.k ≠ y.k then (if x.k < y.k then -1 else 1) else if x.k = 2 then (if x.b = y.b then 0 else if y.b then -1 else 1) else if x.k = 3 then (if x.i < y.i then -1 else if y.i < x.i then 1 else 0) else if x.k = 4 then cb x.t y.t else if x.k = 5 then cb x.bs y.bs else if x.k = 6 then cmpL x.l y.l else if x.k = 7 then cmpF x.f y.f else 0 := by rw [cmp]
    have HCE := Lib.hid hce; have HXL := Lib.hid hxl; have HYL := Lib.hid hyl; have HXF := Lib.hid hxf; have HYF := Lib.hid hyf; have HXB := Lib.hid hxb; have HYB := Lib.hid hyb; have IH := Lib.hid ih
    clear hce hxl hyl hxf hyf hxb hyb ih hf hg hx hy
    by_cases hk : x.k = y.k
    rotate_left
    · have hv : cmp x y = numK (x.k.toNat : Int) (y.k.toNat : Int) := by
        rw [HCE.out, if_pos hk]
        unfold numK
        by_cases h : x.k < y.k
        · rw [if_pos h, if_pos (by have := UInt8.lt_iff_toNat_lt.1 h; omega)]
        · rw [if_neg h, if_neg (by have : ¬ x.k.toNat < y.k.toNat := fun e => h (UInt8.lt_iff_toNat_lt.2 e); omega), if_pos (by
            have h1 : ¬ x.k.toNat < y.k.toNat := fun e => h (UInt8.lt_iff_toNat_lt.2 e)
            have h2 : x.k.toNat ≠ y.k.toNat := fun e => hk (UInt8.toNat_inj.1 e)
            omega)]
      have gk : ((x.k.toNat : Int) != (y.k.toNat : Int)) = true := by rw [bne_iff_ne]; intro h; exact hk (UInt8.toNat_inj.1 (by omega))
      have HV := Lib.hid hv; have HK := Lib.hid hk
      clear hv hk
      go_enter Tryz.func66, Tryz.ntmps66
      go_wp2_with fail
      refine (kcomp_any _ (x.k.toNat : Int) (y.k.toNat : Int)).mono ?_
      rintro e w' ⟨rfl, hw⟩
      subst w'
      go_wp2
      go_ret
      exact ⟨by rw [HV.out]; rfl, by (repeat first | exact Fr.refl _ _ | exact Fr.drewN _ _ _ | apply Fr.drew | apply Fr.alloc | apply Fr.setAt | apply Fr.moreN)⟩
    have hce : cmp x y = _ := HCE.out
    rw [if_neg (by simpa using hk)] at hce
    have HCE2 := Lib.hid hce
    have ek : y.k.toNat = x.k.toNat := by rw [hk]
    rw [ek]
    clear HCE hce ek hk
    have hkk : ∀ n : UInt8, x.k.toNat = n.toNat → x.k = n := fun n h => UInt8.toNat_inj.1 h
    have e : x.k.toNat = 1 ∨ x.k.toNat = 2 ∨ x.k.toNat = 3 ∨ x.k.toNat = 4 ∨ x.k.toNat = 5 ∨ x.k.toNat = 6 ∨ x.k.toNat = 7 ∨ ((x.k.toNat : Int) < 1 ∨ 7 < (x.k.toNat : Int)) := by omega
    rcases e with e | e | e | e | e | e | e | e
    · have hk1 := hkk 1 e
      have hv : cmp x y = (0 : Int) := by rw [HCE2.out, if_neg (by rw [hk1]; decide), if_neg (by rw [hk1]; decide), if_neg (by rw [hk1]; decide), if_neg (by rw [hk1]; decide), if_neg (by rw [hk1]; decide), if_neg (by rw [hk1]; decide)]
      rw [hv, e]
      clear hv HCE2 hkk hk1 e
      go_enter Tryz.func66, Tryz.ntmps66
      go_wp2_with fail
      refine wp_region_ord [0, 2, 1, 3, 4, 5] (fun i => [Kd.l, Kd.g, Kd.l, Kd.g, Kd.p, Kd.p].getD i .e) (by kernel_rfl) (by kernel_rfl) ?_
      iterate 2
        first | refine wpX_pu rfl rfl rfl (by first | exact pu_move rfl | exact pu_assign rfl | exact pu_nilCheck rfl rfl | exact pu_binInt rfl rfl rfl | exact pu_conv rfl rfl (by kernel_rfl) | exact pu_fld rfl (by kernel_rfl) | exact pu_ix rfl rfl rfl (by kernel_rfl) | exact pu_unOp rfl | exact pu_binStr rfl rfl rfl | exact pu_len rfl rfl | exact pu_lens rfl rfl | exact pu_pick rfl | exact pu_slice rfl rfl) (fun K hK => ?_) | refine wpX_rd rfl rfl rfl (rd_load rfl) (fun K hK => ?_) | refine wpX_gr rfl rfl rfl (by first | exact gr_buildSlice rfl | exact gr_box rfl | exact gr_alloc rfl) (fun K hK => ?_) | refine wpX_ex rfl rfl rfl (fun K hK => ?_)
        try go_wp2
      refine wpX_ca rfl rfl rfl (fun K hK => ?_)
      go_wp2_with fail
      refine (of_1 _ x.b x.i ⟨x.t.toArray⟩ BA LA FA x.bs.length bc x.l.length lc x.f.length fc).mono ?_
      rintro e w1 ⟨rfl, f1⟩
      have F10 := Lib.hid f1; have F1 := Lib.hid ((by (repeat first | exact Fr.refl _ _ | exact Fr.drewN _ _ _ | apply Fr.drew | apply Fr.alloc | apply Fr.setAt | apply Fr.moreN) : Fr no w _).trans f1 (fun _ _ h => h))
      clear f1
      go_wp2
      obtain ⟨⟨ea, eb⟩, hext⟩ := F10.out.ext
      refine ⟨⟨ea, eb, hext⟩, hK _ _ ?_⟩
      clear hK K hext ea eb
      refine wpX_ca rfl rfl rfl (fun K hK => ?_)
      go_wp2_with fail
      refine (of_1 _ y.b y.i ⟨y.t.toArray⟩ BB LB FB y.bs.length bd y.l.length ld y.f.length fd).mono ?_
      rintro e w2 ⟨rfl, f2⟩
      have F20 := Lib.hid f2; have F2 := Lib.hid (F1.out.trans ((by (repeat first | exact Fr.refl _ _ | exact Fr.drewN _ _ _ | apply Fr.drew | apply Fr.alloc | apply Fr.setAt | apply Fr.moreN) : Fr no w1 _).trans f2 (fun _ _ h => h)) (fun _ _ h => h))
      clear f2
      go_wp2
      obtain ⟨⟨ea, eb⟩, hext⟩ := F20.out.ext
      refine ⟨⟨ea, eb, hext⟩, hK _ _ ?_⟩
      clear hK K hext ea eb
      iterate 2
        first | refine wpX_pu rfl rfl rfl (by first | exact pu_move rfl | exact pu_assign rfl | exact pu_nilCheck rfl rfl | exact pu_binInt rfl rfl rfl | exact pu_conv rfl rfl (by kernel_rfl) | exact pu_fld rfl (by kernel_rfl) | exact pu_ix rfl rfl rfl (by kernel_rfl) | exact pu_unOp rfl | exact pu_binStr rfl rfl rfl | exact pu_len rfl rfl | exact pu_lens rfl rfl | exact pu_pick rfl | exact pu_slice rfl rfl) (fun K hK => ?_) | refine wpX_rd rfl rfl rfl (rd_load rfl) (fun K hK => ?_) | refine wpX_gr rfl rfl rfl (by first | exact gr_buildSlice rfl | exact gr_box rfl | exact gr_alloc rfl) (fun K hK => ?_) | refine wpX_ex rfl rfl rfl (fun K hK => ?_)
        try go_wp2
      refine wpX_done ?_
      go_wp2_with fail
      refine (null_comp _ _).mono ?_
      rintro e w3 ⟨rfl, f3⟩
      have F3 := Lib.hid (F2.out.trans f3 (fun _ _ h => h))
      clear f3
      go_wp2
      all_goals (
        go_ret
        exact ⟨rfl, F3.out⟩)
    · have hk1 := hkk 2 e
      have hv : cmp x y = (if x.b = y.b then 0 else if y.b then -1 else 1) := by rw [HCE2.out, if_pos hk1]
      rw [hv, e]
      clear hv HCE2 hkk hk1 e
      go_enter Tryz.func66, Tryz.ntmps66
      go_wp2_with fail
      refine wp_region_ord [0, 2, 1, 3, 4, 5] (fun i => [Kd.l, Kd.g, Kd.l, Kd.g, Kd.p, Kd.p].getD i .e) (by kernel_rfl) (by kernel_rfl) ?_
      iterate 2
        first | refine wpX_pu rfl rfl rfl (by first | exact pu_move rfl | exact pu_assign rfl | exact pu_nilCheck rfl rfl | exact pu_binInt rfl rfl rfl | exact pu_conv rfl rfl (by kernel_rfl) | exact pu_fld rfl (by kernel_rfl) | exact pu_ix rfl rfl rfl (by kernel_rfl) | exact pu_unOp rfl | exact pu_binStr rfl rfl rfl | exact pu_len rfl rfl | exact pu_lens rfl rfl | exact pu_pick rfl | exact pu_slice rfl rfl) (fun K hK => ?_) | refine wpX_rd rfl rfl rfl (rd_load rfl) (fun K hK => ?_) | refine wpX_gr rfl rfl rfl (by first | exact gr_buildSlice rfl | exact gr_box rfl | exact gr_alloc rfl) (fun K hK => ?_) | refine wpX_ex rfl rfl rfl (fun K hK => ?_)
        try go_wp2
      refine wpX_ca rfl rfl rfl (fun K hK => ?_)
      go_wp2_with fail
      refine (of_2 _ x.b x.i ⟨x.t.toArray⟩ BA LA FA x.bs.length bc x.l.length lc x.f.length fc).mono ?_
      rintro e w1 ⟨rfl, f1⟩
      have F10 := Lib.hid f1; have F1 := Lib.hid ((by (repeat first | exact Fr.refl _ _ | exact Fr.drewN _ _ _ | apply Fr.drew | apply Fr.alloc | apply Fr.setAt | apply Fr.moreN) : Fr no w _).trans f1 (fun _ _ h => h))
      clear f1
      go_wp2
      obtain ⟨⟨ea, eb⟩, hext⟩ := F10.out.ext
      refine ⟨⟨ea, eb, hext⟩, hK _ _ ?_⟩
      clear hK K hext ea eb
      refine wpX_ca rfl rfl rfl (fun K hK => ?_)
      go_wp2_with fail
      refine (of_2 _ y.b y.i ⟨y.t.toArray⟩ BB LB FB y.bs.length bd y.l.length ld y.f.length fd).mono ?_
      rintro e w2 ⟨rfl, f2⟩
      have F20 := Lib.hid f2; have F2 := Lib.hid (F1.out.trans ((by (repeat first | exact Fr.refl _ _ | exact Fr.drewN _ _ _ | apply Fr.drew | apply Fr.alloc | apply Fr.setAt | apply Fr.moreN) : Fr no w1 _).trans f2 (fun _ _ h => h)) (fun _ _ h => h))
      clear f2
      go_wp2
      obtain ⟨⟨ea, eb⟩, hext⟩ := F20.out.ext
      refine ⟨⟨ea, eb, hext⟩, hK _ _ ?_⟩
      clear hK K hext ea eb
      iterate 2
        first | refine wpX_pu rfl rfl rfl (by first | exact pu_move rfl | exact pu_assign rfl | exact pu_nilCheck rfl rfl | exact pu_binInt rfl rfl rfl | exact pu_conv rfl rfl (by kernel_rfl) | exact pu_fld rfl (by kernel_rfl) | exact pu_ix rfl rfl rfl (by kernel_rfl) | exact pu_unOp rfl | exact pu_binStr rfl rfl rfl | exact pu_len rfl rfl | exact pu_lens rfl rfl | exact pu_pick rfl | exact pu_slice rfl rfl) (fun K hK => ?_) | refine wpX_rd rfl rfl rfl (rd_load rfl) (fun K hK => ?_) | refine wpX_gr rfl rfl rfl (by first | exact gr_buildSlice rfl | exact gr_box rfl | exact gr_alloc rfl) (fun K hK => ?_) | refine wpX_ex rfl rfl rfl (fun K hK => ?_)
        try go_wp2
      refine wpX_done ?_
      go_wp2_with fail
      refine (truth_comp _ _ _).mono ?_
      rintro e w3 ⟨rfl, f3⟩
      have F3 := Lib.hid (F2.out.trans (by rw [f3]; exact Fr.refl _ _ : Fr no w2 w3) (fun _ _ h => h))
      clear f3
      go_wp2
      all_goals (
        go_ret
        exact ⟨rfl, F3.out⟩)
    · have hk1 := hkk 3 e
      have hv : cmp x y = numK x.i y.i := by rw [HCE2.out, if_neg (by rw [hk1]; decide), if_pos hk1]; rfl
      rw [hv, e]
      clear hv HCE2 hkk hk1 e
      go_enter Tryz.func66, Tryz.ntmps66
      go_wp2_with fail
      refine wp_region_ord [0, 2, 1, 3, 4, 5] (fun i => [Kd.l, Kd.g, Kd.l, Kd.g, Kd.p, Kd.p].getD i .e) (by kernel_rfl) (by kernel_rfl) ?_
      iterate 2
        first | refine wpX_pu rfl rfl rfl (by first | exact pu_move rfl | exact pu_assign rfl | exact pu_nilCheck rfl rfl | exact pu_binInt rfl rfl rfl | exact pu_conv rfl rfl (by kernel_rfl) | exact pu_fld rfl (by kernel_rfl) | exact pu_ix rfl rfl rfl (by kernel_rfl) | exact pu_unOp rfl | exact pu_binStr rfl rfl rfl | exact pu_len rfl rfl | exact pu_lens rfl rfl | exact pu_pick rfl | exact pu_slice rfl rfl) (fun K hK => ?_) | refine wpX_rd rfl rfl rfl (rd_load rfl) (fun K hK => ?_) | refine wpX_gr rfl rfl rfl (by first | exact gr_buildSlice rfl | exact gr_box rfl | exact gr_alloc rfl) (fun K hK => ?_) | refine wpX_ex rfl rfl rfl (fun K hK => ?_)
        try go_wp2
      refine wpX_ca rfl rfl rfl (fun K hK => ?_)
      go_wp2_with fail
      refine (of_3 _ x.b x.i ⟨x.t.toArray⟩ BA LA FA x.bs.length bc x.l.length lc x.f.length fc).mono ?_
      rintro e w1 ⟨rfl, f1⟩
      have F10 := Lib.hid f1; have F1 := Lib.hid ((by (repeat first | exact Fr.refl _ _ | exact Fr.drewN _ _ _ | apply Fr.drew | apply Fr.alloc | apply Fr.setAt | apply Fr.moreN) : Fr no w _).trans f1 (fun _ _ h => h))
      clear f1
      go_wp2
      obtain ⟨⟨ea, eb⟩, hext⟩ := F10.out.ext
      refine ⟨⟨ea, eb, hext⟩, hK _ _ ?_⟩
      clear hK K hext ea eb
      refine wpX_ca rfl rfl rfl (fun K hK => ?_)
      go_wp2_with fail
      refine (of_3 _ y.b y.i ⟨y.t.toArray⟩ BB LB FB y.bs.length bd y.l.length ld y.f.length fd).mono ?_
      rintro e w2 ⟨rfl, f2⟩
      have F20 := Lib.hid f2; have F2 := Lib.hid (F1.out.trans ((by (repeat first | exact Fr.refl _ _ | exact Fr.drewN _ _ _ | apply Fr.drew | apply Fr.alloc | apply Fr.setAt | apply Fr.moreN) : Fr no w1 _).trans f2 (fun _ _ h => h)) (fun _ _ h => h))
      clear f2
      go_wp2
      obtain ⟨⟨ea, eb⟩, hext⟩ := F20.out.ext
      refine ⟨⟨ea, eb, hext⟩, hK _ _ ?_⟩
      clear hK K hext ea eb
      iterate 2
        first | refine wpX_pu rfl rfl rfl (by first | exact pu_move rfl | exact pu_assign rfl | exact pu_nilCheck rfl rfl | exact pu_binInt rfl rfl rfl | exact pu_conv rfl rfl (by kernel_rfl) | exact pu_fld rfl (by kernel_rfl) | exact pu_ix rfl rfl rfl (by kernel_rfl) | exact pu_unOp rfl | exact pu_binStr rfl rfl rfl | exact pu_len rfl rfl | exact pu_lens rfl rfl | exact pu_pick rfl | exact pu_slice rfl rfl) (fun K hK => ?_) | refine wpX_rd rfl rfl rfl (rd_load rfl) (fun K hK => ?_) | refine wpX_gr rfl rfl rfl (by first | exact gr_buildSlice rfl | exact gr_box rfl | exact gr_alloc rfl) (fun K hK => ?_) | refine wpX_ex rfl rfl rfl (fun K hK => ?_)
        try go_wp2
      refine wpX_done ?_
      go_wp2_with fail
      refine (number_comp _ _ _).mono ?_
      rintro e w3 ⟨rfl, f3⟩
      have F3 := Lib.hid (F2.out.trans (by rw [f3]; exact Fr.refl _ _ : Fr no w2 w3) (fun _ _ h => h))
      clear f3
      go_wp2
      all_goals (
        go_ret
        exact ⟨rfl, F3.out⟩)
    · have hk1 := hkk 4 e
      have hv : cmp x y = cb x.t y.t := by rw [HCE2.out, if_neg (by rw [hk1]; decide), if_neg (by rw [hk1]; decide), if_pos hk1]
      rw [hv, e]
      clear hv HCE2 hkk hk1 e
      go_enter Tryz.func66, Tryz.ntmps66
      go_wp2_with fail
      refine wp_region_ord [0, 2, 1, 3, 4, 5] (fun i => [Kd.l, Kd.g, Kd.l, Kd.g, Kd.p, Kd.p].getD i .e) (by kernel_rfl) (by kernel_rfl) ?_
      iterate 2
        first | refine wpX_pu rfl rfl rfl (by first | exact pu_move rfl | exact pu_assign rfl | exact pu_nilCheck rfl rfl | exact pu_binInt rfl rfl rfl | exact pu_conv rfl rfl (by kernel_rfl) | exact pu_fld rfl (by kernel_rfl) | exact pu_ix rfl rfl rfl (by kernel_rfl) | exact pu_unOp rfl | exact pu_binStr rfl rfl rfl | exact pu_len rfl rfl | exact pu_lens rfl rfl | exact pu_pick rfl | exact pu_slice rfl rfl) (fun K hK => ?_) | refine wpX_rd rfl rfl rfl (rd_load rfl) (fun K hK => ?_) | refine wpX_gr rfl rfl rfl (by first | exact gr_buildSlice rfl | exact gr_box rfl | exact gr_alloc rfl) (fun K hK => ?_) | refine wpX_ex rfl rfl rfl (fun K hK => ?_)
        try go_wp2
      refine wpX_ca rfl rfl rfl (fun K hK => ?_)
      go_wp2_with fail
      refine (of_4 _ x.b x.i ⟨x.t.toArray⟩ BA LA FA x.bs.length bc x.l.length lc x.f.length fc).mono ?_
      rintro e w1 ⟨rfl, f1⟩
      have F10 := Lib.hid f1; have F1 := Lib.hid ((by (repeat first | exact Fr.refl _ _ | exact Fr.drewN _ _ _ | apply Fr.drew | apply Fr.alloc | apply Fr.setAt | apply Fr.moreN) : Fr no w _).trans f1 (fun _ _ h => h))
      clear f1
      go_wp2
      obtain ⟨⟨ea, eb⟩, hext⟩ := F10.out.ext
      refine ⟨⟨ea, eb, hext⟩, hK _ _ ?_⟩
      clear hK K hext ea eb
      refine wpX_ca rfl rfl rfl (fun K hK => ?_)
      go_wp2_with fail
      refine (of_4 _ y.b y.i ⟨y.t.toArray⟩ BB LB FB y.bs.length bd y.l.length ld y.f.length fd).mono ?_
      rintro e w2 ⟨rfl, f2⟩
      have F20 := Lib.hid f2; have F2 := Lib.hid (F1.out.trans ((by (repeat first | exact Fr.refl _ _ | exact Fr.drewN _ _ _ | apply Fr.drew | apply Fr.alloc | apply Fr.setAt | apply Fr.moreN) : Fr no w1 _).trans f2 (fun _ _ h => h)) (fun _ _ h => h))
      clear f2
      go_wp2
      obtain ⟨⟨ea, eb⟩, hext⟩ := F20.out.ext
      refine ⟨⟨ea, eb, hext⟩, hK _ _ ?_⟩
      clear hK K hext ea eb
      iterate 2
        first | refine wpX_pu rfl rfl rfl (by first | exact pu_move rfl | exact pu_assign rfl | exact pu_nilCheck rfl rfl | exact pu_binInt rfl rfl rfl | exact pu_conv rfl rfl (by kernel_rfl) | exact pu_fld rfl (by kernel_rfl) | exact pu_ix rfl rfl rfl (by kernel_rfl) | exact pu_unOp rfl | exact pu_binStr rfl rfl rfl | exact pu_len rfl rfl | exact pu_lens rfl rfl | exact pu_pick rfl | exact pu_slice rfl rfl) (fun K hK => ?_) | refine wpX_rd rfl rfl rfl (rd_load rfl) (fun K hK => ?_) | refine wpX_gr rfl rfl rfl (by first | exact gr_buildSlice rfl | exact gr_box rfl | exact gr_alloc rfl) (fun K hK => ?_) | refine wpX_ex rfl rfl rfl (fun K hK => ?_)
        try go_wp2
      refine wpX_done ?_
      go_wp2_with fail
      refine (text_comp _ _ _).mono ?_
      rintro e w3 ⟨rfl, f3⟩
      have F3 := Lib.hid (F2.out.trans (by rw [f3]; exact Fr.refl _ _ : Fr no w2 w3) (fun _ _ h => h))
      clear f3
      go_wp2
      all_goals (
        go_ret
        exact ⟨rfl, F3.out⟩)
    · have hk1 := hkk 5 e
      have hv : cmp x y = cb x.bs y.bs := by rw [HCE2.out, if_neg (by rw [hk1]; decide), if_neg (by rw [hk1]; decide), if_neg (by rw [hk1]; decide), if_pos hk1]
      rw [hv, e]
      clear hv HCE2 hkk hk1 e
      go_enter Tryz.func66, Tryz.ntmps66
      go_wp2_with fail
      refine wp_region_ord [0, 2, 1, 3, 4, 5] (fun i => [Kd.l, Kd.g, Kd.l, Kd.g, Kd.p, Kd.p].getD i .e) (by kernel_rfl) (by kernel_rfl) ?_
      iterate 2
        first | refine wpX_pu rfl rfl rfl (by first | exact pu_move rfl | exact pu_assign rfl | exact pu_nilCheck rfl rfl | exact pu_binInt rfl rfl rfl | exact pu_conv rfl rfl (by kernel_rfl) | exact pu_fld rfl (by kernel_rfl) | exact pu_ix rfl rfl rfl (by kernel_rfl) | exact pu_unOp rfl | exact pu_binStr rfl rfl rfl | exact pu_len rfl rfl | exact pu_lens rfl rfl | exact pu_pick rfl | exact pu_slice rfl rfl) (fun K hK => ?_) | refine wpX_rd rfl rfl rfl (rd_load rfl) (fun K hK => ?_) | refine wpX_gr rfl rfl rfl (by first | exact gr_buildSlice rfl | exact gr_box rfl | exact gr_alloc rfl) (fun K hK => ?_) | refine wpX_ex rfl rfl rfl (fun K hK => ?_)
        try go_wp2
      refine wpX_ca rfl rfl rfl (fun K hK => ?_)
      go_wp2_with fail
      refine (of_5 _ x.b x.i ⟨x.t.toArray⟩ BA LA FA x.bs.length bc x.l.length lc x.f.length fc).mono ?_
      rintro e w1 ⟨rfl, f1⟩
      have F10 := Lib.hid f1; have F1 := Lib.hid ((by (repeat first | exact Fr.refl _ _ | exact Fr.drewN _ _ _ | apply Fr.drew | apply Fr.alloc | apply Fr.setAt | apply Fr.moreN) : Fr no w _).trans f1 (fun _ _ h => h))
      clear f1
      go_wp2
      obtain ⟨⟨ea, eb⟩, hext⟩ := F10.out.ext
      refine ⟨⟨ea, eb, hext⟩, hK _ _ ?_⟩
      clear hK K hext ea eb
      refine wpX_ca rfl rfl rfl (fun K hK => ?_)
      go_wp2_with fail
      refine (of_5 _ y.b y.i ⟨y.t.toArray⟩ BB LB FB y.bs.length bd y.l.length ld y.f.length fd).mono ?_
      rintro e w2 ⟨rfl, f2⟩
      have F20 := Lib.hid f2; have F2 := Lib.hid (F1.out.trans ((by (repeat first | exact Fr.refl _ _ | exact Fr.drewN _ _ _ | apply Fr.drew | apply Fr.alloc | apply Fr.setAt | apply Fr.moreN) : Fr no w1 _).trans f2 (fun _ _ h => h)) (fun _ _ h => h))
      clear f2
      go_wp2
      obtain ⟨⟨ea, eb⟩, hext⟩ := F20.out.ext
      refine ⟨⟨ea, eb, hext⟩, hK _ _ ?_⟩
      clear hK K hext ea eb
      iterate 2
        first | refine wpX_pu rfl rfl rfl (by first | exact pu_move rfl | exact pu_assign rfl | exact pu_nilCheck rfl rfl | exact pu_binInt rfl rfl rfl | exact pu_conv rfl rfl (by kernel_rfl) | exact pu_fld rfl (by kernel_rfl) | exact pu_ix rfl rfl rfl (by kernel_rfl) | exact pu_unOp rfl | exact pu_binStr rfl rfl rfl | exact pu_len rfl rfl | exact pu_lens rfl rfl | exact pu_pick rfl | exact pu_slice rfl rfl) (fun K hK => ?_) | refine wpX_rd rfl rfl rfl (rd_load rfl) (fun K hK => ?_) | refine wpX_gr rfl rfl rfl (by first | exact gr_buildSlice rfl | exact gr_box rfl | exact gr_alloc rfl) (fun K hK => ?_) | refine wpX_ex rfl rfl rfl (fun K hK => ?_)
        try go_wp2
      refine wpX_done ?_
      go_wp2_with fail
      refine (raw_comp _ _ _ _ _ _ _ (HXB.out _ F2.out) (HYB.out _ F2.out)).mono ?_
      rintro e w3 ⟨rfl, f3⟩
      have F3 := Lib.hid (F2.out.trans (by rw [f3]; exact Fr.refl _ _ : Fr no w2 w3) (fun _ _ h => h))
      clear f3
      go_wp2
      all_goals (
        go_ret
        exact ⟨rfl, F3.out⟩)
    · have hk1 := hkk 6 e
      have hv : cmp x y = cmpL x.l y.l := by rw [HCE2.out, if_neg (by rw [hk1]; decide), if_neg (by rw [hk1]; decide), if_neg (by rw [hk1]; decide), if_neg (by rw [hk1]; decide), if_pos hk1]
      rw [hv, e]
      clear hv HCE2 hkk hk1 e
      go_enter Tryz.func66, Tryz.ntmps66
      go_wp2_with fail
      refine wp_region_ord [0, 2, 1, 3, 4, 5] (fun i => [Kd.l, Kd.g, Kd.l, Kd.g, Kd.p, Kd.p].getD i .e) (by kernel_rfl) (by kernel_rfl) ?_
      iterate 2
        first | refine wpX_pu rfl rfl rfl (by first | exact pu_move rfl | exact pu_assign rfl | exact pu_nilCheck rfl rfl | exact pu_binInt rfl rfl rfl | exact pu_conv rfl rfl (by kernel_rfl) | exact pu_fld rfl (by kernel_rfl) | exact pu_ix rfl rfl rfl (by kernel_rfl) | exact pu_unOp rfl | exact pu_binStr rfl rfl rfl | exact pu_len rfl rfl | exact pu_lens rfl rfl | exact pu_pick rfl | exact pu_slice rfl rfl) (fun K hK => ?_) | refine wpX_rd rfl rfl rfl (rd_load rfl) (fun K hK => ?_) | refine wpX_gr rfl rfl rfl (by first | exact gr_buildSlice rfl | exact gr_box rfl | exact gr_alloc rfl) (fun K hK => ?_) | refine wpX_ex rfl rfl rfl (fun K hK => ?_)
        try go_wp2
      refine wpX_ca rfl rfl rfl (fun K hK => ?_)
      go_wp2_with fail
      refine (of_6 _ x.b x.i ⟨x.t.toArray⟩ BA LA FA x.bs.length bc x.l.length lc x.f.length fc).mono ?_
      rintro e w1 ⟨rfl, f1⟩
      have F10 := Lib.hid f1; have F1 := Lib.hid ((by (repeat first | exact Fr.refl _ _ | exact Fr.drewN _ _ _ | apply Fr.drew | apply Fr.alloc | apply Fr.setAt | apply Fr.moreN) : Fr no w _).trans f1 (fun _ _ h => h))
      clear f1
      go_wp2
      obtain ⟨⟨ea, eb⟩, hext⟩ := F10.out.ext
      refine ⟨⟨ea, eb, hext⟩, hK _ _ ?_⟩
      clear hK K hext ea eb
      refine wpX_ca rfl rfl rfl (fun K hK => ?_)
      go_wp2_with fail
      refine (of_6 _ y.b y.i ⟨y.t.toArray⟩ BB LB FB y.bs.length bd y.l.length ld y.f.length fd).mono ?_
      rintro e w2 ⟨rfl, f2⟩
      have F20 := Lib.hid f2; have F2 := Lib.hid (F1.out.trans ((by (repeat first | exact Fr.refl _ _ | exact Fr.drewN _ _ _ | apply Fr.drew | apply Fr.alloc | apply Fr.setAt | apply Fr.moreN) : Fr no w1 _).trans f2 (fun _ _ h => h)) (fun _ _ h => h))
      clear f2
      go_wp2
      obtain ⟨⟨ea, eb⟩, hext⟩ := F20.out.ext
      refine ⟨⟨ea, eb, hext⟩, hK _ _ ?_⟩
      clear hK K hext ea eb
      iterate 2
        first | refine wpX_pu rfl rfl rfl (by first | exact pu_move rfl | exact pu_assign rfl | exact pu_nilCheck rfl rfl | exact pu_binInt rfl rfl rfl | exact pu_conv rfl rfl (by kernel_rfl) | exact pu_fld rfl (by kernel_rfl) | exact pu_ix rfl rfl rfl (by kernel_rfl) | exact pu_unOp rfl | exact pu_binStr rfl rfl rfl | exact pu_len rfl rfl | exact pu_lens rfl rfl | exact pu_pick rfl | exact pu_slice rfl rfl) (fun K hK => ?_) | refine wpX_rd rfl rfl rfl (rd_load rfl) (fun K hK => ?_) | refine wpX_gr rfl rfl rfl (by first | exact gr_buildSlice rfl | exact gr_box rfl | exact gr_alloc rfl) (fun K hK => ?_) | refine wpX_ex rfl rfl rfl (fun K hK => ?_)
        try go_wp2
      refine wpX_done ?_
      go_wp2_with fail
      refine (list_comp _ _ (fun z hz => IH.out z (List.mem_append_left _ hz)) _ _ _ (HXL.out _ F2.out) (HYL.out _ F2.out)).mono ?_
      rintro e w3 ⟨rfl, f3⟩
      have F3 := Lib.hid (F2.out.trans f3 (fun _ _ h => h))
      clear f3
      go_wp2
      all_goals (
        go_ret
        exact ⟨rfl, F3.out⟩)
    · have hk1 := hkk 7 e
      have hv : cmp x y = cmpF x.f y.f := by rw [HCE2.out, if_neg (by rw [hk1]; decide), if_neg (by rw [hk1]; decide), if_neg (by rw [hk1]; decide), if_neg (by rw [hk1]; decide), if_neg (by rw [hk1]; decide), if_pos hk1]
      rw [hv, e]
      clear hv HCE2 hkk hk1 e
      go_enter Tryz.func66, Tryz.ntmps66
      go_wp2_with fail
      refine wp_region_ord [0, 2, 1, 3, 4, 5] (fun i => [Kd.l, Kd.g, Kd.l, Kd.g, Kd.p, Kd.p].getD i .e) (by kernel_rfl) (by kernel_rfl) ?_
      iterate 2
        first | refine wpX_pu rfl rfl rfl (by first | exact pu_move rfl | exact pu_assign rfl | exact pu_nilCheck rfl rfl | exact pu_binInt rfl rfl rfl | exact pu_conv rfl rfl (by kernel_rfl) | exact pu_fld rfl (by kernel_rfl) | exact pu_ix rfl rfl rfl (by kernel_rfl) | exact pu_unOp rfl | exact pu_binStr rfl rfl rfl | exact pu_len rfl rfl | exact pu_lens rfl rfl | exact pu_pick rfl | exact pu_slice rfl rfl) (fun K hK => ?_) | refine wpX_rd rfl rfl rfl (rd_load rfl) (fun K hK => ?_) | refine wpX_gr rfl rfl rfl (by first | exact gr_buildSlice rfl | exact gr_box rfl | exact gr_alloc rfl) (fun K hK => ?_) | refine wpX_ex rfl rfl rfl (fun K hK => ?_)
        try go_wp2
      refine wpX_ca rfl rfl rfl (fun K hK => ?_)
      go_wp2_with fail
      refine (of_7 _ x.b x.i ⟨x.t.toArray⟩ BA LA FA x.bs.length bc x.l.length lc x.f.length fc).mono ?_
      rintro e w1 ⟨rfl, f1⟩
      have F10 := Lib.hid f1; have F1 := Lib.hid ((by (repeat first | exact Fr.refl _ _ | exact Fr.drewN _ _ _ | apply Fr.drew | apply Fr.alloc | apply Fr.setAt | apply Fr.moreN) : Fr no w _).trans f1 (fun _ _ h => h))
      clear f1
      go_wp2
      obtain ⟨⟨ea, eb⟩, hext⟩ := F10.out.ext
      refine ⟨⟨ea, eb, hext⟩, hK _ _ ?_⟩
      clear hK K hext ea eb
      refine wpX_ca rfl rfl rfl (fun K hK => ?_)
      go_wp2_with fail
      refine (of_7 _ y.b y.i ⟨y.t.toArray⟩ BB LB FB y.bs.length bd y.l.length ld y.f.length fd).mono ?_
      rintro e w2 ⟨rfl, f2⟩
      have F20 := Lib.hid f2; have F2 := Lib.hid (F1.out.trans ((by (repeat first | exact Fr.refl _ _ | exact Fr.drewN _ _ _ | apply Fr.drew | apply Fr.alloc | apply Fr.setAt | apply Fr.moreN) : Fr no w1 _).trans f2 (fun _ _ h => h)) (fun _ _ h => h))
      clear f2
      go_wp2
      obtain ⟨⟨ea, eb⟩, hext⟩ := F20.out.ext
      refine ⟨⟨ea, eb, hext⟩, hK _ _ ?_⟩
      clear hK K hext ea eb
      iterate 2
        first | refine wpX_pu rfl rfl rfl (by first | exact pu_move rfl | exact pu_assign rfl | exact pu_nilCheck rfl rfl | exact pu_binInt rfl rfl rfl | exact pu_conv rfl rfl (by kernel_rfl) | exact pu_fld rfl (by kernel_rfl) | exact pu_ix rfl rfl rfl (by kernel_rfl) | exact pu_unOp rfl | exact pu_binStr rfl rfl rfl | exact pu_len rfl rfl | exact pu_lens rfl rfl | exact pu_pick rfl | exact pu_slice rfl rfl) (fun K hK => ?_) | refine wpX_rd rfl rfl rfl (rd_load rfl) (fun K hK => ?_) | refine wpX_gr rfl rfl rfl (by first | exact gr_buildSlice rfl | exact gr_box rfl | exact gr_alloc rfl) (fun K hK => ?_) | refine wpX_ex rfl rfl rfl (fun K hK => ?_)
        try go_wp2
      refine wpX_done ?_
      go_wp2_with fail
      refine (fields_comp _ _ (fun p hp => IH.out p.2 (List.mem_append_right _ (List.mem_map_of_mem hp))) _ _ _ (HXF.out _ F2.out) (HYF.out _ F2.out)).mono ?_
      rintro e w3 ⟨rfl, f3⟩
      have F3 := Lib.hid (F2.out.trans f3 (fun _ _ h => h))
      clear f3
      go_wp2
      all_goals (
        go_ret
        exact ⟨rfl, F3.out⟩)
    · have hv : cmp x y = 0 := by rw [HCE2.out, if_neg (fun h => by rw [h] at e; revert e; decide), if_neg (fun h => by rw [h] at e; revert e; decide), if_neg (fun h => by rw [h] at e; revert e; decide), if_neg (fun h => by rw [h] at e; revert e; decide), if_neg (fun h => by rw [h] at e; revert e; decide), if_neg (fun h => by rw [h] at e; revert e; decide)]
      rw [hv]
      clear hv HCE2 hkk
      go_enter Tryz.func66, Tryz.ntmps66
      go_wp2_with fail
      refine wp_region_ord [0, 2, 1, 3, 4, 5] (fun i => [Kd.l, Kd.g, Kd.l, Kd.g, Kd.p, Kd.p].getD i .e) (by kernel_rfl) (by kernel_rfl) ?_
      iterate 2
        first | refine wpX_pu rfl rfl rfl (by first | exact pu_move rfl | exact pu_assign rfl | exact pu_nilCheck rfl rfl | exact pu_binInt rfl rfl rfl | exact pu_conv rfl rfl (by kernel_rfl) | exact pu_fld rfl (by kernel_rfl) | exact pu_ix rfl rfl rfl (by kernel_rfl) | exact pu_unOp rfl | exact pu_binStr rfl rfl rfl | exact pu_len rfl rfl | exact pu_lens rfl rfl | exact pu_pick rfl | exact pu_slice rfl rfl) (fun K hK => ?_) | refine wpX_rd rfl rfl rfl (rd_load rfl) (fun K hK => ?_) | refine wpX_gr rfl rfl rfl (by first | exact gr_buildSlice rfl | exact gr_box rfl | exact gr_alloc rfl) (fun K hK => ?_) | refine wpX_ex rfl rfl rfl (fun K hK => ?_)
        try go_wp2
      refine wpX_ca rfl rfl rfl (fun K hK => ?_)
      go_wp2_with fail
      refine (of_other _ (x.k.toNat : Int) x.b x.i ⟨x.t.toArray⟩ BA LA FA x.bs.length bc x.l.length lc x.f.length fc e).mono ?_
      rintro e w1 ⟨rfl, f1⟩
      have F10 := Lib.hid f1; have F1 := Lib.hid ((by (repeat first | exact Fr.refl _ _ | exact Fr.drewN _ _ _ | apply Fr.drew | apply Fr.alloc | apply Fr.setAt | apply Fr.moreN) : Fr no w _).trans f1 (fun _ _ h => h))
      clear f1
      go_wp2
      obtain ⟨⟨ea, eb⟩, hext⟩ := F10.out.ext
      refine ⟨⟨ea, eb, hext⟩, hK _ _ ?_⟩
      clear hK K hext ea eb
      refine wpX_ca rfl rfl rfl (fun K hK => ?_)
      go_wp2_with fail
      refine (of_other _ (x.k.toNat : Int) y.b y.i ⟨y.t.toArray⟩ BB LB FB y.bs.length bd y.l.length ld y.f.length fd e).mono ?_
      rintro e w2 ⟨rfl, f2⟩
      have F20 := Lib.hid f2; have F2 := Lib.hid (F1.out.trans ((by (repeat first | exact Fr.refl _ _ | exact Fr.drewN _ _ _ | apply Fr.drew | apply Fr.alloc | apply Fr.setAt | apply Fr.moreN) : Fr no w1 _).trans f2 (fun _ _ h => h)) (fun _ _ h => h))
      clear f2
      go_wp2
      obtain ⟨⟨ea, eb⟩, hext⟩ := F20.out.ext
      refine ⟨⟨ea, eb, hext⟩, hK _ _ ?_⟩
      clear hK K hext ea eb
      iterate 2
        first | refine wpX_pu rfl rfl rfl (by first | exact pu_move rfl | exact pu_assign rfl | exact pu_nilCheck rfl rfl | exact pu_binInt rfl rfl rfl | exact pu_conv rfl rfl (by kernel_rfl) | exact pu_fld rfl (by kernel_rfl) | exact pu_ix rfl rfl rfl (by kernel_rfl) | exact pu_unOp rfl | exact pu_binStr rfl rfl rfl | exact pu_len rfl rfl | exact pu_lens rfl rfl | exact pu_pick rfl | exact pu_slice rfl rfl) (fun K hK => ?_) | refine wpX_rd rfl rfl rfl (rd_load rfl) (fun K hK => ?_) | refine wpX_gr rfl rfl rfl (by first | exact gr_buildSlice rfl | exact gr_box rfl | exact gr_alloc rfl) (fun K hK => ?_) | refine wpX_ex rfl rfl rfl (fun K hK => ?_)
        try go_wp2
      refine wpX_done ?_
      go_wp2
      go_ret
      exact ⟨rfl, F2.out⟩
end Go.Proofs.YtgcicljklejmjaaGreatDoor

/- codicilref04.Cmp: the order of tuples. -/
namespace Go.Proofs.YtgcicljklejmjaaGreatDoor
open Go.RowKit Go.Shelf
open Tr

theorem cmpL_range (l : List (Tr Mm)) : ∀ (k : List (Tr Mm)), (∀ x ∈ l, ∀ y : Tr Mm, -1 ≤ cmp x y ∧ cmp x y ≤ 1) → -1 ≤ cmpL l k ∧ cmpL l k ≤ 1 := by
  induction l with
  | nil => intro k _; cases k <;> (rw [cmpL]; omega)
  | cons x l ih =>
    intro k h
    cases k with
    | nil => rw [cmpL]; omega
    | cons y k =>
      rw [cmpL]
      split
      · exact h x (.head _) y
      · exact ih k (fun z hz => h z (.tail _ hz))
theorem cmpF_range (l : List (List UInt8 × Tr Mm)) : ∀ (k : List (List UInt8 × Tr Mm)), (∀ p ∈ l, ∀ y : Tr Mm, -1 ≤ cmp p.2 y ∧ cmp p.2 y ≤ 1) → -1 ≤ cmpF l k ∧ cmpF l k ≤ 1 := by
  induction l with
  | nil => intro k _; cases k <;> (rw [cmpF]; omega)
  | cons p l ih =>
    intro k h
    obtain ⟨n, x⟩ := p
    cases k with
    | nil => rw [cmpF]; omega
    | cons q k =>
      obtain ⟨m, y⟩ := q
      rw [cmpF]
      split
      · have := cb_range n m; omega
      · split
        · exact h (n, x) (.head _) y
        · exact ih k (fun z hz => h z (.tail _ hz))
theorem cmp_range (x : Tr Mm) : ∀ y : Tr Mm, -1 ≤ cmp x y ∧ cmp x y ≤ 1 := by
  induction x using Tr.ind with
  | h x ih =>
    intro y
    have hL := cmpL_range x.l y.l (fun z hz => ih z (List.mem_append_left _ hz))
    have hF := cmpF_range x.f y.f (fun p hp => ih p.2 (List.mem_append_right _ (List.mem_map_of_mem hp)))
    have h1 := cb_range x.t y.t
    have h2 := cb_range x.bs y.bs
    rw [cmp]
    repeat' split
    all_goals omega

set_option maxRecDepth 100000 in
set_option maxHeartbeats 400000 in
theorem falls4_any (w : World) (D : Value) (dl : List Bool) (i : Nat) (hd : Sl w 1 D dl.length (bls dl)) (hn : dl.length ≤ reachBytes) :
    Calls Tryz.prog 39 #[D, .int .i64 (i : Int)] w fun e w' => e = .returned (.bool (fallsB dl i)) ∧ w' = w := by
  obtain ⟨A, c, rfl, hc1, hc2⟩ := hd.form
  have hn : dl.length ≤ 140737488351232 := hn
  by_cases h : i < dl.length
  · obtain ⟨b, o, rfl, h1⟩ := bls_at hd i h
    have he : fallsB dl i = dl[i] := by unfold fallsB; simp [h]
    rw [he]
    have HD := Lib.hid hd; clear hd he
    go_enter Tryz.func39, Tryz.ntmps39
    go_wp2
    go_ret
    exact ⟨rfl, rfl⟩
  · have he : fallsB dl i = false := by unfold fallsB; simp [List.getElem?_eq_none (Nat.le_of_not_lt h)]
    rw [he]
    have HD := Lib.hid hd; clear hd he
    go_enter Tryz.func39, Tryz.ntmps39
    go_wp2
    go_ret
    exact ⟨rfl, rfl⟩

theorem cmpT_step (d : Nat → Bool) {l k : List (Tr Mm)} {j : Nat} (h1 : j < l.length) (h2 : j < k.length) : cmpT d j (l.drop j) (k.drop j) = if cmp l[j] k[j] ≠ 0 then (if d j then - cmp l[j] k[j] else cmp l[j] k[j]) else cmpT d (j + 1) (l.drop (j + 1)) (k.drop (j + 1)) := by
  rw [List.drop_eq_getElem_cons h1, List.drop_eq_getElem_cons h2, cmpT]
theorem cmpT_end (d : Nat → Bool) {l k : List (Tr Mm)} {j : Nat} (h1 : j ≤ l.length) (h2 : j ≤ k.length) (h : j = l.length ∨ j = k.length) : cmpT d j (l.drop j) (k.drop j) = numC l.length k.length := by
  have hl : (l.drop j).length = l.length - j := List.length_drop
  have hk : (k.drop j).length = k.length - j := List.length_drop
  unfold numC
  match e1 : l.drop j, e2 : k.drop j with
  | [], [] => rw [e1] at hl; rw [e2] at hk; simp only [List.length_nil] at hl hk; rw [cmpT, if_neg (by omega), if_neg (by omega)]
  | [], _ :: _ => rw [e1] at hl; rw [e2] at hk; simp only [List.length_nil, List.length_cons] at hl hk; rw [cmpT, if_pos (by omega)]
  | _ :: _, [] => rw [e1] at hl; rw [e2] at hk; simp only [List.length_nil, List.length_cons] at hl hk; rw [cmpT, if_neg (by omega), if_pos (by omega)]
  | _ :: _, _ :: _ => rw [e1] at hl; rw [e2] at hk; simp only [List.length_cons] at hl hk; omega

set_option maxRecDepth 100000 in
set_option maxHeartbeats 4000000 in
theorem cmp4_any (w : World) (X Y D : Value) (l k : List (Tr Mm)) (dl : List Bool) (hx : In w X l) (hy : In w Y k) (hd : Sl w 1 D dl.length (bls dl)) (hdn : dl.length ≤ reachBytes) :
    Calls Tryz.prog 23 #[X, Y, D] w fun e w' => e = .returned (.int .i64 (cmpT (fallsB dl) 0 l k)) ∧ Fr no w w' := by
  obtain ⟨A, c, rfl, _, _⟩ := hx.sl.form
  obtain ⟨B, bc, rfl, _, _⟩ := hy.sl.form
  obtain ⟨DA, dc, rfl, _, _⟩ := hd.form
  have hnl : l.length ≤ 140737488351232 := hx.n
  have hnk : k.length ≤ 140737488351232 := hy.n
  have HX := Lib.hid hx; have HY := Lib.hid hy; have HD := Lib.hid hd; have HDN := Lib.hid hdn
  clear hx hy hd hdn
  go_enter Tryz.func23, Tryz.ntmps23
  go_wp2
  go_loopw [7] (fun iv wr => ∃ j : Nat, j ≤ l.length ∧ j ≤ k.length ∧ iv = .int .i64 j ∧ Fr no w wr ∧ cmpT (fallsB dl) 0 l k = cmpT (fallsB dl) j (l.drop j) (k.drop j)) (fun iv _ => l.length - (intOf iv).toNat)
  case atStart => exact ⟨0, Nat.zero_le _, Nat.zero_le _, rfl, Fr.refl _ _, rfl⟩
  case round =>
    obtain ⟨j, hj, hj2, rfl, hfr, hcm⟩ := hrel
    have FR := Lib.hid hfr; have HCM := Lib.hid hcm
    clear hfr hcm
    by_cases hlt : j < l.length ∧ j < k.length
    · obtain ⟨hlt, hlt2⟩ := hlt
      have h1 := HX.out.kept0 FR.out
      have h2 := HY.out.kept0 FR.out
      obtain ⟨xb, xo, KB, kb, KL, kl, KF, kf, rfl, hfj, a0, a1, a2, a3, a4, a5, a6, hgl⟩ := In.get h1 j hlt
      obtain ⟨yb, yo, MB, mb, ML, ml, MF, mf, rfl, hgj, b0, b1, b2, b3, b4, b5, b6, hgm⟩ := In.get h2 j hlt2
      have hcall := fun W (f : Fr no wr W) => cmp_any l[j] k[j] W ((h1.good _ (List.getElem_mem _)).kept0 f) ((h2.good _ (List.getElem_mem _)).kept0 f)
      have hrg := cmp_range l[j] k[j]
      rw [hfj.agg, hgj.agg] at hcall
      have hst := cmpT_step (fallsB dl) hlt hlt2
      have hneg : IntKind.i64.wrap (- cmp l[j] k[j]) = - cmp l[j] k[j] := IntWalk.i64_in _ ⟨by omega, by omega⟩
      have HC := Lib.hid hcall; have HST := Lib.hid hst
      clear hcall hst h1 h2 hfj hgj hrg
      go_wp2_with fail
      refine wp_region_ord (List.range 10) (fun i => [Kd.p, Kd.p, Kd.p, Kd.l, Kd.p, Kd.p, Kd.p, Kd.l, Kd.g, Kd.p].getD i .e) (by kernel_rfl) (by kernel_rfl) ?_
      iterate 8
        first | refine wpX_pu rfl rfl rfl (by first | exact pu_move rfl | exact pu_assign rfl | exact pu_nilCheck rfl rfl | exact pu_binInt rfl rfl rfl | exact pu_conv rfl rfl (by kernel_rfl) | exact pu_fld rfl (by kernel_rfl) | exact pu_ix rfl rfl rfl (by kernel_rfl) | exact pu_unOp rfl | exact pu_binStr rfl rfl rfl | exact pu_len rfl rfl | exact pu_lens rfl rfl | exact pu_pick rfl | exact pu_slice rfl rfl) (fun K hK => ?_) | refine wpX_rd rfl rfl rfl (rd_load rfl) (fun K hK => ?_) | refine wpX_gr rfl rfl rfl (by first | exact gr_buildSlice rfl | exact gr_box rfl | exact gr_alloc rfl) (fun K hK => ?_) | refine wpX_ex rfl rfl rfl (fun K hK => ?_)
        try go_wp2
      refine wpX_ca rfl rfl rfl (fun K hK => ?_)
      go_wp2_with fail
      refine (HC.out _ (by (repeat first | exact Fr.refl _ _ | exact Fr.drewN _ _ _ | apply Fr.drew | apply Fr.alloc | apply Fr.setAt | apply Fr.moreN))).mono ?_
      rintro e w5 ⟨rfl, fy⟩
      have F50 := Lib.hid fy; have F5 := Lib.hid (FR.out.trans ((by (repeat first | exact Fr.refl _ _ | exact Fr.drewN _ _ _ | apply Fr.drew | apply Fr.alloc | apply Fr.setAt | apply Fr.moreN) : Fr no wr _).trans fy (fun _ _ h => h)) (fun _ _ h => h))
      clear fy
      by_cases hc : cmp l[j] k[j] = 0
      · have hst : cmpT (fallsB dl) 0 l k = cmpT (fallsB dl) (j + 1) (l.drop (j + 1)) (k.drop (j + 1)) := by rw [HCM.out, HST.out, if_neg (by simpa using hc)]
        have HS2 := Lib.hid hst
        rw [hc] at hneg ⊢
        clear hst hc hneg
        go_wp2
        obtain ⟨⟨ea, eb⟩, hext⟩ := F50.out.ext
        refine ⟨⟨ea, eb, hext⟩, hK _ _ ?_⟩
        clear hK K hext ea eb
        first | refine wpX_pu rfl rfl rfl (by first | exact pu_move rfl | exact pu_assign rfl | exact pu_nilCheck rfl rfl | exact pu_binInt rfl rfl rfl | exact pu_conv rfl rfl (by kernel_rfl) | exact pu_fld rfl (by kernel_rfl) | exact pu_ix rfl rfl rfl (by kernel_rfl) | exact pu_unOp rfl | exact pu_binStr rfl rfl rfl | exact pu_len rfl rfl | exact pu_lens rfl rfl | exact pu_pick rfl | exact pu_slice rfl rfl) (fun K hK => ?_) | refine wpX_rd rfl rfl rfl (rd_load rfl) (fun K hK => ?_) | refine wpX_gr rfl rfl rfl (by first | exact gr_buildSlice rfl | exact gr_box rfl | exact gr_alloc rfl) (fun K hK => ?_) | refine wpX_ex rfl rfl rfl (fun K hK => ?_)
        try go_wp2
        refine wpX_done ?_
        clear a0 a1 a2 a3 a4 a5 a6 b0 b1 b2 b3 b4 b5 b6 hgl hgm
        go_wp2
        go_roundw
        case rel => exact ⟨j + 1, by omega, by omega, by go_num, F5.out, HS2.out⟩
        case measure => simp [intOf]; omega
      · have hst : cmpT (fallsB dl) 0 l k = if fallsB dl j then - cmp l[j] k[j] else cmp l[j] k[j] := by rw [HCM.out, HST.out, if_pos hc]
        have gc : (cmp l[j] k[j] != 0) = true := by rw [bne_iff_ne]; exact hc
        have HS2 := Lib.hid hst
        clear hst hc
        go_wp2
        obtain ⟨⟨ea, eb⟩, hext⟩ := F50.out.ext
        refine ⟨⟨ea, eb, hext⟩, hK _ _ ?_⟩
        clear hK K hext ea eb
        first | refine wpX_pu rfl rfl rfl (by first | exact pu_move rfl | exact pu_assign rfl | exact pu_nilCheck rfl rfl | exact pu_binInt rfl rfl rfl | exact pu_conv rfl rfl (by kernel_rfl) | exact pu_fld rfl (by kernel_rfl) | exact pu_ix rfl rfl rfl (by kernel_rfl) | exact pu_unOp rfl | exact pu_binStr rfl rfl rfl | exact pu_len rfl rfl | exact pu_lens rfl rfl | exact pu_pick rfl | exact pu_slice rfl rfl) (fun K hK => ?_) | refine wpX_rd rfl rfl rfl (rd_load rfl) (fun K hK => ?_) | refine wpX_gr rfl rfl rfl (by first | exact gr_buildSlice rfl | exact gr_box rfl | exact gr_alloc rfl) (fun K hK => ?_) | refine wpX_ex rfl rfl rfl (fun K hK => ?_)
        try go_wp2
        refine wpX_done ?_
        clear a0 a1 a2 a3 a4 a5 a6 b0 b1 b2 b3 b4 b5 b6 hgl hgm
        go_wp2_with fail
        refine (falls4_any w5 _ dl j (HD.out.kept0 F5.out) HDN.out).mono ?_
        rintro e w6 ⟨rfl, hw⟩
        subst w6
        cases hf : fallsB dl j with
        | true =>
          rw [hf, if_pos rfl] at HS2
          go_wp2
          go_ret
          exact ⟨by rw [HS2.out]; rfl, F5.out⟩
        | false =>
          rw [hf, if_neg (by simp)] at HS2
          go_wp2
          go_ret
          exact ⟨by rw [HS2.out]; rfl, F5.out⟩
    · have hen := cmpT_end (fallsB dl) hj hj2 (by omega)
      have HEN := Lib.hid (HCM.out.trans hen)
      clear hen
      have hn : ∀ a b : Int, (a < b ∧ numC a b = -1) ∨ (¬ a < b ∧ b < a ∧ numC a b = 1) ∨ (¬ a < b ∧ ¬ b < a ∧ numC a b = 0) := fun a b => by
        unfold numC
        by_cases h1 : a < b
        · left; exact ⟨h1, if_pos h1⟩
        · by_cases h2 : b < a
          · right; left; exact ⟨h1, h2, by rw [if_neg h1, if_pos h2]⟩
          · right; right; exact ⟨h1, h2, by rw [if_neg h1, if_neg h2]⟩
      rcases hn l.length k.length with ⟨h1, h2⟩ | ⟨h1, h2, h3⟩ | ⟨h1, h2, h3⟩
      · have HV := Lib.hid (HEN.out.trans h2)
        have hA1 : ¬ (j < l.length ∧ j < k.length) := hlt
        have hA2 : ¬ j < l.length := by omega
        clear h2 hlt hA1 hn
        go_wp2
        go_ret
        exact ⟨by rw [HV.out]; rfl, FR.out⟩
      · have HV := Lib.hid (HEN.out.trans h3)
        have hA1 : j < l.length := by omega
        have hA2 : ¬ j < k.length := by omega
        clear h3 hlt hn
        go_wp2
        go_ret
        exact ⟨by rw [HV.out]; rfl, FR.out⟩
      · have HV := Lib.hid (HEN.out.trans h3)
        have hA2 : ¬ j < l.length := by omega
        clear h3 hlt hn
        go_wp2
        go_ret
        exact ⟨by rw [HV.out]; rfl, FR.out⟩

end Go.Proofs.YtgcicljklejmjaaGreatDoor
