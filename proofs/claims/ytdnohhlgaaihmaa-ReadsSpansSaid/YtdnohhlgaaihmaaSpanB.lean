/- reads.Set: Has. -/
import Derived.Test.YtdnohhlgaaihmaaSpanA
import Derived.Test.YtdnohhlgaaihmaaSpanP
namespace Go.Proofs.Ytdnohhlgaaihmaa
open Go.RowKit

/-- What Has answers. -/
def hasV (l : List SpV) (k : List UInt8) : Bool := match l.findIdx? fun y => past y.o y.t k with
  | some i => if h : i < l.length then decide (cb l[i].f k ≤ 0) else false
  | none => false

theorem past_upto (x : SpV) (k : List UInt8) : past x.o x.t k = true ↔ x.upto k := by
  unfold past SpV.upto lt
  have := cb_swap x.t k
  cases x.o <;> simp <;> omega

theorem hasV_mem {l : List SpV} (h : SpV.Norm l) (k : List UInt8) : hasV l k = true ↔ SpV.Mem l k := by
  induction l with
  | nil => simp [hasV, SpV.Mem]
  | cons y ys ih =>
    obtain ⟨h1, h2, h3⟩ := h
    have ih := ih h3
    unfold hasV at ih ⊢
    rw [List.findIdx?_cons, SpV.Mem.cons]
    by_cases hp : past y.o y.t k = true
    · have hu := (past_upto y k).1 hp
      rw [if_pos hp]
      simp only [List.length_cons, Nat.zero_lt_succ, dite_true, List.getElem_cons_zero, decide_eq_true_eq]
      refine ⟨fun h => .inl ⟨h, hu⟩, fun h => h.elim (fun h => h.1) fun ⟨z, hz, h4, _⟩ => ?_⟩
      obtain ⟨ho, hlt⟩ := h2 z hz
      exact lt_le (lt_le_trans (lt_trans (h1.some_ ho) hlt) h4)
    · rw [if_neg hp]
      have hu : ¬ y.mem k := fun h => hp ((past_upto y k).2 h.2)
      rw [or_iff_right hu, ← ih]
      cases hf : ys.findIdx? fun y => past y.o y.t k with
      | none => simp
      | some i => simp

set_option maxRecDepth 100000 in
set_option maxHeartbeats 400000 in
theorem has_any (w : World) (p : Nat) (sv K : Value) (l : List SpV) (k : List UInt8) (hs : Se w p sv l) (hK : Sl w 1 K k.length (bvs k)) (hl : l.length ≤ 100000) :
    Calls Try.prog 48 #[.pointer (some ⟨p, 0, none⟩), K] w fun e w' => e = .returned (.bool (hasV l k)) ∧ Fr no w w' := by
  obtain ⟨KA, kc, rfl, _, _⟩ := hK.form
  obtain ⟨A, c, rfl, hnc, hcm⟩ := hs.row.form
  have hpl := (one_cells hs.at_).2.2
  have hal := (Fr.refl no w).alloc (.cells #[.slice KA k.length kc] 34)
  have hc0 : (w.alloc (.cells #[.slice KA k.length kc] 34)).heap[w.heap.size]? = some (.cells #[.slice KA k.length kc] 34 (0, 0)) := heap_alloc_new _ _
  obtain ⟨q0, q1, q2⟩ := one_cells hc0
  obtain ⟨e0, e1, e2⟩ := one_cells (hs.kept0 hal).at_
  have HS := Lib.hid hs; have HK := Lib.hid hK; have HAL := Lib.hid hal; have HC0 := Lib.hid hc0; have HQ0 := Lib.hid q0; clear hs hK hal hc0 q0 q1 q2
  have hv : hasV l k = hasV l k := rfl
  conv at hv => lhs; unfold hasV
  go_enter Try.func48, Try.ntmps48
  go_wp2_with fail
  refine (index_has1 _ w.heap.size A c l (HS.out.kept0 HAL.out).row.sl (by omega) (fun y => past y.o y.t k) (fun w' hf' y hy => has1_any w' w.heap.size y.F y.T (.slice KA k.length kc) y.t k y.o (((HS.out.kept0 HAL.out).good y hy).T.kept0 hf') ((HK.out.kept0 HAL.out).kept0 hf') (hf'.cell HQ0.out (fun h => h)))).mono ?_
  rintro e w1 ⟨rfl, hf⟩
  have hs1 := (HS.out.kept0 HAL.out).kept0 hf
  have hk1 := (HK.out.kept0 HAL.out).kept0 hf
  obtain ⟨c0, c1, c2⟩ := one_cells (hf.heap HC0.out (fun h => h))
  have HF := Lib.hid (HAL.out.trans hf (fun _ _ h => h)); clear hf e0 e1 e2
  obtain ⟨e0, e1, e2⟩ := one_cells hs1.at_
  have HS1 := Lib.hid hs1; have HK1 := Lib.hid hk1; clear hs1 hk1
  cases hfi : l.findIdx? fun y => past y.o y.t k with
  | none =>
    have hf2 : fits (fun y => past y.o y.t k) l = -1 := by unfold fits; rw [hfi]
    rw [hfi] at hv
    rw [hf2]
    have HV := Lib.hid hv; clear hv hfi hf2
    go_wp2_with fail
    refine wp_region_ord (List.range 16) (fun i => [Kd.p, Kd.p, Kd.p, Kd.p, Kd.p, Kd.p, Kd.l, Kd.p, Kd.p, Kd.p, Kd.l, Kd.l, Kd.e, Kd.p, Kd.p, Kd.p].getD i .e) (by kernel_rfl) (by kernel_rfl) ?_
    iterate 16
      first | (refine wpX_un rfl rfl ?_; go_simp) | first | refine wpX_pu rfl rfl rfl (by first | exact pu_move rfl | exact pu_assign rfl | exact pu_nilCheck rfl rfl | exact pu_binInt rfl rfl rfl | exact pu_conv rfl rfl (by kernel_rfl) | exact pu_fld rfl (by kernel_rfl) | exact pu_ix rfl rfl rfl (by kernel_rfl) | exact pu_unOp rfl | exact pu_binStr rfl rfl rfl | exact pu_len rfl rfl | exact pu_lens rfl rfl | exact pu_pick rfl | exact pu_slice rfl rfl) (fun K hK => ?_) | refine wpX_rd rfl rfl rfl (rd_load rfl) (fun K hK => ?_) | refine wpX_gr rfl rfl rfl (by first | exact gr_buildSlice rfl | exact gr_box rfl | exact gr_alloc rfl) (fun K hK => ?_) | refine wpX_ex rfl rfl rfl (fun K hK => ?_)
      try go_wp2
    refine wpX_done ?_
    go_wp2
    go_ret
    exact ⟨by rw [← HV.out]; rfl, HF.out.drew⟩
  | some i =>
    have hf2 : fits (fun y => past y.o y.t k) l = (i : Int) := by unfold fits; rw [hfi]
    have hlt := (List.findIdx?_eq_some_iff_getElem.1 hfi).1
    rw [hfi] at hv
    simp only [hlt, dite_true] at hv
    rw [hf2]
    have HV := Lib.hid hv; clear hv hfi hf2
    obtain ⟨b, o, rfl, q0, q1, q2⟩ := Spans.at HS1.out.row.sl i hlt
    obtain ⟨yA, yc, hyA, _, _⟩ := (HS1.out.good l[i] (List.getElem_mem _)).F.form
    have hq := World.block_lt_of_cell? w1 _ q0
    have HY := Lib.hid (HS1.out.good l[i] (List.getElem_mem _)).F
    rw [hyA] at q0 HY
    clear hyA q1 q2
    go_wp2_with fail
    refine wp_region_ord (List.range 16) (fun i => [Kd.p, Kd.p, Kd.p, Kd.p, Kd.p, Kd.p, Kd.l, Kd.p, Kd.p, Kd.p, Kd.l, Kd.l, Kd.e, Kd.p, Kd.p, Kd.p].getD i .e) (by kernel_rfl) (by kernel_rfl) ?_
    iterate 12
      first | (refine wpX_un rfl rfl ?_; go_simp) | first | refine wpX_pu rfl rfl rfl (by first | exact pu_move rfl | exact pu_assign rfl | exact pu_nilCheck rfl rfl | exact pu_binInt rfl rfl rfl | exact pu_conv rfl rfl (by kernel_rfl) | exact pu_fld rfl (by kernel_rfl) | exact pu_ix rfl rfl rfl (by kernel_rfl) | exact pu_unOp rfl | exact pu_binStr rfl rfl rfl | exact pu_len rfl rfl | exact pu_lens rfl rfl | exact pu_pick rfl | exact pu_slice rfl rfl) (fun K hK => ?_) | refine wpX_rd rfl rfl rfl (rd_load rfl) (fun K hK => ?_) | refine wpX_gr rfl rfl rfl (by first | exact gr_buildSlice rfl | exact gr_box rfl | exact gr_alloc rfl) (fun K hK => ?_) | refine wpX_ex rfl rfl rfl (fun K hK => ?_)
      try go_wp2
    refine wpX_ex rfl rfl rfl (fun K hK => ?_)
    go_wp2_with fail
    refine (cmp_any _ _ _ l[i].f k (HY.out.kept0 (Fr.drew (Fr.refl no w1))) (HK1.out.kept0 (Fr.drew (Fr.refl no w1)))).mono ?_
    rintro e w2 ⟨rfl, rfl⟩
    go_wp2_with fail
    iterate 3
      first | (refine wpX_un rfl rfl ?_; go_simp) | first | refine wpX_pu rfl rfl rfl (by first | exact pu_move rfl | exact pu_assign rfl | exact pu_nilCheck rfl rfl | exact pu_binInt rfl rfl rfl | exact pu_conv rfl rfl (by kernel_rfl) | exact pu_fld rfl (by kernel_rfl) | exact pu_ix rfl rfl rfl (by kernel_rfl) | exact pu_unOp rfl | exact pu_binStr rfl rfl rfl | exact pu_len rfl rfl | exact pu_lens rfl rfl | exact pu_pick rfl | exact pu_slice rfl rfl) (fun K hK => ?_) | refine wpX_rd rfl rfl rfl (rd_load rfl) (fun K hK => ?_) | refine wpX_gr rfl rfl rfl (by first | exact gr_buildSlice rfl | exact gr_box rfl | exact gr_alloc rfl) (fun K hK => ?_) | refine wpX_ex rfl rfl rfl (fun K hK => ?_)
      try go_wp2
    refine wpX_done ?_
    go_wp2
    go_ret
    exact ⟨by rw [← HV.out]; rfl, HF.out.drew⟩
end Go.Proofs.Ytdnohhlgaaihmaa
