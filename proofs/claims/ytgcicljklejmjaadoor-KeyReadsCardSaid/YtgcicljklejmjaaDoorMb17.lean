import Derived.Test.YtgcicljklejmjaaDoorMb16

/- weight, much: how much there is in values. -/
namespace Go.Proofs.YtgcicljklejmjaaDoor
open Go.RowKit
open Tr

/-- How much there is in a value. -/
def wgt {α : Type} (x : Tr α) : Nat := 1 + x.t.length / 64 + x.bs.length / 64 + (x.l.attach.map fun y => wgt y.1).sum + (x.f.attach.map fun p => p.1.1.length / 64 + wgt p.1.2).sum
termination_by SizeOf.sizeOf x
decreasing_by
  · exact mem_l_lt y.2
  · exact mem_f_lt p.2
def wgtL {α : Type} (l : List (Tr α)) : Nat := (l.map wgt).sum
def wgtF {α : Type} (l : List (List UInt8 × Tr α)) : Nat := (l.map fun p => p.1.length / 64 + wgt p.2).sum
theorem wgt_eq {α : Type} (x : Tr α) : wgt x = 1 + x.t.length / 64 + x.bs.length / 64 + wgtL x.l + wgtF x.f := by
  rw [wgt]
  congr 1
  · congr 1
    unfold wgtL
    conv => rhs; rw [← List.attach_map_subtype_val x.l, List.map_map]
    rfl
  · unfold wgtF
    conv => rhs; rw [← List.attach_map_subtype_val x.f, List.map_map]
    rfl
theorem wgtL_snoc {α : Type} {l : List (Tr α)} {j : Nat} (h : j < l.length) : wgtL (l.take (j + 1)) = wgtL (l.take j) + wgt l[j] := by
  unfold wgtL
  rw [List.take_succ_eq_append_getElem h, List.map_append, List.sum_append]
  simp
theorem wgtF_snoc {α : Type} {l : List (List UInt8 × Tr α)} {j : Nat} (h : j < l.length) : wgtF (l.take (j + 1)) = wgtF (l.take j) + (l[j].1.length / 64 + wgt l[j].2) := by
  unfold wgtF
  rw [List.take_succ_eq_append_getElem h, List.map_append, List.sum_append]
  simp

/-- What weight says. -/
def WgtOut (x : Tr Mm) (n : Nat) (w : World) (e : Ending) (w' : World) : Prop := Fr no w w' ∧ ∃ W : Nat, e = .returned (.int .i64 W) ∧ n < W ∧ W ≤ 9000000000000 ∧ (W ≤ 20000 → W = n + wgt x)

set_option maxRecDepth 100000 in
set_option maxHeartbeats 8000000 in
theorem wgt_any (x : Tr Mm) : ∀ (w : World) (_ : Tr.Good w x) (n : Nat) (_ : n ≤ 3000000000000), Calls Tryd.prog 67 #[x.agg, .int .i64 n] w fun e w' => WgtOut x n w e w' := by
  induction x using Tr.ind with
  | h x ih =>
    intro w hx n hn
    obtain ⟨BA, bc, LA, lc, FA, fc, hf⟩ := hx.node.forms
    have nd := hx.node
    have hnt : x.t.length ≤ 140737488351232 := nd.t
    have hnb : x.bs.length ≤ 140737488351232 := nd.bs
    have hnl : x.l.length ≤ 140737488351232 := nd.l
    have hnf : x.f.length ≤ 140737488351232 := nd.f
    have hL := hx.inL; have hF := hx.inF
    have hnm := nd.n
    have hw := wgt_eq x
    rw [hf.agg]
    rw [hf.L] at hL; rw [hf.F] at hF
    have hi1 : IntKind.i64.wrap ((n : Int) + 1) = (n : Int) + 1 := IntWalk.i64_in _ ⟨by omega, by omega⟩
    have hi2 : IntKind.i64.wrap ((n : Int) + 1 + (x.t.length : Int) / 64) = (n : Int) + 1 + (x.t.length : Int) / 64 := IntWalk.i64_in _ ⟨by omega, by omega⟩
    have hi3 : IntKind.i64.wrap ((n : Int) + 1 + (x.t.length : Int) / 64 + (x.bs.length : Int) / 64) = (n : Int) + 1 + (x.t.length : Int) / 64 + (x.bs.length : Int) / 64 := IntWalk.i64_in _ ⟨by omega, by omega⟩
    obtain ⟨n1, hn1⟩ : ∃ n1 : Nat, n1 = n + 1 + x.t.length / 64 + x.bs.length / 64 := ⟨_, rfl⟩
    have hn2 : (n : Int) + 1 + (x.t.length : Int) / 64 + (x.bs.length : Int) / 64 = (n1 : Int) := by omega
    have HX := Lib.hid hx; have HL := Lib.hid hL; have HF := Lib.hid hF; have IH := Lib.hid ih; have HW := Lib.hid hw; have HN1 := Lib.hid hn1; have HNM := Lib.hid hnm
    clear hx hf hL hF ih nd hw hn1 hnm
    go_enter Tryd.func67, Tryd.ntmps67
    go_wp2
    have hb0 := heap_alloc_new w (.cells #[.int .u8 x.k.toNat, .bool x.b, .int .i64 x.i, .string ⟨x.t.toArray⟩, .slice BA x.bs.length bc, .slice LA x.l.length lc, .slice FA x.f.length fc] 33)
    have fz : Fr no w (w.alloc (.cells #[.int .u8 x.k.toNat, .bool x.b, .int .i64 x.i, .string ⟨x.t.toArray⟩, .slice BA x.bs.length bc, .slice LA x.l.length lc, .slice FA x.f.length fc] 33)) := (Fr.refl no w).alloc _
    generalize w.alloc (.cells #[.int .u8 x.k.toNat, .bool x.b, .int .i64 x.i, .string ⟨x.t.toArray⟩, .slice BA x.bs.length bc, .slice LA x.l.length lc, .slice FA x.f.length fc] 33) = w0 at hb0 fz ⊢
    have HB0 := Lib.hid hb0; have FZ := Lib.hid fz
    clear hb0 fz
    go_loopw [1, 5] (fun v iv wr => ∃ j W : Nat, j ≤ x.l.length ∧ iv = .int .i64 j ∧ v = .int .i64 W ∧ Fr no w0 wr ∧ n1 ≤ W ∧ W ≤ 9000000000000 ∧ (W ≤ 20000 → W = n1 + wgtL (x.l.take j))) (fun _ iv _ => x.l.length - (intOf iv).toNat)
    case atStart => exact ⟨0, n1, Nat.zero_le _, rfl, rfl, Fr.refl _ _, Nat.le_refl _, by have := HN1.out; omega, fun _ => rfl⟩
    case round =>
      obtain ⟨j, W, hj, rfl, rfl, hfr, hW1, hW2, hW3⟩ := hrel
      have hb1 := hfr.heap HB0.out (fun h => h)
      obtain ⟨q0, q1, q2, q3, q4, q5, q6, qz, ql⟩ := seven_cells hb1
      have hLr := HL.out.kept0 (FZ.out.trans hfr (fun _ _ h => h))
      have HFR := Lib.hid hfr; have HW1 := Lib.hid hW1; have HW3 := Lib.hid hW3; have HLR := Lib.hid hLr
      clear hfr hW1 hW3 hb1 hLr
      have hcase : (j < x.l.length ∧ W ≤ 20000) ∨ (j < x.l.length ∧ 20000 < W) ∨ j = x.l.length := by omega
      rcases hcase with ⟨hlt, hWl⟩ | ⟨hlt, hWl⟩ | rfl
      · obtain ⟨b, o, KB, kb, KL, kl, KF, kf, rfl, hfj, r0, r1, r2, r3, r4, r5, r6, rl⟩ := In.get HLR.out j hlt
        have hcall := IH.out x.l[j] (List.mem_append_left _ (List.getElem_mem _)) wr (HLR.out.good _ (List.getElem_mem _)) W (by omega)
        rw [hfj.agg] at hcall
        have HC := Lib.hid hcall
        clear hcall hfj
        go_wp2_with fail
        refine HC.out.mono ?_
        rintro e w5 ⟨fy, V, rfl, h1, h2, h3⟩
        have h3 : V ≤ 20000 → V = n1 + wgtL (x.l.take (j + 1)) := fun h => by
          have := HW3.out (by omega); have := h3 h; rw [wgtL_snoc hlt]; omega
        have H1 := Lib.hid h1; have H3 := Lib.hid h3; have FY := Lib.hid (HFR.out.trans fy (fun _ _ h => h))
        clear h1 h3 fy
        go_wp2
        go_roundw
        case rel => exact ⟨j + 1, V, by omega, by go_num, rfl, FY.out, by have := H1.out; have := HW1.out; omega, h2, H3.out⟩
        case measure => simp [intOf]; omega
      · have hT : W ≤ 20000 → W = n1 + wgtL x.l := fun h => by omega
        have HT := Lib.hid hT; have HWL := Lib.hid hW2
        clear hT
        obtain ⟨W0, rfl⟩ : ∃ W0, W0 = W := ⟨_, rfl⟩
        obtain ⟨w4, rfl⟩ : ∃ w4, w4 = wr := ⟨_, rfl⟩
        go_wp2
        go_loopw [1, 6] (fun v iv wr => ∃ j W : Nat, j ≤ x.f.length ∧ iv = .int .i64 j ∧ v = .int .i64 W ∧ Fr no w4 wr ∧ W0 ≤ W ∧ W ≤ 9000000000000 ∧ (W ≤ 20000 → W = W0 + wgtF (x.f.take j))) (fun _ iv _ => x.f.length - (intOf iv).toNat)
        case atStart => exact ⟨0, W0, Nat.zero_le _, rfl, rfl, Fr.refl _ _, Nat.le_refl _, HWL.out, fun _ => by simp [wgtF]⟩
        case round =>
          clear q0 q1 q2 q3 q4 q5 q6 qz ql
          obtain ⟨j, W, hj, rfl, rfl, hfr, hW1, hW2, hW3⟩ := hrel
          have hfr2 := HFR.out.trans hfr (fun _ _ h => h)
          have hb1 := hfr2.heap HB0.out (fun h => h)
          obtain ⟨q0, q1, q2, q3, q4, q5, q6, qz, ql⟩ := seven_cells hb1
          have hFr := HF.out.kept0 (FZ.out.trans hfr2 (fun _ _ h => h))
          have HFR2 := Lib.hid hfr; have HFR3 := Lib.hid hfr2; have HV1 := Lib.hid hW1; have HV3 := Lib.hid hW3; have HFF := Lib.hid hFr
          clear hfr hfr2 hW1 hW3 hb1 hFr
          have hcase : (j < x.f.length ∧ W ≤ 20000) ∨ (j < x.f.length ∧ 20000 < W) ∨ j = x.f.length := by omega
          rcases hcase with ⟨hlt, hWl⟩ | ⟨hlt, hWl⟩ | rfl
          · obtain ⟨b, o, KB, kb, KL, kl, KF, kf, rfl, hfj, n0, r0, r1, r2, r3, r4, r5, r6, rl⟩ := InF.get HFF.out j hlt
            have hnl := HNM.out x.f[j] (List.getElem_mem _)
            have hnl : x.f[j].1.length ≤ 140737488351232 := hnl
            have hi4 : IntKind.i64.wrap ((W : Int) + (x.f[j].1.length : Int) / 64) = ((W + x.f[j].1.length / 64 : Nat) : Int) := by
              rw [show ((W : Int) + (x.f[j].1.length : Int) / 64) = ((W + x.f[j].1.length / 64 : Nat) : Int) by omega]
              exact IntWalk.i64_in _ ⟨by omega, by omega⟩
            have hcall := fun W1 (f : Fr no wr W1) => IH.out x.f[j].2 (List.mem_append_right _ (List.mem_map_of_mem (List.getElem_mem _))) W1 ((HFF.out.good _ (List.getElem_mem _)).kept0 f) (W + x.f[j].1.length / 64) (by omega)
            rw [hfj.agg] at hcall
            have HC := Lib.hid hcall
            clear hcall hfj
            go_wp2_with fail
            refine wp_region_ord (List.range 18) (fun i => [Kd.p, Kd.l, Kd.p, Kd.p, Kd.p, Kd.l, Kd.p, Kd.p, Kd.l, Kd.p, Kd.p, Kd.p, Kd.l, Kd.p, Kd.p, Kd.p, Kd.g, Kd.e].getD i .e) (by kernel_rfl) (by kernel_rfl) ?_
            iterate 16
              (first | first | refine wpX_pu rfl rfl rfl (by first | exact pu_move rfl | exact pu_assign rfl | exact pu_nilCheck rfl rfl | exact pu_binInt rfl rfl rfl | exact pu_conv rfl rfl (by kernel_rfl) | exact pu_fld rfl (by kernel_rfl) | exact pu_ix rfl rfl rfl (by kernel_rfl) | exact pu_unOp rfl | exact pu_binStr rfl rfl rfl | exact pu_len rfl rfl | exact pu_lens rfl rfl | exact pu_pick rfl | exact pu_slice rfl rfl) (fun K hK => ?_) | refine wpX_rd rfl rfl rfl (rd_load rfl) (fun K hK => ?_) | refine wpX_gr rfl rfl rfl (by first | exact gr_buildSlice rfl | exact gr_box rfl | exact gr_alloc rfl) (fun K hK => ?_) | refine wpX_ex rfl rfl rfl (fun K hK => ?_))
              try go_wp2
            refine wpX_ca rfl rfl rfl (fun K hK => ?_)
            go_wp2_with fail
            refine (HC.out _ (by (repeat first | exact Fr.refl _ _ | exact Fr.drewN _ _ _ | apply Fr.drew | apply Fr.alloc | apply Fr.setAt | apply Fr.moreN))).mono ?_
            rintro e w5 ⟨fy, V, rfl, h1, h2, h3⟩
            have h3 : V ≤ 20000 → V = W0 + wgtF (x.f.take (j + 1)) := fun h => by
              have := HV3.out (by omega); have := h3 h; rw [wgtF_snoc hlt]; omega
            have h1 : W0 ≤ V := by have := HV1.out; omega
            have FY0 := Lib.hid fy
            have H1 := Lib.hid h1; have H3 := Lib.hid h3; have FY := Lib.hid (HFR2.out.trans ((by (repeat first | exact Fr.refl _ _ | exact Fr.drewN _ _ _ | apply Fr.drew | apply Fr.alloc | apply Fr.setAt | apply Fr.moreN) : Fr no wr _).trans fy (fun _ _ h => h)) (fun _ _ h => h))
            clear h1 h3 fy
            go_wp2
            obtain ⟨⟨xa, xb⟩, hext⟩ := FY0.out.ext
            refine ⟨⟨xa, xb, hext⟩, hK _ _ ?_⟩
            clear hK K hext xa xb
            first | refine wpX_pu rfl rfl rfl (by first | exact pu_move rfl | exact pu_assign rfl | exact pu_nilCheck rfl rfl | exact pu_binInt rfl rfl rfl | exact pu_conv rfl rfl (by kernel_rfl) | exact pu_fld rfl (by kernel_rfl) | exact pu_ix rfl rfl rfl (by kernel_rfl) | exact pu_unOp rfl | exact pu_binStr rfl rfl rfl | exact pu_len rfl rfl | exact pu_lens rfl rfl | exact pu_pick rfl | exact pu_slice rfl rfl) (fun K hK => ?_) | refine wpX_rd rfl rfl rfl (rd_load rfl) (fun K hK => ?_) | refine wpX_gr rfl rfl rfl (by first | exact gr_buildSlice rfl | exact gr_box rfl | exact gr_alloc rfl) (fun K hK => ?_) | refine wpX_ex rfl rfl rfl (fun K hK => ?_)
            try go_wp2
            refine wpX_done ?_
            go_wp2
            go_roundw
            case rel => exact ⟨j + 1, V, by omega, by go_num, rfl, FY.out, H1.out, h2, H3.out⟩
            case measure => simp [intOf]; omega
          · have hT : W ≤ 20000 → W = n + wgt x := fun h => by omega
            have HTT := Lib.hid hT; clear hT
            go_wp2
            go_ret
            exact ⟨FZ.out.trans HFR3.out (fun _ _ h => h), W, rfl, by have := HN1.out; have := HW1.out; have := HV1.out; omega, hW2, HTT.out⟩
          · have hT : W ≤ 20000 → W = n + wgt x := fun h => by
              have h1 := HV3.out h; rw [List.take_length] at h1
              have h2 := HT.out (by have := HV1.out; omega)
              have h3 := HN1.out; have h4 := HW.out
              omega
            have HTT := Lib.hid hT; clear hT
            go_wp2
            go_ret
            exact ⟨FZ.out.trans HFR3.out (fun _ _ h => h), W, rfl, by have := HN1.out; have := HW1.out; have := HV1.out; omega, hW2, HTT.out⟩
      · have hT : W ≤ 20000 → W = n1 + wgtL x.l := fun h => by have := HW3.out h; rwa [List.take_length] at this
        have HT := Lib.hid hT; have HWL := Lib.hid hW2
        clear hT
        obtain ⟨W0, rfl⟩ : ∃ W0, W0 = W := ⟨_, rfl⟩
        obtain ⟨w4, rfl⟩ : ∃ w4, w4 = wr := ⟨_, rfl⟩
        go_wp2
        go_loopw [1, 6] (fun v iv wr => ∃ j W : Nat, j ≤ x.f.length ∧ iv = .int .i64 j ∧ v = .int .i64 W ∧ Fr no w4 wr ∧ W0 ≤ W ∧ W ≤ 9000000000000 ∧ (W ≤ 20000 → W = W0 + wgtF (x.f.take j))) (fun _ iv _ => x.f.length - (intOf iv).toNat)
        case atStart => exact ⟨0, W0, Nat.zero_le _, rfl, rfl, Fr.refl _ _, Nat.le_refl _, HWL.out, fun _ => by simp [wgtF]⟩
        case round =>
          clear q0 q1 q2 q3 q4 q5 q6 qz ql
          obtain ⟨j, W, hj, rfl, rfl, hfr, hW1, hW2, hW3⟩ := hrel
          have hfr2 := HFR.out.trans hfr (fun _ _ h => h)
          have hb1 := hfr2.heap HB0.out (fun h => h)
          obtain ⟨q0, q1, q2, q3, q4, q5, q6, qz, ql⟩ := seven_cells hb1
          have hFr := HF.out.kept0 (FZ.out.trans hfr2 (fun _ _ h => h))
          have HFR2 := Lib.hid hfr; have HFR3 := Lib.hid hfr2; have HV1 := Lib.hid hW1; have HV3 := Lib.hid hW3; have HFF := Lib.hid hFr
          clear hfr hfr2 hW1 hW3 hb1 hFr
          have hcase : (j < x.f.length ∧ W ≤ 20000) ∨ (j < x.f.length ∧ 20000 < W) ∨ j = x.f.length := by omega
          rcases hcase with ⟨hlt, hWl⟩ | ⟨hlt, hWl⟩ | rfl
          · obtain ⟨b, o, KB, kb, KL, kl, KF, kf, rfl, hfj, n0, r0, r1, r2, r3, r4, r5, r6, rl⟩ := InF.get HFF.out j hlt
            have hnl := HNM.out x.f[j] (List.getElem_mem _)
            have hnl : x.f[j].1.length ≤ 140737488351232 := hnl
            have hi4 : IntKind.i64.wrap ((W : Int) + (x.f[j].1.length : Int) / 64) = ((W + x.f[j].1.length / 64 : Nat) : Int) := by
              rw [show ((W : Int) + (x.f[j].1.length : Int) / 64) = ((W + x.f[j].1.length / 64 : Nat) : Int) by omega]
              exact IntWalk.i64_in _ ⟨by omega, by omega⟩
            have hcall := fun W1 (f : Fr no wr W1) => IH.out x.f[j].2 (List.mem_append_right _ (List.mem_map_of_mem (List.getElem_mem _))) W1 ((HFF.out.good _ (List.getElem_mem _)).kept0 f) (W + x.f[j].1.length / 64) (by omega)
            rw [hfj.agg] at hcall
            have HC := Lib.hid hcall
            clear hcall hfj
            go_wp2_with fail
            refine wp_region_ord (List.range 18) (fun i => [Kd.p, Kd.l, Kd.p, Kd.p, Kd.p, Kd.l, Kd.p, Kd.p, Kd.l, Kd.p, Kd.p, Kd.p, Kd.l, Kd.p, Kd.p, Kd.p, Kd.g, Kd.e].getD i .e) (by kernel_rfl) (by kernel_rfl) ?_
            iterate 16
              (first | first | refine wpX_pu rfl rfl rfl (by first | exact pu_move rfl | exact pu_assign rfl | exact pu_nilCheck rfl rfl | exact pu_binInt rfl rfl rfl | exact pu_conv rfl rfl (by kernel_rfl) | exact pu_fld rfl (by kernel_rfl) | exact pu_ix rfl rfl rfl (by kernel_rfl) | exact pu_unOp rfl | exact pu_binStr rfl rfl rfl | exact pu_len rfl rfl | exact pu_lens rfl rfl | exact pu_pick rfl | exact pu_slice rfl rfl) (fun K hK => ?_) | refine wpX_rd rfl rfl rfl (rd_load rfl) (fun K hK => ?_) | refine wpX_gr rfl rfl rfl (by first | exact gr_buildSlice rfl | exact gr_box rfl | exact gr_alloc rfl) (fun K hK => ?_) | refine wpX_ex rfl rfl rfl (fun K hK => ?_))
              try go_wp2
            refine wpX_ca rfl rfl rfl (fun K hK => ?_)
            go_wp2_with fail
            refine (HC.out _ (by (repeat first | exact Fr.refl _ _ | exact Fr.drewN _ _ _ | apply Fr.drew | apply Fr.alloc | apply Fr.setAt | apply Fr.moreN))).mono ?_
            rintro e w5 ⟨fy, V, rfl, h1, h2, h3⟩
            have h3 : V ≤ 20000 → V = W0 + wgtF (x.f.take (j + 1)) := fun h => by
              have := HV3.out (by omega); have := h3 h; rw [wgtF_snoc hlt]; omega
            have h1 : W0 ≤ V := by have := HV1.out; omega
            have FY0 := Lib.hid fy
            have H1 := Lib.hid h1; have H3 := Lib.hid h3; have FY := Lib.hid (HFR2.out.trans ((by (repeat first | exact Fr.refl _ _ | exact Fr.drewN _ _ _ | apply Fr.drew | apply Fr.alloc | apply Fr.setAt | apply Fr.moreN) : Fr no wr _).trans fy (fun _ _ h => h)) (fun _ _ h => h))
            clear h1 h3 fy
            go_wp2
            obtain ⟨⟨xa, xb⟩, hext⟩ := FY0.out.ext
            refine ⟨⟨xa, xb, hext⟩, hK _ _ ?_⟩
            clear hK K hext xa xb
            first | refine wpX_pu rfl rfl rfl (by first | exact pu_move rfl | exact pu_assign rfl | exact pu_nilCheck rfl rfl | exact pu_binInt rfl rfl rfl | exact pu_conv rfl rfl (by kernel_rfl) | exact pu_fld rfl (by kernel_rfl) | exact pu_ix rfl rfl rfl (by kernel_rfl) | exact pu_unOp rfl | exact pu_binStr rfl rfl rfl | exact pu_len rfl rfl | exact pu_lens rfl rfl | exact pu_pick rfl | exact pu_slice rfl rfl) (fun K hK => ?_) | refine wpX_rd rfl rfl rfl (rd_load rfl) (fun K hK => ?_) | refine wpX_gr rfl rfl rfl (by first | exact gr_buildSlice rfl | exact gr_box rfl | exact gr_alloc rfl) (fun K hK => ?_) | refine wpX_ex rfl rfl rfl (fun K hK => ?_)
            try go_wp2
            refine wpX_done ?_
            go_wp2
            go_roundw
            case rel => exact ⟨j + 1, V, by omega, by go_num, rfl, FY.out, H1.out, h2, H3.out⟩
            case measure => simp [intOf]; omega
          · have hT : W ≤ 20000 → W = n + wgt x := fun h => by omega
            have HTT := Lib.hid hT; clear hT
            go_wp2
            go_ret
            exact ⟨FZ.out.trans HFR3.out (fun _ _ h => h), W, rfl, by have := HN1.out; have := HW1.out; have := HV1.out; omega, hW2, HTT.out⟩
          · have hT : W ≤ 20000 → W = n + wgt x := fun h => by
              have h1 := HV3.out h; rw [List.take_length] at h1
              have h2 := HT.out (by have := HV1.out; omega)
              have h3 := HN1.out; have h4 := HW.out
              omega
            have HTT := Lib.hid hT; clear hT
            go_wp2
            go_ret
            exact ⟨FZ.out.trans HFR3.out (fun _ _ h => h), W, rfl, by have := HN1.out; have := HW1.out; have := HV1.out; omega, hW2, HTT.out⟩

/-- What much says. -/
def MuchOut (l : List (Tr Mm)) (w : World) (e : Ending) (w' : World) : Prop := Fr no w w' ∧ ∃ b : Bool, e = .returned (.bool b) ∧ (b = false → l.length + wgtL l ≤ 20000)

set_option maxRecDepth 100000 in
set_option maxHeartbeats 4000000 in
theorem much_any (l : List (Tr Mm)) (w : World) (X : Value) (hx : In w X l) : Calls Tryd.prog 25 #[X] w fun e w' => MuchOut l w e w' := by
  obtain ⟨A, c, rfl, hc1, hc2⟩ := hx.sl.form
  have hnl : l.length ≤ 140737488351232 := hx.n
  have HX := Lib.hid hx
  clear hx
  go_enter Tryd.func25, Tryd.ntmps25
  go_wp2
  go_loopw [3, 4] (fun v iv wr => ∃ j W : Nat, j ≤ l.length ∧ iv = .int .i64 j ∧ v = .int .i64 W ∧ Fr no w wr ∧ (W ≤ 20000 → W = l.length + wgtL (l.take j)) ∧ W ≤ 200000000000000) (fun _ iv _ => l.length - (intOf iv).toNat)
  case atStart => exact ⟨0, l.length, Nat.zero_le _, rfl, rfl, Fr.refl _ _, fun _ => by simp [wgtL], by omega⟩
  case round =>
    obtain ⟨j, W, hj, rfl, rfl, hfr, hW3, hW2⟩ := hrel
    have hLr := HX.out.kept0 hfr
    have HFR := Lib.hid hfr; have HW3 := Lib.hid hW3; have HLR := Lib.hid hLr
    clear hfr hW3 hLr
    have hcase : (j < l.length ∧ W ≤ 20000) ∨ (j < l.length ∧ 20000 < W) ∨ (j = l.length ∧ W ≤ 20000) ∨ (j = l.length ∧ 20000 < W) := by omega
    rcases hcase with ⟨hlt, hWl⟩ | ⟨hlt, hWl⟩ | ⟨rfl, hWl⟩ | ⟨rfl, hWl⟩
    · obtain ⟨b, o, KB, kb, KL, kl, KF, kf, rfl, hfj, r0, r1, r2, r3, r4, r5, r6, rl⟩ := In.get HLR.out j hlt
      have hcall := wgt_any l[j] wr (HLR.out.good _ (List.getElem_mem _)) W (by omega)
      rw [hfj.agg] at hcall
      have HC := Lib.hid hcall
      clear hcall hfj
      go_wp2_with fail
      refine HC.out.mono ?_
      rintro e w5 ⟨fy, V, rfl, h1, h2, h3⟩
      have h3 : V ≤ 20000 → V = l.length + wgtL (l.take (j + 1)) := fun h => by
        have := HW3.out (by omega); have := h3 h; rw [wgtL_snoc hlt]; omega
      have H3 := Lib.hid h3; have FY := Lib.hid (HFR.out.trans fy (fun _ _ h => h))
      clear h1 h3 fy
      go_wp2
      go_roundw
      case rel => exact ⟨j + 1, V, by omega, by go_num, rfl, FY.out, H3.out, by omega⟩
      case measure => simp [intOf]; omega
    · go_wp2
      go_ret
      exact ⟨HFR.out, true, rfl, fun h => nomatch h⟩
    · go_wp2
      go_ret
      refine ⟨HFR.out, _, rfl, fun _ => ?_⟩
      have h := HW3.out hWl
      rw [List.take_length] at h
      omega
    · go_wp2
      go_ret
      exact ⟨HFR.out, _, rfl, fun h => absurd (of_decide_eq_false h) (by omega)⟩
end Go.Proofs.YtgcicljklejmjaaDoor

/- codicilref03.Cmp: the order of values. Printed by mkcmp.py. -/
namespace Go.Proofs.YtgcicljklejmjaaDoor
open Go.RowKit Go.Shelf
open Tr

def numC (a b : Int) : Int := if a < b then -1 else if b < a then 1 else 0

set_option maxRecDepth 100000 in
theorem number_any (w : World) (a b : Int) : Calls Tryd.prog 89 #[.int .i64 a, .int .i64 b] w fun e w' => e = .returned (.int .i64 (numC a b)) ∧ w' = w := by
  by_cases h1 : a < b
  · have e1 : numC a b = -1 := if_pos h1
    rw [e1]
    go_enter Tryd.func89, Tryd.ntmps89
    go_wp2
    go_ret
    exact ⟨rfl, rfl⟩
  · by_cases h2 : b < a
    · have e1 : numC a b = 1 := by unfold numC; rw [if_neg h1, if_pos h2]
      rw [e1]
      go_enter Tryd.func89, Tryd.ntmps89
      go_wp2
      go_ret
      exact ⟨rfl, rfl⟩
    · have e1 : numC a b = 0 := by unfold numC; rw [if_neg h1, if_neg h2]
      rw [e1]
      go_enter Tryd.func89, Tryd.ntmps89
      go_wp2
      go_ret
      exact ⟨rfl, rfl⟩
set_option maxRecDepth 100000 in
theorem text_any (w : World) (a b : List UInt8) : Calls Tryd.prog 90 #[.string ⟨a.toArray⟩, .string ⟨b.toArray⟩] w fun e w' => e = .returned (.int .i64 (cb a b)) ∧ w' = w := by
  have hr := cb_range a b
  by_cases h1 : cb a b < 0
  · have e1 : cb a b = -1 := by omega
    have g1 : Op.bytesLess a b = true := by rw [less_cb]; exact decide_eq_true h1
    have HE := Lib.hid e1; clear e1 h1 hr
    go_enter Tryd.func90, Tryd.ntmps90
    go_wp2
    go_ret
    exact ⟨by rw [HE.out]; rfl, rfl⟩
  · have g1 : Op.bytesLess a b = false := by rw [less_cb]; exact decide_eq_false h1
    by_cases h2 : cb a b ≤ 0
    · have e1 : cb a b = 0 := by omega
      have g2 : decide (cb a b ≤ 0) = true := decide_eq_true h2
      have HE := Lib.hid e1; clear e1 h1 h2 hr
      go_enter Tryd.func90, Tryd.ntmps90
      go_wp2
      go_ret
      exact ⟨by rw [HE.out]; rfl, rfl⟩
    · have e1 : cb a b = 1 := by omega
      have g2 : decide (cb a b ≤ 0) = false := decide_eq_false h2
      have HE := Lib.hid e1; clear e1 h1 h2 hr
      go_enter Tryd.func90, Tryd.ntmps90
      go_wp2
      go_ret
      exact ⟨by rw [HE.out]; rfl, rfl⟩

theorem cmpL_step {l k : List (Tr Mm)} {j : Nat} (h1 : j < l.length) (h2 : j < k.length) : cmpL (l.drop j) (k.drop j) = if cmp l[j] k[j] ≠ 0 then cmp l[j] k[j] else cmpL (l.drop (j + 1)) (k.drop (j + 1)) := by
  rw [List.drop_eq_getElem_cons h1, List.drop_eq_getElem_cons h2, cmpL]
theorem cmpL_end {l k : List (Tr Mm)} {j : Nat} (h1 : j ≤ l.length) (h2 : j ≤ k.length) (h : j = l.length ∨ j = k.length) : cmpL (l.drop j) (k.drop j) = numC l.length k.length := by
  have hl : (l.drop j).length = l.length - j := List.length_drop
  have hk : (k.drop j).length = k.length - j := List.length_drop
  unfold numC
  match e1 : l.drop j, e2 : k.drop j with
  | [], [] => rw [e1] at hl; rw [e2] at hk; simp only [List.length_nil] at hl hk; rw [cmpL, if_neg (by omega), if_neg (by omega)]
  | [], _ :: _ => rw [e1] at hl; rw [e2] at hk; simp only [List.length_nil, List.length_cons] at hl hk; rw [cmpL, if_pos (by omega)]
  | _ :: _, [] => rw [e1] at hl; rw [e2] at hk; simp only [List.length_nil, List.length_cons] at hl hk; rw [cmpL, if_neg (by omega), if_pos (by omega)]
  | _ :: _, _ :: _ => rw [e1] at hl; rw [e2] at hk; simp only [List.length_cons] at hl hk; omega
theorem cmpF_step {l k : List (List UInt8 × Tr Mm)} {j : Nat} (h1 : j < l.length) (h2 : j < k.length) : cmpF (l.drop j) (k.drop j) = if cb l[j].1 k[j].1 ≠ 0 then cb l[j].1 k[j].1 else if cmp l[j].2 k[j].2 ≠ 0 then cmp l[j].2 k[j].2 else cmpF (l.drop (j + 1)) (k.drop (j + 1)) := by
  rw [List.drop_eq_getElem_cons h1, List.drop_eq_getElem_cons h2]
  generalize l[j] = p
  generalize k[j] = q
  obtain ⟨n, x⟩ := p
  obtain ⟨m, y⟩ := q
  rw [cmpF]
theorem cmpF_end {l k : List (List UInt8 × Tr Mm)} {j : Nat} (h1 : j ≤ l.length) (h2 : j ≤ k.length) (h : j = l.length ∨ j = k.length) : cmpF (l.drop j) (k.drop j) = numC l.length k.length := by
  have hl : (l.drop j).length = l.length - j := List.length_drop
  have hk : (k.drop j).length = k.length - j := List.length_drop
  unfold numC
  match e1 : l.drop j, e2 : k.drop j with
  | [], [] => rw [e1] at hl; rw [e2] at hk; simp only [List.length_nil] at hl hk; rw [cmpF, if_neg (by omega), if_neg (by omega)]
  | [], _ :: _ => rw [e1] at hl; rw [e2] at hk; simp only [List.length_nil, List.length_cons] at hl hk; rw [cmpF, if_pos (by omega)]
  | _ :: _, [] => rw [e1] at hl; rw [e2] at hk; simp only [List.length_nil, List.length_cons] at hl hk; rw [cmpF, if_neg (by omega), if_pos (by omega)]
  | _ :: _, _ :: _ => rw [e1] at hl; rw [e2] at hk; simp only [List.length_cons] at hl hk; omega

set_option maxRecDepth 100000 in
set_option maxHeartbeats 8000000 in
theorem cmp_any (x : Tr Mm) : ∀ (y : Tr Mm) (w : World), Tr.Good w x → Tr.Good w y → Calls Tryd.prog 68 #[x.agg, y.agg] w fun e w' => e = .returned (.int .i64 (cmp x y)) ∧ Fr no w w' := by
  induction x using Tr.ind with
  | h x ih =>
    intro y w hx hy
    obtain ⟨BA, bc, LA, lc, FA, fc, hf⟩ := hx.node.forms
    obtain ⟨BB, bd, LB, ld, FB, fd, hg⟩ := hy.node.forms
    have nxl : x.l.length ≤ 140737488351232 := hx.node.l
    have nyl : y.l.length ≤ 140737488351232 := hy.node.l
    have nxf : x.f.length ≤ 140737488351232 := hx.node.f
    have nyf : y.f.length ≤ 140737488351232 := hy.node.f
    have hxl := hx.inL; have hyl := hy.inL; have hxf := hx.inF; have hyf := hy.inF
    have hxb := hx.node.B; have hyb := hy.node.B
    rw [hf.agg, hg.agg]
    rw [hf.L] at hxl; rw [hg.L] at hyl; rw [hf.F] at hxf; rw [hg.F] at hyf; rw [hf.B] at hxb; rw [hg.B] at hyb
    have hfW : Fr no w ((w.alloc (.cells #[.int .u8 x.k.toNat, .bool x.b, .int .i64 x.i, .string ⟨x.t.toArray⟩, .slice BA x.bs.length bc, .slice LA x.l.length lc, .slice FA x.f.length fc] 33)).alloc (.cells #[.int .u8 y.k.toNat, .bool y.b, .int .i64 y.i, .string ⟨y.t.toArray⟩, .slice BB y.bs.length bd, .slice LB y.l.length ld, .slice FB y.f.length fd] 33)) := ((Fr.refl no w).alloc _).alloc _
    obtain ⟨hA, hB⟩ := two_allocs w (.cells #[.int .u8 x.k.toNat, .bool x.b, .int .i64 x.i, .string ⟨x.t.toArray⟩, .slice BA x.bs.length bc, .slice LA x.l.length lc, .slice FA x.f.length fc] 33) (.cells #[.int .u8 y.k.toNat, .bool y.b, .int .i64 y.i, .string ⟨y.t.toArray⟩, .slice BB y.bs.length bd, .slice LB y.l.length ld, .slice FB y.f.length fd] 33)
    have s1 := run_str (P := Tryd.prog) (src := 22) (dst := 9) (e := 5) ((w.alloc (.cells #[.int .u8 x.k.toNat, .bool x.b, .int .i64 x.i, .string ⟨x.t.toArray⟩, .slice BA x.bs.length bc, .slice LA x.l.length lc, .slice FA x.f.length fc] 33)).alloc (.cells #[.int .u8 y.k.toNat, .bool y.b, .int .i64 y.i, .string ⟨y.t.toArray⟩, .slice BB y.bs.length bd, .slice LB y.l.length ld, .slice FB y.f.length fd] 33)) (by kernel_rfl) (by kernel_rfl) (by kernel_rfl) (hxb.kept0 hfW)
    have s2 := run_str (P := Tryd.prog) (src := 22) (dst := 9) (e := 5) ((w.alloc (.cells #[.int .u8 x.k.toNat, .bool x.b, .int .i64 x.i, .string ⟨x.t.toArray⟩, .slice BA x.bs.length bc, .slice LA x.l.length lc, .slice FA x.f.length fc] 33)).alloc (.cells #[.int .u8 y.k.toNat, .bool y.b, .int .i64 y.i, .string ⟨y.t.toArray⟩, .slice BB y.bs.length bd, .slice LB y.l.length ld, .slice FB y.f.length fd] 33)) (by kernel_rfl) (by kernel_rfl) (by kernel_rfl) (hyb.kept0 hfW)
    have hce : cmp x y = if x.k ≠ y.k then (if x.k < y.k then -1 else 1) else if x.k = 2 then (if x.b = y.b then 0 else if y.b then -1 else 1) else if x.k = 3 then (if x.i < y.i then -1 else if y.i < x.i then 1 else 0) else if x.k = 4 then cb x.t y.t else if x.k = 5 then cb x.bs y.bs else if x.k = 6 then cmpL x.l y.l else if x.k = 7 then cmpF x.f y.f else 0 := by rw [cmp]
    have HCE := Lib.hid hce; have HXL := Lib.hid hxl; have HYL := Lib.hid hyl; have HXF := Lib.hid hxf; have HYF := Lib.hid hyf; have FW := Lib.hid hfW; have HA := Lib.hid hA; have HB := Lib.hid hB; have IH := Lib.hid ih
    clear hce hxl hyl hxf hyf hxb hyb hfW hA hB ih hf hg hx hy
    by_cases hk : x.k = y.k
    rotate_left
    · have hv : cmp x y = numC (x.k.toNat : Int) (y.k.toNat : Int) := by
        rw [HCE.out, if_pos hk]
        unfold numC
        by_cases h : x.k < y.k
        · rw [if_pos h, if_pos (by have := UInt8.lt_iff_toNat_lt.1 h; omega)]
        · rw [if_neg h, if_neg (by have : ¬ x.k.toNat < y.k.toNat := fun e => h (UInt8.lt_iff_toNat_lt.2 e); omega), if_pos (by
            have h1 : ¬ x.k.toNat < y.k.toNat := fun e => h (UInt8.lt_iff_toNat_lt.2 e)
            have h2 : x.k.toNat ≠ y.k.toNat := fun e => hk (UInt8.toNat_inj.1 e)
            omega)]
      have gk : ((x.k.toNat : Int) != (y.k.toNat : Int)) = true := by rw [bne_iff_ne]; intro h; exact hk (UInt8.toNat_inj.1 (by omega))
      have hc1 : IntKind.i64.wrap (x.k.toNat : Int) = (x.k.toNat : Int) := IntWalk.i64_in _ ⟨by omega, by have := x.k.toNat_lt; omega⟩
      have hc2 : IntKind.i64.wrap (y.k.toNat : Int) = (y.k.toNat : Int) := IntWalk.i64_in _ ⟨by omega, by have := y.k.toNat_lt; omega⟩
      have HV := Lib.hid hv; have HK := Lib.hid hk
      clear hv hk s1 s2
      go_enter Tryd.func68, Tryd.ntmps68
      go_wp2_with fail
      refine (number_any _ (x.k.toNat : Int) (y.k.toNat : Int)).mono ?_
      rintro e w' ⟨rfl, rfl⟩
      go_wp2
      go_ret
      exact ⟨by rw [HV.out]; rfl, FW.out⟩
    have gk : ((x.k.toNat : Int) != (y.k.toNat : Int)) = false := by rw [hk]; simp
    have HK := Lib.hid hk
    rw [if_neg (by simpa using hk)] at HCE
    clear hk
    have tag : ∀ (n : UInt8) (m : Int), (n.toNat : Int) = m → ((x.k.toNat : Int) == m) = decide (x.k = n) := fun n m h => by
      by_cases e : x.k = n
      · rw [decide_eq_true e, e, h]; simp
      · rw [decide_eq_false e, byte_ne e h]
    by_cases k2 : x.k = 2
    · have g2 : ((x.k.toNat : Int) == 2) = true := (tag 2 2 rfl).trans (decide_eq_true k2)
      have K2 := Lib.hid k2
      clear k2 tag
      by_cases hb : x.b = y.b
      · have gb : (x.b == y.b) = true := by rw [hb]; simp
        have HBB := Lib.hid hb; clear hb
        go_enter Tryd.func68, Tryd.ntmps68
        go_wp2
        go_ret
        exact ⟨by rw [HCE.out, if_pos K2.out, if_pos HBB.out]; rfl, FW.out⟩
      · have gb : (x.b == y.b) = false := by rw [beq_eq_false_iff_ne]; exact hb
        have HBB := Lib.hid hb; clear hb
        cases hyb : y.b with
        | false =>
          have HYB := Lib.hid hyb
          rw [hyb] at gb
          have gx : x.b = true := by cases h : x.b <;> simp_all
          go_enter Tryd.func68, Tryd.ntmps68
          go_wp2
          go_ret
          exact ⟨by rw [HCE.out, if_pos K2.out, if_neg HBB.out, HYB.out]; rfl, by (repeat first | exact Fr.refl _ _ | exact Fr.drewN _ _ _ | apply Fr.drew | apply Fr.alloc | apply Fr.setAt | apply Fr.moreN)⟩
        | true =>
          have HYB := Lib.hid hyb
          rw [hyb] at gb
          have gx : x.b = false := by cases h : x.b <;> simp_all
          go_enter Tryd.func68, Tryd.ntmps68
          go_wp2
          go_ret
          exact ⟨by rw [HCE.out, if_pos K2.out, if_neg HBB.out, HYB.out]; rfl, by (repeat first | exact Fr.refl _ _ | exact Fr.drewN _ _ _ | apply Fr.drew | apply Fr.alloc | apply Fr.setAt | apply Fr.moreN)⟩
    by_cases k3 : x.k = 3
    · have g2 : ((x.k.toNat : Int) == 2) = false := (tag 2 2 rfl).trans (decide_eq_false k2)
      have g3 : ((x.k.toNat : Int) == 3) = true := (tag 3 3 rfl).trans (decide_eq_true k3)
      have K2 := Lib.hid k2; have K3 := Lib.hid k3
      clear k2 k3 tag
      go_enter Tryd.func68, Tryd.ntmps68
      go_wp2_with fail
      refine (number_any _ x.i y.i).mono ?_
      rintro e w' ⟨rfl, rfl⟩
      go_wp2
      go_ret
      exact ⟨by rw [HCE.out, if_neg K2.out, if_pos K3.out]; rfl, FW.out⟩
    by_cases k4 : x.k = 4
    · have g2 : ((x.k.toNat : Int) == 2) = false := (tag 2 2 rfl).trans (decide_eq_false k2)
      have g3 : ((x.k.toNat : Int) == 3) = false := (tag 3 3 rfl).trans (decide_eq_false k3)
      have g4 : ((x.k.toNat : Int) == 4) = true := (tag 4 4 rfl).trans (decide_eq_true k4)
      have K2 := Lib.hid k2; have K3 := Lib.hid k3; have K4 := Lib.hid k4
      clear k2 k3 k4 tag
      go_enter Tryd.func68, Tryd.ntmps68
      go_wp2_with fail
      refine (text_any _ x.t y.t).mono ?_
      rintro e w' ⟨rfl, rfl⟩
      go_wp2
      go_ret
      exact ⟨by rw [HCE.out, if_neg K2.out, if_neg K3.out, if_pos K4.out]; rfl, FW.out⟩
    by_cases k5 : x.k = 5
    · have g2 : ((x.k.toNat : Int) == 2) = false := (tag 2 2 rfl).trans (decide_eq_false k2)
      have g3 : ((x.k.toNat : Int) == 3) = false := (tag 3 3 rfl).trans (decide_eq_false k3)
      have g4 : ((x.k.toNat : Int) == 4) = false := (tag 4 4 rfl).trans (decide_eq_false k4)
      have g5 : ((x.k.toNat : Int) == 5) = true := (tag 5 5 rfl).trans (decide_eq_true k5)
      have K2 := Lib.hid k2; have K3 := Lib.hid k3; have K4 := Lib.hid k4; have K5 := Lib.hid k5
      clear k2 k3 k4 k5 tag
      go_enter Tryd.func68, Tryd.ntmps68
      go_wp2_with fail
      refine (text_any _ x.bs y.bs).mono ?_
      rintro e w' ⟨rfl, rfl⟩
      go_wp2
      go_ret
      exact ⟨by rw [HCE.out, if_neg K2.out, if_neg K3.out, if_neg K4.out, if_pos K5.out]; rfl, FW.out⟩
    by_cases k6 : x.k = 6
    · have g2 : ((x.k.toNat : Int) == 2) = false := (tag 2 2 rfl).trans (decide_eq_false k2)
      have g3 : ((x.k.toNat : Int) == 3) = false := (tag 3 3 rfl).trans (decide_eq_false k3)
      have g4 : ((x.k.toNat : Int) == 4) = false := (tag 4 4 rfl).trans (decide_eq_false k4)
      have g5 : ((x.k.toNat : Int) == 5) = false := (tag 5 5 rfl).trans (decide_eq_false k5)
      have g6 : ((x.k.toNat : Int) == 6) = true := (tag 6 6 rfl).trans (decide_eq_true k6)
      have K2 := Lib.hid k2; have K3 := Lib.hid k3; have K4 := Lib.hid k4; have K5 := Lib.hid k5; have K6 := Lib.hid k6
      clear k2 k3 k4 k5 k6 tag
      clear s1 s2
      go_enter Tryd.func68, Tryd.ntmps68
      go_wp2
      generalize ((w.alloc (.cells #[.int .u8 x.k.toNat, .bool x.b, .int .i64 x.i, .string ⟨x.t.toArray⟩, .slice BA x.bs.length bc, .slice LA x.l.length lc, .slice FA x.f.length fc] 33)).alloc (.cells #[.int .u8 y.k.toNat, .bool y.b, .int .i64 y.i, .string ⟨y.t.toArray⟩, .slice BB y.bs.length bd, .slice LB y.l.length ld, .slice FB y.f.length fd] 33)) = V at FW HA HB ⊢
      go_loopw [5] (fun iv wr => ∃ j : Nat, j ≤ x.l.length ∧ j ≤ y.l.length ∧ iv = .int .i64 j ∧ Fr no V wr ∧ cmpL x.l y.l = cmpL (x.l.drop j) (y.l.drop j)) (fun iv _ => x.l.length - (intOf iv).toNat)
      case atStart => exact ⟨0, Nat.zero_le _, Nat.zero_le _, rfl, Fr.refl _ _, rfl⟩
      case round =>
        obtain ⟨j, hj, hj2, rfl, hfr, hcm⟩ := hrel
        have ha := hfr.heap HA.out (fun h => h); have hb := hfr.heap HB.out (fun h => h)
        obtain ⟨q0, q1, q2, q3, q4, q5, q6, qz, ql⟩ := seven_cells ha
        obtain ⟨r0, r1, r2, r3, r4, r5, r6, rz, rl⟩ := seven_cells hb
        have HFV := Lib.hid hfr; have FR := Lib.hid (FW.out.trans hfr (fun _ _ h => h)); have HCM := Lib.hid hcm
        clear ha hb hfr hcm
        by_cases hlt : j < x.l.length ∧ j < y.l.length
        · obtain ⟨hlt, hlt2⟩ := hlt
          have h1 := HXL.out.kept0 FR.out
          have h2 := HYL.out.kept0 FR.out
          obtain ⟨xb, xo, KB, kb, KL, kl, KF, kf, rfl, hfj, a0, a1, a2, a3, a4, a5, a6, hgl⟩ := In.get h1 j hlt
          obtain ⟨yb, yo, MB, mb, ML, ml, MF, mf, rfl, hgj, b0, b1, b2, b3, b4, b5, b6, hgm⟩ := In.get h2 j hlt2
          have hcall := fun W (f : Fr no wr W) => IH.out x.l[j] (List.mem_append_left _ (List.getElem_mem _)) y.l[j] W ((h1.good _ (List.getElem_mem _)).kept0 f) ((h2.good _ (List.getElem_mem _)).kept0 f)
          rw [hfj.agg, hgj.agg] at hcall
          have hst := cmpL_step hlt hlt2
          have HC := Lib.hid hcall; have HST := Lib.hid hst
          clear hcall hst h1 h2 hfj hgj
          go_wp2_with fail
          refine wp_region_ord (List.range 12) (fun i => [Kd.p, Kd.l, Kd.p, Kd.p, Kd.l, Kd.p, Kd.l, Kd.p, Kd.p, Kd.l, Kd.g, Kd.p].getD i .e) (by kernel_rfl) (by kernel_rfl) ?_
          iterate 10
            first | refine wpX_pu rfl rfl rfl (by first | exact pu_move rfl | exact pu_assign rfl | exact pu_nilCheck rfl rfl | exact pu_binInt rfl rfl rfl | exact pu_conv rfl rfl (by kernel_rfl) | exact pu_fld rfl (by kernel_rfl) | exact pu_ix rfl rfl rfl (by kernel_rfl) | exact pu_unOp rfl | exact pu_binStr rfl rfl rfl | exact pu_len rfl rfl | exact pu_lens rfl rfl | exact pu_pick rfl | exact pu_slice rfl rfl) (fun K hK => ?_) | refine wpX_rd rfl rfl rfl (rd_load rfl) (fun K hK => ?_) | refine wpX_gr rfl rfl rfl (by first | exact gr_buildSlice rfl | exact gr_box rfl | exact gr_alloc rfl) (fun K hK => ?_) | refine wpX_ex rfl rfl rfl (fun K hK => ?_)
            try go_wp2
          refine wpX_ca rfl rfl rfl (fun K hK => ?_)
          go_wp2_with fail
          refine (HC.out _ (by (repeat first | exact Fr.refl _ _ | exact Fr.drewN _ _ _ | apply Fr.drew | apply Fr.alloc | apply Fr.setAt | apply Fr.moreN))).mono ?_
          rintro e w5 ⟨rfl, fy⟩
          have F50 := Lib.hid fy; have F5 := Lib.hid ((by (repeat first | exact Fr.refl _ _ | exact Fr.drewN _ _ _ | apply Fr.drew | apply Fr.alloc | apply Fr.setAt | apply Fr.moreN) : Fr no wr _).trans fy (fun _ _ h => h))
          clear fy
          by_cases hc : cmp x.l[j] y.l[j] = 0
          · have hst : cmpL x.l y.l = cmpL (x.l.drop (j + 1)) (y.l.drop (j + 1)) := by rw [HCM.out, HST.out, if_neg (by simpa using hc)]
            have HS2 := Lib.hid hst
            rw [hc]
            clear hst hc
            go_wp2
            obtain ⟨⟨ea, eb⟩, hext⟩ := F50.out.ext
            refine ⟨⟨ea, eb, hext⟩, hK _ _ ?_⟩
            clear hK K hext ea eb
            first | refine wpX_pu rfl rfl rfl (by first | exact pu_move rfl | exact pu_assign rfl | exact pu_nilCheck rfl rfl | exact pu_binInt rfl rfl rfl | exact pu_conv rfl rfl (by kernel_rfl) | exact pu_fld rfl (by kernel_rfl) | exact pu_ix rfl rfl rfl (by kernel_rfl) | exact pu_unOp rfl | exact pu_binStr rfl rfl rfl | exact pu_len rfl rfl | exact pu_lens rfl rfl | exact pu_pick rfl | exact pu_slice rfl rfl) (fun K hK => ?_) | refine wpX_rd rfl rfl rfl (rd_load rfl) (fun K hK => ?_) | refine wpX_gr rfl rfl rfl (by first | exact gr_buildSlice rfl | exact gr_box rfl | exact gr_alloc rfl) (fun K hK => ?_) | refine wpX_ex rfl rfl rfl (fun K hK => ?_)
            try go_wp2
            refine wpX_done ?_
            clear q0 q1 q2 q3 q4 q5 q6 qz ql r0 r1 r2 r3 r4 r5 r6 rz rl a0 a1 a2 a3 a4 a5 a6 b0 b1 b2 b3 b4 b5 b6 hgl hgm
            go_wp2
            go_roundw
            case rel => exact ⟨j + 1, by omega, by omega, by go_num, HFV.out.trans F5.out (fun _ _ h => h), HS2.out⟩
            case measure => simp [intOf]; omega
          · have hst : cmpL x.l y.l = cmp x.l[j] y.l[j] := by rw [HCM.out, HST.out, if_pos hc]
            have gc : (cmp x.l[j] y.l[j] != 0) = true := by rw [bne_iff_ne]; exact hc
            have HS2 := Lib.hid hst
            clear hst hc
            go_wp2
            obtain ⟨⟨ea, eb⟩, hext⟩ := F50.out.ext
            refine ⟨⟨ea, eb, hext⟩, hK _ _ ?_⟩
            clear hK K hext ea eb
            first | refine wpX_pu rfl rfl rfl (by first | exact pu_move rfl | exact pu_assign rfl | exact pu_nilCheck rfl rfl | exact pu_binInt rfl rfl rfl | exact pu_conv rfl rfl (by kernel_rfl) | exact pu_fld rfl (by kernel_rfl) | exact pu_ix rfl rfl rfl (by kernel_rfl) | exact pu_unOp rfl | exact pu_binStr rfl rfl rfl | exact pu_len rfl rfl | exact pu_lens rfl rfl | exact pu_pick rfl | exact pu_slice rfl rfl) (fun K hK => ?_) | refine wpX_rd rfl rfl rfl (rd_load rfl) (fun K hK => ?_) | refine wpX_gr rfl rfl rfl (by first | exact gr_buildSlice rfl | exact gr_box rfl | exact gr_alloc rfl) (fun K hK => ?_) | refine wpX_ex rfl rfl rfl (fun K hK => ?_)
            try go_wp2
            refine wpX_done ?_
            clear q0 q1 q2 q3 q4 q5 q6 qz ql r0 r1 r2 r3 r4 r5 r6 rz rl a0 a1 a2 a3 a4 a5 a6 b0 b1 b2 b3 b4 b5 b6 hgl hgm
            go_wp2
            go_ret
            exact ⟨by rw [HCE.out, if_neg K2.out, if_neg K3.out, if_neg K4.out, if_neg K5.out, if_pos K6.out, HS2.out]; rfl, FR.out.trans F5.out (fun _ _ h => h)⟩
        · have hen := cmpL_end hj hj2 (by omega)
          have HEN := Lib.hid (HCM.out.trans hen)
          clear hen
          by_cases hA1 : j < x.l.length
          · have hA2 : ¬ j < y.l.length := fun h => hlt ⟨hA1, h⟩
            clear hlt
            go_wp2_with fail
            refine (number_any _ (x.l.length : Int) (y.l.length : Int)).mono ?_
            rintro e w' ⟨rfl, hw⟩
            subst w'
            go_wp2
            go_ret
            exact ⟨by rw [HCE.out, if_neg K2.out, if_neg K3.out, if_neg K4.out, if_neg K5.out, if_pos K6.out, HEN.out]; rfl, FR.out⟩
          · clear hlt
            go_wp2_with fail
            refine (number_any _ (x.l.length : Int) (y.l.length : Int)).mono ?_
            rintro e w' ⟨rfl, hw⟩
            subst w'
            go_wp2
            go_ret
            exact ⟨by rw [HCE.out, if_neg K2.out, if_neg K3.out, if_neg K4.out, if_neg K5.out, if_pos K6.out, HEN.out]; rfl, FR.out⟩
    by_cases k7 : x.k = 7
    · have g2 : ((x.k.toNat : Int) == 2) = false := (tag 2 2 rfl).trans (decide_eq_false k2)
      have g3 : ((x.k.toNat : Int) == 3) = false := (tag 3 3 rfl).trans (decide_eq_false k3)
      have g4 : ((x.k.toNat : Int) == 4) = false := (tag 4 4 rfl).trans (decide_eq_false k4)
      have g5 : ((x.k.toNat : Int) == 5) = false := (tag 5 5 rfl).trans (decide_eq_false k5)
      have g6 : ((x.k.toNat : Int) == 6) = false := (tag 6 6 rfl).trans (decide_eq_false k6)
      have g7 : ((x.k.toNat : Int) == 7) = true := (tag 7 7 rfl).trans (decide_eq_true k7)
      have K2 := Lib.hid k2; have K3 := Lib.hid k3; have K4 := Lib.hid k4; have K5 := Lib.hid k5; have K6 := Lib.hid k6; have K7 := Lib.hid k7
      clear k2 k3 k4 k5 k6 k7 tag
      clear s1 s2
      go_enter Tryd.func68, Tryd.ntmps68
      go_wp2
      generalize ((w.alloc (.cells #[.int .u8 x.k.toNat, .bool x.b, .int .i64 x.i, .string ⟨x.t.toArray⟩, .slice BA x.bs.length bc, .slice LA x.l.length lc, .slice FA x.f.length fc] 33)).alloc (.cells #[.int .u8 y.k.toNat, .bool y.b, .int .i64 y.i, .string ⟨y.t.toArray⟩, .slice BB y.bs.length bd, .slice LB y.l.length ld, .slice FB y.f.length fd] 33)) = V at FW HA HB ⊢
      go_loopw [7] (fun iv wr => ∃ j : Nat, j ≤ x.f.length ∧ j ≤ y.f.length ∧ iv = .int .i64 j ∧ Fr no V wr ∧ cmpF x.f y.f = cmpF (x.f.drop j) (y.f.drop j)) (fun iv _ => x.f.length - (intOf iv).toNat)
      case atStart => exact ⟨0, Nat.zero_le _, Nat.zero_le _, rfl, Fr.refl _ _, rfl⟩
      case round =>
        obtain ⟨j, hj, hj2, rfl, hfr, hcm⟩ := hrel
        have ha := hfr.heap HA.out (fun h => h); have hb := hfr.heap HB.out (fun h => h)
        obtain ⟨q0, q1, q2, q3, q4, q5, q6, qz, ql⟩ := seven_cells ha
        obtain ⟨r0, r1, r2, r3, r4, r5, r6, rz, rl⟩ := seven_cells hb
        have HFV := Lib.hid hfr; have FR := Lib.hid (FW.out.trans hfr (fun _ _ h => h)); have HCM := Lib.hid hcm
        clear ha hb hfr hcm
        by_cases hlt : j < x.f.length ∧ j < y.f.length
        · obtain ⟨hlt, hlt2⟩ := hlt
          have h1 := HXF.out.kept0 FR.out
          have h2 := HYF.out.kept0 FR.out
          obtain ⟨xb, xo, KB, kb, KL, kl, KF, kf, rfl, hfj, na, a0, a1, a2, a3, a4, a5, a6, hgl⟩ := InF.get h1 j hlt
          obtain ⟨yb, yo, MB, mb, ML, ml, MF, mf, rfl, hgj, nb, b0, b1, b2, b3, b4, b5, b6, hgm⟩ := InF.get h2 j hlt2
          have hcall := fun W (f : Fr no wr W) => IH.out x.f[j].2 (List.mem_append_right _ (List.mem_map_of_mem (List.getElem_mem _))) y.f[j].2 W ((h1.good _ (List.getElem_mem _)).kept0 f) ((h2.good _ (List.getElem_mem _)).kept0 f)
          rw [hfj.agg, hgj.agg] at hcall
          have hst := cmpF_step hlt hlt2
          have HC := Lib.hid hcall; have HST := Lib.hid hst
          clear hcall hst h1 h2 hfj hgj
          go_wp2_with fail
          refine wp_region_ord (List.range 14) (fun i => [Kd.p, Kd.l, Kd.p, Kd.p, Kd.p, Kd.l, Kd.p, Kd.l, Kd.p, Kd.p, Kd.p, Kd.l, Kd.g, Kd.p].getD i .e) (by kernel_rfl) (by kernel_rfl) ?_
          iterate 12
            first | refine wpX_pu rfl rfl rfl (by first | exact pu_move rfl | exact pu_assign rfl | exact pu_nilCheck rfl rfl | exact pu_binInt rfl rfl rfl | exact pu_conv rfl rfl (by kernel_rfl) | exact pu_fld rfl (by kernel_rfl) | exact pu_ix rfl rfl rfl (by kernel_rfl) | exact pu_unOp rfl | exact pu_binStr rfl rfl rfl | exact pu_len rfl rfl | exact pu_lens rfl rfl | exact pu_pick rfl | exact pu_slice rfl rfl) (fun K hK => ?_) | refine wpX_rd rfl rfl rfl (rd_load rfl) (fun K hK => ?_) | refine wpX_gr rfl rfl rfl (by first | exact gr_buildSlice rfl | exact gr_box rfl | exact gr_alloc rfl) (fun K hK => ?_) | refine wpX_ex rfl rfl rfl (fun K hK => ?_)
            try go_wp2
          refine wpX_ca rfl rfl rfl (fun K hK => ?_)
          go_wp2_with fail
          refine (text_any _ x.f[j].1 y.f[j].1).mono ?_
          rintro e w5 ⟨rfl, hw⟩
          subst w5
          by_cases hc : cb x.f[j].1 y.f[j].1 = 0
          · rw [if_neg (by simpa using hc)] at HST
            rw [hc]
            clear hc
            go_wp2
            refine ⟨⟨#[], _, (World.ext_self _).symm⟩, hK _ _ ?_⟩
            clear hK K
            first | refine wpX_pu rfl rfl rfl (by first | exact pu_move rfl | exact pu_assign rfl | exact pu_nilCheck rfl rfl | exact pu_binInt rfl rfl rfl | exact pu_conv rfl rfl (by kernel_rfl) | exact pu_fld rfl (by kernel_rfl) | exact pu_ix rfl rfl rfl (by kernel_rfl) | exact pu_unOp rfl | exact pu_binStr rfl rfl rfl | exact pu_len rfl rfl | exact pu_lens rfl rfl | exact pu_pick rfl | exact pu_slice rfl rfl) (fun K hK => ?_) | refine wpX_rd rfl rfl rfl (rd_load rfl) (fun K hK => ?_) | refine wpX_gr rfl rfl rfl (by first | exact gr_buildSlice rfl | exact gr_box rfl | exact gr_alloc rfl) (fun K hK => ?_) | refine wpX_ex rfl rfl rfl (fun K hK => ?_)
            try go_wp2
            refine wpX_done ?_
            go_wp2_with fail
            refine wp_region_ord (List.range 14) (fun i => [Kd.p, Kd.l, Kd.p, Kd.p, Kd.p, Kd.l, Kd.p, Kd.l, Kd.p, Kd.p, Kd.p, Kd.l, Kd.g, Kd.p].getD i .e) (by kernel_rfl) (by kernel_rfl) ?_
            iterate 12
              first | refine wpX_pu rfl rfl rfl (by first | exact pu_move rfl | exact pu_assign rfl | exact pu_nilCheck rfl rfl | exact pu_binInt rfl rfl rfl | exact pu_conv rfl rfl (by kernel_rfl) | exact pu_fld rfl (by kernel_rfl) | exact pu_ix rfl rfl rfl (by kernel_rfl) | exact pu_unOp rfl | exact pu_binStr rfl rfl rfl | exact pu_len rfl rfl | exact pu_lens rfl rfl | exact pu_pick rfl | exact pu_slice rfl rfl) (fun K hK => ?_) | refine wpX_rd rfl rfl rfl (rd_load rfl) (fun K hK => ?_) | refine wpX_gr rfl rfl rfl (by first | exact gr_buildSlice rfl | exact gr_box rfl | exact gr_alloc rfl) (fun K hK => ?_) | refine wpX_ex rfl rfl rfl (fun K hK => ?_)
              try go_wp2
            refine wpX_ca rfl rfl rfl (fun K hK => ?_)
            go_wp2_with fail
            refine (HC.out _ (by (repeat first | exact Fr.refl _ _ | exact Fr.drewN _ _ _ | apply Fr.drew | apply Fr.alloc | apply Fr.setAt | apply Fr.moreN))).mono ?_
            rintro e w5 ⟨rfl, fy⟩
            have F50 := Lib.hid fy; have F5 := Lib.hid ((by (repeat first | exact Fr.refl _ _ | exact Fr.drewN _ _ _ | apply Fr.drew | apply Fr.alloc | apply Fr.setAt | apply Fr.moreN) : Fr no wr _).trans fy (fun _ _ h => h))
            clear fy
            by_cases hc : cmp x.f[j].2 y.f[j].2 = 0
            · have hst : cmpF x.f y.f = cmpF (x.f.drop (j + 1)) (y.f.drop (j + 1)) := by rw [HCM.out, HST.out, if_neg (by simpa using hc)]
              have HS2 := Lib.hid hst
              rw [hc]
              clear hst hc
              go_wp2
              obtain ⟨⟨ea, eb⟩, hext⟩ := F50.out.ext
              refine ⟨⟨ea, eb, hext⟩, hK _ _ ?_⟩
              clear hK K hext ea eb
              first | refine wpX_pu rfl rfl rfl (by first | exact pu_move rfl | exact pu_assign rfl | exact pu_nilCheck rfl rfl | exact pu_binInt rfl rfl rfl | exact pu_conv rfl rfl (by kernel_rfl) | exact pu_fld rfl (by kernel_rfl) | exact pu_ix rfl rfl rfl (by kernel_rfl) | exact pu_unOp rfl | exact pu_binStr rfl rfl rfl | exact pu_len rfl rfl | exact pu_lens rfl rfl | exact pu_pick rfl | exact pu_slice rfl rfl) (fun K hK => ?_) | refine wpX_rd rfl rfl rfl (rd_load rfl) (fun K hK => ?_) | refine wpX_gr rfl rfl rfl (by first | exact gr_buildSlice rfl | exact gr_box rfl | exact gr_alloc rfl) (fun K hK => ?_) | refine wpX_ex rfl rfl rfl (fun K hK => ?_)
              try go_wp2
              refine wpX_done ?_
              clear q0 q1 q2 q3 q4 q5 q6 qz ql r0 r1 r2 r3 r4 r5 r6 rz rl na nb a0 a1 a2 a3 a4 a5 a6 b0 b1 b2 b3 b4 b5 b6 hgl hgm
              go_wp2
              go_roundw
              case rel => exact ⟨j + 1, by omega, by omega, by go_num, HFV.out.trans F5.out (fun _ _ h => h), HS2.out⟩
              case measure => simp [intOf]; omega
            · have hst : cmpF x.f y.f = cmp x.f[j].2 y.f[j].2 := by rw [HCM.out, HST.out, if_pos hc]
              have gc : (cmp x.f[j].2 y.f[j].2 != 0) = true := by rw [bne_iff_ne]; exact hc
              have HS2 := Lib.hid hst
              clear hst hc
              go_wp2
              obtain ⟨⟨ea, eb⟩, hext⟩ := F50.out.ext
              refine ⟨⟨ea, eb, hext⟩, hK _ _ ?_⟩
              clear hK K hext ea eb
              first | refine wpX_pu rfl rfl rfl (by first | exact pu_move rfl | exact pu_assign rfl | exact pu_nilCheck rfl rfl | exact pu_binInt rfl rfl rfl | exact pu_conv rfl rfl (by kernel_rfl) | exact pu_fld rfl (by kernel_rfl) | exact pu_ix rfl rfl rfl (by kernel_rfl) | exact pu_unOp rfl | exact pu_binStr rfl rfl rfl | exact pu_len rfl rfl | exact pu_lens rfl rfl | exact pu_pick rfl | exact pu_slice rfl rfl) (fun K hK => ?_) | refine wpX_rd rfl rfl rfl (rd_load rfl) (fun K hK => ?_) | refine wpX_gr rfl rfl rfl (by first | exact gr_buildSlice rfl | exact gr_box rfl | exact gr_alloc rfl) (fun K hK => ?_) | refine wpX_ex rfl rfl rfl (fun K hK => ?_)
              try go_wp2
              refine wpX_done ?_
              clear q0 q1 q2 q3 q4 q5 q6 qz ql r0 r1 r2 r3 r4 r5 r6 rz rl na nb a0 a1 a2 a3 a4 a5 a6 b0 b1 b2 b3 b4 b5 b6 hgl hgm
              go_wp2
              go_ret
              exact ⟨by rw [HCE.out, if_neg K2.out, if_neg K3.out, if_neg K4.out, if_neg K5.out, if_neg K6.out, if_pos K7.out, HS2.out]; rfl, FR.out.trans F5.out (fun _ _ h => h)⟩
          · have hst : cmpF x.f y.f = cb x.f[j].1 y.f[j].1 := by rw [HCM.out, HST.out, if_pos hc]
            have gc : (cb x.f[j].1 y.f[j].1 != 0) = true := by rw [bne_iff_ne]; exact hc
            have gd : (cb x.f[j].1 y.f[j].1 == 0) = false := by rw [beq_eq_false_iff_ne]; exact hc
            have HS2 := Lib.hid hst
            clear hst hc
            go_wp2
            refine ⟨⟨#[], _, (World.ext_self _).symm⟩, hK _ _ ?_⟩
            clear hK K
            first | refine wpX_pu rfl rfl rfl (by first | exact pu_move rfl | exact pu_assign rfl | exact pu_nilCheck rfl rfl | exact pu_binInt rfl rfl rfl | exact pu_conv rfl rfl (by kernel_rfl) | exact pu_fld rfl (by kernel_rfl) | exact pu_ix rfl rfl rfl (by kernel_rfl) | exact pu_unOp rfl | exact pu_binStr rfl rfl rfl | exact pu_len rfl rfl | exact pu_lens rfl rfl | exact pu_pick rfl | exact pu_slice rfl rfl) (fun K hK => ?_) | refine wpX_rd rfl rfl rfl (rd_load rfl) (fun K hK => ?_) | refine wpX_gr rfl rfl rfl (by first | exact gr_buildSlice rfl | exact gr_box rfl | exact gr_alloc rfl) (fun K hK => ?_) | refine wpX_ex rfl rfl rfl (fun K hK => ?_)
            try go_wp2
            refine wpX_done ?_
            clear q0 q1 q2 q3 q4 q5 q6 qz ql r0 r1 r2 r3 r4 r5 r6 rz rl na nb a0 a1 a2 a3 a4 a5 a6 b0 b1 b2 b3 b4 b5 b6 hgl hgm
            go_wp2
            go_ret
            exact ⟨by rw [HCE.out, if_neg K2.out, if_neg K3.out, if_neg K4.out, if_neg K5.out, if_neg K6.out, if_pos K7.out, HS2.out]; rfl, FR.out.trans (by (repeat first | exact Fr.refl _ _ | exact Fr.drewN _ _ _ | apply Fr.drew | apply Fr.alloc | apply Fr.setAt | apply Fr.moreN) : Fr no wr _) (fun _ _ h => h)⟩
        · have hen := cmpF_end hj hj2 (by omega)
          have HEN := Lib.hid (HCM.out.trans hen)
          clear hen
          by_cases hA1 : j < x.f.length
          · have hA2 : ¬ j < y.f.length := fun h => hlt ⟨hA1, h⟩
            clear hlt
            go_wp2_with fail
            refine (number_any _ (x.f.length : Int) (y.f.length : Int)).mono ?_
            rintro e w' ⟨rfl, hw⟩
            subst w'
            go_wp2
            go_ret
            exact ⟨by rw [HCE.out, if_neg K2.out, if_neg K3.out, if_neg K4.out, if_neg K5.out, if_neg K6.out, if_pos K7.out, HEN.out]; rfl, FR.out⟩
          · clear hlt
            go_wp2_with fail
            refine (number_any _ (x.f.length : Int) (y.f.length : Int)).mono ?_
            rintro e w' ⟨rfl, hw⟩
            subst w'
            go_wp2
            go_ret
            exact ⟨by rw [HCE.out, if_neg K2.out, if_neg K3.out, if_neg K4.out, if_neg K5.out, if_neg K6.out, if_pos K7.out, HEN.out]; rfl, FR.out⟩
    · have g2 : ((x.k.toNat : Int) == 2) = false := (tag 2 2 rfl).trans (decide_eq_false k2)
      have g3 : ((x.k.toNat : Int) == 3) = false := (tag 3 3 rfl).trans (decide_eq_false k3)
      have g4 : ((x.k.toNat : Int) == 4) = false := (tag 4 4 rfl).trans (decide_eq_false k4)
      have g5 : ((x.k.toNat : Int) == 5) = false := (tag 5 5 rfl).trans (decide_eq_false k5)
      have g6 : ((x.k.toNat : Int) == 6) = false := (tag 6 6 rfl).trans (decide_eq_false k6)
      have g7 : ((x.k.toNat : Int) == 7) = false := (tag 7 7 rfl).trans (decide_eq_false k7)
      have K2 := Lib.hid k2; have K3 := Lib.hid k3; have K4 := Lib.hid k4; have K5 := Lib.hid k5; have K6 := Lib.hid k6; have K7 := Lib.hid k7
      clear k2 k3 k4 k5 k6 k7 tag
      clear s1 s2
      go_enter Tryd.func68, Tryd.ntmps68
      go_wp2
      go_ret
      exact ⟨by rw [HCE.out, if_neg K2.out, if_neg K3.out, if_neg K4.out, if_neg K5.out, if_neg K6.out, if_neg K7.out]; rfl, FW.out⟩
end Go.Proofs.YtgcicljklejmjaaDoor
