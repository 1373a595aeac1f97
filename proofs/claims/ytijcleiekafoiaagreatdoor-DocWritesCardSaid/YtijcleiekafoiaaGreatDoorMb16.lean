import Derived.Test.YtijcleiekafoiaaGreatDoorMb15
import Derived.Test.YtijcleiekafoiaaGreatDoorMb05
import Derived.Test.YtijcleiekafoiaaGreatDoorMb11
import Derived.Test.YtijcleiekafoiaaGreatDoorMb02

/- weight: how much there is in values. -/
namespace Go.Proofs.YtijcleiekafoiaaGreatDoor
open Go.RowKit
open Tr

/-- What weight says. -/
def WgtOut (x : Tr Mm) (n : Nat) (w : World) (e : Ending) (w' : World) : Prop := Fr no w w' ∧ ∃ W : Nat, e = .returned (.int .i64 W) ∧ n < W ∧ W ≤ 9000000000000 ∧ (W ≤ 100000 → W = n + wgt x)

set_option maxRecDepth 100000 in
set_option maxHeartbeats 8000000 in
theorem wgt_any (x : Tr Mm) : ∀ (w : World) (_ : Tr.Good w x) (n : Nat) (_ : n ≤ 3000000000000), Calls Tryz.prog 23 #[x.agg, .int .i64 n] w fun e w' => WgtOut x n w e w' := by
  induction x using Tr.ind with
  | h x ih =>
    intro w hx n hn
    obtain ⟨BA, bc, LA, lc, FA, fc, hf⟩ := hx.node.forms
    have nd := hx.node
    have hnt : x.t.length ≤ 140737488351232 := nd.t
    have hnb : x.bs.length ≤ 140737488351232 := nd.bs
    have hnl : x.l.length ≤ 140737488351232 := nd.l
    have hnf : x.f.length ≤ 140737488351232 := nd.f
    have hL := hx.inL; have hF := hx.inF
    have hnm := nd.n
    have hw := wgt_eq x
    rw [hf.agg]
    rw [hf.L] at hL; rw [hf.F] at hF
    have hi1 : IntKind.i64.wrap ((n : Int) + 1) = (n : Int) + 1 := IntWalk.i64_in _ ⟨by omega, by omega⟩
    have hi2 : IntKind.i64.wrap ((n : Int) + 1 + (x.t.length : Int) / 64) = (n : Int) + 1 + (x.t.length : Int) / 64 := IntWalk.i64_in _ ⟨by omega, by omega⟩
    have hi3 : IntKind.i64.wrap ((n : Int) + 1 + (x.t.length : Int) / 64 + (x.bs.length : Int) / 64) = (n : Int) + 1 + (x.t.length : Int) / 64 + (x.bs.length : Int) / 64 := IntWalk.i64_in _ ⟨by omega, by omega⟩
    obtain ⟨n1, hn1⟩ : ∃ n1 : Nat, n1 = n + 1 + x.t.length / 64 + x.bs.length / 64 := ⟨_, rfl⟩
    have hn2 : (n : Int) + 1 + (x.t.length : Int) / 64 + (x.bs.length : Int) / 64 = (n1 : Int) := by omega
    have HX := Lib.hid hx; have HL := Lib.hid hL; have HF := Lib.hid hF; have IH := Lib.hid ih; have HW := Lib.hid hw; have HN1 := Lib.hid hn1; have HNM := Lib.hid hnm
    clear hx hf hL hF ih nd hw hn1 hnm
    go_enter Tryz.func23, Tryz.ntmps23
    go_wp2
    have hb0 := heap_alloc_new w (.cells #[.int .u8 x.k.toNat, .bool x.b, .int .i64 x.i, .string ⟨x.t.toArray⟩, .slice BA x.bs.length bc, .slice LA x.l.length lc, .slice FA x.f.length fc] 27)
    have fz : Fr no w (w.alloc (.cells #[.int .u8 x.k.toNat, .bool x.b, .int .i64 x.i, .string ⟨x.t.toArray⟩, .slice BA x.bs.length bc, .slice LA x.l.length lc, .slice FA x.f.length fc] 27)) := (Fr.refl no w).alloc _
    generalize w.alloc (.cells #[.int .u8 x.k.toNat, .bool x.b, .int .i64 x.i, .string ⟨x.t.toArray⟩, .slice BA x.bs.length bc, .slice LA x.l.length lc, .slice FA x.f.length fc] 27) = w0 at hb0 fz ⊢
    have HB0 := Lib.hid hb0; have FZ := Lib.hid fz
    clear hb0 fz
    go_loopw [1, 5] (fun v iv wr => ∃ j W : Nat, j ≤ x.l.length ∧ iv = .int .i64 j ∧ v = .int .i64 W ∧ Fr no w0 wr ∧ n1 ≤ W ∧ W ≤ 9000000000000 ∧ (W ≤ 100000 → W = n1 + wgtL (x.l.take j))) (fun _ iv _ => x.l.length - (intOf iv).toNat)
    case atStart => exact ⟨0, n1, Nat.zero_le _, rfl, rfl, Fr.refl _ _, Nat.le_refl _, by have := HN1.out; omega, fun _ => rfl⟩
    case round =>
      obtain ⟨j, W, hj, rfl, rfl, hfr, hW1, hW2, hW3⟩ := hrel
      have hb1 := hfr.heap HB0.out (fun h => h)
      obtain ⟨q0, q1, q2, q3, q4, q5, q6, qz, ql⟩ := seven_cells hb1
      have hLr := HL.out.kept0 (FZ.out.trans hfr (fun _ _ h => h))
      have HFR := Lib.hid hfr; have HW1 := Lib.hid hW1; have HW3 := Lib.hid hW3; have HLR := Lib.hid hLr
      clear hfr hW1 hW3 hb1 hLr
      have hcase : (j < x.l.length ∧ W ≤ 100000) ∨ (j < x.l.length ∧ 100000 < W) ∨ j = x.l.length := by omega
      rcases hcase with ⟨hlt, hWl⟩ | ⟨hlt, hWl⟩ | rfl
      · obtain ⟨b, o, KB, kb, KL, kl, KF, kf, rfl, hfj, r0, r1, r2, r3, r4, r5, r6, rl⟩ := In.get HLR.out j hlt
        have hcall := IH.out x.l[j] (List.mem_append_left _ (List.getElem_mem _)) wr (HLR.out.good _ (List.getElem_mem _)) W (by omega)
        rw [hfj.agg] at hcall
        have HC := Lib.hid hcall
        clear hcall hfj
        go_wp2_with fail
        refine HC.out.mono ?_
        rintro e w5 ⟨fy, V, rfl, h1, h2, h3⟩
        have h3 : V ≤ 100000 → V = n1 + wgtL (x.l.take (j + 1)) := fun h => by
          have := HW3.out (by omega); have := h3 h; rw [wgtL_snoc hlt]; omega
        have H1 := Lib.hid h1; have H3 := Lib.hid h3; have FY := Lib.hid (HFR.out.trans fy (fun _ _ h => h))
        clear h1 h3 fy
        go_wp2
        go_roundw
        case rel => exact ⟨j + 1, V, by omega, by go_num, rfl, FY.out, by have := H1.out; have := HW1.out; omega, h2, H3.out⟩
        case measure => simp [intOf]; omega
      · have hT : W ≤ 100000 → W = n1 + wgtL x.l := fun h => by omega
        have HT := Lib.hid hT; have HWL := Lib.hid hW2
        clear hT
        obtain ⟨W0, rfl⟩ : ∃ W0, W0 = W := ⟨_, rfl⟩
        obtain ⟨w4, rfl⟩ : ∃ w4, w4 = wr := ⟨_, rfl⟩
        go_wp2
        go_loopw [1, 6] (fun v iv wr => ∃ j W : Nat, j ≤ x.f.length ∧ iv = .int .i64 j ∧ v = .int .i64 W ∧ Fr no w4 wr ∧ W0 ≤ W ∧ W ≤ 9000000000000 ∧ (W ≤ 100000 → W = W0 + wgtF (x.f.take j))) (fun _ iv _ => x.f.length - (intOf iv).toNat)
        case atStart => exact ⟨0, W0, Nat.zero_le _, rfl, rfl, Fr.refl _ _, Nat.le_refl _, HWL.out, fun _ => by simp [wgtF]⟩
        case round =>
          clear q0 q1 q2 q3 q4 q5 q6 qz ql
          obtain ⟨j, W, hj, rfl, rfl, hfr, hW1, hW2, hW3⟩ := hrel
          have hfr2 := HFR.out.trans hfr (fun _ _ h => h)
          have hb1 := hfr2.heap HB0.out (fun h => h)
          obtain ⟨q0, q1, q2, q3, q4, q5, q6, qz, ql⟩ := seven_cells hb1
          have hFr := HF.out.kept0 (FZ.out.trans hfr2 (fun _ _ h => h))
          have HFR2 := Lib.hid hfr; have HFR3 := Lib.hid hfr2; have HV1 := Lib.hid hW1; have HV3 := Lib.hid hW3; have HFF := Lib.hid hFr
          clear hfr hfr2 hW1 hW3 hb1 hFr
          have hcase : (j < x.f.length ∧ W ≤ 100000) ∨ (j < x.f.length ∧ 100000 < W) ∨ j = x.f.length := by omega
          rcases hcase with ⟨hlt, hWl⟩ | ⟨hlt, hWl⟩ | rfl
          · obtain ⟨b, o, KB, kb, KL, kl, KF, kf, rfl, hfj, n0, r0, r1, r2, r3, r4, r5, r6, rl⟩ := InF.get HFF.out j hlt
            have hnl := HNM.out x.f[j] (List.getElem_mem _)
            have hnl : x.f[j].1.length ≤ 140737488351232 := hnl
            have hi4 : IntKind.i64.wrap ((W : Int) + (x.f[j].1.length : Int) / 64) = ((W + x.f[j].1.length / 64 : Nat) : Int) := by
              rw [show ((W : Int) + (x.f[j].1.length : Int) / 64) = ((W + x.f[j].1.length / 64 : Nat) : Int) by omega]
              exact IntWalk.i64_in _ ⟨by omega, by omega⟩
            have hcall := fun W1 (f : Fr no wr W1) => IH.out x.f[j].2 (List.mem_append_right _ (List.mem_map_of_mem (List.getElem_mem _))) W1 ((HFF.out.good _ (List.getElem_mem _)).kept0 f) (W + x.f[j].1.length / 64) (by omega)
            rw [hfj.agg] at hcall
            have HC := Lib.hid hcall
            clear hcall hfj
            go_wp2_with fail
            refine wp_region_ord (List.range 18) (fun i => [Kd.p, Kd.l, Kd.p, Kd.p, Kd.p, Kd.l, Kd.p, Kd.p, Kd.l, Kd.p, Kd.p, Kd.p, Kd.l, Kd.p, Kd.p, Kd.p, Kd.g, Kd.e].getD i .e) (by kernel_rfl) (by kernel_rfl) ?_
            iterate 16
              (first | first | refine wpX_pu rfl rfl rfl (by first | exact pu_move rfl | exact pu_assign rfl | exact pu_nilCheck rfl rfl | exact pu_binInt rfl rfl rfl | exact pu_conv rfl rfl (by kernel_rfl) | exact pu_fld rfl (by kernel_rfl) | exact pu_ix rfl rfl rfl (by kernel_rfl) | exact pu_unOp rfl | exact pu_binStr rfl rfl rfl | exact pu_len rfl rfl | exact pu_lens rfl rfl | exact pu_pick rfl | exact pu_slice rfl rfl) (fun K hK => ?_) | refine wpX_rd rfl rfl rfl (rd_load rfl) (fun K hK => ?_) | refine wpX_gr rfl rfl rfl (by first | exact gr_buildSlice rfl | exact gr_box rfl | exact gr_alloc rfl) (fun K hK => ?_) | refine wpX_ex rfl rfl rfl (fun K hK => ?_))
              try go_wp2
            refine wpX_ca rfl rfl rfl (fun K hK => ?_)
            go_wp2_with fail
            refine (HC.out _ (by (repeat first | exact Fr.refl _ _ | exact Fr.drewN _ _ _ | apply Fr.drew | apply Fr.alloc | apply Fr.setAt | apply Fr.moreN))).mono ?_
            rintro e w5 ⟨fy, V, rfl, h1, h2, h3⟩
            have h3 : V ≤ 100000 → V = W0 + wgtF (x.f.take (j + 1)) := fun h => by
              have := HV3.out (by omega); have := h3 h; rw [wgtF_snoc hlt]; omega
            have h1 : W0 ≤ V := by have := HV1.out; omega
            have FY0 := Lib.hid fy
            have H1 := Lib.hid h1; have H3 := Lib.hid h3; have FY := Lib.hid (HFR2.out.trans ((by (repeat first | exact Fr.refl _ _ | exact Fr.drewN _ _ _ | apply Fr.drew | apply Fr.alloc | apply Fr.setAt | apply Fr.moreN) : Fr no wr _).trans fy (fun _ _ h => h)) (fun _ _ h => h))
            clear h1 h3 fy
            go_wp2
            obtain ⟨⟨xa, xb⟩, hext⟩ := FY0.out.ext
            refine ⟨⟨xa, xb, hext⟩, hK _ _ ?_⟩
            clear hK K hext xa xb
            first | refine wpX_pu rfl rfl rfl (by first | exact pu_move rfl | exact pu_assign rfl | exact pu_nilCheck rfl rfl | exact pu_binInt rfl rfl rfl | exact pu_conv rfl rfl (by kernel_rfl) | exact pu_fld rfl (by kernel_rfl) | exact pu_ix rfl rfl rfl (by kernel_rfl) | exact pu_unOp rfl | exact pu_binStr rfl rfl rfl | exact pu_len rfl rfl | exact pu_lens rfl rfl | exact pu_pick rfl | exact pu_slice rfl rfl) (fun K hK => ?_) | refine wpX_rd rfl rfl rfl (rd_load rfl) (fun K hK => ?_) | refine wpX_gr rfl rfl rfl (by first | exact gr_buildSlice rfl | exact gr_box rfl | exact gr_alloc rfl) (fun K hK => ?_) | refine wpX_ex rfl rfl rfl (fun K hK => ?_)
            try go_wp2
            refine wpX_done ?_
            go_wp2
            go_roundw
            case rel => exact ⟨j + 1, V, by omega, by go_num, rfl, FY.out, H1.out, h2, H3.out⟩
            case measure => simp [intOf]; omega
          · have hT : W ≤ 100000 → W = n + wgt x := fun h => by omega
            have HTT := Lib.hid hT; clear hT
            go_wp2
            go_ret
            exact ⟨FZ.out.trans HFR3.out (fun _ _ h => h), W, rfl, by have := HN1.out; have := HW1.out; have := HV1.out; omega, hW2, HTT.out⟩
          · have hT : W ≤ 100000 → W = n + wgt x := fun h => by
              have h1 := HV3.out h; rw [List.take_length] at h1
              have h2 := HT.out (by have := HV1.out; omega)
              have h3 := HN1.out; have h4 := HW.out
              omega
            have HTT := Lib.hid hT; clear hT
            go_wp2
            go_ret
            exact ⟨FZ.out.trans HFR3.out (fun _ _ h => h), W, rfl, by have := HN1.out; have := HW1.out; have := HV1.out; omega, hW2, HTT.out⟩
      · have hT : W ≤ 100000 → W = n1 + wgtL x.l := fun h => by have := HW3.out h; rwa [List.take_length] at this
        have HT := Lib.hid hT; have HWL := Lib.hid hW2
        clear hT
        obtain ⟨W0, rfl⟩ : ∃ W0, W0 = W := ⟨_, rfl⟩
        obtain ⟨w4, rfl⟩ : ∃ w4, w4 = wr := ⟨_, rfl⟩
        go_wp2
        go_loopw [1, 6] (fun v iv wr => ∃ j W : Nat, j ≤ x.f.length ∧ iv = .int .i64 j ∧ v = .int .i64 W ∧ Fr no w4 wr ∧ W0 ≤ W ∧ W ≤ 9000000000000 ∧ (W ≤ 100000 → W = W0 + wgtF (x.f.take j))) (fun _ iv _ => x.f.length - (intOf iv).toNat)
        case atStart => exact ⟨0, W0, Nat.zero_le _, rfl, rfl, Fr.refl _ _, Nat.le_refl _, HWL.out, fun _ => by simp [wgtF]⟩
        case round =>
          clear q0 q1 q2 q3 q4 q5 q6 qz ql
          obtain ⟨j, W, hj, rfl, rfl, hfr, hW1, hW2, hW3⟩ := hrel
          have hfr2 := HFR.out.trans hfr (fun _ _ h => h)
          have hb1 := hfr2.heap HB0.out (fun h => h)
          obtain ⟨q0, q1, q2, q3, q4, q5, q6, qz, ql⟩ := seven_cells hb1
          have hFr := HF.out.kept0 (FZ.out.trans hfr2 (fun _ _ h => h))
          have HFR2 := Lib.hid hfr; have HFR3 := Lib.hid hfr2; have HV1 := Lib.hid hW1; have HV3 := Lib.hid hW3; have HFF := Lib.hid hFr
          clear hfr hfr2 hW1 hW3 hb1 hFr
          have hcase : (j < x.f.length ∧ W ≤ 100000) ∨ (j < x.f.length ∧ 100000 < W) ∨ j = x.f.length := by omega
          rcases hcase with ⟨hlt, hWl⟩ | ⟨hlt, hWl⟩ | rfl
          · obtain ⟨b, o, KB, kb, KL, kl, KF, kf, rfl, hfj, n0, r0, r1, r2, r3, r4, r5, r6, rl⟩ := InF.get HFF.out j hlt
            have hnl := HNM.out x.f[j] (List.getElem_mem _)
            have hnl : x.f[j].1.length ≤ 140737488351232 := hnl
            have hi4 : IntKind.i64.wrap ((W : Int) + (x.f[j].1.length : Int) / 64) = ((W + x.f[j].1.length / 64 : Nat) : Int) := by
              rw [show ((W : Int) + (x.f[j].1.length : Int) / 64) = ((W + x.f[j].1.length / 64 : Nat) : Int) by omega]
              exact IntWalk.i64_in _ ⟨by omega, by omega⟩
            have hcall := fun W1 (f : Fr no wr W1) => IH.out x.f[j].2 (List.mem_append_right _ (List.mem_map_of_mem (List.getElem_mem _))) W1 ((HFF.out.good _ (List.getElem_mem _)).kept0 f) (W + x.f[j].1.length / 64) (by omega)
            rw [hfj.agg] at hcall
            have HC := Lib.hid hcall
            clear hcall hfj
            go_wp2_with fail
            refine wp_region_ord (List.range 18) (fun i => [Kd.p, Kd.l, Kd.p, Kd.p, Kd.p, Kd.l, Kd.p, Kd.p, Kd.l, Kd.p, Kd.p, Kd.p, Kd.l, Kd.p, Kd.p, Kd.p, Kd.g, Kd.e].getD i .e) (by kernel_rfl) (by kernel_rfl) ?_
            iterate 16
              (first | first | refine wpX_pu rfl rfl rfl (by first | exact pu_move rfl | exact pu_assign rfl | exact pu_nilCheck rfl rfl | exact pu_binInt rfl rfl rfl | exact pu_conv rfl rfl (by kernel_rfl) | exact pu_fld rfl (by kernel_rfl) | exact pu_ix rfl rfl rfl (by kernel_rfl) | exact pu_unOp rfl | exact pu_binStr rfl rfl rfl | exact pu_len rfl rfl | exact pu_lens rfl rfl | exact pu_pick rfl | exact pu_slice rfl rfl) (fun K hK => ?_) | refine wpX_rd rfl rfl rfl (rd_load rfl) (fun K hK => ?_) | refine wpX_gr rfl rfl rfl (by first | exact gr_buildSlice rfl | exact gr_box rfl | exact gr_alloc rfl) (fun K hK => ?_) | refine wpX_ex rfl rfl rfl (fun K hK => ?_))
              try go_wp2
            refine wpX_ca rfl rfl rfl (fun K hK => ?_)
            go_wp2_with fail
            refine (HC.out _ (by (repeat first | exact Fr.refl _ _ | exact Fr.drewN _ _ _ | apply Fr.drew | apply Fr.alloc | apply Fr.setAt | apply Fr.moreN))).mono ?_
            rintro e w5 ⟨fy, V, rfl, h1, h2, h3⟩
            have h3 : V ≤ 100000 → V = W0 + wgtF (x.f.take (j + 1)) := fun h => by
              have := HV3.out (by omega); have := h3 h; rw [wgtF_snoc hlt]; omega
            have h1 : W0 ≤ V := by have := HV1.out; omega
            have FY0 := Lib.hid fy
            have H1 := Lib.hid h1; have H3 := Lib.hid h3; have FY := Lib.hid (HFR2.out.trans ((by (repeat first | exact Fr.refl _ _ | exact Fr.drewN _ _ _ | apply Fr.drew | apply Fr.alloc | apply Fr.setAt | apply Fr.moreN) : Fr no wr _).trans fy (fun _ _ h => h)) (fun _ _ h => h))
            clear h1 h3 fy
            go_wp2
            obtain ⟨⟨xa, xb⟩, hext⟩ := FY0.out.ext
            refine ⟨⟨xa, xb, hext⟩, hK _ _ ?_⟩
            clear hK K hext xa xb
            first | refine wpX_pu rfl rfl rfl (by first | exact pu_move rfl | exact pu_assign rfl | exact pu_nilCheck rfl rfl | exact pu_binInt rfl rfl rfl | exact pu_conv rfl rfl (by kernel_rfl) | exact pu_fld rfl (by kernel_rfl) | exact pu_ix rfl rfl rfl (by kernel_rfl) | exact pu_unOp rfl | exact pu_binStr rfl rfl rfl | exact pu_len rfl rfl | exact pu_lens rfl rfl | exact pu_pick rfl | exact pu_slice rfl rfl) (fun K hK => ?_) | refine wpX_rd rfl rfl rfl (rd_load rfl) (fun K hK => ?_) | refine wpX_gr rfl rfl rfl (by first | exact gr_buildSlice rfl | exact gr_box rfl | exact gr_alloc rfl) (fun K hK => ?_) | refine wpX_ex rfl rfl rfl (fun K hK => ?_)
            try go_wp2
            refine wpX_done ?_
            go_wp2
            go_roundw
            case rel => exact ⟨j + 1, V, by omega, by go_num, rfl, FY.out, H1.out, h2, H3.out⟩
            case measure => simp [intOf]; omega
          · have hT : W ≤ 100000 → W = n + wgt x := fun h => by omega
            have HTT := Lib.hid hT; clear hT
            go_wp2
            go_ret
            exact ⟨FZ.out.trans HFR3.out (fun _ _ h => h), W, rfl, by have := HN1.out; have := HW1.out; have := HV1.out; omega, hW2, HTT.out⟩
          · have hT : W ≤ 100000 → W = n + wgt x := fun h => by
              have h1 := HV3.out h; rw [List.take_length] at h1
              have h2 := HT.out (by have := HV1.out; omega)
              have h3 := HN1.out; have h4 := HW.out
              omega
            have HTT := Lib.hid hT; clear hT
            go_wp2
            go_ret
            exact ⟨FZ.out.trans HFR3.out (fun _ _ h => h), W, rfl, by have := HN1.out; have := HW1.out; have := HV1.out; omega, hW2, HTT.out⟩
end Go.Proofs.YtijcleiekafoiaaGreatDoor

/- What the laws of law05 need of values: bare ones are written alike. -/
namespace Go.Proofs.YtijcleiekafoiaaGreatDoor
open Go.RowKit
open Tr

namespace Tr
variable {α : Type}
theorem bare_denc (x : Tr α) : denc (bare x) = denc x := by
  induction x using Tr.ind with
  | h x ih =>
    rw [denc_eq, denc_eq, bare_k, bare_b, bare_i, bare_t, bare_bs, bare_l, bare_f]
    have h1 : (x.l.map bare).flatMap denc = x.l.flatMap denc := by
      rw [List.flatMap_map]
      exact flat_congr fun y hy => ih y (Tr.kids_l hy)
    have h2 : (x.f.map fun p => (p.1, bare p.2)).flatMap fenc = x.f.flatMap fenc := by
      rw [List.flatMap_map]
      exact flat_congr fun p hp => by unfold fenc; rw [ih p.2 (Tr.kids_f hp)]
    rw [h1, h2, List.length_map, List.length_map]
where
  flat_congr {β γ : Type} {f g : β → List γ} {l : List β} (h : ∀ y ∈ l, f y = g y) : l.flatMap f = l.flatMap g := by
    induction l with
    | nil => rfl
    | cons y l ih => rw [List.flatMap_cons, List.flatMap_cons, h y (.head _), ih fun z hz => h z (.tail _ hz)]
theorem bare_docErr (x : Tr α) : docErr (bare x) = docErr x := by unfold docErr; rw [bare_check, bare_denc]
theorem bare_docBytes (x : Tr α) : docBytes (bare x) = docBytes x := by unfold docBytes; rw [bare_docErr, bare_denc]
theorem bare_docSize (x : Tr α) : docSize (bare x) = docSize x := by unfold docSize; rw [bare_check, bare_denc]
theorem docErr_of {β : Type} {x : Tr α} {y : Tr β} (h : bare y = bare x) : docErr y = docErr x := by rw [← bare_docErr y, h, bare_docErr]
theorem docBytes_of {β : Type} {x : Tr α} {y : Tr β} (h : bare y = bare x) : docBytes y = docBytes x := by rw [← bare_docBytes y, h, bare_docBytes]
theorem docSize_of {β : Type} {x : Tr α} {y : Tr β} (h : bare y = bare x) : docSize y = docSize x := by rw [← bare_docSize y, h, bare_docSize]
theorem denc_of {β : Type} {x : Tr α} {y : Tr β} (h : bare y = bare x) : denc y = denc x := by rw [← bare_denc y, h, bare_denc]
theorem docBytes_len (x : Tr α) : (docBytes x).length ≤ 8192 := by
  unfold docBytes
  split
  · rename_i h
    unfold docErr at h
    by_cases hc : check x ≠ 0
    · rw [if_pos hc] at h; exact absurd h hc
    · rw [if_neg hc] at h
      by_cases hn : 8192 < (denc x).length
      · rw [if_pos hn] at h; cases h
      · omega
  · simp
theorem docSize_len (x : Tr α) : docSize x ≤ (denc x).length := by unfold docSize; split <;> omega
end Tr
theorem parts_wgt5 (x : Tr Mm) : parts x ≤ wgt x := by
  induction x using Tr.ind with
  | h x ih =>
    rw [parts_sumk, wgt_eq, kids, List.map_append, List.sum_append, List.map_map]
    have h1 : ∀ l : List (Tr Mm), (∀ y ∈ l, parts y ≤ wgt y) → (l.map parts).sum ≤ wgtL l := fun l h => by
      unfold wgtL
      induction l with
      | nil => simp
      | cons y l ih =>
        have := h y (.head _); have := ih fun z hz => h z (.tail _ hz)
        simp only [List.map_cons, List.sum_cons]; omega
    have h2 : ∀ l : List (List UInt8 × Tr Mm), (∀ p ∈ l, parts p.2 ≤ wgt p.2) → (l.map (parts ∘ Prod.snd)).sum ≤ wgtF l := fun l h => by
      unfold wgtF
      induction l with
      | nil => simp
      | cons y l ih =>
        have := h y (.head _); have := ih fun z hz => h z (.tail _ hz)
        simp only [List.map_cons, List.sum_cons, Function.comp]; omega
    have := h1 x.l fun y hy => ih y (Tr.kids_l hy)
    have := h2 x.f fun p hp => ih p.2 (Tr.kids_f hp)
    omega
theorem err_i64 (n : Nat) (h : n ≤ 100) : IntKind.i64.wrap (n : Int) = (n : Int) := IntWalk.i64_in _ ⟨by omega, by omega⟩
theorem ieq_self (n : Nat) : ((n : Int) == (n : Int)) = true := by rw [beq_iff_eq]
theorem ine_self (n : Nat) : ((n : Int) != (n : Int)) = false := by rw [bne_eq_false_iff_eq]

/-- What much says. -/
def MuchV (x : Tr Mm) (w : World) (e : Ending) (w' : World) : Prop := Fr no w w' ∧ ∃ b : Bool, e = .returned (.bool b) ∧ (b = false → wgt x ≤ 100000)
set_option maxRecDepth 100000 in
theorem muchv_any (w : World) (x : Tr Mm) (hx : Tr.Good w x) : Calls Tryz.prog 5 #[x.agg] w fun e w' => MuchV x w e w' := by
  obtain ⟨BA, bc, LA, lc, FA, fc, hf⟩ := hx.node.forms
  have hag := hf.agg
  have hcall := fun W (f : Fr no w W) => wgt_any x W (hx.kept0 f) 0 (by omega)
  rw [hag] at hcall ⊢
  have HC := Lib.hid hcall
  clear hf hag hx hcall
  go_enter Tryz.func5, Tryz.ntmps5
  go_wp2_with fail
  refine (HC.out _ ((Fr.refl no w).alloc _)).mono ?_
  rintro e w1 ⟨f1, W, rfl, h1, h2, h3⟩
  have F1 := Lib.hid (((Fr.refl no w).alloc _).trans f1 (fun _ _ h => h)); have H3 := Lib.hid h3
  clear f1 h3
  go_wp2
  go_ret
  refine ⟨F1.out, _, rfl, fun hb => ?_⟩
  have := H3.out (by have := of_decide_eq_false hb; omega)
  have := of_decide_eq_false hb
  omega
end Go.Proofs.YtijcleiekafoiaaGreatDoor

/- known of law05: the plain part. -/
namespace Go.Proofs.YtijcleiekafoiaaGreatDoor
open Go.RowKit
open Tr

theorem vi_small (n : Nat) (h : n < 128) : vi n = [UInt8.ofNat n] := by rw [vi, dif_pos h]
def kI {α : Type} (m : α) : Tr α := .mk 3 false 1 [] [] m [] []
def kT {α : Type} (m : α) : Tr α := .mk 4 false 0 [120] [] m [] []
def kD {α : Type} (m m' : α) : Tr α := .mk 7 false 0 [] [] m' [] [([97], kI m), ([98], kT m)]
/-- Its bytes. -/
def kBs : List UInt8 := [8, 2, 1, 97, 4, 2, 1, 98, 5, 1, 120]
theorem kD_bytes {α : Type} (m m' : α) : denc (kD m m') = kBs := by
  rw [denc_eq]
  show 8 :: (vi 2 ++ List.flatMap fenc [([97], kI m), ([98], kT m)]) = _
  simp only [List.flatMap_cons, List.flatMap_nil, fenc, vt]
  rw [denc_eq (kI m), denc_eq (kT m)]
  show 8 :: (vi 2 ++ ((vi 1 ++ [97]) ++ (4 :: vi (zz 1)) ++ ((vi 1 ++ [98]) ++ (5 :: (vi 1 ++ [120])) ++ []))) = _
  rw [vi_small 2 (by decide), vi_small 1 (by decide), show zz 1 = 2 from rfl, vi_small 2 (by decide)]
  rfl
theorem kD_pre {α : Type} (m m' : α) : pre 1 (kD m m') = [(1, kD m m'), (2, kI m), (2, kT m)] := by
  rw [pre_eq, show (kD m m').kids = [kI m, kT m] from rfl]
  simp only [List.flatMap_cons, List.flatMap_nil]
  rw [pre_eq, pre_eq, show (kI m).kids = [] from rfl, show (kT m).kids = [] from rfl]
  rfl
theorem kD_check {α : Type} (m m' : α) : check (kD m m') = 0 := by
  refine check_zero.2 ⟨rfl, ?_, ?_⟩
  · unfold parts; rw [kD_pre]; show 3 ≤ 512; decide
  · intro p hp
    rw [kD_pre] at hp
    simp only [List.mem_cons, List.not_mem_nil, or_false] at hp
    have h1 : own (kD () ()) = 0 := by decide
    have h2 : own (kI ()) = 0 := by decide
    have h3 : own (kT ()) = 0 := by decide
    have e1 : bare (kD m m') = kD () () := by rw [bare_eq]; show Tr.mk _ _ _ _ _ _ [] [([97], bare (kI m)), ([98], bare (kT m))] = _; rw [bare_eq (kI m), bare_eq (kT m)]; rfl
    have e2 : bare (kI m) = kI () := by rw [bare_eq]; rfl
    have e3 : bare (kT m) = kT () := by rw [bare_eq]; rfl
    rcases hp with rfl | rfl | rfl
    · show own (kD m m') = 0; rw [← Tr.bare_own, e1]; exact h1
    · show own (kI m) = 0; rw [← Tr.bare_own, e2]; exact h2
    · show own (kT m) = 0; rw [← Tr.bare_own, e3]; exact h3
theorem kD_bare {α : Type} (m m' : α) : bare (kD m m') = kD () () := by rw [bare_eq]; show Tr.mk _ _ _ _ _ _ [] [([97], bare (kI m)), ([98], bare (kT m))] = _; rw [bare_eq (kI m), bare_eq (kT m)]; rfl
theorem kD_fit {α : Type} (m m' : α) : FitAll (kD m m') := by
  have z : I64 0 := ⟨by decide, by decide⟩
  have o : I64 1 := ⟨by decide, by decide⟩
  have l1 : (1 : Nat) < 18446744073709551616 := by decide
  have l2 : (2 : Nat) < 18446744073709551616 := by decide
  refine ⟨_, ⟨rfl, z, lt0, lt0, lt0, l2, fun p hp => ?_⟩, fun y hy => ?_⟩
  · simp only [kD, Tr.f, List.mem_cons, List.not_mem_nil, or_false] at hp
    rcases hp with rfl | rfl <;> exact l1
  · simp only [kD, Tr.kids, Tr.l, Tr.f, List.nil_append, List.map_cons, List.map_nil, List.mem_cons, List.not_mem_nil, or_false] at hy
    rcases hy with rfl | rfl
    · exact ⟨_, ⟨rfl, o, lt0, lt0, lt0, lt0, fun p hp => nomatch hp⟩, fun y hy => nomatch hy⟩
    · exact ⟨_, ⟨rfl, z, l1, lt0, lt0, lt0, fun p hp => nomatch hp⟩, fun y hy => nomatch hy⟩
theorem kD_err {α : Type} (m m' : α) : docErr (kD m m') = 0 := by
  unfold docErr
  rw [if_neg (by rw [kD_check]; simp), kD_bytes, if_neg (by decide)]
theorem kD_out {α : Type} (m m' : α) : docBytes (kD m m') = kBs := by
  unfold docBytes
  rw [kD_err, if_pos rfl, kD_bytes]
theorem kD_size {α : Type} (m m' : α) : docSize (kD m m') = 11 := by
  unfold docSize
  rw [if_pos (kD_check m m'), kD_bytes]
  rfl
theorem kD_dec : docDec kBs = some (kD () ()) := by
  have h := ddec_enc 9 (kD () ()) [] (kD_fit _ _) rfl
  rw [List.append_nil, kD_bytes, kD_bare] at h
  exact dec_yes (by decide) h (kD_check _ _)
theorem kN_dec : docDec [2, 2] = none := dec_rest (r := [2]) (by rw [ddc2]) (by simp)
theorem kD_val : docVal kBs = kD () () := by unfold docVal; rw [kD_dec]; rfl
theorem kD_code : docCode kBs = 0 := by unfold docCode; rw [kD_dec]
theorem kN_code : docCode [2, 2] = 50 := by unfold docCode; rw [kN_dec]
end Go.Proofs.YtijcleiekafoiaaGreatDoor

/- known of law05. -/
namespace Go.Proofs.YtijcleiekafoiaaGreatDoor
open Go.RowKit Go.Shelf
open Tr

/-- The sample, as it lies. -/
def kX (g : Nat) : Tr Mm := kD nil3 (.slice none 0 0, .slice none 0 0, .slice (some ⟨g, 0, none⟩) 2 2)
theorem kX_agg (g : Nat) : (kX g).agg = .agg #[.int .u8 7, .bool false, .int .i64 0, .string ⟨#[]⟩, .slice none 0 0, .slice none 0 0, .slice (some ⟨g, 0, none⟩) 2 2] := rfl
theorem kX_good {w : World} {g : Nat} (h : w.heap[g]? = some (.cells #[.string ⟨#[97]⟩, .int .u8 3, .bool false, .int .i64 1, .string ⟨#[]⟩, .slice none 0 0, .slice none 0 0, .slice none 0 0, .string ⟨#[98]⟩, .int .u8 4, .bool false, .int .i64 0, .string ⟨#[120]⟩, .slice none 0 0, .slice none 0 0, .slice none 0 0] 87 (0, 0))) : Tr.Good w (kX g) := by
  refine ⟨_, ⟨Sl.nil _ _, Sl.nil _ _, sl_cells h 8 2 rfl (by simp [maxLen]), (show I64 0 from ⟨by decide, by decide⟩), by simp [kX, kD, Tr.t], by simp [kX, kD, Tr.bs], by simp [kX, kD, Tr.l], ?_, fun p hp => ?_, by simp [kX, kD, Tr.l], ?_⟩, fun y hy => ?_⟩
  · show 2 ≤ reachBytes; decide
  · simp only [kX, kD, Tr.f, List.mem_cons, List.not_mem_nil, or_false] at hp
    have l1 : 1 ≤ reachBytes := by decide
    rcases hp with rfl | rfl <;> exact l1
  · show 2 * 120 ≤ reachBytes; decide
  · simp only [kX, kD, Tr.kids, Tr.l, Tr.f, List.nil_append, List.map_cons, List.map_nil, List.mem_cons, List.not_mem_nil, or_false] at hy
    rcases hy with rfl | rfl
    · exact good_leaf _ ⟨by decide, by decide⟩ (by simp)
    · exact good_leaf _ ⟨by decide, by decide⟩ (show 1 ≤ reachBytes by decide)

set_option maxRecDepth 100000 in
set_option maxHeartbeats 4000000 in
theorem known5_any (w : World) (hT : Tabs w) : Calls Tryz.prog 12 #[] w fun e w' => e = .returned (.bool true) ∧ Fr no w w' := by
  have HT := Lib.hid hT; clear hT
  obtain ⟨h0, h1⟩ := two_allocs w (.cells #[.string ⟨#[97]⟩, .int .u8 3, .bool false, .int .i64 1, .string ⟨#[]⟩, .slice none 0 0, .slice none 0 0, .slice none 0 0, .string ⟨#[98]⟩, .int .u8 4, .bool false, .int .i64 0, .string ⟨#[120]⟩, .slice none 0 0, .slice none 0 0, .slice none 0 0] 87) (.cells #[.int .u8 7, .bool false, .int .i64 0, .string ⟨#[]⟩, .slice none 0 0, .slice none 0 0, .slice (some ⟨w.heap.size, 0, none⟩) 2 2] 27)
  have fW := ((Fr.refl no w).alloc (.cells #[.string ⟨#[97]⟩, .int .u8 3, .bool false, .int .i64 1, .string ⟨#[]⟩, .slice none 0 0, .slice none 0 0, .slice none 0 0, .string ⟨#[98]⟩, .int .u8 4, .bool false, .int .i64 0, .string ⟨#[120]⟩, .slice none 0 0, .slice none 0 0, .slice none 0 0] 87)).alloc (.cells #[.int .u8 7, .bool false, .int .i64 0, .string ⟨#[]⟩, .slice none 0 0, .slice none 0 0, .slice (some ⟨w.heap.size, 0, none⟩) 2 2] 27)
  have H0 := Lib.hid h0; have H1 := Lib.hid h1; have FW := Lib.hid fW
  clear h0 h1 fW
  go_enter Tryz.func12, Tryz.ntmps12
  go_wp2_with fail
  generalize (w.alloc (.cells #[.string ⟨#[97]⟩, .int .u8 3, .bool false, .int .i64 1, .string ⟨#[]⟩, .slice none 0 0, .slice none 0 0, .slice none 0 0, .string ⟨#[98]⟩, .int .u8 4, .bool false, .int .i64 0, .string ⟨#[120]⟩, .slice none 0 0, .slice none 0 0, .slice none 0 0] 87)).alloc (.cells #[.int .u8 7, .bool false, .int .i64 0, .string ⟨#[]⟩, .slice none 0 0, .slice none 0 0, .slice (some ⟨w.heap.size, 0, none⟩) 2 2] 27) = W at H0 H1 FW ⊢
  have hg := kX_good H0.out
  have henc := docenc_any W (kX w.heap.size) hg (HT.out.kept0 FW.out) (by show (denc (kD _ _)).length ≤ _; rw [kD_bytes]; decide)
  rw [kX_agg, show docErr (kX w.heap.size) = 0 from kD_err _ _, show docBytes (kX w.heap.size) = kBs from kD_out _ _] at henc
  have HG := Lib.hid hg
  clear hg
  refine henc.mono ?_
  clear henc
  rintro e w2 ⟨f2, A, n, rfl, hn, ho, hk⟩
  obtain rfl : n = 11 := hn
  have F2 := Lib.hid f2; have HO := Lib.hid ho; have HK := Lib.hid hk
  clear f2 ho hk
  go_wp2_with fail
  refine (docdec_any w2 _ kBs HO.out.sl (by decide) (HT.out.kept0 (FW.out.trans F2.out (fun _ _ h => h)))).mono ?_
  rintro e w3 ⟨f3, y1, rfl, hb1, ho1, hg1, hk1, hp1⟩
  rw [kD_code]
  rw [kD_val] at hb1
  obtain ⟨B1, b1, L1, l1, F1, f1, hf1⟩ := hg1.node.forms
  have hag1 := hf1.agg
  rw [hag1]
  have F3 := Lib.hid (F2.out.trans f3 (fun _ _ h => h)); have F23 := Lib.hid f3; have HB1 := Lib.hid hb1; have HG1 := Lib.hid hg1; have HA1 := Lib.hid hag1
  clear f3 hb1 ho1 hg1 hk1 hp1 hf1 hag1
  obtain ⟨h2, h3⟩ := two_allocs w3 (.cells #[.int .u8 y1.k.toNat, .bool y1.b, .int .i64 y1.i, .string ⟨y1.t.toArray⟩, .slice B1 y1.bs.length b1, .slice L1 y1.l.length l1, .slice F1 y1.f.length f1] 27) (.cells #[.int .u8 2, .int .u8 2] 5)
  have f4 := ((Fr.refl no w3).alloc (.cells #[.int .u8 y1.k.toNat, .bool y1.b, .int .i64 y1.i, .string ⟨y1.t.toArray⟩, .slice B1 y1.bs.length b1, .slice L1 y1.l.length l1, .slice F1 y1.f.length f1] 27)).alloc (.cells #[.int .u8 2, .int .u8 2] 5)
  have H2 := Lib.hid h2; have H3 := Lib.hid h3; have F4 := Lib.hid f4
  clear h2 h3 f4
  go_wp2_with fail
  generalize (w3.alloc (.cells #[.int .u8 y1.k.toNat, .bool y1.b, .int .i64 y1.i, .string ⟨y1.t.toArray⟩, .slice B1 y1.bs.length b1, .slice L1 y1.l.length l1, .slice F1 y1.f.length f1] 27)).alloc (.cells #[.int .u8 2, .int .u8 2] 5) = w4 at H2 H3 F4 ⊢
  refine (docdec_any w4 _ [2, 2] (sl_cells H3.out 1 2 rfl (by simp [maxLen])) (by decide) (HT.out.kept0 (FW.out.trans (F3.out.trans F4.out (fun _ _ h => h)) (fun _ _ h => h)))).mono ?_
  rintro e w5 ⟨f5, y2, rfl, hb2, ho2, hg2, hk2, hp2⟩
  rw [kN_code]
  obtain ⟨B2, b2, L2, l2, F2', f2', hf2⟩ := hg2.node.forms
  rw [hf2.agg]
  clear hb2 ho2 hg2 hk2 hp2 hf2
  have f6 := (Fr.refl no w5).alloc (.cells #[.int .u8 y2.k.toNat, .bool y2.b, .int .i64 y2.i, .string ⟨y2.t.toArray⟩, .slice B2 y2.bs.length b2, .slice L2 y2.l.length l2, .slice F2' y2.f.length f2'] 27)
  have H26 := Lib.hid (f6.heap (f5.heap H2.out (fun h => h)) (fun h => h)); have FW6 := Lib.hid ((F3.out.trans F4.out (fun _ _ h => h)).trans (f5.trans f6 (fun _ _ h => h)) (fun _ _ h => h)); have F36 := Lib.hid (F4.out.trans (f5.trans f6 (fun _ _ h => h)) (fun _ _ h => h))
  clear f5 f6 H2 H3
  have hr6 := FW6.out.heap H1.out (fun h => h)
  obtain ⟨q0, q1, q2, q3, q4, q5, q6, qz, ql⟩ := seven_cells hr6
  obtain ⟨v0, v1, v2, v3, v4, v5, v6, vz, vl⟩ := seven_cells H26.out
  have hsv := fun W' (f : Fr no (w5.alloc (.cells #[.int .u8 y2.k.toNat, .bool y2.b, .int .i64 y2.i, .string ⟨y2.t.toArray⟩, .slice B2 y2.bs.length b2, .slice L2 y2.l.length l2, .slice F2' y2.f.length f2'] 27)) W') => samev_any (kX w.heap.size) y1 W' (HG.out.kept0 (FW6.out.trans f (fun _ _ h => h))) (HG1.out.kept0 (F36.out.trans f (fun _ _ h => h)))
  rw [kX_agg, HA1.out] at hsv
  have HSV := Lib.hid hsv
  clear hsv hr6
  rw [show ((50 : Nat) : Int) = 50 from rfl]
  have hbx : bare (kX w.heap.size) = bare y1 := by rw [HB1.out]; exact kD_bare _ _
  have HBX := Lib.hid hbx
  clear hbx
  go_wp2_with fail
  refine (HSV.out _ (Fr.refl _ _)).mono ?_
  rintro e w7 ⟨⟨v, rfl, hv⟩, f7⟩
  obtain rfl : v = true := hv.2 HBX.out
  have F7 := Lib.hid (FW6.out.trans f7 (fun _ _ h => h)); have F37 := Lib.hid (F36.out.trans f7 (fun _ _ h => h))
  clear hv f7 HSV q0 q1 q2 q3 q4 q5 q6 qz ql v0 v1 v2 v3 v4 v5 v6 vz vl
  have hr7 := F7.out.heap H1.out (fun h => h)
  obtain ⟨q0, q1, q2, q3, q4, q5, q6, qz, ql⟩ := seven_cells hr7
  have hb8 := heap_alloc_new w7 (.cells #[.int .u8 8, .int .u8 2, .int .u8 1, .int .u8 97, .int .u8 4, .int .u8 2, .int .u8 1, .int .u8 98, .int .u8 5, .int .u8 1, .int .u8 120] 5)
  have f8 := (Fr.refl no w7).alloc (.cells #[.int .u8 8, .int .u8 2, .int .u8 1, .int .u8 97, .int .u8 4, .int .u8 2, .int .u8 1, .int .u8 98, .int .u8 5, .int .u8 1, .int .u8 120] 5)
  have H8 := Lib.hid hb8; have F8 := Lib.hid f8
  clear hr7 hb8 f8
  go_wp2_with fail
  generalize w7.alloc (.cells #[.int .u8 8, .int .u8 2, .int .u8 1, .int .u8 97, .int .u8 4, .int .u8 2, .int .u8 1, .int .u8 98, .int .u8 5, .int .u8 1, .int .u8 120] 5) = w8 at H8 F8 ⊢
  refine (same_any w8 _ _ kBs kBs ((HO.out.kept0 (F23.out.trans (F37.out.trans F8.out (fun _ _ h => h)) (fun _ _ h => h))).sl) (sl_cells H8.out 1 11 rfl (by simp [maxLen])) (by decide) (by decide)).mono ?_
  rintro e w9 ⟨rfl, n9, hw9⟩
  rw [decide_eq_true (rfl : kBs = kBs)]
  have f9 : Fr no w8 w9 := by rw [hw9]; exact Fr.drewN _ _ _
  have F9 := Lib.hid (F7.out.trans (F8.out.trans f9 (fun _ _ h => h)) (fun _ _ h => h))
  clear hw9 f9 q0 q1 q2 q3 q4 q5 q6 qz ql
  obtain ⟨q0, q1, q2, q3, q4, q5, q6, qz, ql⟩ := seven_cells (F9.out.heap H1.out (fun h => h))
  have hsz := docsize_any w9 (kX w.heap.size) (HG.out.kept0 F9.out) (HT.out.kept0 (FW.out.trans F9.out (fun _ _ h => h))) (by show (denc (kD _ _)).length ≤ _; rw [kD_bytes]; decide)
  rw [kX_agg, show docSize (kX w.heap.size) = 11 from kD_size _ _] at hsz
  have HSZ := Lib.hid hsz
  clear hsz
  go_wp2_with fail
  refine HSZ.out.mono ?_
  rintro e w10 ⟨f10, rfl⟩
  have F10 := Lib.hid (FW.out.trans (F9.out.trans f10 (fun _ _ h => h)) (fun _ _ h => h))
  clear f10 HSZ
  rw [show ((11 : Nat) : Int) = 11 from rfl]
  go_wp2
  go_ret
  exact ⟨rfl, F10.out⟩
end Go.Proofs.YtijcleiekafoiaaGreatDoor

/- The book of lists: bytes put into it. -/
namespace Go.Proofs.YtijcleiekafoiaaGreatDoor
open Go.RowKit

theorem tbRows : Tb Tryz.prog 39 23 (.slice none 0 0) 1 24 := ⟨by kernel_rfl, by kernel_rfl, rfl, by decide⟩

def nilS : Value := .slice none 0 0

/-- A book at block b that holds lists of bytes alone. -/
def Bk (w : World) (b : Nat) (v : Value) (rs : List Value) : Prop :=
  w.heap[b]? = some (.cells (#[v] ++ Array.replicate 22 nilS) 63 (0, 0)) ∧ w.ownsRow 0 23 1 v rs.length rs ∧ v.ownBlock ≠ some b

theorem Bk.cells {w : World} {b : Nat} {v : Value} {rs : List Value} (h : Bk w b v rs) : w.cell? ⟨b, 0, none⟩ = some v ∧ (∀ i, i < 22 → w.cell? ⟨b, i + 1, none⟩ = some (.slice none 0 0)) ∧ (∀ o, w.frozen? ⟨b, o, none⟩ = false) ∧ b < w.heap.size := by
  refine ⟨by simp [World.cell?, h.1], fun i hi => ?_, fun o => by simp [World.frozen?, h.1], (Array.getElem?_eq_some_iff.1 h.1).1⟩
  simp only [World.cell?, h.1, Option.isSome_none, Bool.false_eq_true, if_false]
  rw [Array.getElem?_append_right (by simp), Array.getElem?_replicate]
  rw [if_pos (by simp; omega)]; rfl

set_option maxRecDepth 100000 in
set_option maxHeartbeats 400000 in
theorem book_bytes (b : Nat) (w : World) (v : Value) (rs : List Value) (A : Option Addr) (n c : Nat) (h : Bk w b v rs) (hl : rs.length ≤ 1000000) :
    Calls Tryz.prog 11 #[.pointer (some ⟨b, 0, none⟩), .slice A n c] w fun e w' => e = .returned (.tuple #[]) ∧ ∃ v', Bk w' b v' (rs ++ [.slice A n c]) ∧ Fr (fun k => k = b ∨ v.ownBlock = some k) w w' ∧ Moved w w' v v' := by
  obtain ⟨B, d, rfl⟩ := own_form h.2.1
  obtain ⟨hc0, _, hfz, hbs⟩ := h.cells
  have HB := Lib.hid h; clear h
  go_enter Tryz.func11, Tryz.ntmps11
  go_wp2_with (at_builtin; refine wpList_ap rfl (.tmp 8) (.tmp 10) 39 rfl tbRows HB.out.2.1 ?fr ((Sl.built w _ _).kept0 ((Fr.refl no _))) rfl rfl (by simp [Value.oneCell']) ?b1 ?b2 ?go)
  case fr => (repeat first | exact Fr.refl _ _ | apply Fr.drew | apply Fr.alloc)
  case b1 => simp only [maxLen]; omega
  case b2 => omega
  case go =>
    intro A' N c' w2 ho hf2 hm2
    have hg : Fr (fun k => Value.ownBlock (.slice B rs.length d) = some k) w w2 := Fr.trans (S := fun k => Value.ownBlock (.slice B rs.length d) = some k) (by (repeat first | exact Fr.refl _ _ | apply Fr.drew | apply Fr.alloc)) hf2 (fun _ _ h => h)
    have hc1 := hg.cell hc0 HB.out.2.2
    have hf1 := (hg.frozen (a := ⟨b, 0, none⟩) hbs HB.out.2.2).trans (hfz 0)
    have hheap := hg.heap HB.out.1 HB.out.2.2
    have HO := Lib.hid ho; have HG := Lib.hid hg; have HM := Lib.hid hm2; have HH := Lib.hid hheap; clear ho hf2 hm2 hg hheap
    go_wp2
    go_end0
    obtain rfl : N = (rs ++ [Value.slice A n c]).length := by have := HO.out.1; simpa using this.symm
    have hne : Value.ownBlock (.slice A' (rs ++ [Value.slice A n c]).length c') ≠ some b := HM.out.not (by simp; omega) HB.out.2.2
    refine ⟨rfl, _, ⟨?_, own_set HO.out _ _ (by simpa using hne), hne⟩, ?_, ?_⟩
    · rw [hp_same HH.out]; simp
    · exact (HG.out.mono (fun _ _ h => .inr h)).setCell _ _ (fun _ => .inl rfl)
    · exact (HM.out.first (by simp)).later (by simp [World.setCell])
end Go.Proofs.YtijcleiekafoiaaGreatDoor

/- The owner's check of a whole book: one kind of lists behind the other. -/
namespace Go.Proofs.YtijcleiekafoiaaGreatDoor
open Go.RowKit

set_option maxRecDepth 100000 in
set_option maxHeartbeats 4000000 in
theorem own_all (b : Nat) (w : World) (F : Nat → Value) (I : Nat → World → Prop) (h0 : I 0 w) (hc : ∀ i w', i < 23 → I i w' → w'.cell? ⟨b, i, none⟩ = some (F i))
    (k0 : ∀ w', I 0 w' → Calls Tryz.prog 35 #[F 0] w' fun e w'' => e = .returned (.bool true) ∧ I 1 w'')
    (k1 : ∀ w', I 1 w' → Calls Tryz.prog 36 #[F 1] w' fun e w'' => e = .returned (.bool true) ∧ I 2 w'')
    (k2 : ∀ w', I 2 w' → Calls Tryz.prog 37 #[F 2] w' fun e w'' => e = .returned (.bool true) ∧ I 3 w'')
    (k3 : ∀ w', I 3 w' → Calls Tryz.prog 38 #[F 3] w' fun e w'' => e = .returned (.bool true) ∧ I 4 w'')
    (k4 : ∀ w', I 4 w' → Calls Tryz.prog 39 #[F 4] w' fun e w'' => e = .returned (.bool true) ∧ I 5 w'')
    (k5 : ∀ w', I 5 w' → Calls Tryz.prog 40 #[F 5] w' fun e w'' => e = .returned (.bool true) ∧ I 6 w'')
    (k6 : ∀ w', I 6 w' → Calls Tryz.prog 41 #[F 6] w' fun e w'' => e = .returned (.bool true) ∧ I 7 w'')
    (k7 : ∀ w', I 7 w' → Calls Tryz.prog 42 #[F 7] w' fun e w'' => e = .returned (.bool true) ∧ I 8 w'')
    (k8 : ∀ w', I 8 w' → Calls Tryz.prog 43 #[F 8] w' fun e w'' => e = .returned (.bool true) ∧ I 9 w'')
    (k9 : ∀ w', I 9 w' → Calls Tryz.prog 44 #[F 9] w' fun e w'' => e = .returned (.bool true) ∧ I 10 w'')
    (k10 : ∀ w', I 10 w' → Calls Tryz.prog 45 #[F 10] w' fun e w'' => e = .returned (.bool true) ∧ I 11 w'')
    (k11 : ∀ w', I 11 w' → Calls Tryz.prog 46 #[F 11] w' fun e w'' => e = .returned (.bool true) ∧ I 12 w'')
    (k12 : ∀ w', I 12 w' → Calls Tryz.prog 47 #[F 12] w' fun e w'' => e = .returned (.bool true) ∧ I 13 w'')
    (k13 : ∀ w', I 13 w' → Calls Tryz.prog 48 #[F 13] w' fun e w'' => e = .returned (.bool true) ∧ I 14 w'')
    (k14 : ∀ w', I 14 w' → Calls Tryz.prog 49 #[F 14] w' fun e w'' => e = .returned (.bool true) ∧ I 15 w'')
    (k15 : ∀ w', I 15 w' → Calls Tryz.prog 50 #[F 15] w' fun e w'' => e = .returned (.bool true) ∧ I 16 w'')
    (k16 : ∀ w', I 16 w' → Calls Tryz.prog 51 #[F 16] w' fun e w'' => e = .returned (.bool true) ∧ I 17 w'')
    (k17 : ∀ w', I 17 w' → Calls Tryz.prog 52 #[F 17] w' fun e w'' => e = .returned (.bool true) ∧ I 18 w'')
    (k18 : ∀ w', I 18 w' → Calls Tryz.prog 53 #[F 18] w' fun e w'' => e = .returned (.bool true) ∧ I 19 w'')
    (k19 : ∀ w', I 19 w' → Calls Tryz.prog 54 #[F 19] w' fun e w'' => e = .returned (.bool true) ∧ I 20 w'')
    (k20 : ∀ w', I 20 w' → Calls Tryz.prog 55 #[F 20] w' fun e w'' => e = .returned (.bool true) ∧ I 21 w'')
    (k21 : ∀ w', I 21 w' → Calls Tryz.prog 56 #[F 21] w' fun e w'' => e = .returned (.bool true) ∧ I 22 w'')
    (k22 : ∀ w', I 22 w' → Calls Tryz.prog 57 #[F 22] w' fun e w'' => e = .returned (.bool true) ∧ I 23 w'')
    : Calls Tryz.prog 15 #[.pointer (some ⟨b, 0, none⟩)] w fun e w' => e = .returned (.bool true) ∧ I 23 w' := by
  have HC := Lib.hid hc; clear hc
  have K0 := Lib.hid k0; clear k0
  have K1 := Lib.hid k1; clear k1
  have K2 := Lib.hid k2; clear k2
  have K3 := Lib.hid k3; clear k3
  have K4 := Lib.hid k4; clear k4
  have K5 := Lib.hid k5; clear k5
  have K6 := Lib.hid k6; clear k6
  have K7 := Lib.hid k7; clear k7
  have K8 := Lib.hid k8; clear k8
  have K9 := Lib.hid k9; clear k9
  have K10 := Lib.hid k10; clear k10
  have K11 := Lib.hid k11; clear k11
  have K12 := Lib.hid k12; clear k12
  have K13 := Lib.hid k13; clear k13
  have K14 := Lib.hid k14; clear k14
  have K15 := Lib.hid k15; clear k15
  have K16 := Lib.hid k16; clear k16
  have K17 := Lib.hid k17; clear k17
  have K18 := Lib.hid k18; clear k18
  have K19 := Lib.hid k19; clear k19
  have K20 := Lib.hid k20; clear k20
  have K21 := Lib.hid k21; clear k21
  have K22 := Lib.hid k22; clear k22
  have HI := Lib.hid h0; clear h0
  obtain ⟨F, rfl⟩ : ∃ G : Nat → Value, G = F := ⟨_, rfl⟩
  generalize hF0 : F 0 = v0 at K0
  generalize hF1 : F 1 = v1 at K1
  generalize hF2 : F 2 = v2 at K2
  generalize hF3 : F 3 = v3 at K3
  generalize hF4 : F 4 = v4 at K4
  generalize hF5 : F 5 = v5 at K5
  generalize hF6 : F 6 = v6 at K6
  generalize hF7 : F 7 = v7 at K7
  generalize hF8 : F 8 = v8 at K8
  generalize hF9 : F 9 = v9 at K9
  generalize hF10 : F 10 = v10 at K10
  generalize hF11 : F 11 = v11 at K11
  generalize hF12 : F 12 = v12 at K12
  generalize hF13 : F 13 = v13 at K13
  generalize hF14 : F 14 = v14 at K14
  generalize hF15 : F 15 = v15 at K15
  generalize hF16 : F 16 = v16 at K16
  generalize hF17 : F 17 = v17 at K17
  generalize hF18 : F 18 = v18 at K18
  generalize hF19 : F 19 = v19 at K19
  generalize hF20 : F 20 = v20 at K20
  generalize hF21 : F 21 = v21 at K21
  generalize hF22 : F 22 = v22 at K22
  have HF0 := Lib.hid hF0; clear hF0
  have HF1 := Lib.hid hF1; clear hF1
  have HF2 := Lib.hid hF2; clear hF2
  have HF3 := Lib.hid hF3; clear hF3
  have HF4 := Lib.hid hF4; clear hF4
  have HF5 := Lib.hid hF5; clear hF5
  have HF6 := Lib.hid hF6; clear hF6
  have HF7 := Lib.hid hF7; clear hF7
  have HF8 := Lib.hid hF8; clear hF8
  have HF9 := Lib.hid hF9; clear hF9
  have HF10 := Lib.hid hF10; clear hF10
  have HF11 := Lib.hid hF11; clear hF11
  have HF12 := Lib.hid hF12; clear hF12
  have HF13 := Lib.hid hF13; clear hF13
  have HF14 := Lib.hid hF14; clear hF14
  have HF15 := Lib.hid hF15; clear hF15
  have HF16 := Lib.hid hF16; clear hF16
  have HF17 := Lib.hid hF17; clear hF17
  have HF18 := Lib.hid hF18; clear hF18
  have HF19 := Lib.hid hF19; clear hF19
  have HF20 := Lib.hid hF20; clear hF20
  have HF21 := Lib.hid hF21; clear hF21
  have HF22 := Lib.hid hF22; clear hF22
  have c := HC.out 0 w (by omega) HI.out
  rw [HF0.out] at c
  go_enter Tryz.func15, Tryz.ntmps15
  go_wp2_with fail
  refine (K0.out _ HI.out).mono ?_
  clear c HI
  rintro e w1 ⟨rfl, hi⟩
  have HI := Lib.hid hi; clear hi
  have c := HC.out 1 w1 (by omega) HI.out
  rw [HF1.out] at c
  go_wp2_with fail
  refine (K1.out _ HI.out).mono ?_
  clear c HI
  rintro e w2 ⟨rfl, hi⟩
  have HI := Lib.hid hi; clear hi
  have c := HC.out 2 w2 (by omega) HI.out
  rw [HF2.out] at c
  go_wp2_with fail
  refine (K2.out _ HI.out).mono ?_
  clear c HI
  rintro e w3 ⟨rfl, hi⟩
  have HI := Lib.hid hi; clear hi
  have c := HC.out 3 w3 (by omega) HI.out
  rw [HF3.out] at c
  go_wp2_with fail
  refine (K3.out _ HI.out).mono ?_
  clear c HI
  rintro e w4 ⟨rfl, hi⟩
  have HI := Lib.hid hi; clear hi
  have c := HC.out 4 w4 (by omega) HI.out
  rw [HF4.out] at c
  go_wp2_with fail
  refine (K4.out _ HI.out).mono ?_
  clear c HI
  rintro e w5 ⟨rfl, hi⟩
  have HI := Lib.hid hi; clear hi
  have c := HC.out 5 w5 (by omega) HI.out
  rw [HF5.out] at c
  go_wp2_with fail
  refine (K5.out _ HI.out).mono ?_
  clear c HI
  rintro e w6 ⟨rfl, hi⟩
  have HI := Lib.hid hi; clear hi
  have c := HC.out 6 w6 (by omega) HI.out
  rw [HF6.out] at c
  go_wp2_with fail
  refine (K6.out _ HI.out).mono ?_
  clear c HI
  rintro e w7 ⟨rfl, hi⟩
  have HI := Lib.hid hi; clear hi
  have c := HC.out 7 w7 (by omega) HI.out
  rw [HF7.out] at c
  go_wp2_with fail
  refine (K7.out _ HI.out).mono ?_
  clear c HI
  rintro e w8 ⟨rfl, hi⟩
  have HI := Lib.hid hi; clear hi
  have c := HC.out 8 w8 (by omega) HI.out
  rw [HF8.out] at c
  go_wp2_with fail
  refine (K8.out _ HI.out).mono ?_
  clear c HI
  rintro e w9 ⟨rfl, hi⟩
  have HI := Lib.hid hi; clear hi
  have c := HC.out 9 w9 (by omega) HI.out
  rw [HF9.out] at c
  go_wp2_with fail
  refine (K9.out _ HI.out).mono ?_
  clear c HI
  rintro e w10 ⟨rfl, hi⟩
  have HI := Lib.hid hi; clear hi
  have c := HC.out 10 w10 (by omega) HI.out
  rw [HF10.out] at c
  go_wp2_with fail
  refine (K10.out _ HI.out).mono ?_
  clear c HI
  rintro e w11 ⟨rfl, hi⟩
  have HI := Lib.hid hi; clear hi
  have c := HC.out 11 w11 (by omega) HI.out
  rw [HF11.out] at c
  go_wp2_with fail
  refine (K11.out _ HI.out).mono ?_
  clear c HI
  rintro e w12 ⟨rfl, hi⟩
  have HI := Lib.hid hi; clear hi
  have c := HC.out 12 w12 (by omega) HI.out
  rw [HF12.out] at c
  go_wp2_with fail
  refine (K12.out _ HI.out).mono ?_
  clear c HI
  rintro e w13 ⟨rfl, hi⟩
  have HI := Lib.hid hi; clear hi
  have c := HC.out 13 w13 (by omega) HI.out
  rw [HF13.out] at c
  go_wp2_with fail
  refine (K13.out _ HI.out).mono ?_
  clear c HI
  rintro e w14 ⟨rfl, hi⟩
  have HI := Lib.hid hi; clear hi
  have c := HC.out 14 w14 (by omega) HI.out
  rw [HF14.out] at c
  go_wp2_with fail
  refine (K14.out _ HI.out).mono ?_
  clear c HI
  rintro e w15 ⟨rfl, hi⟩
  have HI := Lib.hid hi; clear hi
  have c := HC.out 15 w15 (by omega) HI.out
  rw [HF15.out] at c
  go_wp2_with fail
  refine (K15.out _ HI.out).mono ?_
  clear c HI
  rintro e w16 ⟨rfl, hi⟩
  have HI := Lib.hid hi; clear hi
  have c := HC.out 16 w16 (by omega) HI.out
  rw [HF16.out] at c
  go_wp2_with fail
  refine (K16.out _ HI.out).mono ?_
  clear c HI
  rintro e w17 ⟨rfl, hi⟩
  have HI := Lib.hid hi; clear hi
  have c := HC.out 17 w17 (by omega) HI.out
  rw [HF17.out] at c
  go_wp2_with fail
  refine (K17.out _ HI.out).mono ?_
  clear c HI
  rintro e w18 ⟨rfl, hi⟩
  have HI := Lib.hid hi; clear hi
  have c := HC.out 18 w18 (by omega) HI.out
  rw [HF18.out] at c
  go_wp2_with fail
  refine (K18.out _ HI.out).mono ?_
  clear c HI
  rintro e w19 ⟨rfl, hi⟩
  have HI := Lib.hid hi; clear hi
  have c := HC.out 19 w19 (by omega) HI.out
  rw [HF19.out] at c
  go_wp2_with fail
  refine (K19.out _ HI.out).mono ?_
  clear c HI
  rintro e w20 ⟨rfl, hi⟩
  have HI := Lib.hid hi; clear hi
  have c := HC.out 20 w20 (by omega) HI.out
  rw [HF20.out] at c
  go_wp2_with fail
  refine (K20.out _ HI.out).mono ?_
  clear c HI
  rintro e w21 ⟨rfl, hi⟩
  have HI := Lib.hid hi; clear hi
  have c := HC.out 21 w21 (by omega) HI.out
  rw [HF21.out] at c
  go_wp2_with fail
  refine (K21.out _ HI.out).mono ?_
  clear c HI
  rintro e w22 ⟨rfl, hi⟩
  have HI := Lib.hid hi; clear hi
  have c := HC.out 22 w22 (by omega) HI.out
  rw [HF22.out] at c
  go_wp2_with fail
  refine (K22.out _ HI.out).mono ?_
  clear c HI
  rintro e w23 ⟨rfl, hi⟩
  have HI := Lib.hid hi; clear hi
  go_wp2
  go_ret
  exact ⟨rfl, HI.out⟩
end Go.Proofs.YtijcleiekafoiaaGreatDoor
