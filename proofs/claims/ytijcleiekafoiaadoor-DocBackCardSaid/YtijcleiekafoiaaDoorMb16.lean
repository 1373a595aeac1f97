import Derived.Test.YtijcleiekafoiaaDoorMb15
import Derived.Test.YtijcleiekafoiaaDoorMb05
import Derived.Test.YtijcleiekafoiaaDoorMb11

/- weight: how much there is in values. -/
namespace Go.Proofs.YtijcleiekafoiaaDoor
open Go.RowKit
open Tr

/-- What weight says. -/
def WgtOut (x : Tr Mm) (n : Nat) (w : World) (e : Ending) (w' : World) : Prop := Fr no w w' ∧ ∃ W : Nat, e = .returned (.int .i64 W) ∧ n < W ∧ W ≤ 9000000000000 ∧ (W ≤ 100000 → W = n + wgt x)

set_option maxRecDepth 100000 in
set_option maxHeartbeats 8000000 in
theorem wgt_any (x : Tr Mm) : ∀ (w : World) (_ : Tr.Good w x) (n : Nat) (_ : n ≤ 3000000000000), Calls Tryd.prog 13 #[x.agg, .int .i64 n] w fun e w' => WgtOut x n w e w' := by
  induction x using Tr.ind with
  | h x ih =>
    intro w hx n hn
    obtain ⟨BA, bc, LA, lc, FA, fc, hf⟩ := hx.node.forms
    have nd := hx.node
    have hnt : x.t.length ≤ 140737488351232 := nd.t
    have hnb : x.bs.length ≤ 140737488351232 := nd.bs
    have hnl : x.l.length ≤ 140737488351232 := nd.l
    have hnf : x.f.length ≤ 140737488351232 := nd.f
    have hL := hx.inL; have hF := hx.inF
    have hnm := nd.n
    have hw := wgt_eq x
    rw [hf.agg]
    rw [hf.L] at hL; rw [hf.F] at hF
    have hi1 : IntKind.i64.wrap ((n : Int) + 1) = (n : Int) + 1 := IntWalk.i64_in _ ⟨by omega, by omega⟩
    have hi2 : IntKind.i64.wrap ((n : Int) + 1 + (x.t.length : Int) / 64) = (n : Int) + 1 + (x.t.length : Int) / 64 := IntWalk.i64_in _ ⟨by omega, by omega⟩
    have hi3 : IntKind.i64.wrap ((n : Int) + 1 + (x.t.length : Int) / 64 + (x.bs.length : Int) / 64) = (n : Int) + 1 + (x.t.length : Int) / 64 + (x.bs.length : Int) / 64 := IntWalk.i64_in _ ⟨by omega, by omega⟩
    obtain ⟨n1, hn1⟩ : ∃ n1 : Nat, n1 = n + 1 + x.t.length / 64 + x.bs.length / 64 := ⟨_, rfl⟩
    have hn2 : (n : Int) + 1 + (x.t.length : Int) / 64 + (x.bs.length : Int) / 64 = (n1 : Int) := by omega
    have HX := Lib.hid hx; have HL := Lib.hid hL; have HF := Lib.hid hF; have IH := Lib.hid ih; have HW := Lib.hid hw; have HN1 := Lib.hid hn1; have HNM := Lib.hid hnm
    clear hx hf hL hF ih nd hw hn1 hnm
    go_enter Tryd.func13, Tryd.ntmps13
    go_wp2
    have hb0 := heap_alloc_new w (.cells #[.int .u8 x.k.toNat, .bool x.b, .int .i64 x.i, .string ⟨x.t.toArray⟩, .slice BA x.bs.length bc, .slice LA x.l.length lc, .slice FA x.f.length fc] 27)
    have fz : Fr no w (w.alloc (.cells #[.int .u8 x.k.toNat, .bool x.b, .int .i64 x.i, .string ⟨x.t.toArray⟩, .slice BA x.bs.length bc, .slice LA x.l.length lc, .slice FA x.f.length fc] 27)) := (Fr.refl no w).alloc _
    generalize w.alloc (.cells #[.int .u8 x.k.toNat, .bool x.b, .int .i64 x.i, .string ⟨x.t.toArray⟩, .slice BA x.bs.length bc, .slice LA x.l.length lc, .slice FA x.f.length fc] 27) = w0 at hb0 fz ⊢
    have HB0 := Lib.hid hb0; have FZ := Lib.hid fz
    clear hb0 fz
    go_loopw [1, 5] (fun v iv wr => ∃ j W : Nat, j ≤ x.l.length ∧ iv = .int .i64 j ∧ v = .int .i64 W ∧ Fr no w0 wr ∧ n1 ≤ W ∧ W ≤ 9000000000000 ∧ (W ≤ 100000 → W = n1 + wgtL (x.l.take j))) (fun _ iv _ => x.l.length - (intOf iv).toNat)
    case atStart => exact ⟨0, n1, Nat.zero_le _, rfl, rfl, Fr.refl _ _, Nat.le_refl _, by have := HN1.out; omega, fun _ => rfl⟩
    case round =>
      obtain ⟨j, W, hj, rfl, rfl, hfr, hW1, hW2, hW3⟩ := hrel
      have hb1 := hfr.heap HB0.out (fun h => h)
      obtain ⟨q0, q1, q2, q3, q4, q5, q6, qz, ql⟩ := seven_cells hb1
      have hLr := HL.out.kept0 (FZ.out.trans hfr (fun _ _ h => h))
      have HFR := Lib.hid hfr; have HW1 := Lib.hid hW1; have HW3 := Lib.hid hW3; have HLR := Lib.hid hLr
      clear hfr hW1 hW3 hb1 hLr
      have hcase : (j < x.l.length ∧ W ≤ 100000) ∨ (j < x.l.length ∧ 100000 < W) ∨ j = x.l.length := by omega
      rcases hcase with ⟨hlt, hWl⟩ | ⟨hlt, hWl⟩ | rfl
      · obtain ⟨b, o, KB, kb, KL, kl, KF, kf, rfl, hfj, r0, r1, r2, r3, r4, r5, r6, rl⟩ := In.get HLR.out j hlt
        have hcall := IH.out x.l[j] (List.mem_append_left _ (List.getElem_mem _)) wr (HLR.out.good _ (List.getElem_mem _)) W (by omega)
        rw [hfj.agg] at hcall
        have HC := Lib.hid hcall
        clear hcall hfj
        go_wp2_with fail
        refine HC.out.mono ?_
        rintro e w5 ⟨fy, V, rfl, h1, h2, h3⟩
        have h3 : V ≤ 100000 → V = n1 + wgtL (x.l.take (j + 1)) := fun h => by
          have := HW3.out (by omega); have := h3 h; rw [wgtL_snoc hlt]; omega
        have H1 := Lib.hid h1; have H3 := Lib.hid h3; have FY := Lib.hid (HFR.out.trans fy (fun _ _ h => h))
        clear h1 h3 fy
        go_wp2
        go_roundw
        case rel => exact ⟨j + 1, V, by omega, by go_num, rfl, FY.out, by have := H1.out; have := HW1.out; omega, h2, H3.out⟩
        case measure => simp [intOf]; omega
      · have hT : W ≤ 100000 → W = n1 + wgtL x.l := fun h => by omega
        have HT := Lib.hid hT; have HWL := Lib.hid hW2
        clear hT
        obtain ⟨W0, rfl⟩ : ∃ W0, W0 = W := ⟨_, rfl⟩
        obtain ⟨w4, rfl⟩ : ∃ w4, w4 = wr := ⟨_, rfl⟩
        go_wp2
        go_loopw [1, 6] (fun v iv wr => ∃ j W : Nat, j ≤ x.f.length ∧ iv = .int .i64 j ∧ v = .int .i64 W ∧ Fr no w4 wr ∧ W0 ≤ W ∧ W ≤ 9000000000000 ∧ (W ≤ 100000 → W = W0 + wgtF (x.f.take j))) (fun _ iv _ => x.f.length - (intOf iv).toNat)
        case atStart => exact ⟨0, W0, Nat.zero_le _, rfl, rfl, Fr.refl _ _, Nat.le_refl _, HWL.out, fun _ => by simp [wgtF]⟩
        case round =>
          clear q0 q1 q2 q3 q4 q5 q6 qz ql
          obtain ⟨j, W, hj, rfl, rfl, hfr, hW1, hW2, hW3⟩ := hrel
          have hfr2 := HFR.out.trans hfr (fun _ _ h => h)
          have hb1 := hfr2.heap HB0.out (fun h => h)
          obtain ⟨q0, q1, q2, q3, q4, q5, q6, qz, ql⟩ := seven_cells hb1
          have hFr := HF.out.kept0 (FZ.out.trans hfr2 (fun _ _ h => h))
          have HFR2 := Lib.hid hfr; have HFR3 := Lib.hid hfr2; have HV1 := Lib.hid hW1; have HV3 := Lib.hid hW3; have HFF := Lib.hid hFr
          clear hfr hfr2 hW1 hW3 hb1 hFr
          have hcase : (j < x.f.length ∧ W ≤ 100000) ∨ (j < x.f.length ∧ 100000 < W) ∨ j = x.f.length := by omega
          rcases hcase with ⟨hlt, hWl⟩ | ⟨hlt, hWl⟩ | rfl
          · obtain ⟨b, o, KB, kb, KL, kl, KF, kf, rfl, hfj, n0, r0, r1, r2, r3, r4, r5, r6, rl⟩ := InF.get HFF.out j hlt
            have hnl := HNM.out x.f[j] (List.getElem_mem _)
            have hnl : x.f[j].1.length ≤ 140737488351232 := hnl
            have hi4 : IntKind.i64.wrap ((W : Int) + (x.f[j].1.length : Int) / 64) = ((W + x.f[j].1.length / 64 : Nat) : Int) := by
              rw [show ((W : Int) + (x.f[j].1.length : Int) / 64) = ((W + x.f[j].1.length / 64 : Nat) : Int) by omega]
              exact IntWalk.i64_in _ ⟨by omega, by omega⟩
            have hcall := fun W1 (f : Fr no wr W1) => IH.out x.f[j].2 (List.mem_append_right _ (List.mem_map_of_mem (List.getElem_mem _))) W1 ((HFF.out.good _ (List.getElem_mem _)).kept0 f) (W + x.f[j].1.length / 64) (by omega)
            rw [hfj.agg] at hcall
            have HC := Lib.hid hcall
            clear hcall hfj
            go_wp2_with fail
            refine wp_region_ord (List.range 18) (fun i => [Kd.p, Kd.l, Kd.p, Kd.p, Kd.p, Kd.l, Kd.p, Kd.p, Kd.l, Kd.p, Kd.p, Kd.p, Kd.l, Kd.p, Kd.p, Kd.p, Kd.g, Kd.e].getD i .e) (by kernel_rfl) (by kernel_rfl) ?_
            iterate 16
              (first | first | refine wpX_pu rfl rfl rfl (by first | exact pu_move rfl | exact pu_assign rfl | exact pu_nilCheck rfl rfl | exact pu_binInt rfl rfl rfl | exact pu_conv rfl rfl (by kernel_rfl) | exact pu_fld rfl (by kernel_rfl) | exact pu_ix rfl rfl rfl (by kernel_rfl) | exact pu_unOp rfl | exact pu_binStr rfl rfl rfl | exact pu_len rfl rfl | exact pu_lens rfl rfl | exact pu_pick rfl | exact pu_slice rfl rfl) (fun K hK => ?_) | refine wpX_rd rfl rfl rfl (rd_load rfl) (fun K hK => ?_) | refine wpX_gr rfl rfl rfl (by first | exact gr_buildSlice rfl | exact gr_box rfl | exact gr_alloc rfl) (fun K hK => ?_) | refine wpX_ex rfl rfl rfl (fun K hK => ?_))
              try go_wp2
            refine wpX_ca rfl rfl rfl (fun K hK => ?_)
            go_wp2_with fail
            refine (HC.out _ (by (repeat first | exact Fr.refl _ _ | exact Fr.drewN _ _ _ | apply Fr.drew | apply Fr.alloc | apply Fr.setAt | apply Fr.moreN))).mono ?_
            rintro e w5 ⟨fy, V, rfl, h1, h2, h3⟩
            have h3 : V ≤ 100000 → V = W0 + wgtF (x.f.take (j + 1)) := fun h => by
              have := HV3.out (by omega); have := h3 h; rw [wgtF_snoc hlt]; omega
            have h1 : W0 ≤ V := by have := HV1.out; omega
            have FY0 := Lib.hid fy
            have H1 := Lib.hid h1; have H3 := Lib.hid h3; have FY := Lib.hid (HFR2.out.trans ((by (repeat first | exact Fr.refl _ _ | exact Fr.drewN _ _ _ | apply Fr.drew | apply Fr.alloc | apply Fr.setAt | apply Fr.moreN) : Fr no wr _).trans fy (fun _ _ h => h)) (fun _ _ h => h))
            clear h1 h3 fy
            go_wp2
            obtain ⟨⟨xa, xb⟩, hext⟩ := FY0.out.ext
            refine ⟨⟨xa, xb, hext⟩, hK _ _ ?_⟩
            clear hK K hext xa xb
            first | refine wpX_pu rfl rfl rfl (by first | exact pu_move rfl | exact pu_assign rfl | exact pu_nilCheck rfl rfl | exact pu_binInt rfl rfl rfl | exact pu_conv rfl rfl (by kernel_rfl) | exact pu_fld rfl (by kernel_rfl) | exact pu_ix rfl rfl rfl (by kernel_rfl) | exact pu_unOp rfl | exact pu_binStr rfl rfl rfl | exact pu_len rfl rfl | exact pu_lens rfl rfl | exact pu_pick rfl | exact pu_slice rfl rfl) (fun K hK => ?_) | refine wpX_rd rfl rfl rfl (rd_load rfl) (fun K hK => ?_) | refine wpX_gr rfl rfl rfl (by first | exact gr_buildSlice rfl | exact gr_box rfl | exact gr_alloc rfl) (fun K hK => ?_) | refine wpX_ex rfl rfl rfl (fun K hK => ?_)
            try go_wp2
            refine wpX_done ?_
            go_wp2
            go_roundw
            case rel => exact ⟨j + 1, V, by omega, by go_num, rfl, FY.out, H1.out, h2, H3.out⟩
            case measure => simp [intOf]; omega
          · have hT : W ≤ 100000 → W = n + wgt x := fun h => by omega
            have HTT := Lib.hid hT; clear hT
            go_wp2
            go_ret
            exact ⟨FZ.out.trans HFR3.out (fun _ _ h => h), W, rfl, by have := HN1.out; have := HW1.out; have := HV1.out; omega, hW2, HTT.out⟩
          · have hT : W ≤ 100000 → W = n + wgt x := fun h => by
              have h1 := HV3.out h; rw [List.take_length] at h1
              have h2 := HT.out (by have := HV1.out; omega)
              have h3 := HN1.out; have h4 := HW.out
              omega
            have HTT := Lib.hid hT; clear hT
            go_wp2
            go_ret
            exact ⟨FZ.out.trans HFR3.out (fun _ _ h => h), W, rfl, by have := HN1.out; have := HW1.out; have := HV1.out; omega, hW2, HTT.out⟩
      · have hT : W ≤ 100000 → W = n1 + wgtL x.l := fun h => by have := HW3.out h; rwa [List.take_length] at this
        have HT := Lib.hid hT; have HWL := Lib.hid hW2
        clear hT
        obtain ⟨W0, rfl⟩ : ∃ W0, W0 = W := ⟨_, rfl⟩
        obtain ⟨w4, rfl⟩ : ∃ w4, w4 = wr := ⟨_, rfl⟩
        go_wp2
        go_loopw [1, 6] (fun v iv wr => ∃ j W : Nat, j ≤ x.f.length ∧ iv = .int .i64 j ∧ v = .int .i64 W ∧ Fr no w4 wr ∧ W0 ≤ W ∧ W ≤ 9000000000000 ∧ (W ≤ 100000 → W = W0 + wgtF (x.f.take j))) (fun _ iv _ => x.f.length - (intOf iv).toNat)
        case atStart => exact ⟨0, W0, Nat.zero_le _, rfl, rfl, Fr.refl _ _, Nat.le_refl _, HWL.out, fun _ => by simp [wgtF]⟩
        case round =>
          clear q0 q1 q2 q3 q4 q5 q6 qz ql
          obtain ⟨j, W, hj, rfl, rfl, hfr, hW1, hW2, hW3⟩ := hrel
          have hfr2 := HFR.out.trans hfr (fun _ _ h => h)
          have hb1 := hfr2.heap HB0.out (fun h => h)
          obtain ⟨q0, q1, q2, q3, q4, q5, q6, qz, ql⟩ := seven_cells hb1
          have hFr := HF.out.kept0 (FZ.out.trans hfr2 (fun _ _ h => h))
          have HFR2 := Lib.hid hfr; have HFR3 := Lib.hid hfr2; have HV1 := Lib.hid hW1; have HV3 := Lib.hid hW3; have HFF := Lib.hid hFr
          clear hfr hfr2 hW1 hW3 hb1 hFr
          have hcase : (j < x.f.length ∧ W ≤ 100000) ∨ (j < x.f.length ∧ 100000 < W) ∨ j = x.f.length := by omega
          rcases hcase with ⟨hlt, hWl⟩ | ⟨hlt, hWl⟩ | rfl
          · obtain ⟨b, o, KB, kb, KL, kl, KF, kf, rfl, hfj, n0, r0, r1, r2, r3, r4, r5, r6, rl⟩ := InF.get HFF.out j hlt
            have hnl := HNM.out x.f[j] (List.getElem_mem _)
            have hnl : x.f[j].1.length ≤ 140737488351232 := hnl
            have hi4 : IntKind.i64.wrap ((W : Int) + (x.f[j].1.length : Int) / 64) = ((W + x.f[j].1.length / 64 : Nat) : Int) := by
              rw [show ((W : Int) + (x.f[j].1.length : Int) / 64) = ((W + x.f[j].1.length / 64 : Nat) : Int) by omega]
              exact IntWalk.i64_in _ ⟨by omega, by omega⟩
            have hcall := fun W1 (f : Fr no wr W1) => IH.out x.f[j].2 (List.mem_append_right _ (List.mem_map_of_mem (List.getElem_mem _))) W1 ((HFF.out.good _ (List.getElem_mem _)).kept0 f) (W + x.f[j].1.length / 64) (by omega)
            rw [hfj.agg] at hcall
            have HC := Lib.hid hcall
            clear hcall hfj
            go_wp2_with fail
            refine wp_region_ord (List.range 18) (fun i => [Kd.p, Kd.l, Kd.p, Kd.p, Kd.p, Kd.l, Kd.p, Kd.p, Kd.l, Kd.p, Kd.p, Kd.p, Kd.l, Kd.p, Kd.p, Kd.p, Kd.g, Kd.e].getD i .e) (by kernel_rfl) (by kernel_rfl) ?_
            iterate 16
              (first | first | refine wpX_pu rfl rfl rfl (by first | exact pu_move rfl | exact pu_assign rfl | exact pu_nilCheck rfl rfl | exact pu_binInt rfl rfl rfl | exact pu_conv rfl rfl (by kernel_rfl) | exact pu_fld rfl (by kernel_rfl) | exact pu_ix rfl rfl rfl (by kernel_rfl) | exact pu_unOp rfl | exact pu_binStr rfl rfl rfl | exact pu_len rfl rfl | exact pu_lens rfl rfl | exact pu_pick rfl | exact pu_slice rfl rfl) (fun K hK => ?_) | refine wpX_rd rfl rfl rfl (rd_load rfl) (fun K hK => ?_) | refine wpX_gr rfl rfl rfl (by first | exact gr_buildSlice rfl | exact gr_box rfl | exact gr_alloc rfl) (fun K hK => ?_) | refine wpX_ex rfl rfl rfl (fun K hK => ?_))
              try go_wp2
            refine wpX_ca rfl rfl rfl (fun K hK => ?_)
            go_wp2_with fail
            refine (HC.out _ (by (repeat first | exact Fr.refl _ _ | exact Fr.drewN _ _ _ | apply Fr.drew | apply Fr.alloc | apply Fr.setAt | apply Fr.moreN))).mono ?_
            rintro e w5 ⟨fy, V, rfl, h1, h2, h3⟩
            have h3 : V ≤ 100000 → V = W0 + wgtF (x.f.take (j + 1)) := fun h => by
              have := HV3.out (by omega); have := h3 h; rw [wgtF_snoc hlt]; omega
            have h1 : W0 ≤ V := by have := HV1.out; omega
            have FY0 := Lib.hid fy
            have H1 := Lib.hid h1; have H3 := Lib.hid h3; have FY := Lib.hid (HFR2.out.trans ((by (repeat first | exact Fr.refl _ _ | exact Fr.drewN _ _ _ | apply Fr.drew | apply Fr.alloc | apply Fr.setAt | apply Fr.moreN) : Fr no wr _).trans fy (fun _ _ h => h)) (fun _ _ h => h))
            clear h1 h3 fy
            go_wp2
            obtain ⟨⟨xa, xb⟩, hext⟩ := FY0.out.ext
            refine ⟨⟨xa, xb, hext⟩, hK _ _ ?_⟩
            clear hK K hext xa xb
            first | refine wpX_pu rfl rfl rfl (by first | exact pu_move rfl | exact pu_assign rfl | exact pu_nilCheck rfl rfl | exact pu_binInt rfl rfl rfl | exact pu_conv rfl rfl (by kernel_rfl) | exact pu_fld rfl (by kernel_rfl) | exact pu_ix rfl rfl rfl (by kernel_rfl) | exact pu_unOp rfl | exact pu_binStr rfl rfl rfl | exact pu_len rfl rfl | exact pu_lens rfl rfl | exact pu_pick rfl | exact pu_slice rfl rfl) (fun K hK => ?_) | refine wpX_rd rfl rfl rfl (rd_load rfl) (fun K hK => ?_) | refine wpX_gr rfl rfl rfl (by first | exact gr_buildSlice rfl | exact gr_box rfl | exact gr_alloc rfl) (fun K hK => ?_) | refine wpX_ex rfl rfl rfl (fun K hK => ?_)
            try go_wp2
            refine wpX_done ?_
            go_wp2
            go_roundw
            case rel => exact ⟨j + 1, V, by omega, by go_num, rfl, FY.out, H1.out, h2, H3.out⟩
            case measure => simp [intOf]; omega
          · have hT : W ≤ 100000 → W = n + wgt x := fun h => by omega
            have HTT := Lib.hid hT; clear hT
            go_wp2
            go_ret
            exact ⟨FZ.out.trans HFR3.out (fun _ _ h => h), W, rfl, by have := HN1.out; have := HW1.out; have := HV1.out; omega, hW2, HTT.out⟩
          · have hT : W ≤ 100000 → W = n + wgt x := fun h => by
              have h1 := HV3.out h; rw [List.take_length] at h1
              have h2 := HT.out (by have := HV1.out; omega)
              have h3 := HN1.out; have h4 := HW.out
              omega
            have HTT := Lib.hid hT; clear hT
            go_wp2
            go_ret
            exact ⟨FZ.out.trans HFR3.out (fun _ _ h => h), W, rfl, by have := HN1.out; have := HW1.out; have := HV1.out; omega, hW2, HTT.out⟩
end Go.Proofs.YtijcleiekafoiaaDoor

/- What the laws of law05 need of values: bare ones are written alike. -/
namespace Go.Proofs.YtijcleiekafoiaaDoor
open Go.RowKit
open Tr

namespace Tr
variable {α : Type}
theorem bare_denc (x : Tr α) : denc (bare x) = denc x := by
  induction x using Tr.ind with
  | h x ih =>
    rw [denc_eq, denc_eq, bare_k, bare_b, bare_i, bare_t, bare_bs, bare_l, bare_f]
    have h1 : (x.l.map bare).flatMap denc = x.l.flatMap denc := by
      rw [List.flatMap_map]
      exact flat_congr fun y hy => ih y (Tr.kids_l hy)
    have h2 : (x.f.map fun p => (p.1, bare p.2)).flatMap fenc = x.f.flatMap fenc := by
      rw [List.flatMap_map]
      exact flat_congr fun p hp => by unfold fenc; rw [ih p.2 (Tr.kids_f hp)]
    rw [h1, h2, List.length_map, List.length_map]
where
  flat_congr {β γ : Type} {f g : β → List γ} {l : List β} (h : ∀ y ∈ l, f y = g y) : l.flatMap f = l.flatMap g := by
    induction l with
    | nil => rfl
    | cons y l ih => rw [List.flatMap_cons, List.flatMap_cons, h y (.head _), ih fun z hz => h z (.tail _ hz)]
theorem bare_docErr (x : Tr α) : docErr (bare x) = docErr x := by unfold docErr; rw [bare_check, bare_denc]
theorem bare_docBytes (x : Tr α) : docBytes (bare x) = docBytes x := by unfold docBytes; rw [bare_docErr, bare_denc]
theorem bare_docSize (x : Tr α) : docSize (bare x) = docSize x := by unfold docSize; rw [bare_check, bare_denc]
theorem docErr_of {β : Type} {x : Tr α} {y : Tr β} (h : bare y = bare x) : docErr y = docErr x := by rw [← bare_docErr y, h, bare_docErr]
theorem docBytes_of {β : Type} {x : Tr α} {y : Tr β} (h : bare y = bare x) : docBytes y = docBytes x := by rw [← bare_docBytes y, h, bare_docBytes]
theorem docSize_of {β : Type} {x : Tr α} {y : Tr β} (h : bare y = bare x) : docSize y = docSize x := by rw [← bare_docSize y, h, bare_docSize]
theorem denc_of {β : Type} {x : Tr α} {y : Tr β} (h : bare y = bare x) : denc y = denc x := by rw [← bare_denc y, h, bare_denc]
theorem docBytes_len (x : Tr α) : (docBytes x).length ≤ 8192 := by
  unfold docBytes
  split
  · rename_i h
    unfold docErr at h
    by_cases hc : check x ≠ 0
    · rw [if_pos hc] at h; exact absurd h hc
    · rw [if_neg hc] at h
      by_cases hn : 8192 < (denc x).length
      · rw [if_pos hn] at h; cases h
      · omega
  · simp
theorem docSize_len (x : Tr α) : docSize x ≤ (denc x).length := by unfold docSize; split <;> omega
end Tr
theorem parts_wgt5 (x : Tr Mm) : parts x ≤ wgt x := by
  induction x using Tr.ind with
  | h x ih =>
    rw [parts_sumk, wgt_eq, kids, List.map_append, List.sum_append, List.map_map]
    have h1 : ∀ l : List (Tr Mm), (∀ y ∈ l, parts y ≤ wgt y) → (l.map parts).sum ≤ wgtL l := fun l h => by
      unfold wgtL
      induction l with
      | nil => simp
      | cons y l ih =>
        have := h y (.head _); have := ih fun z hz => h z (.tail _ hz)
        simp only [List.map_cons, List.sum_cons]; omega
    have h2 : ∀ l : List (List UInt8 × Tr Mm), (∀ p ∈ l, parts p.2 ≤ wgt p.2) → (l.map (parts ∘ Prod.snd)).sum ≤ wgtF l := fun l h => by
      unfold wgtF
      induction l with
      | nil => simp
      | cons y l ih =>
        have := h y (.head _); have := ih fun z hz => h z (.tail _ hz)
        simp only [List.map_cons, List.sum_cons, Function.comp]; omega
    have := h1 x.l fun y hy => ih y (Tr.kids_l hy)
    have := h2 x.f fun p hp => ih p.2 (Tr.kids_f hp)
    omega
theorem err_i64 (n : Nat) (h : n ≤ 100) : IntKind.i64.wrap (n : Int) = (n : Int) := IntWalk.i64_in _ ⟨by omega, by omega⟩
theorem ieq_self (n : Nat) : ((n : Int) == (n : Int)) = true := by rw [beq_iff_eq]
theorem ine_self (n : Nat) : ((n : Int) != (n : Int)) = false := by rw [bne_eq_false_iff_eq]

/-- What much says. -/
def MuchV (x : Tr Mm) (w : World) (e : Ending) (w' : World) : Prop := Fr no w w' ∧ ∃ b : Bool, e = .returned (.bool b) ∧ (b = false → wgt x ≤ 100000)
set_option maxRecDepth 100000 in
theorem muchv_any (w : World) (x : Tr Mm) (hx : Tr.Good w x) : Calls Tryd.prog 5 #[x.agg] w fun e w' => MuchV x w e w' := by
  obtain ⟨BA, bc, LA, lc, FA, fc, hf⟩ := hx.node.forms
  have hag := hf.agg
  have hcall := fun W (f : Fr no w W) => wgt_any x W (hx.kept0 f) 0 (by omega)
  rw [hag] at hcall ⊢
  have HC := Lib.hid hcall
  clear hf hag hx hcall
  go_enter Tryd.func5, Tryd.ntmps5
  go_wp2_with fail
  refine (HC.out _ ((Fr.refl no w).alloc _)).mono ?_
  rintro e w1 ⟨f1, W, rfl, h1, h2, h3⟩
  have F1 := Lib.hid (((Fr.refl no w).alloc _).trans f1 (fun _ _ h => h)); have H3 := Lib.hid h3
  clear f1 h3
  go_wp2
  go_ret
  refine ⟨F1.out, _, rfl, fun hb => ?_⟩
  have := H3.out (by have := of_decide_eq_false hb; omega)
  have := of_decide_eq_false hb
  omega
end Go.Proofs.YtijcleiekafoiaaDoor

/- known of law05: the plain part. -/
namespace Go.Proofs.YtijcleiekafoiaaDoor
open Go.RowKit
open Tr

theorem vi_small (n : Nat) (h : n < 128) : vi n = [UInt8.ofNat n] := by rw [vi, dif_pos h]
def kI {α : Type} (m : α) : Tr α := .mk 3 false 1 [] [] m [] []
def kT {α : Type} (m : α) : Tr α := .mk 4 false 0 [120] [] m [] []
def kD {α : Type} (m m' : α) : Tr α := .mk 7 false 0 [] [] m' [] [([97], kI m), ([98], kT m)]
/-- Its bytes. -/
def kBs : List UInt8 := [8, 2, 1, 97, 4, 2, 1, 98, 5, 1, 120]
theorem kD_bytes {α : Type} (m m' : α) : denc (kD m m') = kBs := by
  rw [denc_eq]
  show 8 :: (vi 2 ++ List.flatMap fenc [([97], kI m), ([98], kT m)]) = _
  simp only [List.flatMap_cons, List.flatMap_nil, fenc, vt]
  rw [denc_eq (kI m), denc_eq (kT m)]
  show 8 :: (vi 2 ++ ((vi 1 ++ [97]) ++ (4 :: vi (zz 1)) ++ ((vi 1 ++ [98]) ++ (5 :: (vi 1 ++ [120])) ++ []))) = _
  rw [vi_small 2 (by decide), vi_small 1 (by decide), show zz 1 = 2 from rfl, vi_small 2 (by decide)]
  rfl
theorem kD_pre {α : Type} (m m' : α) : pre 1 (kD m m') = [(1, kD m m'), (2, kI m), (2, kT m)] := by
  rw [pre_eq, show (kD m m').kids = [kI m, kT m] from rfl]
  simp only [List.flatMap_cons, List.flatMap_nil]
  rw [pre_eq, pre_eq, show (kI m).kids = [] from rfl, show (kT m).kids = [] from rfl]
  rfl
theorem kD_check {α : Type} (m m' : α) : check (kD m m') = 0 := by
  refine check_zero.2 ⟨rfl, ?_, ?_⟩
  · unfold parts; rw [kD_pre]; show 3 ≤ 512; decide
  · intro p hp
    rw [kD_pre] at hp
    simp only [List.mem_cons, List.not_mem_nil, or_false] at hp
    have h1 : own (kD () ()) = 0 := by decide
    have h2 : own (kI ()) = 0 := by decide
    have h3 : own (kT ()) = 0 := by decide
    have e1 : bare (kD m m') = kD () () := by rw [bare_eq]; show Tr.mk _ _ _ _ _ _ [] [([97], bare (kI m)), ([98], bare (kT m))] = _; rw [bare_eq (kI m), bare_eq (kT m)]; rfl
    have e2 : bare (kI m) = kI () := by rw [bare_eq]; rfl
    have e3 : bare (kT m) = kT () := by rw [bare_eq]; rfl
    rcases hp with rfl | rfl | rfl
    · show own (kD m m') = 0; rw [← Tr.bare_own, e1]; exact h1
    · show own (kI m) = 0; rw [← Tr.bare_own, e2]; exact h2
    · show own (kT m) = 0; rw [← Tr.bare_own, e3]; exact h3
theorem kD_bare {α : Type} (m m' : α) : bare (kD m m') = kD () () := by rw [bare_eq]; show Tr.mk _ _ _ _ _ _ [] [([97], bare (kI m)), ([98], bare (kT m))] = _; rw [bare_eq (kI m), bare_eq (kT m)]; rfl
theorem kD_fit {α : Type} (m m' : α) : FitAll (kD m m') := by
  have z : I64 0 := ⟨by decide, by decide⟩
  have o : I64 1 := ⟨by decide, by decide⟩
  have l1 : (1 : Nat) < 18446744073709551616 := by decide
  have l2 : (2 : Nat) < 18446744073709551616 := by decide
  refine ⟨_, ⟨rfl, z, lt0, lt0, lt0, l2, fun p hp => ?_⟩, fun y hy => ?_⟩
  · simp only [kD, Tr.f, List.mem_cons, List.not_mem_nil, or_false] at hp
    rcases hp with rfl | rfl <;> exact l1
  · simp only [kD, Tr.kids, Tr.l, Tr.f, List.nil_append, List.map_cons, List.map_nil, List.mem_cons, List.not_mem_nil, or_false] at hy
    rcases hy with rfl | rfl
    · exact ⟨_, ⟨rfl, o, lt0, lt0, lt0, lt0, fun p hp => nomatch hp⟩, fun y hy => nomatch hy⟩
    · exact ⟨_, ⟨rfl, z, l1, lt0, lt0, lt0, fun p hp => nomatch hp⟩, fun y hy => nomatch hy⟩
theorem kD_err {α : Type} (m m' : α) : docErr (kD m m') = 0 := by
  unfold docErr
  rw [if_neg (by rw [kD_check]; simp), kD_bytes, if_neg (by decide)]
theorem kD_out {α : Type} (m m' : α) : docBytes (kD m m') = kBs := by
  unfold docBytes
  rw [kD_err, if_pos rfl, kD_bytes]
theorem kD_size {α : Type} (m m' : α) : docSize (kD m m') = 11 := by
  unfold docSize
  rw [if_pos (kD_check m m'), kD_bytes]
  rfl
theorem kD_dec : docDec kBs = some (kD () ()) := by
  have h := ddec_enc 9 (kD () ()) [] (kD_fit _ _) rfl
  rw [List.append_nil, kD_bytes, kD_bare] at h
  exact dec_yes (by decide) h (kD_check _ _)
theorem kN_dec : docDec [2, 2] = none := dec_rest (r := [2]) (by rw [ddc2]) (by simp)
theorem kD_val : docVal kBs = kD () () := by unfold docVal; rw [kD_dec]; rfl
theorem kD_code : docCode kBs = 0 := by unfold docCode; rw [kD_dec]
theorem kN_code : docCode [2, 2] = 50 := by unfold docCode; rw [kN_dec]
end Go.Proofs.YtijcleiekafoiaaDoor

/- known of law05. -/
namespace Go.Proofs.YtijcleiekafoiaaDoor
open Go.RowKit Go.Shelf
open Tr

/-- The sample, as it lies. -/
def kX (g : Nat) : Tr Mm := kD nil3 (.slice none 0 0, .slice none 0 0, .slice (some ⟨g, 0, none⟩) 2 2)
theorem kX_agg (g : Nat) : (kX g).agg = .agg #[.int .u8 7, .bool false, .int .i64 0, .string ⟨#[]⟩, .slice none 0 0, .slice none 0 0, .slice (some ⟨g, 0, none⟩) 2 2] := rfl
theorem kX_good {w : World} {g : Nat} (h : w.heap[g]? = some (.cells #[.string ⟨#[97]⟩, .int .u8 3, .bool false, .int .i64 1, .string ⟨#[]⟩, .slice none 0 0, .slice none 0 0, .slice none 0 0, .string ⟨#[98]⟩, .int .u8 4, .bool false, .int .i64 0, .string ⟨#[120]⟩, .slice none 0 0, .slice none 0 0, .slice none 0 0] 57 (0, 0))) : Tr.Good w (kX g) := by
  refine ⟨_, ⟨Sl.nil _ _, Sl.nil _ _, sl_cells h 8 2 rfl (by simp [maxLen]), (show I64 0 from ⟨by decide, by decide⟩), by simp [kX, kD, Tr.t], by simp [kX, kD, Tr.bs], by simp [kX, kD, Tr.l], ?_, fun p hp => ?_, by simp [kX, kD, Tr.l], ?_⟩, fun y hy => ?_⟩
  · show 2 ≤ reachBytes; decide
  · simp only [kX, kD, Tr.f, List.mem_cons, List.not_mem_nil, or_false] at hp
    have l1 : 1 ≤ reachBytes := by decide
    rcases hp with rfl | rfl <;> exact l1
  · show 2 * 120 ≤ reachBytes; decide
  · simp only [kX, kD, Tr.kids, Tr.l, Tr.f, List.nil_append, List.map_cons, List.map_nil, List.mem_cons, List.not_mem_nil, or_false] at hy
    rcases hy with rfl | rfl
    · exact good_leaf _ ⟨by decide, by decide⟩ (by simp)
    · exact good_leaf _ ⟨by decide, by decide⟩ (show 1 ≤ reachBytes by decide)

set_option maxRecDepth 100000 in
set_option maxHeartbeats 4000000 in
theorem known5_any (w : World) (hT : Tabs w) : Calls Tryd.prog 8 #[] w fun e w' => e = .returned (.bool true) ∧ Fr no w w' := by
  have HT := Lib.hid hT; clear hT
  obtain ⟨h0, h1⟩ := two_allocs w (.cells #[.string ⟨#[97]⟩, .int .u8 3, .bool false, .int .i64 1, .string ⟨#[]⟩, .slice none 0 0, .slice none 0 0, .slice none 0 0, .string ⟨#[98]⟩, .int .u8 4, .bool false, .int .i64 0, .string ⟨#[120]⟩, .slice none 0 0, .slice none 0 0, .slice none 0 0] 57) (.cells #[.int .u8 7, .bool false, .int .i64 0, .string ⟨#[]⟩, .slice none 0 0, .slice none 0 0, .slice (some ⟨w.heap.size, 0, none⟩) 2 2] 27)
  have fW := ((Fr.refl no w).alloc (.cells #[.string ⟨#[97]⟩, .int .u8 3, .bool false, .int .i64 1, .string ⟨#[]⟩, .slice none 0 0, .slice none 0 0, .slice none 0 0, .string ⟨#[98]⟩, .int .u8 4, .bool false, .int .i64 0, .string ⟨#[120]⟩, .slice none 0 0, .slice none 0 0, .slice none 0 0] 57)).alloc (.cells #[.int .u8 7, .bool false, .int .i64 0, .string ⟨#[]⟩, .slice none 0 0, .slice none 0 0, .slice (some ⟨w.heap.size, 0, none⟩) 2 2] 27)
  have H0 := Lib.hid h0; have H1 := Lib.hid h1; have FW := Lib.hid fW
  clear h0 h1 fW
  go_enter Tryd.func8, Tryd.ntmps8
  go_wp2_with fail
  generalize (w.alloc (.cells #[.string ⟨#[97]⟩, .int .u8 3, .bool false, .int .i64 1, .string ⟨#[]⟩, .slice none 0 0, .slice none 0 0, .slice none 0 0, .string ⟨#[98]⟩, .int .u8 4, .bool false, .int .i64 0, .string ⟨#[120]⟩, .slice none 0 0, .slice none 0 0, .slice none 0 0] 57)).alloc (.cells #[.int .u8 7, .bool false, .int .i64 0, .string ⟨#[]⟩, .slice none 0 0, .slice none 0 0, .slice (some ⟨w.heap.size, 0, none⟩) 2 2] 27) = W at H0 H1 FW ⊢
  have hg := kX_good H0.out
  have henc := docenc_any W (kX w.heap.size) hg (HT.out.kept0 FW.out) (by show (denc (kD _ _)).length ≤ _; rw [kD_bytes]; decide)
  rw [kX_agg, show docErr (kX w.heap.size) = 0 from kD_err _ _, show docBytes (kX w.heap.size) = kBs from kD_out _ _] at henc
  have HG := Lib.hid hg
  clear hg
  refine henc.mono ?_
  clear henc
  rintro e w2 ⟨f2, A, n, rfl, hn, ho, hk⟩
  obtain rfl : n = 11 := hn
  have F2 := Lib.hid f2; have HO := Lib.hid ho; have HK := Lib.hid hk
  clear f2 ho hk
  go_wp2_with fail
  refine (docdec_any w2 _ kBs HO.out.sl (by decide) (HT.out.kept0 (FW.out.trans F2.out (fun _ _ h => h)))).mono ?_
  rintro e w3 ⟨f3, y1, rfl, hb1, ho1, hg1, hk1, hp1⟩
  rw [kD_code]
  rw [kD_val] at hb1
  obtain ⟨B1, b1, L1, l1, F1, f1, hf1⟩ := hg1.node.forms
  have hag1 := hf1.agg
  rw [hag1]
  have F3 := Lib.hid (F2.out.trans f3 (fun _ _ h => h)); have F23 := Lib.hid f3; have HB1 := Lib.hid hb1; have HG1 := Lib.hid hg1; have HA1 := Lib.hid hag1
  clear f3 hb1 ho1 hg1 hk1 hp1 hf1 hag1
  obtain ⟨h2, h3⟩ := two_allocs w3 (.cells #[.int .u8 y1.k.toNat, .bool y1.b, .int .i64 y1.i, .string ⟨y1.t.toArray⟩, .slice B1 y1.bs.length b1, .slice L1 y1.l.length l1, .slice F1 y1.f.length f1] 27) (.cells #[.int .u8 2, .int .u8 2] 5)
  have f4 := ((Fr.refl no w3).alloc (.cells #[.int .u8 y1.k.toNat, .bool y1.b, .int .i64 y1.i, .string ⟨y1.t.toArray⟩, .slice B1 y1.bs.length b1, .slice L1 y1.l.length l1, .slice F1 y1.f.length f1] 27)).alloc (.cells #[.int .u8 2, .int .u8 2] 5)
  have H2 := Lib.hid h2; have H3 := Lib.hid h3; have F4 := Lib.hid f4
  clear h2 h3 f4
  go_wp2_with fail
  generalize (w3.alloc (.cells #[.int .u8 y1.k.toNat, .bool y1.b, .int .i64 y1.i, .string ⟨y1.t.toArray⟩, .slice B1 y1.bs.length b1, .slice L1 y1.l.length l1, .slice F1 y1.f.length f1] 27)).alloc (.cells #[.int .u8 2, .int .u8 2] 5) = w4 at H2 H3 F4 ⊢
  refine (docdec_any w4 _ [2, 2] (sl_cells H3.out 1 2 rfl (by simp [maxLen])) (by decide) (HT.out.kept0 (FW.out.trans (F3.out.trans F4.out (fun _ _ h => h)) (fun _ _ h => h)))).mono ?_
  rintro e w5 ⟨f5, y2, rfl, hb2, ho2, hg2, hk2, hp2⟩
  rw [kN_code]
  obtain ⟨B2, b2, L2, l2, F2', f2', hf2⟩ := hg2.node.forms
  rw [hf2.agg]
  clear hb2 ho2 hg2 hk2 hp2 hf2
  have f6 := (Fr.refl no w5).alloc (.cells #[.int .u8 y2.k.toNat, .bool y2.b, .int .i64 y2.i, .string ⟨y2.t.toArray⟩, .slice B2 y2.bs.length b2, .slice L2 y2.l.length l2, .slice F2' y2.f.length f2'] 27)
  have H26 := Lib.hid (f6.heap (f5.heap H2.out (fun h => h)) (fun h => h)); have FW6 := Lib.hid ((F3.out.trans F4.out (fun _ _ h => h)).trans (f5.trans f6 (fun _ _ h => h)) (fun _ _ h => h)); have F36 := Lib.hid (F4.out.trans (f5.trans f6 (fun _ _ h => h)) (fun _ _ h => h))
  clear f5 f6 H2 H3
  have hr6 := FW6.out.heap H1.out (fun h => h)
  obtain ⟨q0, q1, q2, q3, q4, q5, q6, qz, ql⟩ := seven_cells hr6
  obtain ⟨v0, v1, v2, v3, v4, v5, v6, vz, vl⟩ := seven_cells H26.out
  have hsv := fun W' (f : Fr no (w5.alloc (.cells #[.int .u8 y2.k.toNat, .bool y2.b, .int .i64 y2.i, .string ⟨y2.t.toArray⟩, .slice B2 y2.bs.length b2, .slice L2 y2.l.length l2, .slice F2' y2.f.length f2'] 27)) W') => samev_any (kX w.heap.size) y1 W' (HG.out.kept0 (FW6.out.trans f (fun _ _ h => h))) (HG1.out.kept0 (F36.out.trans f (fun _ _ h => h)))
  rw [kX_agg, HA1.out] at hsv
  have HSV := Lib.hid hsv
  clear hsv hr6
  rw [show ((50 : Nat) : Int) = 50 from rfl]
  have hbx : bare (kX w.heap.size) = bare y1 := by rw [HB1.out]; exact kD_bare _ _
  have HBX := Lib.hid hbx
  clear hbx
  go_wp2_with fail
  refine (HSV.out _ (Fr.refl _ _)).mono ?_
  rintro e w7 ⟨⟨v, rfl, hv⟩, f7⟩
  obtain rfl : v = true := hv.2 HBX.out
  have F7 := Lib.hid (FW6.out.trans f7 (fun _ _ h => h)); have F37 := Lib.hid (F36.out.trans f7 (fun _ _ h => h))
  clear hv f7 HSV q0 q1 q2 q3 q4 q5 q6 qz ql v0 v1 v2 v3 v4 v5 v6 vz vl
  have hr7 := F7.out.heap H1.out (fun h => h)
  obtain ⟨q0, q1, q2, q3, q4, q5, q6, qz, ql⟩ := seven_cells hr7
  have hb8 := heap_alloc_new w7 (.cells #[.int .u8 8, .int .u8 2, .int .u8 1, .int .u8 97, .int .u8 4, .int .u8 2, .int .u8 1, .int .u8 98, .int .u8 5, .int .u8 1, .int .u8 120] 5)
  have f8 := (Fr.refl no w7).alloc (.cells #[.int .u8 8, .int .u8 2, .int .u8 1, .int .u8 97, .int .u8 4, .int .u8 2, .int .u8 1, .int .u8 98, .int .u8 5, .int .u8 1, .int .u8 120] 5)
  have H8 := Lib.hid hb8; have F8 := Lib.hid f8
  clear hr7 hb8 f8
  go_wp2_with fail
  generalize w7.alloc (.cells #[.int .u8 8, .int .u8 2, .int .u8 1, .int .u8 97, .int .u8 4, .int .u8 2, .int .u8 1, .int .u8 98, .int .u8 5, .int .u8 1, .int .u8 120] 5) = w8 at H8 F8 ⊢
  refine (same_any w8 _ _ kBs kBs ((HO.out.kept0 (F23.out.trans (F37.out.trans F8.out (fun _ _ h => h)) (fun _ _ h => h))).sl) (sl_cells H8.out 1 11 rfl (by simp [maxLen])) (by decide) (by decide)).mono ?_
  rintro e w9 ⟨rfl, n9, hw9⟩
  rw [decide_eq_true (rfl : kBs = kBs)]
  have f9 : Fr no w8 w9 := by rw [hw9]; exact Fr.drewN _ _ _
  have F9 := Lib.hid (F7.out.trans (F8.out.trans f9 (fun _ _ h => h)) (fun _ _ h => h))
  clear hw9 f9 q0 q1 q2 q3 q4 q5 q6 qz ql
  obtain ⟨q0, q1, q2, q3, q4, q5, q6, qz, ql⟩ := seven_cells (F9.out.heap H1.out (fun h => h))
  have hsz := docsize_any w9 (kX w.heap.size) (HG.out.kept0 F9.out) (HT.out.kept0 (FW.out.trans F9.out (fun _ _ h => h))) (by show (denc (kD _ _)).length ≤ _; rw [kD_bytes]; decide)
  rw [kX_agg, show docSize (kX w.heap.size) = 11 from kD_size _ _] at hsz
  have HSZ := Lib.hid hsz
  clear hsz
  go_wp2_with fail
  refine HSZ.out.mono ?_
  rintro e w10 ⟨f10, rfl⟩
  have F10 := Lib.hid (FW.out.trans (F9.out.trans f10 (fun _ _ h => h)) (fun _ _ h => h))
  clear f10 HSZ
  rw [show ((11 : Nat) : Int) = 11 from rfl]
  go_wp2
  go_ret
  exact ⟨rfl, F10.out⟩
end Go.Proofs.YtijcleiekafoiaaDoor

/- DocBack: a value that is written is read as it was; bytes that are read are those of the value. Printed by mkldocb.py. -/
namespace Go.Proofs.YtijcleiekafoiaaDoor
open Go.RowKit Go.Shelf
open Tr

theorem docCode_le (b : List UInt8) : docCode b ≤ 50 := by unfold docCode; split <;> omega
namespace Tr
variable {α : Type}
theorem deep_more (n : Nat) : ∀ x : Tr α, deep n x = false → deep (n + 1) x = false := by
  induction n with
  | zero => intro x h; simp [deep] at h
  | succ n ih =>
    intro x h
    unfold deep at h ⊢
    rw [List.any_eq_false] at h ⊢
    intro y hy
    rw [ih y (by simpa using h y hy)]
    simp
theorem docErr_zero {x : Tr α} (h : docErr x = 0) : check x = 0 ∧ (denc x).length ≤ 8192 ∧ docBytes x = denc x := by
  have hb : docBytes x = denc x := by unfold docBytes; rw [if_pos h]
  unfold docErr at h
  by_cases hc : check x ≠ 0
  · rw [if_pos hc] at h; exact absurd h hc
  · rw [if_neg hc] at h
    by_cases hn : 8192 < (denc x).length
    · rw [if_pos hn] at h; cases h
    · exact ⟨by omega, by omega, hb⟩
/-- What was written is read. -/
theorem doc_back {w : World} {x : Tr Mm} (hx : Tr.Good w x) (h : docErr x = 0) : docDec (docBytes x) = some (bare x) := by
  obtain ⟨hc, hl, hb⟩ := docErr_zero h
  have hd := ddec_enc 9 x [] (fit_of x hx (check_zero.1 hc).2.2) (deep_more 8 x (check_zero.1 hc).1)
  rw [List.append_nil] at hd
  rw [hb]
  exact dec_yes (by omega) hd (by rw [bare_check]; exact hc)
/-- What was read is written so. -/
theorem doc_again {b : List UInt8} {x : Tr Unit} (h : docDec b = some x) : check x = 0 ∧ docErr x = 0 ∧ docBytes x = b := by
  obtain ⟨hl, hd, hc⟩ := docDec_some h
  have he := (ddec_some 9 _ _ _ hd).1
  rw [List.append_nil] at he
  have h0 : docErr x = 0 := by unfold docErr; rw [if_neg (by rw [hc]; simp), if_neg (by rw [← he]; omega)]
  exact ⟨hc, h0, by rw [(docErr_zero h0).2.2, ← he]⟩
end Tr
theorem docCode_zero {b : List UInt8} (h : docCode b = 0) : ∃ x, docDec b = some x := by
  unfold docCode at h
  split at h
  · rename_i x hx; exact ⟨x, hx⟩
  · cases h
theorem docCode_not {b : List UInt8} (h : docCode b ≠ 0) : docDec b = none := by
  unfold docCode at h
  split at h
  · exact absurd rfl h
  · assumption

set_option maxRecDepth 100000 in
set_option maxHeartbeats 16000000 in
theorem docback_any (w : World) (x : Tr Mm) (X : Value) (b : List UInt8) (hx : Tr.Good w x) (hB : Sl w 1 X b.length (bvs b)) (hbn : b.length ≤ reachBytes) (hT : Tabs w) :
    Calls Tryd.prog 3 #[x.agg, X] w fun e w' => e = .returned (.bool true) ∧ Fr no w w' := by
  obtain ⟨XA, xc, rfl, _, _⟩ := hB.form
  obtain ⟨BX, bX, LX, lX, FX, fX, hf⟩ := hx.node.forms
  have hbl : b.length ≤ 140737488351232 := hbn
  have hag := hf.agg
  have hm := fun W (f : Fr no w W) => muchv_any W x (hx.kept0 f)
  have hr0 := heap_alloc_new w (.cells #[.int .u8 x.k.toNat, .bool x.b, .int .i64 x.i, .string ⟨x.t.toArray⟩, .slice BX x.bs.length bX, .slice LX x.l.length lX, .slice FX x.f.length fX] 27)
  have hal := (Fr.refl no w).alloc (.cells #[.int .u8 x.k.toNat, .bool x.b, .int .i64 x.i, .string ⟨x.t.toArray⟩, .slice BX x.bs.length bX, .slice LX x.l.length lX, .slice FX x.f.length fX] 27)
  rw [hag] at hm ⊢
  have HX := Lib.hid hx; have HT := Lib.hid hT; have HM := Lib.hid hm; have HAG := Lib.hid hag; have HR0 := Lib.hid hr0; have HAL := Lib.hid hal; have HB := Lib.hid hB; have HBL := Lib.hid hbl
  clear hx hT hm hf hag hr0 hal hB hbl hbn
  go_enter Tryd.func3, Tryd.ntmps3
  go_wp2_with fail
  generalize w.alloc (.cells #[.int .u8 x.k.toNat, .bool x.b, .int .i64 x.i, .string ⟨x.t.toArray⟩, .slice BX x.bs.length bX, .slice LX x.l.length lX, .slice FX x.f.length fX] 27) = w0 at HR0 HAL ⊢
  refine (HM.out w0 HAL.out).mono ?_
  rintro e w1 ⟨f1, mb, rfl, hb⟩
  have F1 := Lib.hid (HAL.out.trans f1 (fun _ _ h => h)); have HR1 := Lib.hid (f1.heap HR0.out (fun h => h))
  clear f1 HR0 HM
  cases mb with
  | true =>
    go_wp2
    go_ret
    exact ⟨rfl, F1.out⟩
  | false =>
  have hwg := hb rfl
  have hdl := denc_len x HX.out
  have hnb : (denc x).length ≤ 900000000 := by omega
  have HNB := Lib.hid hnb
  clear hb hwg hdl hnb
  by_cases hb2 : 100000 < b.length
  · have hbi : (100000 : Int) < (b.length : Int) := by omega
    go_wp2
    go_ret
    exact ⟨rfl, F1.out⟩
  have hbi : ¬ (100000 : Int) < (b.length : Int) := by omega
  clear hb2
  obtain ⟨q0, q1, q2, q3, q4, q5, q6, qz, ql⟩ := seven_cells HR1.out
  have hgx := HX.out.kept0 F1.out
  have henc := docenc_any w1 x hgx (HT.out.kept0 F1.out) HNB.out
  rw [HAG.out] at henc
  obtain ⟨er, her⟩ : ∃ er, er = docErr x := ⟨_, rfl⟩
  obtain ⟨bs, hbs⟩ : ∃ bs, bs = docBytes x := ⟨_, rfl⟩
  obtain ⟨fr, hfr⟩ : ∃ fr, fr = docCode b := ⟨_, rfl⟩
  have hsl : bs.length ≤ 8192 := by rw [hbs]; exact docBytes_len x
  rw [← her, ← hbs] at henc
  have HENC := Lib.hid henc; have HER := Lib.hid her; have HBS := Lib.hid hbs; have HFR := Lib.hid hfr; have HSL := Lib.hid hsl; have HGX := Lib.hid hgx
  clear henc her hbs hfr hsl hgx
  go_wp2_with fail
  refine HENC.out.mono ?_
  rintro e w2 ⟨f2, A, n, rfl, hn, ho, hk⟩
  have F2 := Lib.hid f2; have HN := Lib.hid hn; have HO := Lib.hid ho
  clear f2 hn ho hk HENC q0 q1 q2 q3 q4 q5 q6 qz ql
  go_wp2_with fail
  refine (docdec_any w2 _ b (HB.out.kept0 (F1.out.trans F2.out (fun _ _ h => h))) HBL.out (HT.out.kept0 (F1.out.trans F2.out (fun _ _ h => h)))).mono ?_
  rintro e w3 ⟨f3, y, rfl, hby, hoy, hgy, hky, hpy⟩
  rw [← HFR.out]
  obtain ⟨BY, bY, LY, lY, FY, fY, hfy⟩ := hgy.node.forms
  have hay := hfy.agg
  rw [hay]
  have F23 := Lib.hid f3; have HBY := Lib.hid hby; have HGY := Lib.hid hgy; have HAY := Lib.hid hay
  clear f3 hby hoy hgy hky hpy hfy hay
  have hr := heap_alloc_new w3 (.cells #[.int .u8 y.k.toNat, .bool y.b, .int .i64 y.i, .string ⟨y.t.toArray⟩, .slice BY y.bs.length bY, .slice LY y.l.length lY, .slice FY y.f.length fY] 27)
  have hal := (Fr.refl no w3).alloc (.cells #[.int .u8 y.k.toNat, .bool y.b, .int .i64 y.i, .string ⟨y.t.toArray⟩, .slice BY y.bs.length bY, .slice LY y.l.length lY, .slice FY y.f.length fY] 27)
  have HRY := Lib.hid hr; have F34 := Lib.hid hal
  clear hr hal
  go_wp2_with fail
  generalize w3.alloc (.cells #[.int .u8 y.k.toNat, .bool y.b, .int .i64 y.i, .string ⟨y.t.toArray⟩, .slice BY y.bs.length bY, .slice LY y.l.length lY, .slice FY y.f.length fY] 27) = w4 at HRY F34 ⊢
  have F14 := Lib.hid (F2.out.trans (F23.out.trans F34.out (fun _ _ h => h)) (fun _ _ h => h))
  refine (known5_any w4 (HT.out.kept0 (F1.out.trans F14.out (fun _ _ h => h)))).mono ?_
  rintro e w5 ⟨rfl, f5⟩
  have F15 := Lib.hid (F14.out.trans f5 (fun _ _ h => h)); have F35 := Lib.hid (F34.out.trans f5 (fun _ _ h => h)); have F45 := Lib.hid f5; have F25 := Lib.hid (F23.out.trans (F34.out.trans f5 (fun _ _ h => h)) (fun _ _ h => h))
  clear f5 F14
  by_cases h0 : er = 0
  · have hdb := doc_back HX.out (HER.out.symm.trans h0)
    have hsz : docSize x = n := by
      have h1 := docErr_zero (HER.out.symm.trans h0)
      unfold docSize; rw [if_pos h1.1, ← h1.2.2, ← HBS.out, ← HN.out]
    rw [← HBS.out] at hdb
    have HDB := Lib.hid hdb; have HSZ := Lib.hid hsz
    have HE0 := Lib.hid h0
    rw [h0, show ((0 : Nat) : Int) = 0 from rfl]
    clear hdb hsz h0
    go_wp2_with fail
    refine (docdec_any w5 (.slice A n n) bs (by rw [← HN.out]; exact (HO.out.kept0 F25.out).sl) (by have := HSL.out; omega) (HT.out.kept0 (F1.out.trans F15.out (fun _ _ h => h)))).mono ?_
    rintro e w6 ⟨f6, z, rfl, hbz, hoz, hgz, hkz, hpz⟩
    have hcz : docCode bs = 0 := by unfold docCode; rw [HDB.out]
    have hvz : bare z = bare x := by rw [hbz]; unfold docVal; rw [HDB.out]; rfl
    rw [hcz]
    obtain ⟨BZ, bZ, LZ, lZ, FZ, fZ, hfz⟩ := hgz.node.forms
    have haz := hfz.agg
    rw [haz]
    have F56 := Lib.hid f6; have HVZ := Lib.hid hvz; have HGZ := Lib.hid hgz; have HAZ := Lib.hid haz
    clear f6 hbz hoz hgz hkz hpz hfz haz hcz hvz
    have hr := heap_alloc_new w6 (.cells #[.int .u8 z.k.toNat, .bool z.b, .int .i64 z.i, .string ⟨z.t.toArray⟩, .slice BZ z.bs.length bZ, .slice LZ z.l.length lZ, .slice FZ z.f.length fZ] 27)
    have hal := (Fr.refl no w6).alloc (.cells #[.int .u8 z.k.toNat, .bool z.b, .int .i64 z.i, .string ⟨z.t.toArray⟩, .slice BZ z.bs.length bZ, .slice LZ z.l.length lZ, .slice FZ z.f.length fZ] 27)
    have f17 := F15.out.trans (F56.out.trans hal (fun _ _ h => h)) (fun _ _ h => h)
    obtain ⟨p0, p1, p2, p3, p4, p5, p6, pz, pl⟩ := seven_cells (f17.heap HR1.out (fun h => h))
    obtain ⟨r0, r1, r2, r3, r4, r5, r6, rz, rl⟩ := seven_cells hr
    have hsv := fun W (f : Fr no (w6.alloc (.cells #[.int .u8 z.k.toNat, .bool z.b, .int .i64 z.i, .string ⟨z.t.toArray⟩, .slice BZ z.bs.length bZ, .slice LZ z.l.length lZ, .slice FZ z.f.length fZ] 27)) W) => samev_any x z W (HGX.out.kept0 (f17.trans f (fun _ _ h => h))) (HGZ.out.kept0 (hal.trans f (fun _ _ h => h)))
    have hsi := fun W (f : Fr no (w6.alloc (.cells #[.int .u8 z.k.toNat, .bool z.b, .int .i64 z.i, .string ⟨z.t.toArray⟩, .slice BZ z.bs.length bZ, .slice LZ z.l.length lZ, .slice FZ z.f.length fZ] 27)) W) => docsize_any W x (HGX.out.kept0 (f17.trans f (fun _ _ h => h))) (HT.out.kept0 (F1.out.trans (f17.trans f (fun _ _ h => h)) (fun _ _ h => h))) HNB.out
    rw [HAG.out, HAZ.out] at hsv
    rw [HAG.out, HSZ.out] at hsi
    have HSV := Lib.hid hsv; have HSI := Lib.hid hsi; have F17 := Lib.hid f17; have F57 := Lib.hid (F56.out.trans hal (fun _ _ h => h))
    clear hsv hsi hal f17 hr
    go_wp2_with fail
    refine (HSV.out _ (Fr.refl _ _)).mono ?_
    generalize w6.alloc (.cells #[.int .u8 z.k.toNat, .bool z.b, .int .i64 z.i, .string ⟨z.t.toArray⟩, .slice BZ z.bs.length bZ, .slice LZ z.l.length lZ, .slice FZ z.f.length fZ] 27) = w7 at F17 F57 HSI ⊢
    rintro e w8 ⟨⟨v, rfl, hv⟩, f8⟩
    obtain rfl : v = true := hv.2 HVZ.out.symm
    have F78 := Lib.hid f8; have F18 := Lib.hid (F17.out.trans f8 (fun _ _ h => h)); have F58 := Lib.hid (F57.out.trans f8 (fun _ _ h => h))
    clear hv f8 HSV p0 p1 p2 p3 p4 p5 p6 pz pl r0 r1 r2 r3 r4 r5 r6 rz rl
    obtain ⟨p0, p1, p2, p3, p4, p5, p6, pz, pl⟩ := seven_cells (F18.out.heap HR1.out (fun h => h))
    have hin := ine_self n
    go_wp2_with fail
    refine (HSI.out w8 F78.out).mono ?_
    rintro e w9 ⟨f9, rfl⟩
    have F19 := Lib.hid (F18.out.trans f9 (fun _ _ h => h)); have F59 := Lib.hid (F58.out.trans f9 (fun _ _ h => h))
    clear f9 HSI p0 p1 p2 p3 p4 p5 p6 pz pl F78 F17 F57 F18 F58
    by_cases h1 : fr = 0
    · obtain ⟨v0, hv0⟩ := docCode_zero (HFR.out.symm.trans h1)
      have hag2 := doc_again hv0
      have hvy : bare y = v0 := by rw [HBY.out]; unfold docVal; rw [hv0]; rfl
      have hey : docErr y = 0 := by rw [← bare_docErr, hvy]; exact hag2.2.1
      have hby2 : docBytes y = b := by rw [← bare_docBytes, hvy]; exact hag2.2.2
      have hcy : check y = 0 := by rw [← bare_check, hvy]; exact hag2.1
      have hdy : (denc y).length ≤ 900000000 := by have h2 := docErr_zero hey; omega
      have hgt := HGY.out.kept0 (F35.out.trans F59.out (fun _ _ h => h))
      have henc := fun V (f : Fr no w9 V) => docenc_any V y (hgt.kept0 f) (HT.out.kept0 (F1.out.trans (F19.out.trans f (fun _ _ h => h)) (fun _ _ h => h))) hdy
      have hchk := fun V (f : Fr no w9 V) => check_any V y (hgt.kept0 f) (HT.out.kept0 (F1.out.trans (F19.out.trans f (fun _ _ h => h)) (fun _ _ h => h)))
      rw [HAY.out, hey, hby2] at henc
      rw [HAY.out, hcy] at hchk
      have HEN2 := Lib.hid henc; have HCH := Lib.hid hchk
      have hry := (F45.out.trans F59.out (fun _ _ h => h)).heap HRY.out (fun h => h)
      have HRT := Lib.hid hry
      rw [h1, show ((0 : Nat) : Int) = 0 from rfl]
      clear hv0 hag2 hvy hey hby2 hcy hdy hgt henc hchk hry h1
      obtain ⟨p0, p1, p2, p3, p4, p5, p6, pz, pl⟩ := seven_cells HRT.out
      go_wp2_with fail
      refine (HEN2.out _ (Fr.refl _ _)).mono ?_
      rintro e u1 ⟨g1, A2, n2, rfl, hn2, ho2, hk2⟩
      have G1 := Lib.hid g1; have HN2 := Lib.hid hn2; have HO2 := Lib.hid ho2
      clear g1 hn2 ho2 hk2 HEN2 p0 p1 p2 p3 p4 p5 p6 pz pl
      go_wp2_with fail
      refine (same_any u1 (.slice A2 n2 n2) _ b b (by rw [← HN2.out]; exact HO2.out.sl) (HB.out.kept0 (F1.out.trans (F19.out.trans G1.out (fun _ _ h => h)) (fun _ _ h => h))) HBL.out HBL.out).mono ?_
      rintro e u2 ⟨rfl, n3, hu2⟩
      first | rw [decide_eq_true (rfl : b = b)] | simp only [decide_true]
      have g2 : Fr no u1 u2 := by rw [hu2]; exact Fr.drewN _ _ _
      have G2 := Lib.hid (G1.out.trans g2 (fun _ _ h => h))
      clear hu2 g2
      obtain ⟨p0, p1, p2, p3, p4, p5, p6, pz, pl⟩ := seven_cells (G2.out.heap HRT.out (fun h => h))
      go_wp2_with fail
      refine (HCH.out u2 G2.out).mono ?_
      rintro e u3 ⟨rfl, g3⟩
      have G3 := Lib.hid (F1.out.trans (F19.out.trans (G2.out.trans g3 (fun _ _ h => h)) (fun _ _ h => h)) (fun _ _ h => h))
      clear g3 HCH
      rw [show ((0 : Nat) : Int) = 0 from rfl]
      go_wp2
      go_ret
      exact ⟨rfl, G3.out⟩
    · have hdn := docCode_not (fun h => h1 (HFR.out.trans h))
      have hvy : bare y = bare zeroM := by rw [HBY.out, zero_bare]; unfold docVal; rw [hdn]; rfl
      have hfn : ((fr : Int) == 0) = false := by rw [beq_eq_false_iff_ne]; omega
      have hry := (F45.out.trans F59.out (fun _ _ h => h)).heap HRY.out (fun h => h)
      have hsv := samev_any y zeroM w9 (HGY.out.kept0 (F35.out.trans F59.out (fun _ _ h => h))) (zero_good _)
      rw [HAY.out, show zeroM.agg = .agg #[.int .u8 0, .bool false, .int .i64 0, .string ⟨#[]⟩, .slice none 0 0, .slice none 0 0, .slice none 0 0] from rfl] at hsv
      have HSV2 := Lib.hid hsv; have HVY := Lib.hid hvy; have HDN := Lib.hid hdn
      clear hdn hvy hsv h1
      obtain ⟨p0, p1, p2, p3, p4, p5, p6, pz, pl⟩ := seven_cells hry
      clear hry
      go_wp2_with fail
      refine HSV2.out.mono ?_
      rintro e u1 ⟨⟨v, rfl, hv⟩, g1⟩
      obtain rfl : v = true := hv.2 HVY.out
      have G1 := Lib.hid g1
      clear hv g1 HSV2 p0 p1 p2 p3 p4 p5 p6 pz pl
      have hne : bs ≠ b := fun h => by have h2 := HDB.out; rw [h, HDN.out] at h2; cases h2
      have hdf : decide (bs = b) = false := decide_eq_false hne
      have HDF := Lib.hid hdf
      clear hne hdf
      go_wp2_with fail
      refine (same_any u1 (.slice A n n) _ bs b (by rw [← HN.out]; exact (HO.out.kept0 (F25.out.trans (F59.out.trans G1.out (fun _ _ h => h)) (fun _ _ h => h))).sl) (HB.out.kept0 (F1.out.trans (F19.out.trans G1.out (fun _ _ h => h)) (fun _ _ h => h))) (by have := HSL.out; omega) HBL.out).mono ?_
      rintro e u2 ⟨rfl, n3, hu2⟩
      rw [HDF.out]
      have g2 : Fr no u1 u2 := by rw [hu2]; exact Fr.drewN _ _ _
      have G2 := Lib.hid (F1.out.trans (F19.out.trans (G1.out.trans g2 (fun _ _ h => h)) (fun _ _ h => h)) (fun _ _ h => h))
      clear hu2 g2
      go_wp2
      go_ret
      exact ⟨rfl, G2.out⟩
  · have hen : ((er : Int) == 0) = false := by rw [beq_eq_false_iff_ne]; omega
    have hen2 : ((er : Int) != 0) = true := by rw [bne_iff_ne]; omega
    have F55 := Lib.hid (Fr.refl no w5)
    clear h0
    by_cases h1 : fr = 0
    · obtain ⟨v0, hv0⟩ := docCode_zero (HFR.out.symm.trans h1)
      have hag2 := doc_again hv0
      have hvy : bare y = v0 := by rw [HBY.out]; unfold docVal; rw [hv0]; rfl
      have hey : docErr y = 0 := by rw [← bare_docErr, hvy]; exact hag2.2.1
      have hby2 : docBytes y = b := by rw [← bare_docBytes, hvy]; exact hag2.2.2
      have hcy : check y = 0 := by rw [← bare_check, hvy]; exact hag2.1
      have hdy : (denc y).length ≤ 900000000 := by have h2 := docErr_zero hey; omega
      have hgt := HGY.out.kept0 (F35.out.trans F55.out (fun _ _ h => h))
      have henc := fun V (f : Fr no w5 V) => docenc_any V y (hgt.kept0 f) (HT.out.kept0 (F1.out.trans (F15.out.trans f (fun _ _ h => h)) (fun _ _ h => h))) hdy
      have hchk := fun V (f : Fr no w5 V) => check_any V y (hgt.kept0 f) (HT.out.kept0 (F1.out.trans (F15.out.trans f (fun _ _ h => h)) (fun _ _ h => h)))
      rw [HAY.out, hey, hby2] at henc
      rw [HAY.out, hcy] at hchk
      have HEN2 := Lib.hid henc; have HCH := Lib.hid hchk
      have hry := (F45.out.trans F55.out (fun _ _ h => h)).heap HRY.out (fun h => h)
      have HRT := Lib.hid hry
      rw [h1, show ((0 : Nat) : Int) = 0 from rfl]
      clear hv0 hag2 hvy hey hby2 hcy hdy hgt henc hchk hry h1
      obtain ⟨p0, p1, p2, p3, p4, p5, p6, pz, pl⟩ := seven_cells HRT.out
      go_wp2_with fail
      refine (HEN2.out _ (Fr.refl _ _)).mono ?_
      rintro e u1 ⟨g1, A2, n2, rfl, hn2, ho2, hk2⟩
      have G1 := Lib.hid g1; have HN2 := Lib.hid hn2; have HO2 := Lib.hid ho2
      clear g1 hn2 ho2 hk2 HEN2 p0 p1 p2 p3 p4 p5 p6 pz pl
      go_wp2_with fail
      refine (same_any u1 (.slice A2 n2 n2) _ b b (by rw [← HN2.out]; exact HO2.out.sl) (HB.out.kept0 (F1.out.trans (F15.out.trans G1.out (fun _ _ h => h)) (fun _ _ h => h))) HBL.out HBL.out).mono ?_
      rintro e u2 ⟨rfl, n3, hu2⟩
      first | rw [decide_eq_true (rfl : b = b)] | simp only [decide_true]
      have g2 : Fr no u1 u2 := by rw [hu2]; exact Fr.drewN _ _ _
      have G2 := Lib.hid (G1.out.trans g2 (fun _ _ h => h))
      clear hu2 g2
      obtain ⟨p0, p1, p2, p3, p4, p5, p6, pz, pl⟩ := seven_cells (G2.out.heap HRT.out (fun h => h))
      go_wp2_with fail
      refine (HCH.out u2 G2.out).mono ?_
      rintro e u3 ⟨rfl, g3⟩
      have G3 := Lib.hid (F1.out.trans (F15.out.trans (G2.out.trans g3 (fun _ _ h => h)) (fun _ _ h => h)) (fun _ _ h => h))
      clear g3 HCH
      rw [show ((0 : Nat) : Int) = 0 from rfl]
      go_wp2
      go_ret
      exact ⟨rfl, G3.out⟩
    · have hdn := docCode_not (fun h => h1 (HFR.out.trans h))
      have hvy : bare y = bare zeroM := by rw [HBY.out, zero_bare]; unfold docVal; rw [hdn]; rfl
      have hfn : ((fr : Int) == 0) = false := by rw [beq_eq_false_iff_ne]; omega
      have hry := (F45.out.trans F55.out (fun _ _ h => h)).heap HRY.out (fun h => h)
      have hsv := samev_any y zeroM w5 (HGY.out.kept0 (F35.out.trans F55.out (fun _ _ h => h))) (zero_good _)
      rw [HAY.out, show zeroM.agg = .agg #[.int .u8 0, .bool false, .int .i64 0, .string ⟨#[]⟩, .slice none 0 0, .slice none 0 0, .slice none 0 0] from rfl] at hsv
      have HSV2 := Lib.hid hsv; have HVY := Lib.hid hvy; have HDN := Lib.hid hdn
      clear hdn hvy hsv h1
      obtain ⟨p0, p1, p2, p3, p4, p5, p6, pz, pl⟩ := seven_cells hry
      clear hry
      go_wp2_with fail
      refine HSV2.out.mono ?_
      rintro e u1 ⟨⟨v, rfl, hv⟩, g1⟩
      obtain rfl : v = true := hv.2 HVY.out
      have G1 := Lib.hid g1
      clear hv g1 HSV2 p0 p1 p2 p3 p4 p5 p6 pz pl
      go_wp2
      go_ret
      exact ⟨rfl, F1.out.trans (F15.out.trans G1.out (fun _ _ h => h)) (fun _ _ h => h)⟩
end Go.Proofs.YtijcleiekafoiaaDoor
