import Derived.Test.YtgcicljklejmjaaDoorMr04
import Derived.Test.YtgcicljklejmjaaDoorMb08
import Derived.Test.YtgcicljklejmjaaDoorMr03
import Derived.Test.YtgcicljklejmjaaDoorMb02

/- codicilref03.own of a document whose shape is right; own3_any. -/
namespace Go.Proofs.YtgcicljklejmjaaDoor
open Go.RowKit Go.Shelf
open Tr

def cnt7 (x : Tr Mm) (R : Int) : Nat := if risesF none x.f = true then cnt3 R 0 else 30

set_option maxRecDepth 100000 in
set_option maxHeartbeats 8000000 in
theorem own3_g7e (w : World) {BA LA FA : Option Addr} {bc lc fc : Nat} (R : Int)
    (hru : ∀ W, Fr no w W → Calls Tryd.prog 106 #[.string ⟨#[]⟩] W fun e w' => e = .returned (.int .i64 R) ∧ w' = W) :
    Calls Tryd.prog 93 #[.agg #[.int .u8 7, .bool false, .int .i64 0, .string ⟨#[]⟩, .slice BA 0 bc, .slice LA 0 lc, .slice FA 0 fc]] w fun e w' => e = .returned (.int .i64 (cnt3 R 0)) ∧ Fr no w w' := by
  have HRU := Lib.hid hru
  clear hru
  have r1 : R < 0 → cnt3 R 0 = 34 := fun h => by unfold cnt3; rw [if_pos h]
  have r2 : ¬ R < 0 → 1000 < R ∨ 4000 < 0 → cnt3 R 0 = 33 := fun h h2 => by unfold cnt3; rw [if_neg h, if_pos h2]
  have r3 : ¬ R < 0 → ¬ (1000 < R ∨ 4000 < 0) → cnt3 R 0 = 0 := fun h h2 => by unfold cnt3; rw [if_neg h, if_neg h2]
  have R1 := Lib.hid r1; have R2 := Lib.hid r2; have R3 := Lib.hid r3
  clear r1 r2 r3
  go_enter Tryd.func93, Tryd.ntmps93
  go_wp2_with fail
  all_goals (
    go_loop [3] (fun iv => iv = .int .i64 0) (fun _ => 0)
    case atStart => rfl
    case round =>
      obtain rfl := hrel
      go_wp2_with fail
      refine (HRU.out _ (by (repeat first | exact Fr.refl _ _ | exact Fr.drewN _ _ _ | apply Fr.drew | apply Fr.alloc | apply Fr.setAt | apply Fr.moreN))).mono ?_
      rintro e w7 ⟨rfl, hw⟩
      subst w7
      go_wp2
      all_goals (go_ret; exact ⟨by first | (rw [R1.out (by omega)]; rfl) | (rw [R2.out (by omega) (by omega)]; rfl) | (rw [R3.out (by omega) (by omega)]; rfl), by (repeat first | exact Fr.refl _ _ | exact Fr.drewN _ _ _ | apply Fr.drew | apply Fr.alloc | apply Fr.setAt | apply Fr.moreN)⟩))

set_option maxRecDepth 100000 in
set_option maxHeartbeats 8000000 in
theorem own3_g7 (w : World) (x : Tr Mm) {BA LA FA : Option Addr} {bc lc fc : Nat} (hfo : Forms x BA bc LA lc FA fc) (hx : Tr.Good w x) (hne : 0 < x.f.length) (R : Int)
    (hru : ∀ W, Fr no w W → Calls Tryd.prog 106 #[.string ⟨#[]⟩] W fun e w' => e = .returned (.int .i64 R) ∧ w' = W) :
    Calls Tryd.prog 93 #[.agg #[.int .u8 7, .bool false, .int .i64 0, .string ⟨#[]⟩, .slice BA 0 bc, .slice LA 0 lc, .slice FA x.f.length fc]] w fun e w' => e = .returned (.int .i64 (cnt7 x R : Int)) ∧ Fr no w w' := by
  have HRU := Lib.hid hru; have HX := Lib.hid hx; have HFO := Lib.hid hfo
  have hnf : x.f.length ≤ 140737488351232 := hx.node.f
  have gz : decide ((0 : Int) < (x.f.length : Int)) = true := decide_eq_true (by omega)
  have HNE := Lib.hid hne
  clear hru hx hfo hne
  have r1 : R < 0 → cnt3 R 0 = 34 := fun h => by unfold cnt3; rw [if_pos h]
  have r2 : ¬ R < 0 → 1000 < R → cnt3 R 0 = 33 := fun h h2 => by unfold cnt3; rw [if_neg h, if_pos (.inl h2)]
  have r3 : ¬ R < 0 → ¬ 1000 < R → cnt3 R 0 = 0 := fun h h2 => by unfold cnt3; rw [if_neg h, if_neg (by omega)]
  have R1 := Lib.hid r1; have R2 := Lib.hid r2; have R3 := Lib.hid r3
  clear r1 r2 r3
  go_enter Tryd.func93, Tryd.ntmps93
  go_wp2_with fail
  all_goals first | (exfalso; have hne2 := HNE.out; omega; done) | skip
  all_goals (
    clear gz
    have hb0 := heap_alloc_new w (.cells #[.int .u8 7, .bool false, .int .i64 0, .string ⟨#[]⟩, .slice BA 0 bc, .slice LA 0 lc, .slice FA x.f.length fc] 33)
    have hF1 : Fr no w (w.alloc (.cells #[.int .u8 7, .bool false, .int .i64 0, .string ⟨#[]⟩, .slice BA 0 bc, .slice LA 0 lc, .slice FA x.f.length fc] 33)) := by (repeat first | exact Fr.refl _ _ | exact Fr.drewN _ _ _ | apply Fr.drew | apply Fr.alloc | apply Fr.setAt | apply Fr.moreN)
    generalize (w.alloc (.cells #[.int .u8 7, .bool false, .int .i64 0, .string ⟨#[]⟩, .slice BA 0 bc, .slice LA 0 lc, .slice FA x.f.length fc] 33)) = w1 at hb0 hF1 ⊢
    have F1 := Lib.hid hF1
    have HB0 := Lib.hid hb0
    clear hb0 hF1
    go_loopw [3] (fun iv wr => ∃ j : Nat, j ≤ x.f.length ∧ iv = .int .i64 j ∧ Fr no w1 wr ∧ (∀ k (h : k < x.f.length), k < j → nameV x.f[k].1 = true) ∧ ∀ k (h : k + 1 < x.f.length), k + 1 < j → cb x.f[k].1 x.f[k + 1].1 < 0) (fun iv _ => x.f.length - (intOf iv).toNat)
    case atStart => exact ⟨0, Nat.zero_le _, rfl, by (repeat first | exact Fr.refl _ _ | exact Fr.drewN _ _ _ | apply Fr.drew | apply Fr.alloc | apply Fr.setAt | apply Fr.moreN), fun k _ h => by omega, fun k _ h => by omega⟩
    case round =>
      obtain ⟨j, hj, rfl, hf, hna, hri⟩ := hrel
      have HF := Lib.hid hf; have HNA := Lib.hid hna; have HRI := Lib.hid hri; clear hf hna hri
      have hb0 := HF.out.heap HB0.out (fun h => h)
      have hbl := (Array.getElem?_eq_some_iff.1 hb0).1
      by_cases hlt : j < x.f.length
      · have hin := (HX.out.kept0 (F1.out.trans HF.out (fun _ _ h => h))).inF; rw [HFO.out.F] at hin
        have HIN := Lib.hid hin; clear hin
        have q6 := cell_of_row wr w.heap.size 6 _ _ (0, 0) hb0
        simp only [List.getElem?_toArray, List.getElem?_cons_succ, List.getElem?_cons_zero] at q6
        clear hb0
        cases hnv : nameV x.f[j].1 with
        | false =>
          obtain ⟨b, o, KB, kb, KL, kl, KF, kf, hA, -, r0, r1, r2, r3, r4, r5, r6, r7, hbl2⟩ := HIN.out.get j hlt
          subst hA
          have HNV := Lib.hid hnv; clear hnv
          go_wp2_with fail
          refine wp_region_ord (List.range 28) (fun i => [Kd.p, Kd.l, Kd.p, Kd.p, Kd.p, Kd.l, Kd.e, Kd.p, Kd.p, Kd.p, Kd.p, Kd.p, Kd.p, Kd.l, Kd.p, Kd.p, Kd.p, Kd.l, Kd.p, Kd.l, Kd.p, Kd.p, Kd.p, Kd.p, Kd.l, Kd.p, Kd.p, Kd.p].getD i .e) (by kernel_rfl) (by kernel_rfl) ?_
          iterate 6
            first | (refine wpX_un rfl rfl ?_; go_simp) | first | refine wpX_pu rfl rfl rfl (by first | exact pu_move rfl | exact pu_assign rfl | exact pu_nilCheck rfl rfl | exact pu_binInt rfl rfl rfl | exact pu_conv rfl rfl (by kernel_rfl) | exact pu_fld rfl (by kernel_rfl) | exact pu_ix rfl rfl rfl (by kernel_rfl) | exact pu_unOp rfl | exact pu_binStr rfl rfl rfl | exact pu_len rfl rfl | exact pu_lens rfl rfl | exact pu_pick rfl | exact pu_slice rfl rfl) (fun K hK => ?_) | refine wpX_rd rfl rfl rfl (rd_load rfl) (fun K hK => ?_) | refine wpX_gr rfl rfl rfl (by first | exact gr_buildSlice rfl | exact gr_box rfl | exact gr_alloc rfl) (fun K hK => ?_) | refine wpX_ex rfl rfl rfl (fun K hK => ?_)
            try go_wp2
          refine wpX_ex rfl rfl rfl (fun K hK => ?_)
          go_wp2_with fail
          refine (name3_any _ x.f[j].1 (HX.out.node.n _ (List.getElem_mem _))).mono ?_
          rintro e w3 ⟨rfl, hw⟩
          subst w3
          rw [HNV.out]
          go_wp2_with fail
          iterate 21
            first | (refine wpX_un rfl rfl ?_; go_simp) | first | refine wpX_pu rfl rfl rfl (by first | exact pu_move rfl | exact pu_assign rfl | exact pu_nilCheck rfl rfl | exact pu_binInt rfl rfl rfl | exact pu_conv rfl rfl (by kernel_rfl) | exact pu_fld rfl (by kernel_rfl) | exact pu_ix rfl rfl rfl (by kernel_rfl) | exact pu_unOp rfl | exact pu_binStr rfl rfl rfl | exact pu_len rfl rfl | exact pu_lens rfl rfl | exact pu_pick rfl | exact pu_slice rfl rfl) (fun K hK => ?_) | refine wpX_rd rfl rfl rfl (rd_load rfl) (fun K hK => ?_) | refine wpX_gr rfl rfl rfl (by first | exact gr_buildSlice rfl | exact gr_box rfl | exact gr_alloc rfl) (fun K hK => ?_) | refine wpX_ex rfl rfl rfl (fun K hK => ?_)
            try go_wp2
          refine wpX_done ?_
          go_wp2_with fail
          go_ret
          refine ⟨?_, F1.out.trans (HF.out.trans (by (repeat first | exact Fr.refl _ _ | exact Fr.drewN _ _ _ | apply Fr.drew | apply Fr.alloc | apply Fr.setAt | apply Fr.moreN)) (fun _ _ h => h)) (fun _ _ h => h)⟩
          have hz : cnt7 x R = 30 := if_neg (fun h => absurd (((rises_iff none x.f).1 h).1 j hlt) (by rw [HNV.out]; exact Bool.noConfusion))
          rw [hz]
          rfl
        | true =>
          have HNV := Lib.hid hnv; clear hnv
          rcases j with _ | m
          · obtain ⟨b, o, KB, kb, KL, kl, KF, kf, hA, -, r0, r1, r2, r3, r4, r5, r6, r7, hbl2⟩ := HIN.out.get 0 hlt
            subst hA
            simp only [Nat.zero_mul, Nat.add_zero] at r0 r1 r2 r3 r4 r5 r6 r7
            go_wp2_with fail
            refine wp_region_ord (List.range 28) (fun i => [Kd.p, Kd.l, Kd.p, Kd.p, Kd.p, Kd.l, Kd.e, Kd.p, Kd.p, Kd.p, Kd.p, Kd.p, Kd.p, Kd.l, Kd.p, Kd.p, Kd.p, Kd.l, Kd.p, Kd.l, Kd.p, Kd.p, Kd.p, Kd.p, Kd.l, Kd.p, Kd.p, Kd.p].getD i .e) (by kernel_rfl) (by kernel_rfl) ?_
            iterate 6
              first | (refine wpX_un rfl rfl ?_; go_simp) | first | refine wpX_pu rfl rfl rfl (by first | exact pu_move rfl | exact pu_assign rfl | exact pu_nilCheck rfl rfl | exact pu_binInt rfl rfl rfl | exact pu_conv rfl rfl (by kernel_rfl) | exact pu_fld rfl (by kernel_rfl) | exact pu_ix rfl rfl rfl (by kernel_rfl) | exact pu_unOp rfl | exact pu_binStr rfl rfl rfl | exact pu_len rfl rfl | exact pu_lens rfl rfl | exact pu_pick rfl | exact pu_slice rfl rfl) (fun K hK => ?_) | refine wpX_rd rfl rfl rfl (rd_load rfl) (fun K hK => ?_) | refine wpX_gr rfl rfl rfl (by first | exact gr_buildSlice rfl | exact gr_box rfl | exact gr_alloc rfl) (fun K hK => ?_) | refine wpX_ex rfl rfl rfl (fun K hK => ?_)
              try go_wp2
            refine wpX_ex rfl rfl rfl (fun K hK => ?_)
            go_wp2_with fail
            refine (name3_any _ x.f[0].1 (HX.out.node.n _ (List.getElem_mem _))).mono ?_
            rintro e w3 ⟨rfl, hw⟩
            subst w3
            rw [HNV.out]
            go_wp2_with fail
            iterate 21
              first | (refine wpX_un rfl rfl ?_; go_simp) | first | refine wpX_pu rfl rfl rfl (by first | exact pu_move rfl | exact pu_assign rfl | exact pu_nilCheck rfl rfl | exact pu_binInt rfl rfl rfl | exact pu_conv rfl rfl (by kernel_rfl) | exact pu_fld rfl (by kernel_rfl) | exact pu_ix rfl rfl rfl (by kernel_rfl) | exact pu_unOp rfl | exact pu_binStr rfl rfl rfl | exact pu_len rfl rfl | exact pu_lens rfl rfl | exact pu_pick rfl | exact pu_slice rfl rfl) (fun K hK => ?_) | refine wpX_rd rfl rfl rfl (rd_load rfl) (fun K hK => ?_) | refine wpX_gr rfl rfl rfl (by first | exact gr_buildSlice rfl | exact gr_box rfl | exact gr_alloc rfl) (fun K hK => ?_) | refine wpX_ex rfl rfl rfl (fun K hK => ?_)
              try go_wp2
            refine wpX_done ?_
            go_wp2
            go_roundw
            case rel => exact ⟨0 + 1, by omega, by first | rfl | go_num, HF.out.trans (by (repeat first | exact Fr.refl _ _ | exact Fr.drewN _ _ _ | apply Fr.drew | apply Fr.alloc | apply Fr.setAt | apply Fr.moreN)) (fun _ _ h => h), fun k hk hlt2 => by
                by_cases h : k < 0
                · exact HNA.out k hk h
                · obtain rfl : k = 0 := by omega
                  exact HNV.out, fun k hk h => by omega⟩
            case measure => simp [intOf]; omega
          · obtain ⟨b, o, KB, kb, KL, kl, KF, kf, hA, -, r0, r1, r2, r3, r4, r5, r6, r7, hbl2⟩ := HIN.out.get (m + 1) hlt
            subst hA
            obtain ⟨b', o', hA2, s0, hsl⟩ := InF.at HIN.out.sl m (by omega)
            simp only [Option.some.injEq, Addr.mk.injEq, and_true] at hA2
            obtain ⟨rfl, rfl⟩ := hA2
            have gg : decide ((0 : Int) < (m : Int) + 1) = true := decide_eq_true (by omega)
            have gg2 : decide (0 < m + 1) = true := by simp
            clear r1 r2 r3 r4 r5 r6 r7
            by_cases hc : cb x.f[m + 1].1 x.f[m].1 ≤ 0
            · have le8 : decide (cb x.f[m + 1].1 x.f[m].1 ≤ 0) = true := decide_eq_true hc
              have lb8 : (Op.bytesLess x.f[m + 1].1 x.f[m].1 || x.f[m + 1].1 == x.f[m].1) = true := by rw [leq_cb]; exact le8
              have HCC := Lib.hid hc; clear hc
              go_wp2_with fail
              refine wp_region_ord (List.range 28) (fun i => [Kd.p, Kd.l, Kd.p, Kd.p, Kd.p, Kd.l, Kd.e, Kd.p, Kd.p, Kd.p, Kd.p, Kd.p, Kd.p, Kd.l, Kd.p, Kd.p, Kd.p, Kd.l, Kd.p, Kd.l, Kd.p, Kd.p, Kd.p, Kd.p, Kd.l, Kd.p, Kd.p, Kd.p].getD i .e) (by kernel_rfl) (by kernel_rfl) ?_
              iterate 6
                first | (refine wpX_un rfl rfl ?_; go_simp) | first | refine wpX_pu rfl rfl rfl (by first | exact pu_move rfl | exact pu_assign rfl | exact pu_nilCheck rfl rfl | exact pu_binInt rfl rfl rfl | exact pu_conv rfl rfl (by kernel_rfl) | exact pu_fld rfl (by kernel_rfl) | exact pu_ix rfl rfl rfl (by kernel_rfl) | exact pu_unOp rfl | exact pu_binStr rfl rfl rfl | exact pu_len rfl rfl | exact pu_lens rfl rfl | exact pu_pick rfl | exact pu_slice rfl rfl) (fun K hK => ?_) | refine wpX_rd rfl rfl rfl (rd_load rfl) (fun K hK => ?_) | refine wpX_gr rfl rfl rfl (by first | exact gr_buildSlice rfl | exact gr_box rfl | exact gr_alloc rfl) (fun K hK => ?_) | refine wpX_ex rfl rfl rfl (fun K hK => ?_)
                try go_wp2
              refine wpX_ex rfl rfl rfl (fun K hK => ?_)
              go_wp2_with fail
              refine (name3_any _ x.f[m + 1].1 (HX.out.node.n _ (List.getElem_mem _))).mono ?_
              rintro e w3 ⟨rfl, hw⟩
              subst w3
              rw [HNV.out]
              go_wp2_with fail
              iterate 21
                first | (refine wpX_un rfl rfl ?_; go_simp) | first | refine wpX_pu rfl rfl rfl (by first | exact pu_move rfl | exact pu_assign rfl | exact pu_nilCheck rfl rfl | exact pu_binInt rfl rfl rfl | exact pu_conv rfl rfl (by kernel_rfl) | exact pu_fld rfl (by kernel_rfl) | exact pu_ix rfl rfl rfl (by kernel_rfl) | exact pu_unOp rfl | exact pu_binStr rfl rfl rfl | exact pu_len rfl rfl | exact pu_lens rfl rfl | exact pu_pick rfl | exact pu_slice rfl rfl) (fun K hK => ?_) | refine wpX_rd rfl rfl rfl (rd_load rfl) (fun K hK => ?_) | refine wpX_gr rfl rfl rfl (by first | exact gr_buildSlice rfl | exact gr_box rfl | exact gr_alloc rfl) (fun K hK => ?_) | refine wpX_ex rfl rfl rfl (fun K hK => ?_)
                try go_wp2
              refine wpX_done ?_
              go_wp2_with fail
              go_ret
              refine ⟨?_, F1.out.trans (HF.out.trans (by (repeat first | exact Fr.refl _ _ | exact Fr.drewN _ _ _ | apply Fr.drew | apply Fr.alloc | apply Fr.setAt | apply Fr.moreN)) (fun _ _ h => h)) (fun _ _ h => h)⟩
              have hz : cnt7 x R = 30 := if_neg (fun h => by
                have h2 := ((rises_iff none x.f).1 h).2.2 m hlt
                have h3 := HCC.out
                rw [cb_swap] at h2
                omega)
              rw [hz]
              rfl
            · have le8 : decide (cb x.f[m + 1].1 x.f[m].1 ≤ 0) = false := decide_eq_false hc
              have lb8 : (Op.bytesLess x.f[m + 1].1 x.f[m].1 || x.f[m + 1].1 == x.f[m].1) = false := by rw [leq_cb]; exact le8
              have HCC := Lib.hid hc; clear hc
              go_wp2_with fail
              refine wp_region_ord (List.range 28) (fun i => [Kd.p, Kd.l, Kd.p, Kd.p, Kd.p, Kd.l, Kd.e, Kd.p, Kd.p, Kd.p, Kd.p, Kd.p, Kd.p, Kd.l, Kd.p, Kd.p, Kd.p, Kd.l, Kd.p, Kd.l, Kd.p, Kd.p, Kd.p, Kd.p, Kd.l, Kd.p, Kd.p, Kd.p].getD i .e) (by kernel_rfl) (by kernel_rfl) ?_
              iterate 6
                first | (refine wpX_un rfl rfl ?_; go_simp) | first | refine wpX_pu rfl rfl rfl (by first | exact pu_move rfl | exact pu_assign rfl | exact pu_nilCheck rfl rfl | exact pu_binInt rfl rfl rfl | exact pu_conv rfl rfl (by kernel_rfl) | exact pu_fld rfl (by kernel_rfl) | exact pu_ix rfl rfl rfl (by kernel_rfl) | exact pu_unOp rfl | exact pu_binStr rfl rfl rfl | exact pu_len rfl rfl | exact pu_lens rfl rfl | exact pu_pick rfl | exact pu_slice rfl rfl) (fun K hK => ?_) | refine wpX_rd rfl rfl rfl (rd_load rfl) (fun K hK => ?_) | refine wpX_gr rfl rfl rfl (by first | exact gr_buildSlice rfl | exact gr_box rfl | exact gr_alloc rfl) (fun K hK => ?_) | refine wpX_ex rfl rfl rfl (fun K hK => ?_)
                try go_wp2
              refine wpX_ex rfl rfl rfl (fun K hK => ?_)
              go_wp2_with fail
              refine (name3_any _ x.f[m + 1].1 (HX.out.node.n _ (List.getElem_mem _))).mono ?_
              rintro e w3 ⟨rfl, hw⟩
              subst w3
              rw [HNV.out]
              go_wp2_with fail
              iterate 21
                first | (refine wpX_un rfl rfl ?_; go_simp) | first | refine wpX_pu rfl rfl rfl (by first | exact pu_move rfl | exact pu_assign rfl | exact pu_nilCheck rfl rfl | exact pu_binInt rfl rfl rfl | exact pu_conv rfl rfl (by kernel_rfl) | exact pu_fld rfl (by kernel_rfl) | exact pu_ix rfl rfl rfl (by kernel_rfl) | exact pu_unOp rfl | exact pu_binStr rfl rfl rfl | exact pu_len rfl rfl | exact pu_lens rfl rfl | exact pu_pick rfl | exact pu_slice rfl rfl) (fun K hK => ?_) | refine wpX_rd rfl rfl rfl (rd_load rfl) (fun K hK => ?_) | refine wpX_gr rfl rfl rfl (by first | exact gr_buildSlice rfl | exact gr_box rfl | exact gr_alloc rfl) (fun K hK => ?_) | refine wpX_ex rfl rfl rfl (fun K hK => ?_)
                try go_wp2
              refine wpX_done ?_
              go_wp2
              go_roundw
              case rel => exact ⟨(m + 1) + 1, by omega, by first | rfl | go_num, HF.out.trans (by (repeat first | exact Fr.refl _ _ | exact Fr.drewN _ _ _ | apply Fr.drew | apply Fr.alloc | apply Fr.setAt | apply Fr.moreN)) (fun _ _ h => h), fun k hk hlt2 => by
                  by_cases h : k < m + 1
                  · exact HNA.out k hk h
                  · obtain rfl : k = m + 1 := by omega
                    exact HNV.out, last_step (hm := hlt) HRI.out (by have h3 := HCC.out; omega)⟩
              case measure => simp [intOf]; omega
      · obtain rfl : j = x.f.length := by omega
        have hri2 : risesF none x.f = true := (rises_iff none x.f).2 ⟨fun k hk => HNA.out k hk hk, (fun q h => by cases h), fun k hk => HRI.out k hk hk⟩
        have q3 := cell_of_row wr w.heap.size 3 _ _ (0, 0) hb0
        have q4 := cell_of_row wr w.heap.size 4 _ _ (0, 0) hb0
        have q6 := cell_of_row wr w.heap.size 6 _ _ (0, 0) hb0
        simp only [List.getElem?_toArray, List.getElem?_cons_succ, List.getElem?_cons_zero] at q3 q4 q6
        have hz : cnt7 x R = cnt3 R 0 := if_pos hri2
        have HZ := Lib.hid hz
        have FX := Lib.hid (F1.out.trans HF.out (fun _ _ h => h))
        clear hri2 hz hlt hj hb0
        go_wp2_with fail
        refine (HRU.out _ FX.out).mono ?_
        rintro e w7 ⟨rfl, hw⟩
        subst w7
        go_wp2
        all_goals (go_ret; exact ⟨by first | (rw [HZ.out, R1.out (by omega)]; rfl) | (rw [HZ.out, R2.out (by omega) (by omega)]; rfl) | (rw [HZ.out, R3.out (by omega) (by omega)]; rfl), FX.out.trans (by (repeat first | exact Fr.refl _ _ | exact Fr.drewN _ _ _ | apply Fr.drew | apply Fr.alloc | apply Fr.setAt | apply Fr.moreN)) (fun _ _ h => h)⟩))

theorem own3_any : Own3 := by
  intro x w hx
  obtain ⟨BA, bc, LA, lc, FA, fc, hf⟩ := hx.node.forms
  have hru : ∀ T : List UInt8, x.t = T → ∀ W, Fr no w W → Calls Tryd.prog 106 #[.string ⟨T.toArray⟩] W fun e w' => e = .returned (.int .i64 (runesV T)) ∧ w' = W := fun T h W _ => by
    subst h
    exact runes3_any W x.t hx.node.t
  have hgood : shapeV x = true → own x = (if risesF none x.f = true then cnt3 (runesV x.t) x.bs.length else 30) := fun h => by
    unfold own cnt3 runesV
    rw [if_neg (by rw [h]; exact Bool.noConfusion)]
    cases risesF none x.f with
    | false => rfl
    | true =>
      cases hv : Lib.validD x.t with
      | false => rfl
      | true =>
        by_cases hP : 1000 < Lib.runeCountL x.t ∨ 4000 < x.bs.length
        · simp only [if_pos hP, Bool.true_eq_false, if_false, if_true]
          rw [if_neg (by omega), if_pos (by omega)]
        · simp only [if_neg hP, Bool.true_eq_false, if_false, if_true]
          rw [if_neg (by omega), if_neg (by omega)]
  have hbad : ¬ shapeV x = true → own x = 30 := fun h => by unfold own; rw [if_pos (by simpa using h)]
  have hnbs : x.bs.length ≤ 140737488351232 := hx.node.bs
  rw [hf.agg]
  by_cases hs : shapeV x = true
  rotate_left
  · rw [hbad hs]
    by_cases hk : x.k.toNat < 1 ∨ 7 < x.k.toNat
    · exact own3_bo w x.k.toNat x.b x.i x.t (by omega)
    have hlz : ∀ {α : Type} {l : List α}, l.length = 0 → l = [] := fun h => List.eq_nil_of_length_eq_zero h
    have e : x.k.toNat = 1 ∨ x.k.toNat = 2 ∨ x.k.toNat = 3 ∨ x.k.toNat = 4 ∨ x.k.toNat = 5 ∨ x.k.toNat = 6 ∨ x.k.toNat = 7 := by omega
    have hkk : ∀ n : UInt8, x.k.toNat = n.toNat → x.k = n := fun n h => UInt8.toNat_inj.1 h
    rcases e with e | e | e | e | e | e | e
    · have hk1 := hkk 1 e
      rw [e]
      exact own3_b1 w x.b x.i x.t (fun ⟨h1, h2, h3, h4, h5, h6⟩ => hs (by unfold shapeV; simp [hk1, h1, h2, h3, hlz h4, hlz h5, hlz h6]))
    · have hk1 := hkk 2 e
      rw [e]
      exact own3_b2 w x.b x.i x.t (fun ⟨h2, h3, h4, h5, h6⟩ => hs (by unfold shapeV; simp [hk1, h2, h3, hlz h4, hlz h5, hlz h6]))
    · have hk1 := hkk 3 e
      rw [e]
      exact own3_b3 w x.b x.i x.t (fun ⟨h1, h3, h4, h5, h6⟩ => hs (by unfold shapeV; simp [hk1, h1, h3, hlz h4, hlz h5, hlz h6]))
    · have hk1 := hkk 4 e
      rw [e]
      exact own3_b4 w x.b x.i x.t (fun ⟨h1, h2, h4, h5, h6⟩ => hs (by unfold shapeV; simp [hk1, h1, h2, hlz h4, hlz h5, hlz h6]))
    · have hk1 := hkk 5 e
      rw [e]
      exact own3_b5 w x.b x.i x.t (fun ⟨h1, h2, h3, h5, h6⟩ => hs (by unfold shapeV; simp [hk1, h1, h2, h3, hlz h5, hlz h6]))
    · have hk1 := hkk 6 e
      rw [e]
      exact own3_b6 w x.b x.i x.t (fun ⟨h1, h2, h3, h4, h6⟩ => hs (by unfold shapeV; simp [hk1, h1, h2, h3, hlz h4, hlz h6]))
    · have hk1 := hkk 7 e
      rw [e]
      exact own3_b7 w x.b x.i x.t (fun ⟨h1, h2, h3, h4, h5⟩ => hs (by unfold shapeV; simp [hk1, h1, h2, h3, hlz h4, hlz h5]))
  · obtain ⟨⟨hk1, hk2⟩, s2, s3, s4, s5, s6, s7⟩ := shape_parts hs
    have h1 := UInt8.le_iff_toNat_le.1 hk1
    have h2 := UInt8.le_iff_toNat_le.1 hk2
    have e : x.k.toNat = 1 ∨ x.k.toNat = 2 ∨ x.k.toNat = 3 ∨ x.k.toNat = 4 ∨ x.k.toNat = 5 ∨ x.k.toNat = 6 ∨ x.k.toNat = 7 := by
      simp at h1 h2; omega
    have hkk : ∀ n : UInt8, x.k.toNat = n.toNat → x.k = n := fun n h => UInt8.toNat_inj.1 h
    have hne : ∀ n m : UInt8, x.k = n → n ≠ m → x.k ≠ m := fun n m h h2 h3 => h2 (h.symm.trans h3)
    have hrn : risesF none ([] : List (List UInt8 × Tr Mm)) = true := rfl
    rw [hgood hs]
    clear hgood hbad hk1 hk2 h1 h2
    rcases e with e | e | e | e | e | e | e
    · have hk := hkk 1 e
      rw [e, s2 (hne 1 2 hk (by decide)), s3 (hne 1 3 hk (by decide)), s5 (hne 1 5 hk (by decide)), s6 (hne 1 6 hk (by decide)), s7 (hne 1 7 hk (by decide)), if_pos hrn, s4 (hne 1 4 hk (by decide))]
      exact own3_g1 w (runesV []) (hru [] (s4 (hne 1 4 hk (by decide))))
    · have hk := hkk 2 e
      rw [e, s3 (hne 2 3 hk (by decide)), s5 (hne 2 5 hk (by decide)), s6 (hne 2 6 hk (by decide)), s7 (hne 2 7 hk (by decide)), if_pos hrn, s4 (hne 2 4 hk (by decide))]
      exact own3_g2 w x.b (runesV []) (hru [] (s4 (hne 2 4 hk (by decide))))
    · have hk := hkk 3 e
      rw [e, s2 (hne 3 2 hk (by decide)), s5 (hne 3 5 hk (by decide)), s6 (hne 3 6 hk (by decide)), s7 (hne 3 7 hk (by decide)), if_pos hrn, s4 (hne 3 4 hk (by decide))]
      exact own3_g3 w x.i (runesV []) (hru [] (s4 (hne 3 4 hk (by decide))))
    · have hk := hkk 4 e
      rw [e, s2 (hne 4 2 hk (by decide)), s3 (hne 4 3 hk (by decide)), s5 (hne 4 5 hk (by decide)), s6 (hne 4 6 hk (by decide)), s7 (hne 4 7 hk (by decide)), if_pos hrn]
      exact own3_g4 w ⟨x.t.toArray⟩ (runesV x.t) (hru x.t rfl)
    · have hk := hkk 5 e
      rw [e, s2 (hne 5 2 hk (by decide)), s3 (hne 5 3 hk (by decide)), s6 (hne 5 6 hk (by decide)), s7 (hne 5 7 hk (by decide)), if_pos hrn, s4 (hne 5 4 hk (by decide))]
      exact own3_g5 w hnbs (runesV []) (hru [] (s4 (hne 5 4 hk (by decide))))
    · have hk := hkk 6 e
      rw [e, s2 (hne 6 2 hk (by decide)), s3 (hne 6 3 hk (by decide)), s5 (hne 6 5 hk (by decide)), s7 (hne 6 7 hk (by decide)), if_pos hrn, s4 (hne 6 4 hk (by decide))]
      exact own3_g6 w (runesV []) (hru [] (s4 (hne 6 4 hk (by decide))))
    · have hk := hkk 7 e
      by_cases hf0 : x.f = []
      · rw [e, s2 (hne 7 2 hk (by decide)), s3 (hne 7 3 hk (by decide)), s5 (hne 7 5 hk (by decide)), s6 (hne 7 6 hk (by decide)), hf0, if_pos hrn, s4 (hne 7 4 hk (by decide))]
        exact own3_g7e w (runesV []) (hru [] (s4 (hne 7 4 hk (by decide))))
      · rw [e, s2 (hne 7 2 hk (by decide)), s3 (hne 7 3 hk (by decide)), s5 (hne 7 5 hk (by decide)), s6 (hne 7 6 hk (by decide)), s4 (hne 7 4 hk (by decide))]
        exact own3_g7 w x hf hx (List.length_pos_iff.2 hf0) (runesV []) (hru [] (s4 (hne 7 4 hk (by decide))))
end Go.Proofs.YtgcicljklejmjaaDoor

/- The document's reading of keys: Split. Printed by mkrd4e.py. -/
namespace Go.Proofs.YtgcicljklejmjaaDoor
open Go.RowKit Go.Shelf
open Tr

theorem sum_leA {α : Type} (f g : α → Nat) : ∀ l : List α, (∀ x ∈ l, f x ≤ g x) → (l.map f).sum ≤ (l.map g).sum
  | [], _ => Nat.le_refl _
  | x :: l, h => by
    simp only [List.map_cons, List.sum_cons]
    have := h x (.head _)
    have := sum_leA f g l (fun x hx => h x (.tail _ hx))
    omega
theorem parts_enc (x : Tr Mm) : KeyedAll (bare x) → PlainAll (bare x) → parts x ≤ (enc (bare x)).length := by
  induction x using Tr.ind with
  | h x ih =>
    intro hk hp
    have hf : x.f = [] := by
      have := hp.here.f
      rw [bare_f] at this
      simpa using this
    have hkid : x.kids = x.l := by unfold kids; rw [hf]; simp
    rw [parts_kids, hkid]
    by_cases h : (bare x).k = 6
    · rw [enc_eq, if_neg (by rw [h]; decide), if_neg (by rw [h]; decide), if_neg (by rw [h]; decide), if_neg (by rw [h]; decide), if_neg (by rw [h]; decide), if_pos h]
      simp only [List.length_cons, List.length_append, List.length_flatMap]
      have h1 := sum_leA parts (fun y : Tr Mm => (enc (bare y)).length) x.l (fun y hy => ih y (by rw [hkid]; exact hy) (hk.l _ (by rw [bare_l]; exact List.mem_map_of_mem hy)) (hp.l _ (by rw [bare_l]; exact List.mem_map_of_mem hy)))
      have h2 : ((bare x).l.map (fun y => (enc y).length)) = x.l.map (fun y : Tr Mm => (enc (bare y)).length) := by rw [bare_l, List.map_map]; rfl
      rw [h2]
      omega
    · have hl : x.l = [] := by
        have := hp.here.l h
        rw [bare_l] at this
        simpa using this
      obtain ⟨q, hq⟩ := enc_head hk.here
      rw [hl, hq]
      simp only [List.map_nil, List.sum_nil, List.length_cons]
      omega

/-- What the document's Split says. -/
def Spl4 (down : Bool) (b : List UInt8) (w : World) (e : Ending) (w' : World) : Prop :=
  Fr no w w' ∧ ((∃ (x : Tr Mm) (s : List UInt8) (A : Option Addr) (n c : Nat), splitE down b = some (bare x, s) ∧ n = s.length ∧ e = .returned (.tuple #[x.agg, .slice A n c, .int .i64 0]) ∧ Tr.Own w' x ∧ Tr.Good w' x ∧ (∀ k, Blk x k → w.heap.size ≤ k) ∧ Ow w' 5 1 (.slice A n c) n (bvs s) ∧ (∀ k, Value.ownBlock (.slice A n c) = some k → w.heap.size ≤ k ∧ ¬ Blk x k))
    ∨ (splitE down b = none ∧ e = .returned (.tuple #[.agg #[.int .u8 0, .bool false, .int .i64 0, .string ⟨#[]⟩, .slice none 0 0, .slice none 0 0, .slice none 0 0], .slice none 0 0, .int .i64 40])))

set_option maxRecDepth 100000 in
set_option maxHeartbeats 1000000 in
theorem split4_any (w : World) (X : Value) (b : List UInt8) (down : Bool) (hx : Sl w 1 X b.length (bvs b)) (hl : b.length ≤ 1000000) :
    Calls Tryd.prog 16 #[X, .bool down] w fun e w' => Spl4 down b w e w' := by
  obtain ⟨A, c, rfl, hc1, hc2⟩ := hx.form
  have HX := Lib.hid hx
  clear hx
  go_enter Tryd.func16, Tryd.ntmps16
  go_wp2_with fail
  refine (turned4_any _ _ b down (HX.out.kept0 (by (repeat first | exact Fr.refl _ _ | exact Fr.drewN _ _ _ | apply Fr.drew | apply Fr.alloc | apply Fr.setAt | apply Fr.moreN))) (by omega)).mono ?_
  rintro e w1 ⟨B, c1, rfl, nb1, f1⟩
  have hb1 := f1.heap (heap_alloc_new w (.cells #[.int .u8 0, .bool false, .int .i64 0, .string ⟨#[]⟩, .slice none 0 0, .slice none 0 0, .slice none 0 0] 33)) (fun h => h)
  have ff1 := (Fr.refl no w).alloc (.cells #[.int .u8 0, .bool false, .int .i64 0, .string ⟨#[]⟩, .slice none 0 0, .slice none 0 0, .slice none 0 0] 33) |>.trans f1 (fun _ _ h => h)
  have hri := rising4_any 9 (by omega) w1 (.slice B b.length c1) (tf down b) (by rw [tf_len]; exact nb1.ow.sl) (by rw [tf_len]; omega)
  have HB1 := Lib.hid hb1; have FF1 := Lib.hid ff1; have HRI := Lib.hid hri
  clear hb1 ff1 nb1 f1 hri
  go_wp2_with fail
  refine HRI.out.mono ?_
  rintro e w5 ⟨f5, ⟨x, s, hdc, rfl, hox, hbx⟩ | ⟨hdc, rfl⟩⟩
  · have hb5 := f5.heap HB1.out (fun h => h)
    have hw1 : w.heap.size < w1.heap.size := (Array.getElem?_eq_some_iff.1 HB1.out).1
    have hds := dec_some 9 _ _ _ hdc
    have hel : (enc (bare x)).length + s.length = b.length := by
      have h := congrArg List.length hds.1
      rw [List.length_append, tf_len] at h
      omega
    have hgx := own_good_of (N := 1000001) (by omega) x hds.2.1 hds.2.2.1 (by omega) hox
    have hpx := Nat.le_trans (parts_enc x hds.2.1 hds.2.2.1) (show _ ≤ 1000000 by omega)
    obtain ⟨YB, yb, YL, yl, YF, yf, hfy⟩ := hgx.node.forms
    have hag := hfy.agg
    have hch := fun W' (f : Fr no w5 W') => check3_any own3_any x W' (hgx.kept0 f) hpx
    rw [hag] at hch ⊢
    obtain ⟨m, hm⟩ : ∃ m, m = (tf down b).length - s.length := ⟨_, rfl⟩
    rw [← hm]
    rw [tf_len] at hm
    have hdr := drop_rest hdc
    rw [tf_len] at hdr
    have hmz : ((m : Int) == 0) = false := by rw [beq_eq_false_iff_ne]; omega
    have hmb : m ≤ b.length := by omega
    obtain ⟨q0, q1, q2, q3, q4, q5, q6, qz, ql⟩ := seven_cells hb5
    have HB5 := Lib.hid hb5; have HOX := Lib.hid hox; have HGX := Lib.hid hgx; have HBX := Lib.hid hbx; have HDC := Lib.hid hdc; have HCH := Lib.hid hch; have HAG := Lib.hid hag; have HM := Lib.hid hm; have F5 := Lib.hid (FF1.out.trans f5 (fun _ _ h => h))
    clear hb5 hox hgx hbx hdc hch hag hm f5 hds hfy hpx hdr hel
    go_wp2_with fail
    refine (HCH.out _ (by (repeat first | exact Fr.refl _ _ | exact Fr.drewN _ _ _ | apply Fr.drew | apply Fr.alloc | apply Fr.setAt | apply Fr.moreN))).mono ?_
    rintro e w6 ⟨rfl, f6⟩
    have hal := (Fr.refl no w5).alloc (.cells #[.int .u8 x.k.toNat, .bool x.b, .int .i64 x.i, .string ⟨x.t.toArray⟩, .slice YB x.bs.length yb, .slice YL x.l.length yl, .slice YF x.f.length yf] 33)
    have hx6 := f6.heap (heap_alloc_new w5 (.cells #[.int .u8 x.k.toNat, .bool x.b, .int .i64 x.i, .string ⟨x.t.toArray⟩, .slice YB x.bs.length yb, .slice YL x.l.length yl, .slice YF x.f.length yf] 33)) (fun h => h)
    have f56 := hal.trans f6 (fun _ _ h => h)
    have hb6 := f56.heap HB5.out (fun h => h)
    obtain ⟨q0, q1, q2, q3, q4, q5, q6, qz, ql⟩ := seven_cells hb6
    obtain ⟨x0, x1, x2, x3, x4, x5, x6, xz, xl⟩ := seven_cells hx6
    have HB6 := Lib.hid hb6; have F56 := Lib.hid f56; have F6 := Lib.hid (F5.out.trans f56 (fun _ _ h => h))
    clear hal hx6 f56 hb6 f6
    by_cases hc : check x = 0
    · have hsp : splitE down b = some (bare x, b.drop m) := by
        have h := HDC.out
        unfold tf at h
        unfold splitE
        rw [h]
        simp only
        rw [if_pos (by rw [bare_check]; exact hc), HM.out]
      have hcc : ((check x : Int) != 0) = false := by rw [hc]; rfl
      have HSP := Lib.hid hsp; have HC := Lib.hid hc
      clear hsp hc
      have hlm : (b.drop m).length = b.length - m := List.length_drop
      have HLM := Lib.hid hlm
      clear hlm
      by_cases hcm : c = m
      · subst hcm
        obtain rfl : c = b.length := by omega
        have hsl : ∀ W', Fr no w W' → Sl W' 1 (.slice A 0 0) 0 (bvs (b.drop b.length)) := fun W' _ => ⟨by rw [List.drop_length]; rfl, .inl ⟨A, rfl, rfl⟩⟩
        have HSL := Lib.hid hsl
        clear hsl
        go_wp2_with fail
        refine wp_region_ord [0, 1, 2, 3, 4, 5, 6, 7, 8] (fun i => [Kd.l, Kd.p, Kd.p, Kd.p, Kd.p, Kd.g, Kd.e, Kd.p, Kd.p].getD i .e) (by kernel_rfl) (by kernel_rfl) ?_
        iterate 5
          first | refine wpX_pu rfl rfl rfl (by first | exact pu_move rfl | exact pu_assign rfl | exact pu_nilCheck rfl rfl | exact pu_binInt rfl rfl rfl | exact pu_conv rfl rfl (by kernel_rfl) | exact pu_fld rfl (by kernel_rfl) | exact pu_ix rfl rfl rfl (by kernel_rfl) | exact pu_unOp rfl | exact pu_binStr rfl rfl rfl | exact pu_len rfl rfl | exact pu_lens rfl rfl | exact pu_pick rfl | exact pu_slice rfl rfl) (fun K hK => ?_) | refine wpX_rd rfl rfl rfl (rd_load rfl) (fun K hK => ?_) | refine wpX_gr rfl rfl rfl (by first | exact gr_buildSlice rfl | exact gr_box rfl | exact gr_alloc rfl) (fun K hK => ?_) | refine wpX_ex rfl rfl rfl (fun K hK => ?_)
          try go_wp2
        refine wpX_ca rfl rfl rfl (fun K hK => ?_)
        refine wp_apo (n := 0) (xs := []) (m := 0) (news := bvs (b.drop b.length)) (.tmp 26) (.tmp 29) 22 rfl tbB (ow_none _ _ _) (HSL.out _ (Fr.drew F6.out)) rfl rfl (bvs_one _) ?a11 ?a12 ?a13
        case a11 => simp only [maxLen]; omega
        case a12 => omega
        case a13 =>
          intro A' N c' w7 hN ho7 _ hf7 hs7
          rw [Nat.zero_add] at hN
          subst hN
          have f7 : Fr no w6 w7 := ((Fr.drew (Fr.refl no w6)).trans (hf7.mono (fun k _ h => nomatch h)) (fun _ _ h => h) : Fr no w6 w7)
          have hb7 := f7.heap HB6.out (fun h => h)
          obtain ⟨q0, q1, q2, q3, q4, q5, q6, qz, ql⟩ := seven_cells hb7
          have hnew : ∀ k, Value.ownBlock (.slice A' 0 c') = some k → w6.heap.size ≤ k := fun k hk => by
            rcases stays_own hs7 k hk with h | h
            · cases h
            · exact h
          have HNW := Lib.hid hnew; have HO7 := Lib.hid ho7; have F7 := Lib.hid f7; have HB7 := Lib.hid hb7
          have hf7' := hf7.mono (S' := no) (fun k _ h => nomatch h)
          have hext := hf7'.ext
          clear hnew ho7 f7 hb7 hf7 hs7 hf7'
          refine ⟨hext, hK _ _ ?_⟩
          clear hK K hext
          refine wpX_ex rfl rfl rfl (fun K hK => ?_)
          go_simp
          refine hK _ _ ?_
          clear hK K
          iterate 2
            first | refine wpX_pu rfl rfl rfl (by first | exact pu_move rfl | exact pu_assign rfl | exact pu_nilCheck rfl rfl | exact pu_binInt rfl rfl rfl | exact pu_conv rfl rfl (by kernel_rfl) | exact pu_fld rfl (by kernel_rfl) | exact pu_ix rfl rfl rfl (by kernel_rfl) | exact pu_unOp rfl | exact pu_binStr rfl rfl rfl | exact pu_len rfl rfl | exact pu_lens rfl rfl | exact pu_pick rfl | exact pu_slice rfl rfl) (fun K hK => ?_) | refine wpX_rd rfl rfl rfl (rd_load rfl) (fun K hK => ?_) | refine wpX_gr rfl rfl rfl (by first | exact gr_buildSlice rfl | exact gr_box rfl | exact gr_alloc rfl) (fun K hK => ?_) | refine wpX_ex rfl rfl rfl (fun K hK => ?_)
            try go_wp2
          refine wpX_done ?_
          go_wp2
          have hset := set7_row (a := .int .u8 x.k.toNat) (b := .bool x.b) (c := .int .i64 x.i) (d := .string ⟨x.t.toArray⟩) (e := .slice YB x.bs.length yb) (f := .slice YL x.l.length yl) (h := .slice YF x.f.length yf) HB7.out
          have hsf := set7_fr w7 w.heap.size (.int .u8 x.k.toNat) (.bool x.b) (.int .i64 x.i) (.string ⟨x.t.toArray⟩) (.slice YB x.bs.length yb) (.slice YL x.l.length yl) (.slice YF x.f.length yf)
          unfold set7 at hset hsf
          refine bodyPost_ret (results_cell_row3 (P := Tryd.prog) rfl _ _ w.heap.size 33 _ (0, 0) _ rfl hset Tryd.underlying33 rfl (by kernel_rfl)) rfl ?_
          have hw6 : w5.heap.size ≤ w6.heap.size := F56.out.size
          have hxo := (((HOX.out.kept0 F56.out).kept0 F7.out).kept hsf (fun k hk h => by have := HBX.out k hk; omega) : Tr.Own _ x)
          have hxg := hxo.good rfl HGX.out
          exact ⟨(F6.out.trans F7.out (fun _ _ h => h)).trans hsf (fun k hk h => by omega), .inl ⟨x, b.drop b.length, A', 0, c', HSP.out, by rw [HLM.out]; omega, by rw [HAG.out]; rfl, hxo, hxg, fun k hk => by have := HBX.out k hk; omega, by have h := HO7.out.kept hsf (fun k hk h => by have := HNW.out k hk; omega); simpa only [List.nil_append] using h, fun k hk => ⟨by have := HNW.out k hk; omega, fun h => by have h1 := HOX.out.lt k h; have h2 := HNW.out k hk; omega⟩⟩⟩
      · have hsl : ∀ W', Fr no w W' → Sl W' 1 (.slice (A.map (fun x => x.add m)) (b.length - m) (c - m)) (b.length - m) (bvs (b.drop m)) := fun W' f => by
          have h := (Sl.tail1 (lo := m) (HX.out.kept0 f) (by omega)).1
          rw [bvs_drop] at h
          exact h
        have HSL := Lib.hid hsl
        clear hsl
        go_wp2_with fail
        refine wp_region_ord [0, 1, 2, 3, 4, 5, 6, 7, 8] (fun i => [Kd.l, Kd.p, Kd.p, Kd.p, Kd.p, Kd.g, Kd.e, Kd.p, Kd.p].getD i .e) (by kernel_rfl) (by kernel_rfl) ?_
        iterate 5
          first | refine wpX_pu rfl rfl rfl (by first | exact pu_move rfl | exact pu_assign rfl | exact pu_nilCheck rfl rfl | exact pu_binInt rfl rfl rfl | exact pu_conv rfl rfl (by kernel_rfl) | exact pu_fld rfl (by kernel_rfl) | exact pu_ix rfl rfl rfl (by kernel_rfl) | exact pu_unOp rfl | exact pu_binStr rfl rfl rfl | exact pu_len rfl rfl | exact pu_lens rfl rfl | exact pu_pick rfl | exact pu_slice rfl rfl) (fun K hK => ?_) | refine wpX_rd rfl rfl rfl (rd_load rfl) (fun K hK => ?_) | refine wpX_gr rfl rfl rfl (by first | exact gr_buildSlice rfl | exact gr_box rfl | exact gr_alloc rfl) (fun K hK => ?_) | refine wpX_ex rfl rfl rfl (fun K hK => ?_)
          try go_wp2
        refine wpX_ca rfl rfl rfl (fun K hK => ?_)
        refine wp_apo (n := 0) (xs := []) (m := (b.length - m)) (news := bvs (b.drop m)) (.tmp 26) (.tmp 29) 22 rfl tbB (ow_none _ _ _) (HSL.out _ (Fr.drew F6.out)) rfl rfl (bvs_one _) ?a21 ?a22 ?a23
        case a21 => simp only [maxLen]; omega
        case a22 => omega
        case a23 =>
          intro A' N c' w7 hN ho7 _ hf7 hs7
          rw [Nat.zero_add] at hN
          subst hN
          have f7 : Fr no w6 w7 := ((Fr.drew (Fr.refl no w6)).trans (hf7.mono (fun k _ h => nomatch h)) (fun _ _ h => h) : Fr no w6 w7)
          have hb7 := f7.heap HB6.out (fun h => h)
          obtain ⟨q0, q1, q2, q3, q4, q5, q6, qz, ql⟩ := seven_cells hb7
          have hnew : ∀ k, Value.ownBlock (.slice A' (b.length - m) c') = some k → w6.heap.size ≤ k := fun k hk => by
            rcases stays_own hs7 k hk with h | h
            · cases h
            · exact h
          have HNW := Lib.hid hnew; have HO7 := Lib.hid ho7; have F7 := Lib.hid f7; have HB7 := Lib.hid hb7
          have hf7' := hf7.mono (S' := no) (fun k _ h => nomatch h)
          have hext := hf7'.ext
          clear hnew ho7 f7 hb7 hf7 hs7 hf7'
          refine ⟨hext, hK _ _ ?_⟩
          clear hK K hext
          refine wpX_ex rfl rfl rfl (fun K hK => ?_)
          go_simp
          refine hK _ _ ?_
          clear hK K
          iterate 2
            first | refine wpX_pu rfl rfl rfl (by first | exact pu_move rfl | exact pu_assign rfl | exact pu_nilCheck rfl rfl | exact pu_binInt rfl rfl rfl | exact pu_conv rfl rfl (by kernel_rfl) | exact pu_fld rfl (by kernel_rfl) | exact pu_ix rfl rfl rfl (by kernel_rfl) | exact pu_unOp rfl | exact pu_binStr rfl rfl rfl | exact pu_len rfl rfl | exact pu_lens rfl rfl | exact pu_pick rfl | exact pu_slice rfl rfl) (fun K hK => ?_) | refine wpX_rd rfl rfl rfl (rd_load rfl) (fun K hK => ?_) | refine wpX_gr rfl rfl rfl (by first | exact gr_buildSlice rfl | exact gr_box rfl | exact gr_alloc rfl) (fun K hK => ?_) | refine wpX_ex rfl rfl rfl (fun K hK => ?_)
            try go_wp2
          refine wpX_done ?_
          go_wp2
          have hset := set7_row (a := .int .u8 x.k.toNat) (b := .bool x.b) (c := .int .i64 x.i) (d := .string ⟨x.t.toArray⟩) (e := .slice YB x.bs.length yb) (f := .slice YL x.l.length yl) (h := .slice YF x.f.length yf) HB7.out
          have hsf := set7_fr w7 w.heap.size (.int .u8 x.k.toNat) (.bool x.b) (.int .i64 x.i) (.string ⟨x.t.toArray⟩) (.slice YB x.bs.length yb) (.slice YL x.l.length yl) (.slice YF x.f.length yf)
          unfold set7 at hset hsf
          refine bodyPost_ret (results_cell_row3 (P := Tryd.prog) rfl _ _ w.heap.size 33 _ (0, 0) _ rfl hset Tryd.underlying33 rfl (by kernel_rfl)) rfl ?_
          have hw6 : w5.heap.size ≤ w6.heap.size := F56.out.size
          have hxo := (((HOX.out.kept0 F56.out).kept0 F7.out).kept hsf (fun k hk h => by have := HBX.out k hk; omega) : Tr.Own _ x)
          have hxg := hxo.good rfl HGX.out
          exact ⟨(F6.out.trans F7.out (fun _ _ h => h)).trans hsf (fun k hk h => by omega), .inl ⟨x, b.drop m, A', (b.length - m), c', HSP.out, by rw [HLM.out], by rw [HAG.out]; rfl, hxo, hxg, fun k hk => by have := HBX.out k hk; omega, by have h := HO7.out.kept hsf (fun k hk h => by have := HNW.out k hk; omega); simpa only [List.nil_append] using h, fun k hk => ⟨by have := HNW.out k hk; omega, fun h => by have h1 := HOX.out.lt k h; have h2 := HNW.out k hk; omega⟩⟩⟩
    · have hsp : splitE down b = none := by
        have h := HDC.out
        unfold tf at h
        unfold splitE
        rw [h]
        simp only
        rw [if_neg (by rw [bare_check]; exact hc)]
      have hcc : ((check x : Int) != 0) = true := by rw [bne_iff_ne]; omega
      have HSP := Lib.hid hsp; have HC := Lib.hid hc
      clear hsp hc
      go_wp2
      have hset := set7_row (a := .int .u8 0) (b := .bool false) (c := .int .i64 0) (d := .string ⟨#[]⟩) (e := .slice none 0 0) (f := .slice none 0 0) (h := .slice none 0 0) HB6.out
      have hsf := set7_fr w6 w.heap.size (.int .u8 0) (.bool false) (.int .i64 0) (.string ⟨#[]⟩) (.slice none 0 0) (.slice none 0 0) (.slice none 0 0)
      unfold set7 at hset hsf
      refine bodyPost_ret (results_cell_row3 (P := Tryd.prog) rfl _ _ w.heap.size 33 _ (0, 0) _ rfl hset Tryd.underlying33 rfl (by kernel_rfl)) rfl ?_
      exact ⟨F6.out.trans hsf (fun k hk h => by omega), .inr ⟨HSP.out, rfl⟩⟩
  · have hb5 := f5.heap HB1.out (fun h => h)
    have hsp : splitE down b = none := by
      unfold tf at hdc
      unfold splitE
      rw [hdc]
    obtain ⟨q0, q1, q2, q3, q4, q5, q6, qz, ql⟩ := seven_cells hb5
    have HB5 := Lib.hid hb5; have HSP := Lib.hid hsp; have F5 := Lib.hid (FF1.out.trans f5 (fun _ _ h => h))
    clear f5 hb5 hdc hsp
    go_wp2
    have hset := set7_row (a := .int .u8 0) (b := .bool false) (c := .int .i64 0) (d := .string ⟨#[]⟩) (e := .slice none 0 0) (f := .slice none 0 0) (h := .slice none 0 0) HB5.out
    have hsf := set7_fr w5 w.heap.size (.int .u8 0) (.bool false) (.int .i64 0) (.string ⟨#[]⟩) (.slice none 0 0) (.slice none 0 0) (.slice none 0 0)
    unfold set7 at hset hsf
    have hset2 := ((Fr.refl no _).alloc (.cells #[.int .u8 0, .bool false, .int .i64 0, .string ⟨#[]⟩, .slice none 0 0, .slice none 0 0, .slice none 0 0] 33)).heap hset (fun h => h)
    refine bodyPost_ret (results_cell_row3 (P := Tryd.prog) rfl _ _ w.heap.size 33 _ (0, 0) _ rfl hset2 Tryd.underlying33 rfl (by kernel_rfl)) rfl ?_
    exact ⟨(F5.out.trans hsf (fun k hk h => absurd h (Nat.ne_of_lt hk))).alloc _, .inr ⟨HSP.out, rfl⟩⟩
end Go.Proofs.YtgcicljklejmjaaDoor

/- The document's reading of keys: Decode. Printed by mkrd4f.py. -/
namespace Go.Proofs.YtgcicljklejmjaaDoor
open Go.RowKit Go.Shelf
open Tr

/-- What the document's Decode says. -/
def Dec4 (dl : List Bool) (b : List UInt8) (w : World) (e : Ending) (w' : World) : Prop :=
  Fr no w w' ∧ ((∃ ys A c, decT (fallsB dl) b.length 0 b = .ok (ys.map bare) ∧ ys.length ≤ 4 ∧ e = .returned (.tuple #[.slice A ys.length c, .int .i64 0, .int .i64 0]) ∧ VRow w.heap.size w' ys A c)
    ∨ ∃ m, decT (fallsB dl) b.length 0 b = .error m ∧ m ≤ b.length ∧ e = .returned (.tuple #[.slice none 0 0, .int .i64 40, .int .i64 ((b.length - m : Nat) : Int)]))

set_option maxRecDepth 100000 in
set_option maxHeartbeats 1000000 in
theorem decode4_any (w : World) (X D : Value) (b : List UInt8) (dl : List Bool) (hx : Sl w 1 X b.length (bvs b)) (hl : b.length ≤ 1000000) (hX : ∀ k, X.ownBlock = some k → k < w.heap.size) (hd : Sl w 1 D dl.length (bls dl)) (hdn : dl.length ≤ reachBytes) :
    Calls Tryd.prog 15 #[X, D] w fun e w' => Dec4 dl b w e w' := by
  obtain ⟨A, c, rfl, hc1, hc2⟩ := hx.form
  obtain ⟨DA, dc, rfl, hd1, hd2⟩ := hd.form
  have HX := Lib.hid hx; have HD := Lib.hid hd; have HDN := Lib.hid hdn; have HXB := Lib.hid hX
  clear hx hd hdn hX
  go_enter Tryd.func15, Tryd.ntmps15
  go_wp2
  go_loopw [7, 8, 9] (fun ov rv iv wr => ∃ (ys : List (Tr Mm)) (s : List UInt8) (O R : Option Addr) (oc rc : Nat), ov = .slice O ys.length oc ∧ rv = .slice R s.length rc ∧ iv = .int .i64 (ys.length : Int) ∧ ys.length ≤ 4 ∧ s.length ≤ b.length ∧ DecAt (fallsB dl) b ys s ∧ VRow w.heap.size wr ys O oc ∧
    Sl wr 1 (.slice R s.length rc) s.length (bvs s) ∧ (∀ k, Value.ownBlock (.slice R s.length rc) = some k → k < wr.heap.size ∧ Value.ownBlock (.slice O ys.length oc) ≠ some k) ∧ Fr no w wr) (fun _ rv _ _ => match rv with | .slice _ n _ => n | _ => 0)
  case atStart => exact ⟨[], b, none, A, 0, c, rfl, rfl, rfl, by simp, Nat.le_refl _, DecAt.first _ _, VRow.nil _ _, HX.out, fun k hk => ⟨HXB.out k hk, fun h => nomatch h⟩, Fr.refl _ _⟩
  case round =>
    obtain ⟨ys, s, O, R, oc, rc, rfl, rfl, rfl, h4, hsl, hda, hvr, hrs, hrn, hfr⟩ := hrel
    cases s with
    | nil =>
      have hnc : ys.length ≤ oc := by
        obtain ⟨A', c', h1, h2, _⟩ := hvr.ow.sl.form
        cases h1; exact h2
      have HDA := Lib.hid hda; have HVR := Lib.hid hvr; have HFR := Lib.hid hfr
      clear hda hvr hfr hrs hrn
      go_wp2
      go_ret3
      exact ⟨HFR.out, .inl ⟨ys, O, oc, HDA.out.done, h4, rfl, HVR.out⟩⟩
    | cons c0 s =>
      have hfal := fun W (f : Fr no w W) => falls4_any W (.slice DA dl.length dc) dl ys.length (HD.out.kept0 f) HDN.out
      have hspl := fun down => split4_any wr (.slice R (c0 :: s).length rc) (c0 :: s) down hrs (by omega)
      have hne : (c0 :: s) ≠ [] := by simp
      have HFAL := Lib.hid hfal; have HSPL := Lib.hid hspl; have HDA := Lib.hid hda; have HVR := Lib.hid hvr; have HFR := Lib.hid hfr; have HRN := Lib.hid hrn; have HNE := Lib.hid hne; have HRS := Lib.hid hrs
      clear hfal hspl hda hvr hfr hrn hne hrs
      simp only [List.length_cons] at hsl
      have hi1 : IntKind.i64.wrap ((b.length : Int) - ((s.length : Int) + 1)) = ((b.length - (s.length + 1) : Nat) : Int) := by
        rw [show (b.length : Int) - ((s.length : Int) + 1) = ((b.length - (s.length + 1) : Nat) : Int) by omega]
        exact IntWalk.i64_in _ ⟨by omega, by omega⟩
      go_wp2_with fail
      refine (HFAL.out wr HFR.out).mono ?_
      rintro e w2 ⟨rfl, rfl⟩
      go_wp2_with fail
      refine (HSPL.out _).mono ?_
      rintro e w5 ⟨f5, ⟨y, t, T, n, tc, hsp, hn, rfl, hoy, hgy, hby, hot, htn⟩ | ⟨hsp, rfl⟩⟩
      · obtain ⟨YB, yb, YL, yl, YF, yf, hfy⟩ := hgy.node.forms
        rw [hfy.agg]
        have hyc : y.cells = [.int .u8 y.k.toNat, .bool y.b, .int .i64 y.i, .string ⟨y.t.toArray⟩, .slice YB y.bs.length yb, .slice YL y.l.length yl, .slice YF y.f.length yf] := by unfold cells; rw [hfy.B, hfy.L, hfy.F]
        have htl := splitE_less hsp
        simp only [List.length_cons] at htl
        have HSP := Lib.hid hsp; have HN := Lib.hid hn; have F5 := Lib.hid f5; have HOY := Lib.hid hoy; have HGY := Lib.hid hgy; have HBY := Lib.hid hby; have HOT := Lib.hid hot; have HTN := Lib.hid htn; have HYC := Lib.hid hyc
        clear hsp hn f5 hoy hgy hby hot htn hyc hfy
        by_cases h44 : ys.length = 4
        · have hde := HDA.out.many HNE.out h44
          have HDE := Lib.hid hde
          have g4 : ((ys.length : Int) == 4) = true := by rw [h44]; rfl
          have gne : ((0 : Int) != 0) = false := rfl
          clear hde h44
          go_wp2
          go_ret3
          exact ⟨(HFR.out.trans F5.out (fun _ _ h => h)).alloc _, .inr ⟨_, HDE.out, by simp only [List.length_cons]; omega, rfl⟩⟩
        · have g4 : ((ys.length : Int) == 4) = false := by rw [beq_eq_false_iff_ne]; omega
          have gne : ((0 : Int) != 0) = false := rfl
          have hal := (Fr.refl no w5).alloc (.cells #[.int .u8 y.k.toNat, .bool y.b, .int .i64 y.i, .string ⟨y.t.toArray⟩, .slice YB y.bs.length yb, .slice YL y.l.length yl, .slice YF y.f.length yf] 33)
          have hal2 := hal.alloc (.cells #[.int .u8 y.k.toNat, .bool y.b, .int .i64 y.i, .string ⟨y.t.toArray⟩, .slice YB y.bs.length yb, .slice YL y.l.length yl, .slice YF y.f.length yf] 33)
          have hbx := built7 (w5.alloc (.cells #[.int .u8 y.k.toNat, .bool y.b, .int .i64 y.i, .string ⟨y.t.toArray⟩, .slice YB y.bs.length yb, .slice YL y.l.length yl, .slice YF y.f.length yf] 33)) (.int .u8 y.k.toNat) (.bool y.b) (.int .i64 y.i) (.string ⟨y.t.toArray⟩) (.slice YB y.bs.length yb) (.slice YL y.l.length yl) (.slice YF y.f.length yf) 33
          rw [World.size_alloc] at hbx
          have HBX := Lib.hid hbx; clear hbx
          have HAL := Lib.hid hal2; have H44 := Lib.hid h44
          clear hal hal2 h44
          go_wp2_with (at_builtin; refine wpList_apo (n := ys.length) (xs := ys.flatMap cells) (m := 1) (news := [.int .u8 y.k.toNat, .bool y.b, .int .i64 y.i, .string ⟨y.t.toArray⟩, .slice YB y.bs.length yb, .slice YL y.l.length yl, .slice YF y.f.length yf]) rfl (.tmp 39) (.tmp 41) 25 rfl tbV (((HVR.out.ow.kept0 F5.out).kept0 HAL.out)) HBX.out rfl rfl (by intro u hu; simp only [List.mem_cons, List.not_mem_nil, or_false] at hu; rcases hu with rfl | rfl | rfl | rfl | rfl | rfl | rfl <;> rfl) ?b1 ?b2 ?go)
          case b1 => simp only [maxLen]; omega
          case b2 => omega
          case go =>
            intro A' N c' w7 hN ho7 _ hf7 hs7
            subst hN
            have hlo := HFR.out.size
            have hpu := HVR.out.push hlo F5.out HOY.out HGY.out (show ∀ k, Blk y k → w2.heap.size ≤ k from HBY.out) HAL.out (by rw [HYC.out]; exact ho7) hf7 hs7
            have hfr7 : Fr no w w7 := ((HFR.out.trans F5.out (fun _ _ h => h)).trans HAL.out (fun _ _ h => h)).trans hf7 (fun k hk h => by have := HVR.out.own k h; omega)
            have hsl7 : Sl w7 1 (.slice T n tc) n (bvs t) := ((HOT.out.kept0 HAL.out).kept hf7 (fun k hk h => by have h1 := (HTN.out k hk).1; have h2 := HVR.out.ow.lt k h; omega)).sl
            have hrn7 : ∀ k, Value.ownBlock (.slice T n tc) = some k → k < w7.heap.size ∧ Value.ownBlock (.slice A' (ys.length + 1) c') ≠ some k := fun k hk => by
              have h0 := HOT.out.lt k hk
              have h1 := HAL.out.size; have h2 := hf7.size
              refine ⟨by omega, fun h => ?_⟩
              rcases stays_own hs7 k h with h3 | h3
              · have h4 := HVR.out.ow.lt k h3; have h5 := (HTN.out k hk).1; omega
              · omega
            have hda2 := HDA.out.next HNE.out H44.out HSP.out
            have HPU := Lib.hid hpu; have F7 := Lib.hid hfr7; have S7 := Lib.hid hsl7; have R7 := Lib.hid hrn7; have D2 := Lib.hid hda2
            have hy5 : ys.length + 1 ≤ 4 := by have := H44.out; omega
            clear ho7 hf7 hs7 hpu hfr7 hsl7 hrn7 hda2 hlo
            go_wp2
            go_roundw
            case rel => exact ⟨ys ++ [y], t, A', T, c', tc, by rw [List.length_append]; rfl, by rw [HN.out], by rw [List.length_append]; go_num, by rw [List.length_append]; exact hy5, by omega, D2.out, HPU.out, by rw [← HN.out]; exact S7.out, by rw [← HN.out, List.length_append]; exact R7.out, F7.out⟩
            case measure => have := HN.out; simp only [List.length_cons]; omega
      · have hde := HDA.out.none HNE.out hsp
        have HDE := Lib.hid hde; have F5 := Lib.hid (HFR.out.trans f5 (fun _ _ h => h))
        clear hde f5 hsp
        go_wp2
        go_ret3
        exact ⟨F5.out.alloc _, .inr ⟨_, HDE.out, by simp only [List.length_cons]; omega, rfl⟩⟩
end Go.Proofs.YtgcicljklejmjaaDoor

/- The book of lists: bytes put into it. -/
namespace Go.Proofs.YtgcicljklejmjaaDoor
open Go.RowKit

theorem tbRows : Tb Tryd.prog 43 22 (.slice none 0 0) 1 24 := ⟨by kernel_rfl, by kernel_rfl, rfl, by decide⟩

def nilS : Value := .slice none 0 0

/-- A book at block b that holds lists of bytes alone. -/
def Bk (w : World) (b : Nat) (v : Value) (rs : List Value) : Prop :=
  w.heap[b]? = some (.cells (#[v] ++ Array.replicate 22 nilS) 67 (0, 0)) ∧ w.ownsRow 0 22 1 v rs.length rs ∧ v.ownBlock ≠ some b

theorem Bk.cells {w : World} {b : Nat} {v : Value} {rs : List Value} (h : Bk w b v rs) : w.cell? ⟨b, 0, none⟩ = some v ∧ (∀ i, i < 22 → w.cell? ⟨b, i + 1, none⟩ = some (.slice none 0 0)) ∧ (∀ o, w.frozen? ⟨b, o, none⟩ = false) ∧ b < w.heap.size := by
  refine ⟨by simp [World.cell?, h.1], fun i hi => ?_, fun o => by simp [World.frozen?, h.1], (Array.getElem?_eq_some_iff.1 h.1).1⟩
  simp only [World.cell?, h.1, Option.isSome_none, Bool.false_eq_true, if_false]
  rw [Array.getElem?_append_right (by simp), Array.getElem?_replicate]
  rw [if_pos (by simp; omega)]; rfl

set_option maxRecDepth 100000 in
set_option maxHeartbeats 400000 in
theorem book_bytes (b : Nat) (w : World) (v : Value) (rs : List Value) (A : Option Addr) (n c : Nat) (h : Bk w b v rs) (hl : rs.length ≤ 1000000) :
    Calls Tryd.prog 19 #[.pointer (some ⟨b, 0, none⟩), .slice A n c] w fun e w' => e = .returned (.tuple #[]) ∧ ∃ v', Bk w' b v' (rs ++ [.slice A n c]) ∧ Fr (fun k => k = b ∨ v.ownBlock = some k) w w' ∧ Moved w w' v v' := by
  obtain ⟨B, d, rfl⟩ := own_form h.2.1
  obtain ⟨hc0, _, hfz, hbs⟩ := h.cells
  have HB := Lib.hid h; clear h
  go_enter Tryd.func19, Tryd.ntmps19
  go_wp2_with (at_builtin; refine wpList_ap rfl (.tmp 8) (.tmp 10) 43 rfl tbRows HB.out.2.1 ?fr ((Sl.built w _ _).kept0 ((Fr.refl no _))) rfl rfl (by simp [Value.oneCell']) ?b1 ?b2 ?go)
  case fr => (repeat first | exact Fr.refl _ _ | apply Fr.drew | apply Fr.alloc)
  case b1 => simp only [maxLen]; omega
  case b2 => omega
  case go =>
    intro A' N c' w2 ho hf2 hm2
    have hg : Fr (fun k => Value.ownBlock (.slice B rs.length d) = some k) w w2 := Fr.trans (S := fun k => Value.ownBlock (.slice B rs.length d) = some k) (by (repeat first | exact Fr.refl _ _ | apply Fr.drew | apply Fr.alloc)) hf2 (fun _ _ h => h)
    have hc1 := hg.cell hc0 HB.out.2.2
    have hf1 := (hg.frozen (a := ⟨b, 0, none⟩) hbs HB.out.2.2).trans (hfz 0)
    have hheap := hg.heap HB.out.1 HB.out.2.2
    have HO := Lib.hid ho; have HG := Lib.hid hg; have HM := Lib.hid hm2; have HH := Lib.hid hheap; clear ho hf2 hm2 hg hheap
    go_wp2
    go_end0
    obtain rfl : N = (rs ++ [Value.slice A n c]).length := by have := HO.out.1; simpa using this.symm
    have hne : Value.ownBlock (.slice A' (rs ++ [Value.slice A n c]).length c') ≠ some b := HM.out.not (by simp; omega) HB.out.2.2
    refine ⟨rfl, _, ⟨?_, own_set HO.out _ _ (by simpa using hne), hne⟩, ?_, ?_⟩
    · rw [hp_same HH.out]; simp
    · exact (HG.out.mono (fun _ _ h => .inr h)).setCell _ _ (fun _ => .inl rfl)
    · exact (HM.out.first (by simp)).later (by simp [World.setCell])
end Go.Proofs.YtgcicljklejmjaaDoor
