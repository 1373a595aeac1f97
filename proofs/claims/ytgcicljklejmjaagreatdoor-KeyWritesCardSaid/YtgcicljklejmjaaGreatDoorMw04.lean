import Derived.Test.YtgcicljklejmjaaGreatDoorMw03
import Derived.Test.YtgcicljklejmjaaGreatDoorMb08
import Derived.Test.YtgcicljklejmjaaGreatDoorMb17
import Derived.Test.YtgcicljklejmjaaGreatDoorMw02
import Derived.Test.YtgcicljklejmjaaGreatDoorMb15

/- codicilref03.own of a document whose shape is right; own3_any. -/
namespace Go.Proofs.YtgcicljklejmjaaGreatDoor
open Go.RowKit Go.Shelf
open Tr

def cnt7 (x : Tr Mm) (R : Int) : Nat := if risesF none x.f = true then cnt3 R 0 else 30

set_option maxRecDepth 100000 in
set_option maxHeartbeats 8000000 in
theorem own3_g7e (w : World) {BA LA FA : Option Addr} {bc lc fc : Nat} (R : Int)
    (hru : ∀ W, Fr no w W → Calls Tryz.prog 114 #[.string ⟨#[]⟩] W fun e w' => e = .returned (.int .i64 R) ∧ w' = W) :
    Calls Tryz.prog 100 #[.agg #[.int .u8 7, .bool false, .int .i64 0, .string ⟨#[]⟩, .slice BA 0 bc, .slice LA 0 lc, .slice FA 0 fc]] w fun e w' => e = .returned (.int .i64 (cnt3 R 0)) ∧ Fr no w w' := by
  have HRU := Lib.hid hru
  clear hru
  have r1 : R < 0 → cnt3 R 0 = 34 := fun h => by unfold cnt3; rw [if_pos h]
  have r2 : ¬ R < 0 → 1000 < R ∨ 4000 < 0 → cnt3 R 0 = 33 := fun h h2 => by unfold cnt3; rw [if_neg h, if_pos h2]
  have r3 : ¬ R < 0 → ¬ (1000 < R ∨ 4000 < 0) → cnt3 R 0 = 0 := fun h h2 => by unfold cnt3; rw [if_neg h, if_neg h2]
  have R1 := Lib.hid r1; have R2 := Lib.hid r2; have R3 := Lib.hid r3
  clear r1 r2 r3
  go_enter Tryz.func100, Tryz.ntmps100
  go_wp2_with fail
  all_goals (
    go_loop [3] (fun iv => iv = .int .i64 0) (fun _ => 0)
    case atStart => rfl
    case round =>
      obtain rfl := hrel
      go_wp2_with fail
      refine (HRU.out _ (by (repeat first | exact Fr.refl _ _ | exact Fr.drewN _ _ _ | apply Fr.drew | apply Fr.alloc | apply Fr.setAt | apply Fr.moreN))).mono ?_
      rintro e w7 ⟨rfl, hw⟩
      subst w7
      go_wp2
      all_goals (go_ret; exact ⟨by first | (rw [R1.out (by omega)]; rfl) | (rw [R2.out (by omega) (by omega)]; rfl) | (rw [R3.out (by omega) (by omega)]; rfl), by (repeat first | exact Fr.refl _ _ | exact Fr.drewN _ _ _ | apply Fr.drew | apply Fr.alloc | apply Fr.setAt | apply Fr.moreN)⟩))

set_option maxRecDepth 100000 in
set_option maxHeartbeats 8000000 in
theorem own3_g7 (w : World) (x : Tr Mm) {BA LA FA : Option Addr} {bc lc fc : Nat} (hfo : Forms x BA bc LA lc FA fc) (hx : Tr.Good w x) (hne : 0 < x.f.length) (R : Int)
    (hru : ∀ W, Fr no w W → Calls Tryz.prog 114 #[.string ⟨#[]⟩] W fun e w' => e = .returned (.int .i64 R) ∧ w' = W) :
    Calls Tryz.prog 100 #[.agg #[.int .u8 7, .bool false, .int .i64 0, .string ⟨#[]⟩, .slice BA 0 bc, .slice LA 0 lc, .slice FA x.f.length fc]] w fun e w' => e = .returned (.int .i64 (cnt7 x R : Int)) ∧ Fr no w w' := by
  have HRU := Lib.hid hru; have HX := Lib.hid hx; have HFO := Lib.hid hfo
  have hnf : x.f.length ≤ 140737488351232 := hx.node.f
  have gz : decide ((0 : Int) < (x.f.length : Int)) = true := decide_eq_true (by omega)
  have HNE := Lib.hid hne
  clear hru hx hfo hne
  have r1 : R < 0 → cnt3 R 0 = 34 := fun h => by unfold cnt3; rw [if_pos h]
  have r2 : ¬ R < 0 → 1000 < R → cnt3 R 0 = 33 := fun h h2 => by unfold cnt3; rw [if_neg h, if_pos (.inl h2)]
  have r3 : ¬ R < 0 → ¬ 1000 < R → cnt3 R 0 = 0 := fun h h2 => by unfold cnt3; rw [if_neg h, if_neg (by omega)]
  have R1 := Lib.hid r1; have R2 := Lib.hid r2; have R3 := Lib.hid r3
  clear r1 r2 r3
  go_enter Tryz.func100, Tryz.ntmps100
  go_wp2_with fail
  all_goals first | (exfalso; have hne2 := HNE.out; omega; done) | skip
  all_goals (
    clear gz
    have hb0 := heap_alloc_new w (.cells #[.int .u8 7, .bool false, .int .i64 0, .string ⟨#[]⟩, .slice BA 0 bc, .slice LA 0 lc, .slice FA x.f.length fc] 63)
    have hF1 : Fr no w (w.alloc (.cells #[.int .u8 7, .bool false, .int .i64 0, .string ⟨#[]⟩, .slice BA 0 bc, .slice LA 0 lc, .slice FA x.f.length fc] 63)) := by (repeat first | exact Fr.refl _ _ | exact Fr.drewN _ _ _ | apply Fr.drew | apply Fr.alloc | apply Fr.setAt | apply Fr.moreN)
    generalize (w.alloc (.cells #[.int .u8 7, .bool false, .int .i64 0, .string ⟨#[]⟩, .slice BA 0 bc, .slice LA 0 lc, .slice FA x.f.length fc] 63)) = w1 at hb0 hF1 ⊢
    have F1 := Lib.hid hF1
    have HB0 := Lib.hid hb0
    clear hb0 hF1
    go_loopw [3] (fun iv wr => ∃ j : Nat, j ≤ x.f.length ∧ iv = .int .i64 j ∧ Fr no w1 wr ∧ (∀ k (h : k < x.f.length), k < j → nameV x.f[k].1 = true) ∧ ∀ k (h : k + 1 < x.f.length), k + 1 < j → cb x.f[k].1 x.f[k + 1].1 < 0) (fun iv _ => x.f.length - (intOf iv).toNat)
    case atStart => exact ⟨0, Nat.zero_le _, rfl, by (repeat first | exact Fr.refl _ _ | exact Fr.drewN _ _ _ | apply Fr.drew | apply Fr.alloc | apply Fr.setAt | apply Fr.moreN), fun k _ h => by omega, fun k _ h => by omega⟩
    case round =>
      obtain ⟨j, hj, rfl, hf, hna, hri⟩ := hrel
      have HF := Lib.hid hf; have HNA := Lib.hid hna; have HRI := Lib.hid hri; clear hf hna hri
      have hb0 := HF.out.heap HB0.out (fun h => h)
      have hbl := (Array.getElem?_eq_some_iff.1 hb0).1
      by_cases hlt : j < x.f.length
      · have hin := (HX.out.kept0 (F1.out.trans HF.out (fun _ _ h => h))).inF; rw [HFO.out.F] at hin
        have HIN := Lib.hid hin; clear hin
        have q6 := cell_of_row wr w.heap.size 6 _ _ (0, 0) hb0
        simp only [List.getElem?_toArray, List.getElem?_cons_succ, List.getElem?_cons_zero] at q6
        clear hb0
        cases hnv : nameV x.f[j].1 with
        | false =>
          obtain ⟨b, o, KB, kb, KL, kl, KF, kf, hA, -, r0, r1, r2, r3, r4, r5, r6, r7, hbl2⟩ := HIN.out.get j hlt
          subst hA
          have HNV := Lib.hid hnv; clear hnv
          go_wp2_with fail
          refine wp_region_ord (List.range 28) (fun i => [Kd.p, Kd.l, Kd.p, Kd.p, Kd.p, Kd.l, Kd.e, Kd.p, Kd.p, Kd.p, Kd.p, Kd.p, Kd.p, Kd.l, Kd.p, Kd.p, Kd.p, Kd.l, Kd.p, Kd.l, Kd.p, Kd.p, Kd.p, Kd.p, Kd.l, Kd.p, Kd.p, Kd.p].getD i .e) (by kernel_rfl) (by kernel_rfl) ?_
          iterate 6
            first | (refine wpX_un rfl rfl ?_; go_simp) | first | refine wpX_pu rfl rfl rfl (by first | exact pu_move rfl | exact pu_assign rfl | exact pu_nilCheck rfl rfl | exact pu_binInt rfl rfl rfl | exact pu_conv rfl rfl (by kernel_rfl) | exact pu_fld rfl (by kernel_rfl) | exact pu_ix rfl rfl rfl (by kernel_rfl) | exact pu_unOp rfl | exact pu_binStr rfl rfl rfl | exact pu_len rfl rfl | exact pu_lens rfl rfl | exact pu_pick rfl | exact pu_slice rfl rfl) (fun K hK => ?_) | refine wpX_rd rfl rfl rfl (rd_load rfl) (fun K hK => ?_) | refine wpX_gr rfl rfl rfl (by first | exact gr_buildSlice rfl | exact gr_box rfl | exact gr_alloc rfl) (fun K hK => ?_) | refine wpX_ex rfl rfl rfl (fun K hK => ?_)
            try go_wp2
          refine wpX_ex rfl rfl rfl (fun K hK => ?_)
          go_wp2_with fail
          refine (name3_any _ x.f[j].1 (HX.out.node.n _ (List.getElem_mem _))).mono ?_
          rintro e w3 ⟨rfl, hw⟩
          subst w3
          rw [HNV.out]
          go_wp2_with fail
          iterate 21
            first | (refine wpX_un rfl rfl ?_; go_simp) | first | refine wpX_pu rfl rfl rfl (by first | exact pu_move rfl | exact pu_assign rfl | exact pu_nilCheck rfl rfl | exact pu_binInt rfl rfl rfl | exact pu_conv rfl rfl (by kernel_rfl) | exact pu_fld rfl (by kernel_rfl) | exact pu_ix rfl rfl rfl (by kernel_rfl) | exact pu_unOp rfl | exact pu_binStr rfl rfl rfl | exact pu_len rfl rfl | exact pu_lens rfl rfl | exact pu_pick rfl | exact pu_slice rfl rfl) (fun K hK => ?_) | refine wpX_rd rfl rfl rfl (rd_load rfl) (fun K hK => ?_) | refine wpX_gr rfl rfl rfl (by first | exact gr_buildSlice rfl | exact gr_box rfl | exact gr_alloc rfl) (fun K hK => ?_) | refine wpX_ex rfl rfl rfl (fun K hK => ?_)
            try go_wp2
          refine wpX_done ?_
          go_wp2_with fail
          go_ret
          refine ⟨?_, F1.out.trans (HF.out.trans (by (repeat first | exact Fr.refl _ _ | exact Fr.drewN _ _ _ | apply Fr.drew | apply Fr.alloc | apply Fr.setAt | apply Fr.moreN)) (fun _ _ h => h)) (fun _ _ h => h)⟩
          have hz : cnt7 x R = 30 := if_neg (fun h => absurd (((rises_iff none x.f).1 h).1 j hlt) (by rw [HNV.out]; exact Bool.noConfusion))
          rw [hz]
          rfl
        | true =>
          have HNV := Lib.hid hnv; clear hnv
          rcases j with _ | m
          · obtain ⟨b, o, KB, kb, KL, kl, KF, kf, hA, -, r0, r1, r2, r3, r4, r5, r6, r7, hbl2⟩ := HIN.out.get 0 hlt
            subst hA
            simp only [Nat.zero_mul, Nat.add_zero] at r0 r1 r2 r3 r4 r5 r6 r7
            go_wp2_with fail
            refine wp_region_ord (List.range 28) (fun i => [Kd.p, Kd.l, Kd.p, Kd.p, Kd.p, Kd.l, Kd.e, Kd.p, Kd.p, Kd.p, Kd.p, Kd.p, Kd.p, Kd.l, Kd.p, Kd.p, Kd.p, Kd.l, Kd.p, Kd.l, Kd.p, Kd.p, Kd.p, Kd.p, Kd.l, Kd.p, Kd.p, Kd.p].getD i .e) (by kernel_rfl) (by kernel_rfl) ?_
            iterate 6
              first | (refine wpX_un rfl rfl ?_; go_simp) | first | refine wpX_pu rfl rfl rfl (by first | exact pu_move rfl | exact pu_assign rfl | exact pu_nilCheck rfl rfl | exact pu_binInt rfl rfl rfl | exact pu_conv rfl rfl (by kernel_rfl) | exact pu_fld rfl (by kernel_rfl) | exact pu_ix rfl rfl rfl (by kernel_rfl) | exact pu_unOp rfl | exact pu_binStr rfl rfl rfl | exact pu_len rfl rfl | exact pu_lens rfl rfl | exact pu_pick rfl | exact pu_slice rfl rfl) (fun K hK => ?_) | refine wpX_rd rfl rfl rfl (rd_load rfl) (fun K hK => ?_) | refine wpX_gr rfl rfl rfl (by first | exact gr_buildSlice rfl | exact gr_box rfl | exact gr_alloc rfl) (fun K hK => ?_) | refine wpX_ex rfl rfl rfl (fun K hK => ?_)
              try go_wp2
            refine wpX_ex rfl rfl rfl (fun K hK => ?_)
            go_wp2_with fail
            refine (name3_any _ x.f[0].1 (HX.out.node.n _ (List.getElem_mem _))).mono ?_
            rintro e w3 ⟨rfl, hw⟩
            subst w3
            rw [HNV.out]
            go_wp2_with fail
            iterate 21
              first | (refine wpX_un rfl rfl ?_; go_simp) | first | refine wpX_pu rfl rfl rfl (by first | exact pu_move rfl | exact pu_assign rfl | exact pu_nilCheck rfl rfl | exact pu_binInt rfl rfl rfl | exact pu_conv rfl rfl (by kernel_rfl) | exact pu_fld rfl (by kernel_rfl) | exact pu_ix rfl rfl rfl (by kernel_rfl) | exact pu_unOp rfl | exact pu_binStr rfl rfl rfl | exact pu_len rfl rfl | exact pu_lens rfl rfl | exact pu_pick rfl | exact pu_slice rfl rfl) (fun K hK => ?_) | refine wpX_rd rfl rfl rfl (rd_load rfl) (fun K hK => ?_) | refine wpX_gr rfl rfl rfl (by first | exact gr_buildSlice rfl | exact gr_box rfl | exact gr_alloc rfl) (fun K hK => ?_) | refine wpX_ex rfl rfl rfl (fun K hK => ?_)
              try go_wp2
            refine wpX_done ?_
            go_wp2
            go_roundw
            case rel => exact ⟨0 + 1, by omega, by first | rfl | go_num, HF.out.trans (by (repeat first | exact Fr.refl _ _ | exact Fr.drewN _ _ _ | apply Fr.drew | apply Fr.alloc | apply Fr.setAt | apply Fr.moreN)) (fun _ _ h => h), fun k hk hlt2 => by
                by_cases h : k < 0
                · exact HNA.out k hk h
                · obtain rfl : k = 0 := by omega
                  exact HNV.out, fun k hk h => by omega⟩
            case measure => simp [intOf]; omega
          · obtain ⟨b, o, KB, kb, KL, kl, KF, kf, hA, -, r0, r1, r2, r3, r4, r5, r6, r7, hbl2⟩ := HIN.out.get (m + 1) hlt
            subst hA
            obtain ⟨b', o', hA2, s0, hsl⟩ := InF.at HIN.out.sl m (by omega)
            simp only [Option.some.injEq, Addr.mk.injEq, and_true] at hA2
            obtain ⟨rfl, rfl⟩ := hA2
            have gg : decide ((0 : Int) < (m : Int) + 1) = true := decide_eq_true (by omega)
            have gg2 : decide (0 < m + 1) = true := by simp
            clear r1 r2 r3 r4 r5 r6 r7
            by_cases hc : cb x.f[m + 1].1 x.f[m].1 ≤ 0
            · have le8 : decide (cb x.f[m + 1].1 x.f[m].1 ≤ 0) = true := decide_eq_true hc
              have lb8 : (Op.bytesLess x.f[m + 1].1 x.f[m].1 || x.f[m + 1].1 == x.f[m].1) = true := by rw [leq_cb]; exact le8
              have HCC := Lib.hid hc; clear hc
              go_wp2_with fail
              refine wp_region_ord (List.range 28) (fun i => [Kd.p, Kd.l, Kd.p, Kd.p, Kd.p, Kd.l, Kd.e, Kd.p, Kd.p, Kd.p, Kd.p, Kd.p, Kd.p, Kd.l, Kd.p, Kd.p, Kd.p, Kd.l, Kd.p, Kd.l, Kd.p, Kd.p, Kd.p, Kd.p, Kd.l, Kd.p, Kd.p, Kd.p].getD i .e) (by kernel_rfl) (by kernel_rfl) ?_
              iterate 6
                first | (refine wpX_un rfl rfl ?_; go_simp) | first | refine wpX_pu rfl rfl rfl (by first | exact pu_move rfl | exact pu_assign rfl | exact pu_nilCheck rfl rfl | exact pu_binInt rfl rfl rfl | exact pu_conv rfl rfl (by kernel_rfl) | exact pu_fld rfl (by kernel_rfl) | exact pu_ix rfl rfl rfl (by kernel_rfl) | exact pu_unOp rfl | exact pu_binStr rfl rfl rfl | exact pu_len rfl rfl | exact pu_lens rfl rfl | exact pu_pick rfl | exact pu_slice rfl rfl) (fun K hK => ?_) | refine wpX_rd rfl rfl rfl (rd_load rfl) (fun K hK => ?_) | refine wpX_gr rfl rfl rfl (by first | exact gr_buildSlice rfl | exact gr_box rfl | exact gr_alloc rfl) (fun K hK => ?_) | refine wpX_ex rfl rfl rfl (fun K hK => ?_)
                try go_wp2
              refine wpX_ex rfl rfl rfl (fun K hK => ?_)
              go_wp2_with fail
              refine (name3_any _ x.f[m + 1].1 (HX.out.node.n _ (List.getElem_mem _))).mono ?_
              rintro e w3 ⟨rfl, hw⟩
              subst w3
              rw [HNV.out]
              go_wp2_with fail
              iterate 21
                first | (refine wpX_un rfl rfl ?_; go_simp) | first | refine wpX_pu rfl rfl rfl (by first | exact pu_move rfl | exact pu_assign rfl | exact pu_nilCheck rfl rfl | exact pu_binInt rfl rfl rfl | exact pu_conv rfl rfl (by kernel_rfl) | exact pu_fld rfl (by kernel_rfl) | exact pu_ix rfl rfl rfl (by kernel_rfl) | exact pu_unOp rfl | exact pu_binStr rfl rfl rfl | exact pu_len rfl rfl | exact pu_lens rfl rfl | exact pu_pick rfl | exact pu_slice rfl rfl) (fun K hK => ?_) | refine wpX_rd rfl rfl rfl (rd_load rfl) (fun K hK => ?_) | refine wpX_gr rfl rfl rfl (by first | exact gr_buildSlice rfl | exact gr_box rfl | exact gr_alloc rfl) (fun K hK => ?_) | refine wpX_ex rfl rfl rfl (fun K hK => ?_)
                try go_wp2
              refine wpX_done ?_
              go_wp2_with fail
              go_ret
              refine ⟨?_, F1.out.trans (HF.out.trans (by (repeat first | exact Fr.refl _ _ | exact Fr.drewN _ _ _ | apply Fr.drew | apply Fr.alloc | apply Fr.setAt | apply Fr.moreN)) (fun _ _ h => h)) (fun _ _ h => h)⟩
              have hz : cnt7 x R = 30 := if_neg (fun h => by
                have h2 := ((rises_iff none x.f).1 h).2.2 m hlt
                have h3 := HCC.out
                rw [cb_swap] at h2
                omega)
              rw [hz]
              rfl
            · have le8 : decide (cb x.f[m + 1].1 x.f[m].1 ≤ 0) = false := decide_eq_false hc
              have lb8 : (Op.bytesLess x.f[m + 1].1 x.f[m].1 || x.f[m + 1].1 == x.f[m].1) = false := by rw [leq_cb]; exact le8
              have HCC := Lib.hid hc; clear hc
              go_wp2_with fail
              refine wp_region_ord (List.range 28) (fun i => [Kd.p, Kd.l, Kd.p, Kd.p, Kd.p, Kd.l, Kd.e, Kd.p, Kd.p, Kd.p, Kd.p, Kd.p, Kd.p, Kd.l, Kd.p, Kd.p, Kd.p, Kd.l, Kd.p, Kd.l, Kd.p, Kd.p, Kd.p, Kd.p, Kd.l, Kd.p, Kd.p, Kd.p].getD i .e) (by kernel_rfl) (by kernel_rfl) ?_
              iterate 6
                first | (refine wpX_un rfl rfl ?_; go_simp) | first | refine wpX_pu rfl rfl rfl (by first | exact pu_move rfl | exact pu_assign rfl | exact pu_nilCheck rfl rfl | exact pu_binInt rfl rfl rfl | exact pu_conv rfl rfl (by kernel_rfl) | exact pu_fld rfl (by kernel_rfl) | exact pu_ix rfl rfl rfl (by kernel_rfl) | exact pu_unOp rfl | exact pu_binStr rfl rfl rfl | exact pu_len rfl rfl | exact pu_lens rfl rfl | exact pu_pick rfl | exact pu_slice rfl rfl) (fun K hK => ?_) | refine wpX_rd rfl rfl rfl (rd_load rfl) (fun K hK => ?_) | refine wpX_gr rfl rfl rfl (by first | exact gr_buildSlice rfl | exact gr_box rfl | exact gr_alloc rfl) (fun K hK => ?_) | refine wpX_ex rfl rfl rfl (fun K hK => ?_)
                try go_wp2
              refine wpX_ex rfl rfl rfl (fun K hK => ?_)
              go_wp2_with fail
              refine (name3_any _ x.f[m + 1].1 (HX.out.node.n _ (List.getElem_mem _))).mono ?_
              rintro e w3 ⟨rfl, hw⟩
              subst w3
              rw [HNV.out]
              go_wp2_with fail
              iterate 21
                first | (refine wpX_un rfl rfl ?_; go_simp) | first | refine wpX_pu rfl rfl rfl (by first | exact pu_move rfl | exact pu_assign rfl | exact pu_nilCheck rfl rfl | exact pu_binInt rfl rfl rfl | exact pu_conv rfl rfl (by kernel_rfl) | exact pu_fld rfl (by kernel_rfl) | exact pu_ix rfl rfl rfl (by kernel_rfl) | exact pu_unOp rfl | exact pu_binStr rfl rfl rfl | exact pu_len rfl rfl | exact pu_lens rfl rfl | exact pu_pick rfl | exact pu_slice rfl rfl) (fun K hK => ?_) | refine wpX_rd rfl rfl rfl (rd_load rfl) (fun K hK => ?_) | refine wpX_gr rfl rfl rfl (by first | exact gr_buildSlice rfl | exact gr_box rfl | exact gr_alloc rfl) (fun K hK => ?_) | refine wpX_ex rfl rfl rfl (fun K hK => ?_)
                try go_wp2
              refine wpX_done ?_
              go_wp2
              go_roundw
              case rel => exact ⟨(m + 1) + 1, by omega, by first | rfl | go_num, HF.out.trans (by (repeat first | exact Fr.refl _ _ | exact Fr.drewN _ _ _ | apply Fr.drew | apply Fr.alloc | apply Fr.setAt | apply Fr.moreN)) (fun _ _ h => h), fun k hk hlt2 => by
                  by_cases h : k < m + 1
                  · exact HNA.out k hk h
                  · obtain rfl : k = m + 1 := by omega
                    exact HNV.out, last_step (hm := hlt) HRI.out (by have h3 := HCC.out; omega)⟩
              case measure => simp [intOf]; omega
      · obtain rfl : j = x.f.length := by omega
        have hri2 : risesF none x.f = true := (rises_iff none x.f).2 ⟨fun k hk => HNA.out k hk hk, (fun q h => by cases h), fun k hk => HRI.out k hk hk⟩
        have q3 := cell_of_row wr w.heap.size 3 _ _ (0, 0) hb0
        have q4 := cell_of_row wr w.heap.size 4 _ _ (0, 0) hb0
        have q6 := cell_of_row wr w.heap.size 6 _ _ (0, 0) hb0
        simp only [List.getElem?_toArray, List.getElem?_cons_succ, List.getElem?_cons_zero] at q3 q4 q6
        have hz : cnt7 x R = cnt3 R 0 := if_pos hri2
        have HZ := Lib.hid hz
        have FX := Lib.hid (F1.out.trans HF.out (fun _ _ h => h))
        clear hri2 hz hlt hj hb0
        go_wp2_with fail
        refine (HRU.out _ FX.out).mono ?_
        rintro e w7 ⟨rfl, hw⟩
        subst w7
        go_wp2
        all_goals (go_ret; exact ⟨by first | (rw [HZ.out, R1.out (by omega)]; rfl) | (rw [HZ.out, R2.out (by omega) (by omega)]; rfl) | (rw [HZ.out, R3.out (by omega) (by omega)]; rfl), FX.out.trans (by (repeat first | exact Fr.refl _ _ | exact Fr.drewN _ _ _ | apply Fr.drew | apply Fr.alloc | apply Fr.setAt | apply Fr.moreN)) (fun _ _ h => h)⟩))

theorem own3_any : Own3 := by
  intro x w hx
  obtain ⟨BA, bc, LA, lc, FA, fc, hf⟩ := hx.node.forms
  have hru : ∀ T : List UInt8, x.t = T → ∀ W, Fr no w W → Calls Tryz.prog 114 #[.string ⟨T.toArray⟩] W fun e w' => e = .returned (.int .i64 (runesV T)) ∧ w' = W := fun T h W _ => by
    subst h
    exact runes3_any W x.t hx.node.t
  have hgood : shapeV x = true → own x = (if risesF none x.f = true then cnt3 (runesV x.t) x.bs.length else 30) := fun h => by
    unfold own cnt3 runesV
    rw [if_neg (by rw [h]; exact Bool.noConfusion)]
    cases risesF none x.f with
    | false => rfl
    | true =>
      cases hv : Lib.validD x.t with
      | false => rfl
      | true =>
        by_cases hP : 1000 < Lib.runeCountL x.t ∨ 4000 < x.bs.length
        · simp only [if_pos hP, Bool.true_eq_false, if_false, if_true]
          rw [if_neg (by omega), if_pos (by omega)]
        · simp only [if_neg hP, Bool.true_eq_false, if_false, if_true]
          rw [if_neg (by omega), if_neg (by omega)]
  have hbad : ¬ shapeV x = true → own x = 30 := fun h => by unfold own; rw [if_pos (by simpa using h)]
  have hnbs : x.bs.length ≤ 140737488351232 := hx.node.bs
  rw [hf.agg]
  by_cases hs : shapeV x = true
  rotate_left
  · rw [hbad hs]
    by_cases hk : x.k.toNat < 1 ∨ 7 < x.k.toNat
    · exact own3_bo w x.k.toNat x.b x.i x.t (by omega)
    have hlz : ∀ {α : Type} {l : List α}, l.length = 0 → l = [] := fun h => List.eq_nil_of_length_eq_zero h
    have e : x.k.toNat = 1 ∨ x.k.toNat = 2 ∨ x.k.toNat = 3 ∨ x.k.toNat = 4 ∨ x.k.toNat = 5 ∨ x.k.toNat = 6 ∨ x.k.toNat = 7 := by omega
    have hkk : ∀ n : UInt8, x.k.toNat = n.toNat → x.k = n := fun n h => UInt8.toNat_inj.1 h
    rcases e with e | e | e | e | e | e | e
    · have hk1 := hkk 1 e
      rw [e]
      exact own3_b1 w x.b x.i x.t (fun ⟨h1, h2, h3, h4, h5, h6⟩ => hs (by unfold shapeV; simp [hk1, h1, h2, h3, hlz h4, hlz h5, hlz h6]))
    · have hk1 := hkk 2 e
      rw [e]
      exact own3_b2 w x.b x.i x.t (fun ⟨h2, h3, h4, h5, h6⟩ => hs (by unfold shapeV; simp [hk1, h2, h3, hlz h4, hlz h5, hlz h6]))
    · have hk1 := hkk 3 e
      rw [e]
      exact own3_b3 w x.b x.i x.t (fun ⟨h1, h3, h4, h5, h6⟩ => hs (by unfold shapeV; simp [hk1, h1, h3, hlz h4, hlz h5, hlz h6]))
    · have hk1 := hkk 4 e
      rw [e]
      exact own3_b4 w x.b x.i x.t (fun ⟨h1, h2, h4, h5, h6⟩ => hs (by unfold shapeV; simp [hk1, h1, h2, hlz h4, hlz h5, hlz h6]))
    · have hk1 := hkk 5 e
      rw [e]
      exact own3_b5 w x.b x.i x.t (fun ⟨h1, h2, h3, h5, h6⟩ => hs (by unfold shapeV; simp [hk1, h1, h2, h3, hlz h5, hlz h6]))
    · have hk1 := hkk 6 e
      rw [e]
      exact own3_b6 w x.b x.i x.t (fun ⟨h1, h2, h3, h4, h6⟩ => hs (by unfold shapeV; simp [hk1, h1, h2, h3, hlz h4, hlz h6]))
    · have hk1 := hkk 7 e
      rw [e]
      exact own3_b7 w x.b x.i x.t (fun ⟨h1, h2, h3, h4, h5⟩ => hs (by unfold shapeV; simp [hk1, h1, h2, h3, hlz h4, hlz h5]))
  · obtain ⟨⟨hk1, hk2⟩, s2, s3, s4, s5, s6, s7⟩ := shape_parts hs
    have h1 := UInt8.le_iff_toNat_le.1 hk1
    have h2 := UInt8.le_iff_toNat_le.1 hk2
    have e : x.k.toNat = 1 ∨ x.k.toNat = 2 ∨ x.k.toNat = 3 ∨ x.k.toNat = 4 ∨ x.k.toNat = 5 ∨ x.k.toNat = 6 ∨ x.k.toNat = 7 := by
      simp at h1 h2; omega
    have hkk : ∀ n : UInt8, x.k.toNat = n.toNat → x.k = n := fun n h => UInt8.toNat_inj.1 h
    have hne : ∀ n m : UInt8, x.k = n → n ≠ m → x.k ≠ m := fun n m h h2 h3 => h2 (h.symm.trans h3)
    have hrn : risesF none ([] : List (List UInt8 × Tr Mm)) = true := rfl
    rw [hgood hs]
    clear hgood hbad hk1 hk2 h1 h2
    rcases e with e | e | e | e | e | e | e
    · have hk := hkk 1 e
      rw [e, s2 (hne 1 2 hk (by decide)), s3 (hne 1 3 hk (by decide)), s5 (hne 1 5 hk (by decide)), s6 (hne 1 6 hk (by decide)), s7 (hne 1 7 hk (by decide)), if_pos hrn, s4 (hne 1 4 hk (by decide))]
      exact own3_g1 w (runesV []) (hru [] (s4 (hne 1 4 hk (by decide))))
    · have hk := hkk 2 e
      rw [e, s3 (hne 2 3 hk (by decide)), s5 (hne 2 5 hk (by decide)), s6 (hne 2 6 hk (by decide)), s7 (hne 2 7 hk (by decide)), if_pos hrn, s4 (hne 2 4 hk (by decide))]
      exact own3_g2 w x.b (runesV []) (hru [] (s4 (hne 2 4 hk (by decide))))
    · have hk := hkk 3 e
      rw [e, s2 (hne 3 2 hk (by decide)), s5 (hne 3 5 hk (by decide)), s6 (hne 3 6 hk (by decide)), s7 (hne 3 7 hk (by decide)), if_pos hrn, s4 (hne 3 4 hk (by decide))]
      exact own3_g3 w x.i (runesV []) (hru [] (s4 (hne 3 4 hk (by decide))))
    · have hk := hkk 4 e
      rw [e, s2 (hne 4 2 hk (by decide)), s3 (hne 4 3 hk (by decide)), s5 (hne 4 5 hk (by decide)), s6 (hne 4 6 hk (by decide)), s7 (hne 4 7 hk (by decide)), if_pos hrn]
      exact own3_g4 w ⟨x.t.toArray⟩ (runesV x.t) (hru x.t rfl)
    · have hk := hkk 5 e
      rw [e, s2 (hne 5 2 hk (by decide)), s3 (hne 5 3 hk (by decide)), s6 (hne 5 6 hk (by decide)), s7 (hne 5 7 hk (by decide)), if_pos hrn, s4 (hne 5 4 hk (by decide))]
      exact own3_g5 w hnbs (runesV []) (hru [] (s4 (hne 5 4 hk (by decide))))
    · have hk := hkk 6 e
      rw [e, s2 (hne 6 2 hk (by decide)), s3 (hne 6 3 hk (by decide)), s5 (hne 6 5 hk (by decide)), s7 (hne 6 7 hk (by decide)), if_pos hrn, s4 (hne 6 4 hk (by decide))]
      exact own3_g6 w (runesV []) (hru [] (s4 (hne 6 4 hk (by decide))))
    · have hk := hkk 7 e
      by_cases hf0 : x.f = []
      · rw [e, s2 (hne 7 2 hk (by decide)), s3 (hne 7 3 hk (by decide)), s5 (hne 7 5 hk (by decide)), s6 (hne 7 6 hk (by decide)), hf0, if_pos hrn, s4 (hne 7 4 hk (by decide))]
        exact own3_g7e w (runesV []) (hru [] (s4 (hne 7 4 hk (by decide))))
      · rw [e, s2 (hne 7 2 hk (by decide)), s3 (hne 7 3 hk (by decide)), s5 (hne 7 5 hk (by decide)), s6 (hne 7 6 hk (by decide)), s4 (hne 7 4 hk (by decide))]
        exact own3_g7 w x hf hx (List.length_pos_iff.2 hf0) (runesV []) (hru [] (s4 (hne 7 4 hk (by decide))))
end Go.Proofs.YtgcicljklejmjaaGreatDoor

/- codicilref04.Cmp: the order of tuples. -/
namespace Go.Proofs.YtgcicljklejmjaaGreatDoor
open Go.RowKit Go.Shelf
open Tr

theorem cmpL_range (l : List (Tr Mm)) : ∀ (k : List (Tr Mm)), (∀ x ∈ l, ∀ y : Tr Mm, -1 ≤ cmp x y ∧ cmp x y ≤ 1) → -1 ≤ cmpL l k ∧ cmpL l k ≤ 1 := by
  induction l with
  | nil => intro k _; cases k <;> (rw [cmpL]; omega)
  | cons x l ih =>
    intro k h
    cases k with
    | nil => rw [cmpL]; omega
    | cons y k =>
      rw [cmpL]
      split
      · exact h x (.head _) y
      · exact ih k (fun z hz => h z (.tail _ hz))
theorem cmpF_range (l : List (List UInt8 × Tr Mm)) : ∀ (k : List (List UInt8 × Tr Mm)), (∀ p ∈ l, ∀ y : Tr Mm, -1 ≤ cmp p.2 y ∧ cmp p.2 y ≤ 1) → -1 ≤ cmpF l k ∧ cmpF l k ≤ 1 := by
  induction l with
  | nil => intro k _; cases k <;> (rw [cmpF]; omega)
  | cons p l ih =>
    intro k h
    obtain ⟨n, x⟩ := p
    cases k with
    | nil => rw [cmpF]; omega
    | cons q k =>
      obtain ⟨m, y⟩ := q
      rw [cmpF]
      split
      · have := cb_range n m; omega
      · split
        · exact h (n, x) (.head _) y
        · exact ih k (fun z hz => h z (.tail _ hz))
theorem cmp_range (x : Tr Mm) : ∀ y : Tr Mm, -1 ≤ cmp x y ∧ cmp x y ≤ 1 := by
  induction x using Tr.ind with
  | h x ih =>
    intro y
    have hL := cmpL_range x.l y.l (fun z hz => ih z (List.mem_append_left _ hz))
    have hF := cmpF_range x.f y.f (fun p hp => ih p.2 (List.mem_append_right _ (List.mem_map_of_mem hp)))
    have h1 := cb_range x.t y.t
    have h2 := cb_range x.bs y.bs
    rw [cmp]
    repeat' split
    all_goals omega

set_option maxRecDepth 100000 in
set_option maxHeartbeats 400000 in
theorem falls4_any (w : World) (D : Value) (dl : List Bool) (i : Nat) (hd : Sl w 1 D dl.length (bls dl)) (hn : dl.length ≤ reachBytes) :
    Calls Tryz.prog 39 #[D, .int .i64 (i : Int)] w fun e w' => e = .returned (.bool (fallsB dl i)) ∧ w' = w := by
  obtain ⟨A, c, rfl, hc1, hc2⟩ := hd.form
  have hn : dl.length ≤ 140737488351232 := hn
  by_cases h : i < dl.length
  · obtain ⟨b, o, rfl, h1⟩ := bls_at hd i h
    have he : fallsB dl i = dl[i] := by unfold fallsB; simp [h]
    rw [he]
    have HD := Lib.hid hd; clear hd he
    go_enter Tryz.func39, Tryz.ntmps39
    go_wp2
    go_ret
    exact ⟨rfl, rfl⟩
  · have he : fallsB dl i = false := by unfold fallsB; simp [List.getElem?_eq_none (Nat.le_of_not_lt h)]
    rw [he]
    have HD := Lib.hid hd; clear hd he
    go_enter Tryz.func39, Tryz.ntmps39
    go_wp2
    go_ret
    exact ⟨rfl, rfl⟩

theorem cmpT_step (d : Nat → Bool) {l k : List (Tr Mm)} {j : Nat} (h1 : j < l.length) (h2 : j < k.length) : cmpT d j (l.drop j) (k.drop j) = if cmp l[j] k[j] ≠ 0 then (if d j then - cmp l[j] k[j] else cmp l[j] k[j]) else cmpT d (j + 1) (l.drop (j + 1)) (k.drop (j + 1)) := by
  rw [List.drop_eq_getElem_cons h1, List.drop_eq_getElem_cons h2, cmpT]
theorem cmpT_end (d : Nat → Bool) {l k : List (Tr Mm)} {j : Nat} (h1 : j ≤ l.length) (h2 : j ≤ k.length) (h : j = l.length ∨ j = k.length) : cmpT d j (l.drop j) (k.drop j) = numC l.length k.length := by
  have hl : (l.drop j).length = l.length - j := List.length_drop
  have hk : (k.drop j).length = k.length - j := List.length_drop
  unfold numC
  match e1 : l.drop j, e2 : k.drop j with
  | [], [] => rw [e1] at hl; rw [e2] at hk; simp only [List.length_nil] at hl hk; rw [cmpT, if_neg (by omega), if_neg (by omega)]
  | [], _ :: _ => rw [e1] at hl; rw [e2] at hk; simp only [List.length_nil, List.length_cons] at hl hk; rw [cmpT, if_pos (by omega)]
  | _ :: _, [] => rw [e1] at hl; rw [e2] at hk; simp only [List.length_nil, List.length_cons] at hl hk; rw [cmpT, if_neg (by omega), if_pos (by omega)]
  | _ :: _, _ :: _ => rw [e1] at hl; rw [e2] at hk; simp only [List.length_cons] at hl hk; omega

set_option maxRecDepth 100000 in
set_option maxHeartbeats 4000000 in
theorem cmp4_any (w : World) (X Y D : Value) (l k : List (Tr Mm)) (dl : List Bool) (hx : In w X l) (hy : In w Y k) (hd : Sl w 1 D dl.length (bls dl)) (hdn : dl.length ≤ reachBytes) :
    Calls Tryz.prog 23 #[X, Y, D] w fun e w' => e = .returned (.int .i64 (cmpT (fallsB dl) 0 l k)) ∧ Fr no w w' := by
  obtain ⟨A, c, rfl, _, _⟩ := hx.sl.form
  obtain ⟨B, bc, rfl, _, _⟩ := hy.sl.form
  obtain ⟨DA, dc, rfl, _, _⟩ := hd.form
  have hnl : l.length ≤ 140737488351232 := hx.n
  have hnk : k.length ≤ 140737488351232 := hy.n
  have HX := Lib.hid hx; have HY := Lib.hid hy; have HD := Lib.hid hd; have HDN := Lib.hid hdn
  clear hx hy hd hdn
  go_enter Tryz.func23, Tryz.ntmps23
  go_wp2
  go_loopw [7] (fun iv wr => ∃ j : Nat, j ≤ l.length ∧ j ≤ k.length ∧ iv = .int .i64 j ∧ Fr no w wr ∧ cmpT (fallsB dl) 0 l k = cmpT (fallsB dl) j (l.drop j) (k.drop j)) (fun iv _ => l.length - (intOf iv).toNat)
  case atStart => exact ⟨0, Nat.zero_le _, Nat.zero_le _, rfl, Fr.refl _ _, rfl⟩
  case round =>
    obtain ⟨j, hj, hj2, rfl, hfr, hcm⟩ := hrel
    have FR := Lib.hid hfr; have HCM := Lib.hid hcm
    clear hfr hcm
    by_cases hlt : j < l.length ∧ j < k.length
    · obtain ⟨hlt, hlt2⟩ := hlt
      have h1 := HX.out.kept0 FR.out
      have h2 := HY.out.kept0 FR.out
      obtain ⟨xb, xo, KB, kb, KL, kl, KF, kf, rfl, hfj, a0, a1, a2, a3, a4, a5, a6, hgl⟩ := In.get h1 j hlt
      obtain ⟨yb, yo, MB, mb, ML, ml, MF, mf, rfl, hgj, b0, b1, b2, b3, b4, b5, b6, hgm⟩ := In.get h2 j hlt2
      have hcall := fun W (f : Fr no wr W) => cmp_any l[j] k[j] W ((h1.good _ (List.getElem_mem _)).kept0 f) ((h2.good _ (List.getElem_mem _)).kept0 f)
      have hrg := cmp_range l[j] k[j]
      rw [hfj.agg, hgj.agg] at hcall
      have hst := cmpT_step (fallsB dl) hlt hlt2
      have hneg : IntKind.i64.wrap (- cmp l[j] k[j]) = - cmp l[j] k[j] := IntWalk.i64_in _ ⟨by omega, by omega⟩
      have HC := Lib.hid hcall; have HST := Lib.hid hst
      clear hcall hst h1 h2 hfj hgj hrg
      go_wp2_with fail
      refine wp_region_ord (List.range 10) (fun i => [Kd.p, Kd.p, Kd.p, Kd.l, Kd.p, Kd.p, Kd.p, Kd.l, Kd.g, Kd.p].getD i .e) (by kernel_rfl) (by kernel_rfl) ?_
      iterate 8
        first | refine wpX_pu rfl rfl rfl (by first | exact pu_move rfl | exact pu_assign rfl | exact pu_nilCheck rfl rfl | exact pu_binInt rfl rfl rfl | exact pu_conv rfl rfl (by kernel_rfl) | exact pu_fld rfl (by kernel_rfl) | exact pu_ix rfl rfl rfl (by kernel_rfl) | exact pu_unOp rfl | exact pu_binStr rfl rfl rfl | exact pu_len rfl rfl | exact pu_lens rfl rfl | exact pu_pick rfl | exact pu_slice rfl rfl) (fun K hK => ?_) | refine wpX_rd rfl rfl rfl (rd_load rfl) (fun K hK => ?_) | refine wpX_gr rfl rfl rfl (by first | exact gr_buildSlice rfl | exact gr_box rfl | exact gr_alloc rfl) (fun K hK => ?_) | refine wpX_ex rfl rfl rfl (fun K hK => ?_)
        try go_wp2
      refine wpX_ca rfl rfl rfl (fun K hK => ?_)
      go_wp2_with fail
      refine (HC.out _ (by (repeat first | exact Fr.refl _ _ | exact Fr.drewN _ _ _ | apply Fr.drew | apply Fr.alloc | apply Fr.setAt | apply Fr.moreN))).mono ?_
      rintro e w5 ⟨rfl, fy⟩
      have F50 := Lib.hid fy; have F5 := Lib.hid (FR.out.trans ((by (repeat first | exact Fr.refl _ _ | exact Fr.drewN _ _ _ | apply Fr.drew | apply Fr.alloc | apply Fr.setAt | apply Fr.moreN) : Fr no wr _).trans fy (fun _ _ h => h)) (fun _ _ h => h))
      clear fy
      by_cases hc : cmp l[j] k[j] = 0
      · have hst : cmpT (fallsB dl) 0 l k = cmpT (fallsB dl) (j + 1) (l.drop (j + 1)) (k.drop (j + 1)) := by rw [HCM.out, HST.out, if_neg (by simpa using hc)]
        have HS2 := Lib.hid hst
        rw [hc] at hneg ⊢
        clear hst hc hneg
        go_wp2
        obtain ⟨⟨ea, eb⟩, hext⟩ := F50.out.ext
        refine ⟨⟨ea, eb, hext⟩, hK _ _ ?_⟩
        clear hK K hext ea eb
        first | refine wpX_pu rfl rfl rfl (by first | exact pu_move rfl | exact pu_assign rfl | exact pu_nilCheck rfl rfl | exact pu_binInt rfl rfl rfl | exact pu_conv rfl rfl (by kernel_rfl) | exact pu_fld rfl (by kernel_rfl) | exact pu_ix rfl rfl rfl (by kernel_rfl) | exact pu_unOp rfl | exact pu_binStr rfl rfl rfl | exact pu_len rfl rfl | exact pu_lens rfl rfl | exact pu_pick rfl | exact pu_slice rfl rfl) (fun K hK => ?_) | refine wpX_rd rfl rfl rfl (rd_load rfl) (fun K hK => ?_) | refine wpX_gr rfl rfl rfl (by first | exact gr_buildSlice rfl | exact gr_box rfl | exact gr_alloc rfl) (fun K hK => ?_) | refine wpX_ex rfl rfl rfl (fun K hK => ?_)
        try go_wp2
        refine wpX_done ?_
        clear a0 a1 a2 a3 a4 a5 a6 b0 b1 b2 b3 b4 b5 b6 hgl hgm
        go_wp2
        go_roundw
        case rel => exact ⟨j + 1, by omega, by omega, by go_num, F5.out, HS2.out⟩
        case measure => simp [intOf]; omega
      · have hst : cmpT (fallsB dl) 0 l k = if fallsB dl j then - cmp l[j] k[j] else cmp l[j] k[j] := by rw [HCM.out, HST.out, if_pos hc]
        have gc : (cmp l[j] k[j] != 0) = true := by rw [bne_iff_ne]; exact hc
        have HS2 := Lib.hid hst
        clear hst hc
        go_wp2
        obtain ⟨⟨ea, eb⟩, hext⟩ := F50.out.ext
        refine ⟨⟨ea, eb, hext⟩, hK _ _ ?_⟩
        clear hK K hext ea eb
        first | refine wpX_pu rfl rfl rfl (by first | exact pu_move rfl | exact pu_assign rfl | exact pu_nilCheck rfl rfl | exact pu_binInt rfl rfl rfl | exact pu_conv rfl rfl (by kernel_rfl) | exact pu_fld rfl (by kernel_rfl) | exact pu_ix rfl rfl rfl (by kernel_rfl) | exact pu_unOp rfl | exact pu_binStr rfl rfl rfl | exact pu_len rfl rfl | exact pu_lens rfl rfl | exact pu_pick rfl | exact pu_slice rfl rfl) (fun K hK => ?_) | refine wpX_rd rfl rfl rfl (rd_load rfl) (fun K hK => ?_) | refine wpX_gr rfl rfl rfl (by first | exact gr_buildSlice rfl | exact gr_box rfl | exact gr_alloc rfl) (fun K hK => ?_) | refine wpX_ex rfl rfl rfl (fun K hK => ?_)
        try go_wp2
        refine wpX_done ?_
        clear a0 a1 a2 a3 a4 a5 a6 b0 b1 b2 b3 b4 b5 b6 hgl hgm
        go_wp2_with fail
        refine (falls4_any w5 _ dl j (HD.out.kept0 F5.out) HDN.out).mono ?_
        rintro e w6 ⟨rfl, hw⟩
        subst w6
        cases hf : fallsB dl j with
        | true =>
          rw [hf, if_pos rfl] at HS2
          go_wp2
          go_ret
          exact ⟨by rw [HS2.out]; rfl, F5.out⟩
        | false =>
          rw [hf, if_neg (by simp)] at HS2
          go_wp2
          go_ret
          exact ⟨by rw [HS2.out]; rfl, F5.out⟩
    · have hen := cmpT_end (fallsB dl) hj hj2 (by omega)
      have HEN := Lib.hid (HCM.out.trans hen)
      clear hen
      have hn : ∀ a b : Int, (a < b ∧ numC a b = -1) ∨ (¬ a < b ∧ b < a ∧ numC a b = 1) ∨ (¬ a < b ∧ ¬ b < a ∧ numC a b = 0) := fun a b => by
        unfold numC
        by_cases h1 : a < b
        · left; exact ⟨h1, if_pos h1⟩
        · by_cases h2 : b < a
          · right; left; exact ⟨h1, h2, by rw [if_neg h1, if_pos h2]⟩
          · right; right; exact ⟨h1, h2, by rw [if_neg h1, if_neg h2]⟩
      rcases hn l.length k.length with ⟨h1, h2⟩ | ⟨h1, h2, h3⟩ | ⟨h1, h2, h3⟩
      · have HV := Lib.hid (HEN.out.trans h2)
        have hA1 : ¬ (j < l.length ∧ j < k.length) := hlt
        have hA2 : ¬ j < l.length := by omega
        clear h2 hlt hA1 hn
        go_wp2
        go_ret
        exact ⟨by rw [HV.out]; rfl, FR.out⟩
      · have HV := Lib.hid (HEN.out.trans h3)
        have hA1 : j < l.length := by omega
        have hA2 : ¬ j < k.length := by omega
        clear h3 hlt hn
        go_wp2
        go_ret
        exact ⟨by rw [HV.out]; rfl, FR.out⟩
      · have HV := Lib.hid (HEN.out.trans h3)
        have hA2 : ¬ j < l.length := by omega
        clear h3 hlt hn
        go_wp2
        go_ret
        exact ⟨by rw [HV.out]; rfl, FR.out⟩

end Go.Proofs.YtgcicljklejmjaaGreatDoor

/- The document's bytes of keys: One, Encode. Printed by mkrf4d.py. -/
namespace Go.Proofs.YtgcicljklejmjaaGreatDoor
open Go.RowKit Go.Shelf
open Tr

theorem sum_le {α : Type} (f g : α → Nat) : ∀ l : List α, (∀ x ∈ l, f x ≤ g x) → (l.map f).sum ≤ (l.map g).sum
  | [], _ => Nat.le_refl _
  | x :: l, h => by
    simp only [List.map_cons, List.sum_cons]
    have := h x (.head _)
    have := sum_le f g l (fun x hx => h x (.tail _ hx))
    omega
theorem parts_wgt (x : Tr Mm) : parts x ≤ wgt x := by
  induction x using Tr.ind with
  | h x ih =>
    have e : parts x = 1 + ((x.l.map parts).sum + (x.f.map fun p => parts p.2).sum) := by
      have h2 : ∀ l : List (Tr Mm), (l.map fun a => (pre 2 a).length) = l.map parts := fun l => List.map_congr_left (fun y _ => pre_len 2 1 y)
      unfold parts
      rw [pre_eq, List.length_cons, List.length_flatMap, h2]
      unfold kids
      rw [List.map_append, List.sum_append, List.map_map]
      rw [Nat.add_comm]
      rfl
    rw [e, wgt_eq]
    have h1 := sum_le parts wgt x.l (fun y hy => ih y (List.mem_append_left _ hy))
    have h2 := sum_le (fun p : List UInt8 × Tr Mm => parts p.2) (fun p => p.1.length / 64 + wgt p.2) x.f (fun p hp => by have := ih p.2 (List.mem_append_right _ (List.mem_map_of_mem hp)); omega)
    unfold wgtL wgtF
    omega
theorem parts_wgtL {l : List (Tr Mm)} {x : Tr Mm} (hx : x ∈ l) : parts x ≤ wgtL l := by
  refine Nat.le_trans (parts_wgt x) ?_
  unfold wgtL
  induction l with
  | nil => cases hx
  | cons y l ih =>
    simp only [List.map_cons, List.sum_cons]
    cases hx with
    | head => omega
    | tail _ h => have := ih h; omega

/-- What the document's One says. -/
def One4 (x : Tr Mm) (down : Bool) (W : World) (e : Ending) (W' : World) : Prop :=
  Fr no W W' ∧ ((oneErr x = 0 ∧ ∃ A n c, e = .returned (.tuple #[.slice A n c, .int .i64 0]) ∧ NB W.heap.size W' A n c (encD down x))
    ∨ (oneErr x ≠ 0 ∧ e = .returned (.tuple #[.slice none 0 0, .int .i64 (oneErr x)])))

set_option maxRecDepth 100000 in
set_option maxHeartbeats 4000000 in
theorem one4_any (w : World) (x : Tr Mm) (down : Bool) (hx : Tr.Good w x) (hp : parts x ≤ 1000000) : Calls Tryz.prog 11 #[x.agg, .bool down] w fun e w' => One4 x down w e w' := by
  obtain ⟨BA, bc, LA, lc, FA, fc, hf⟩ := hx.node.forms
  have hch := fun W (f : Fr no w W) => check3_any own3_any x W (hx.kept0 f) hp
  have hag := hf.agg
  have hb0 := heap_alloc_new w (.cells #[.int .u8 x.k.toNat, .bool x.b, .int .i64 x.i, .string ⟨x.t.toArray⟩, .slice BA x.bs.length bc, .slice LA x.l.length lc, .slice FA x.f.length fc] 63)
  rw [hag] at hch ⊢
  have HCH := Lib.hid hch; have HX := Lib.hid hx; have HAG := Lib.hid hag; have HB0 := Lib.hid hb0
  clear hch hag hf hx hb0 hp
  go_enter Tryz.func11, Tryz.ntmps11
  go_wp2_with fail
  refine (HCH.out _ (by (repeat first | exact Fr.refl _ _ | exact Fr.drewN _ _ _ | apply Fr.drew | apply Fr.alloc | apply Fr.setAt | apply Fr.moreN))).mono ?_
  rintro e w1 ⟨rfl, f1⟩
  have hr1 := ((by (repeat first | exact Fr.refl _ _ | exact Fr.drewN _ _ _ | apply Fr.drew | apply Fr.alloc | apply Fr.setAt | apply Fr.moreN) : Fr no (w.alloc (.cells #[.int .u8 x.k.toNat, .bool x.b, .int .i64 x.i, .string ⟨x.t.toArray⟩, .slice BA x.bs.length bc, .slice LA x.l.length lc, .slice FA x.f.length fc] 63)) _).trans f1 (fun _ _ h => h)).heap HB0.out (fun h => h)
  have F1 := Lib.hid ((by (repeat first | exact Fr.refl _ _ | exact Fr.drewN _ _ _ | apply Fr.drew | apply Fr.alloc | apply Fr.setAt | apply Fr.moreN) : Fr no w _).trans f1 (fun _ _ h => h)); have HR1 := Lib.hid hr1
  clear f1 hr1
  by_cases hc : check x = 0
  rotate_left
  · have gc : ((check x : Int) != 0) = true := by rw [bne_iff_ne]; omega
    have he : oneErr x = 40 := if_pos hc
    have HE := Lib.hid he
    clear he hc
    go_wp2
    go_ret2
    exact ⟨F1.out, .inr ⟨by rw [HE.out]; omega, by rw [HE.out]; rfl⟩⟩
  have hca := (check_zero.1 hc).2.2
  have hsh : ∀ q ∈ pre 1 x, shapeV q.2 = true := fun q hq => own_shape (hca q hq)
  have hkd := fun W (f : Fr no w W) => keyed4_any x W (HX.out.kept0 f) hsh
  rw [HAG.out] at hkd
  rw [hc]
  have HC := Lib.hid hc; have HKD := Lib.hid hkd; have HCA := Lib.hid hca
  clear hca hsh hkd hc
  obtain ⟨q0, q1, q2, q3, q4, q5, q6, qz, ql⟩ := seven_cells HR1.out
  go_wp2_with fail
  refine (HKD.out _ (F1.out.trans (by (repeat first | exact Fr.refl _ _ | exact Fr.drewN _ _ _ | apply Fr.drew | apply Fr.alloc | apply Fr.setAt | apply Fr.moreN) : Fr no w1 _) (fun _ _ h => h))).mono ?_
  rintro e w2 ⟨rfl, f2⟩
  have F12 := Lib.hid ((by (repeat first | exact Fr.refl _ _ | exact Fr.drewN _ _ _ | apply Fr.drew | apply Fr.alloc | apply Fr.setAt | apply Fr.moreN) : Fr no w1 _).trans f2 (fun _ _ h => h))
  clear f2 q0 q1 q2 q3 q4 q5 q6 qz ql
  have F2 := Lib.hid (F1.out.trans F12.out (fun _ _ h => h)); have HR2 := Lib.hid (F12.out.heap HR1.out (fun h => h))
  cases hk : keyed x with
  | false =>
    have he : oneErr x = 41 := by unfold oneErr; rw [if_neg (by rw [HC.out]; omega), if_pos hk]
    have HE := Lib.hid he
    clear he hk
    go_wp2
    go_ret2
    exact ⟨F2.out, .inr ⟨by rw [HE.out]; omega, by rw [HE.out]; rfl⟩⟩
  | true =>
    have hka := (keyed_all x HCA.out hk (good_nums HX.out)).1
    have hle := enc_bound HC.out
    have hby := fun W (f : Fr no w W) => bytes4_any x W (HX.out.kept0 f) hka (by omega)
    rw [HAG.out] at hby
    have HBY := Lib.hid hby; have HK := Lib.hid hk; have HLE := Lib.hid hle
    clear hka hle hby hk
    obtain ⟨q0, q1, q2, q3, q4, q5, q6, qz, ql⟩ := seven_cells HR2.out
    go_wp2_with fail
    refine (HBY.out _ (F2.out.trans (by (repeat first | exact Fr.refl _ _ | exact Fr.drewN _ _ _ | apply Fr.drew | apply Fr.alloc | apply Fr.setAt | apply Fr.moreN) : Fr no w2 _) (fun _ _ h => h))).mono ?_
    rintro e w3 ⟨A3, n3, c3, rfl, hnb3, f3⟩
    have F3 := Lib.hid (F2.out.trans ((by (repeat first | exact Fr.refl _ _ | exact Fr.drewN _ _ _ | apply Fr.drew | apply Fr.alloc | apply Fr.setAt | apply Fr.moreN) : Fr no w2 _).trans f3 (fun _ _ h => h)) (fun _ _ h => h)); have HNB := Lib.hid hnb3
    have htu := turned4_any w3 (.slice A3 n3 c3) (enc x) down (by rw [← hnb3.len]; exact hnb3.ow.sl) (by have := HLE.out; omega)
    have HTU := Lib.hid htu
    clear f3 hnb3 htu q0 q1 q2 q3 q4 q5 q6 qz ql
    go_wp2_with fail
    refine HTU.out.mono ?_
    rintro e w4 ⟨A4, c4, rfl, hnb4, f4⟩
    have F4 := Lib.hid (F3.out.trans f4 (fun _ _ h => h))
    have hnb5 : NB w.heap.size w4 A4 (enc x).length c4 (encD down x) := ⟨hnb4.ow, by rw [encD_len], fun k hk => Nat.le_trans F3.out.size (hnb4.new k hk)⟩
    have HN5 := Lib.hid hnb5
    clear f4 hnb4 hnb5 HTU
    by_cases hlong : 160 < (enc x).length
    · have he : oneErr x = 42 := by unfold oneErr; rw [if_neg (by rw [HC.out]; omega), if_neg (by rw [HK.out]; exact Bool.noConfusion), if_pos hlong]
      have HE := Lib.hid he
      clear he
      go_wp2
      go_ret2
      exact ⟨F4.out, .inr ⟨by rw [HE.out]; omega, by rw [HE.out]; rfl⟩⟩
    · have he : oneErr x = 0 := by unfold oneErr; rw [if_neg (by rw [HC.out]; omega), if_neg (by rw [HK.out]; exact Bool.noConfusion), if_neg hlong]
      have HE := Lib.hid he
      clear he
      go_wp2
      go_ret2
      exact ⟨F4.out, .inl ⟨HE.out, A4, _, c4, rfl, HN5.out⟩⟩

/-- What the document's Encode says. -/
def Enc4 (dl : List Bool) (l : List (Tr Mm)) (w : World) (e : Ending) (w' : World) : Prop :=
  Fr no w w' ∧ ((tupErr l = 0 ∧ ∃ A n c, e = .returned (.tuple #[.slice A n c, .int .i64 0]) ∧ NB w.heap.size w' A n c (encT (fallsB dl) 0 l))
    ∨ (tupErr l ≠ 0 ∧ e = .returned (.tuple #[.slice none 0 0, .int .i64 (tupErr l)])))

set_option maxRecDepth 100000 in
set_option maxHeartbeats 4000000 in
theorem encode4_any (w : World) (X D : Value) (l : List (Tr Mm)) (dl : List Bool) (hx : In w X l) (hd : Sl w 1 D dl.length (bls dl)) (hdn : dl.length ≤ reachBytes) (hp : ∀ x ∈ l, parts x ≤ 1000000) :
    Calls Tryz.prog 15 #[X, D] w fun e w' => Enc4 dl l w e w' := by
  obtain ⟨A, c, rfl, hc1, hc2⟩ := hx.sl.form
  obtain ⟨DA, dc, rfl, hd1, hd2⟩ := hd.form
  have hnl : l.length ≤ 140737488351232 := hx.n
  have HX := Lib.hid hx; have HD := Lib.hid hd; have HDN := Lib.hid hdn; have HPA := Lib.hid hp
  clear hx hd hdn hp
  by_cases hn : l.length ≤ 4
  · go_enter Tryz.func15, Tryz.ntmps15
    go_wp2
    go_loopw [6, 7] (fun bv iv wr => ∃ (j n : Nat) (B : Option Addr) (bc : Nat), j ≤ l.length ∧ iv = .int .i64 j ∧ bv = .slice B n bc ∧ n = (encT (fallsB dl) 0 (l.take j)).length ∧ Ow wr 5 1 (.slice B n bc) n (bvs (encT (fallsB dl) 0 (l.take j))) ∧ (∀ k, Value.ownBlock (.slice B n bc) = some k → w.heap.size ≤ k) ∧ Fr no w wr ∧ (∀ i (hi : i < l.length), i < j → oneErr l[i] = 0)) (fun _ iv _ => l.length - (intOf iv).toNat)
    case atStart => exact ⟨0, 0, none, 0, Nat.zero_le _, rfl, rfl, by simp [encT], ⟨by simp [encT, bvs], .inl ⟨rfl, rfl⟩⟩, (fun _ h => nomatch h), Fr.refl _ _, fun i _ h => by omega⟩
    case round =>
      obtain ⟨j, n, B, bc, hj, rfl, rfl, hnn, how, hfs, hfr, h0⟩ := hrel
      have hnb : n ≤ 640 := by
        have := encT_le (fallsB dl) (l.take j) (fun x hx => by
          obtain ⟨i, hi, rfl⟩ := List.getElem_of_mem hx
          rw [List.getElem_take]
          rw [List.length_take] at hi
          exact h0 i (by omega) (by omega)) 0
        rw [List.length_take] at this
        omega
      by_cases hlt : j < l.length
      · have hX := HX.out.kept0 hfr
        obtain ⟨b, o, KB, kb, KL, kl, KF, kf, rfl, hfj, q0, q1, q2, q3, q4, q5, q6, hgl⟩ := In.get hX j hlt
        have hfal := fun W (f : Fr no w W) => falls4_any W (.slice DA dl.length dc) dl j (HD.out.kept0 f) HDN.out
        have hone := fun W (f : Fr no wr W) => one4_any W l[j] (fallsB dl j) ((hX.good _ (List.getElem_mem _)).kept0 f) (HPA.out _ (List.getElem_mem _))
        rw [hfj.agg] at hone
        have HFAL := Lib.hid hfal; have HONE := Lib.hid hone; have HFR := Lib.hid hfr; have HOW := Lib.hid how; have HFS := Lib.hid hfs; have H0 := Lib.hid h0; have HNN := Lib.hid hnn
        clear hfal hone hfr hX hfj how hfs h0 hnn
        go_wp2_with fail
        refine wp_region_ord (List.range 13) (fun i => [Kd.p, Kd.p, Kd.p, Kd.l, Kd.p, Kd.p, Kd.g, Kd.g, Kd.p, Kd.p, Kd.p, Kd.p, Kd.p].getD i .e) (by kernel_rfl) (by kernel_rfl) ?_
        iterate 6
          first | refine wpX_pu rfl rfl rfl (by first | exact pu_move rfl | exact pu_assign rfl | exact pu_nilCheck rfl rfl | exact pu_binInt rfl rfl rfl | exact pu_conv rfl rfl (by kernel_rfl) | exact pu_fld rfl (by kernel_rfl) | exact pu_ix rfl rfl rfl (by kernel_rfl) | exact pu_unOp rfl | exact pu_binStr rfl rfl rfl | exact pu_len rfl rfl | exact pu_lens rfl rfl | exact pu_pick rfl | exact pu_slice rfl rfl) (fun K hK => ?_) | refine wpX_rd rfl rfl rfl (rd_load rfl) (fun K hK => ?_) | refine wpX_gr rfl rfl rfl (by first | exact gr_buildSlice rfl | exact gr_box rfl | exact gr_alloc rfl) (fun K hK => ?_) | refine wpX_ex rfl rfl rfl (fun K hK => ?_)
          try go_wp2
        refine wpX_ca rfl rfl rfl (fun K hK => ?_)
        go_wp2_with fail
        refine (HFAL.out _ (HFR.out.trans (by (repeat first | exact Fr.refl _ _ | exact Fr.drewN _ _ _ | apply Fr.drew | apply Fr.alloc | apply Fr.setAt | apply Fr.moreN) : Fr no wr _) (fun _ _ h => h))).mono ?_
        rintro e w2 ⟨rfl, rfl⟩
        go_wp2
        refine ⟨⟨#[], _, (World.ext_self _).symm⟩, hK _ _ ?_⟩
        clear hK K
        refine wpX_ca rfl rfl rfl (fun K hK => ?_)
        go_wp2_with fail
        refine (HONE.out _ (by (repeat first | exact Fr.refl _ _ | exact Fr.drewN _ _ _ | apply Fr.drew | apply Fr.alloc | apply Fr.setAt | apply Fr.moreN))).mono ?_
        rintro e w5 ⟨f5, ⟨hoj, E, en, ec, rfl, hnbe⟩ | ⟨hne, rfl⟩⟩
        · have F50 := Lib.hid f5; have F5 := Lib.hid ((by (repeat first | exact Fr.refl _ _ | exact Fr.drewN _ _ _ | apply Fr.drew | apply Fr.alloc | apply Fr.setAt | apply Fr.moreN) : Fr no wr _).trans f5 (fun _ _ h => h)); have HOJ := Lib.hid hoj; have HEL := Lib.hid hnbe.len; have HOE := Lib.hid hnbe.ow
          have henl : en ≤ 160 := by rw [hnbe.len, encD_len]; exact (oneErr_zero.1 hoj).2.2
          clear f5 hoj hnbe
          go_wp2
          obtain ⟨⟨xa, xb⟩, hext⟩ := F50.out.ext
          refine ⟨⟨xa, xb, hext⟩, hK _ _ ?_⟩
          clear hK K hext xa xb
          first | refine wpX_pu rfl rfl rfl (by first | exact pu_move rfl | exact pu_assign rfl | exact pu_nilCheck rfl rfl | exact pu_binInt rfl rfl rfl | exact pu_conv rfl rfl (by kernel_rfl) | exact pu_fld rfl (by kernel_rfl) | exact pu_ix rfl rfl rfl (by kernel_rfl) | exact pu_unOp rfl | exact pu_binStr rfl rfl rfl | exact pu_len rfl rfl | exact pu_lens rfl rfl | exact pu_pick rfl | exact pu_slice rfl rfl) (fun K hK => ?_) | refine wpX_rd rfl rfl rfl (rd_load rfl) (fun K hK => ?_) | refine wpX_gr rfl rfl rfl (by first | exact gr_buildSlice rfl | exact gr_box rfl | exact gr_alloc rfl) (fun K hK => ?_) | refine wpX_ex rfl rfl rfl (fun K hK => ?_)
          try go_wp2
          refine wpX_pv (.slice E en ec) rfl rfl rfl (fun w' => by first | rfl | simp [execOp, Act.eval]) ?_
          refine wpX_pv (.int .i64 0) rfl rfl rfl (fun w' => by first | rfl | simp [execOp, Act.eval]) ?_
          go_simp
          iterate 2
            first | refine wpX_pu rfl rfl rfl (by first | exact pu_move rfl | exact pu_assign rfl | exact pu_nilCheck rfl rfl | exact pu_binInt rfl rfl rfl | exact pu_conv rfl rfl (by kernel_rfl) | exact pu_fld rfl (by kernel_rfl) | exact pu_ix rfl rfl rfl (by kernel_rfl) | exact pu_unOp rfl | exact pu_binStr rfl rfl rfl | exact pu_len rfl rfl | exact pu_lens rfl rfl | exact pu_pick rfl | exact pu_slice rfl rfl) (fun K hK => ?_) | refine wpX_rd rfl rfl rfl (rd_load rfl) (fun K hK => ?_) | refine wpX_gr rfl rfl rfl (by first | exact gr_buildSlice rfl | exact gr_box rfl | exact gr_alloc rfl) (fun K hK => ?_) | refine wpX_ex rfl rfl rfl (fun K hK => ?_)
            try go_wp2
          refine wpX_done ?_
          have gne : ((0 : Int) != 0) = false := rfl
          go_wp2_with (at_builtin; refine wpList_apo (n := n) (xs := bvs (encT (fallsB dl) 0 (l.take j))) (m := en) (news := bvs (encD (fallsB dl j) l[j])) rfl (.tmp 33) (.tmp 34) 27 rfl tbB ((HOW.out.kept0 F5.out)) HOE.out.sl rfl rfl (bvs_one _) ?b1 ?b2 ?go)
          case b1 => simp only [maxLen]; omega
          case b2 => omega
          case go =>
            intro A' N c' w7 hN ho7 _ hf7 hs7
            subst hN
            have hown : ∀ k, Value.ownBlock (.slice A' (n + en) c') = some k → w.heap.size ≤ k := fun k hk => by
              rcases stays_own hs7 k hk with h | h
              · exact HFS.out k h
              · have h1 := HFR.out.size; have h2 := F5.out.size; omega
            have hfr7 : Fr no w w7 := (HFR.out.trans F5.out (fun _ _ h => h)).trans hf7 (fun k hk h => by have := HFS.out k h; omega)
            have hes : encT (fallsB dl) 0 (l.take (j + 1)) = encT (fallsB dl) 0 (l.take j) ++ encD (fallsB dl j) l[j] := encT_snoc (fallsB dl) hlt
            have HO7 := Lib.hid ho7; have HF7 := Lib.hid hfr7; have HOWN := Lib.hid hown; have HES := Lib.hid hes
            clear ho7 hf7 hs7 hown hfr7 hes
            go_wp2
            go_roundw
            case rel => exact ⟨j + 1, n + en, A', c', by omega, by go_num, rfl, by rw [HES.out, List.length_append, HNN.out, HEL.out], by rw [HES.out, bvs_append]; exact HO7.out, HOWN.out, HF7.out, fun i hi h => by
              by_cases hij : i = j
              · subst hij; exact HOJ.out
              · exact H0.out i hi (by omega)⟩
            case measure => simp [intOf]; omega
        · have HNE := Lib.hid hne; have F50 := Lib.hid f5; have F5 := Lib.hid ((by (repeat first | exact Fr.refl _ _ | exact Fr.drewN _ _ _ | apply Fr.drew | apply Fr.alloc | apply Fr.setAt | apply Fr.moreN) : Fr no wr _).trans f5 (fun _ _ h => h))
          have gne : ((oneErr l[j] : Int) != 0) = true := by rw [bne_iff_ne]; omega
          clear hne f5
          go_wp2
          obtain ⟨⟨xa, xb⟩, hext⟩ := F50.out.ext
          refine ⟨⟨xa, xb, hext⟩, hK _ _ ?_⟩
          clear hK K hext xa xb
          first | refine wpX_pu rfl rfl rfl (by first | exact pu_move rfl | exact pu_assign rfl | exact pu_nilCheck rfl rfl | exact pu_binInt rfl rfl rfl | exact pu_conv rfl rfl (by kernel_rfl) | exact pu_fld rfl (by kernel_rfl) | exact pu_ix rfl rfl rfl (by kernel_rfl) | exact pu_unOp rfl | exact pu_binStr rfl rfl rfl | exact pu_len rfl rfl | exact pu_lens rfl rfl | exact pu_pick rfl | exact pu_slice rfl rfl) (fun K hK => ?_) | refine wpX_rd rfl rfl rfl (rd_load rfl) (fun K hK => ?_) | refine wpX_gr rfl rfl rfl (by first | exact gr_buildSlice rfl | exact gr_box rfl | exact gr_alloc rfl) (fun K hK => ?_) | refine wpX_ex rfl rfl rfl (fun K hK => ?_)
          try go_wp2
          refine wpX_pv (.slice none 0 0) rfl rfl rfl (fun w' => by first | rfl | simp [execOp, Act.eval]) ?_
          refine wpX_pv (.int .i64 (oneErr l[j])) rfl rfl rfl (fun w' => by first | rfl | simp [execOp, Act.eval]) ?_
          go_simp
          iterate 2
            first | refine wpX_pu rfl rfl rfl (by first | exact pu_move rfl | exact pu_assign rfl | exact pu_nilCheck rfl rfl | exact pu_binInt rfl rfl rfl | exact pu_conv rfl rfl (by kernel_rfl) | exact pu_fld rfl (by kernel_rfl) | exact pu_ix rfl rfl rfl (by kernel_rfl) | exact pu_unOp rfl | exact pu_binStr rfl rfl rfl | exact pu_len rfl rfl | exact pu_lens rfl rfl | exact pu_pick rfl | exact pu_slice rfl rfl) (fun K hK => ?_) | refine wpX_rd rfl rfl rfl (rd_load rfl) (fun K hK => ?_) | refine wpX_gr rfl rfl rfl (by first | exact gr_buildSlice rfl | exact gr_box rfl | exact gr_alloc rfl) (fun K hK => ?_) | refine wpX_ex rfl rfl rfl (fun K hK => ?_)
            try go_wp2
          refine wpX_done ?_
          go_wp2
          go_ret2
          have ht := tupErr_at hn hlt H0.out HNE.out
          exact ⟨HFR.out.trans F5.out (fun _ _ h => h), .inr ⟨by rw [ht]; exact HNE.out, by rw [ht]; rfl⟩⟩
      · obtain rfl : j = l.length := by omega
        rw [List.take_length] at hnn how
        have he0 : firstErr (l.map oneErr) = 0 := firstErr_zero.2 (fun e he => by
          obtain ⟨x, hx, rfl⟩ := List.mem_map.1 he
          obtain ⟨i, hi, rfl⟩ := List.getElem_of_mem hx
          exact h0 i hi hi)
        by_cases hlong : 160 < n
        · have ht : tupErr l = 42 := by
            unfold tupErr
            rw [if_neg (by omega), if_neg (by omega), if_pos (by rw [encT_len (fun _ => false) 0 0 l, ← encT_len (fallsB dl) 0 0 l]; omega)]
          have HT1 := Lib.hid ht; have HFR := Lib.hid hfr
          clear ht hfr how hfs h0 hnn he0
          go_wp2
          go_ret2
          exact ⟨HFR.out, .inr ⟨by rw [HT1.out]; omega, by rw [HT1.out]; rfl⟩⟩
        · have ht : tupErr l = 0 := by
            unfold tupErr
            rw [if_neg (by omega), if_neg (by omega), if_neg (by rw [← encT_len (fallsB dl) 0 0 l]; omega)]
          have HT1 := Lib.hid ht; have HFR := Lib.hid hfr; have hnb : NB w.heap.size wr B n bc (encT (fallsB dl) 0 l) := ⟨how, hnn, hfs⟩; have HNB := Lib.hid hnb
          clear ht hfr how hfs h0 hnn he0 hnb
          go_wp2
          go_ret2
          exact ⟨HFR.out, .inl ⟨HT1.out, B, n, bc, rfl, HNB.out⟩⟩
  · have ht : tupErr l = 1 := by unfold tupErr; rw [if_pos (by omega)]
    have HT1 := Lib.hid ht; clear ht
    go_enter Tryz.func15, Tryz.ntmps15
    go_wp2
    go_ret2
    exact ⟨Fr.refl _ _, .inr ⟨by rw [HT1.out]; omega, by rw [HT1.out]; rfl⟩⟩
end Go.Proofs.YtgcicljklejmjaaGreatDoor
