import Derived.Test.YtijcleiekafoiaaGreatDoorMr04
import Derived.Test.YtijcleiekafoiaaGreatDoorMb08
import Derived.Test.YtijcleiekafoiaaGreatDoorMr03
import Derived.Test.YtijcleiekafoiaaGreatDoorMb15
import Derived.Test.YtijcleiekafoiaaGreatDoorMb02

/- codicilref03.own of a document whose shape is right; own3_any. -/
namespace Go.Proofs.YtijcleiekafoiaaGreatDoor
open Go.RowKit Go.Shelf
open Tr

def cnt7 (x : Tr Mm) (R : Int) : Nat := if risesF none x.f = true then cnt3 R 0 else 30

set_option maxRecDepth 100000 in
set_option maxHeartbeats 8000000 in
theorem own3_g7e (w : World) {BA LA FA : Option Addr} {bc lc fc : Nat} (R : Int)
    (hru : ∀ W, Fr no w W → Calls Tryz.prog 132 #[.string ⟨#[]⟩] W fun e w' => e = .returned (.int .i64 R) ∧ w' = W) :
    Calls Tryz.prog 118 #[.agg #[.int .u8 7, .bool false, .int .i64 0, .string ⟨#[]⟩, .slice BA 0 bc, .slice LA 0 lc, .slice FA 0 fc]] w fun e w' => e = .returned (.int .i64 (cnt3 R 0)) ∧ Fr no w w' := by
  have HRU := Lib.hid hru
  clear hru
  have r1 : R < 0 → cnt3 R 0 = 34 := fun h => by unfold cnt3; rw [if_pos h]
  have r2 : ¬ R < 0 → 1000 < R ∨ 4000 < 0 → cnt3 R 0 = 33 := fun h h2 => by unfold cnt3; rw [if_neg h, if_pos h2]
  have r3 : ¬ R < 0 → ¬ (1000 < R ∨ 4000 < 0) → cnt3 R 0 = 0 := fun h h2 => by unfold cnt3; rw [if_neg h, if_neg h2]
  have R1 := Lib.hid r1; have R2 := Lib.hid r2; have R3 := Lib.hid r3
  clear r1 r2 r3
  go_enter Tryz.func118, Tryz.ntmps118
  go_wp2_with fail
  all_goals (
    go_loop [3] (fun iv => iv = .int .i64 0) (fun _ => 0)
    case atStart => rfl
    case round =>
      obtain rfl := hrel
      go_wp2_with fail
      refine (HRU.out _ (by (repeat first | exact Fr.refl _ _ | exact Fr.drewN _ _ _ | apply Fr.drew | apply Fr.alloc | apply Fr.setAt | apply Fr.moreN))).mono ?_
      rintro e w7 ⟨rfl, hw⟩
      subst w7
      go_wp2
      all_goals (go_ret; exact ⟨by first | (rw [R1.out (by omega)]; rfl) | (rw [R2.out (by omega) (by omega)]; rfl) | (rw [R3.out (by omega) (by omega)]; rfl), by (repeat first | exact Fr.refl _ _ | exact Fr.drewN _ _ _ | apply Fr.drew | apply Fr.alloc | apply Fr.setAt | apply Fr.moreN)⟩))

set_option maxRecDepth 100000 in
set_option maxHeartbeats 8000000 in
theorem own3_g7 (w : World) (x : Tr Mm) {BA LA FA : Option Addr} {bc lc fc : Nat} (hfo : Forms x BA bc LA lc FA fc) (hx : Tr.Good w x) (hne : 0 < x.f.length) (R : Int)
    (hru : ∀ W, Fr no w W → Calls Tryz.prog 132 #[.string ⟨#[]⟩] W fun e w' => e = .returned (.int .i64 R) ∧ w' = W) :
    Calls Tryz.prog 118 #[.agg #[.int .u8 7, .bool false, .int .i64 0, .string ⟨#[]⟩, .slice BA 0 bc, .slice LA 0 lc, .slice FA x.f.length fc]] w fun e w' => e = .returned (.int .i64 (cnt7 x R : Int)) ∧ Fr no w w' := by
  have HRU := Lib.hid hru; have HX := Lib.hid hx; have HFO := Lib.hid hfo
  have hnf : x.f.length ≤ 140737488351232 := hx.node.f
  have gz : decide ((0 : Int) < (x.f.length : Int)) = true := decide_eq_true (by omega)
  have HNE := Lib.hid hne
  clear hru hx hfo hne
  have r1 : R < 0 → cnt3 R 0 = 34 := fun h => by unfold cnt3; rw [if_pos h]
  have r2 : ¬ R < 0 → 1000 < R → cnt3 R 0 = 33 := fun h h2 => by unfold cnt3; rw [if_neg h, if_pos (.inl h2)]
  have r3 : ¬ R < 0 → ¬ 1000 < R → cnt3 R 0 = 0 := fun h h2 => by unfold cnt3; rw [if_neg h, if_neg (by omega)]
  have R1 := Lib.hid r1; have R2 := Lib.hid r2; have R3 := Lib.hid r3
  clear r1 r2 r3
  go_enter Tryz.func118, Tryz.ntmps118
  go_wp2_with fail
  all_goals first | (exfalso; have hne2 := HNE.out; omega; done) | skip
  all_goals (
    clear gz
    have hb0 := heap_alloc_new w (.cells #[.int .u8 7, .bool false, .int .i64 0, .string ⟨#[]⟩, .slice BA 0 bc, .slice LA 0 lc, .slice FA x.f.length fc] 27)
    have hF1 : Fr no w (w.alloc (.cells #[.int .u8 7, .bool false, .int .i64 0, .string ⟨#[]⟩, .slice BA 0 bc, .slice LA 0 lc, .slice FA x.f.length fc] 27)) := by (repeat first | exact Fr.refl _ _ | exact Fr.drewN _ _ _ | apply Fr.drew | apply Fr.alloc | apply Fr.setAt | apply Fr.moreN)
    generalize (w.alloc (.cells #[.int .u8 7, .bool false, .int .i64 0, .string ⟨#[]⟩, .slice BA 0 bc, .slice LA 0 lc, .slice FA x.f.length fc] 27)) = w1 at hb0 hF1 ⊢
    have F1 := Lib.hid hF1
    have HB0 := Lib.hid hb0
    clear hb0 hF1
    go_loopw [3] (fun iv wr => ∃ j : Nat, j ≤ x.f.length ∧ iv = .int .i64 j ∧ Fr no w1 wr ∧ (∀ k (h : k < x.f.length), k < j → nameV x.f[k].1 = true) ∧ ∀ k (h : k + 1 < x.f.length), k + 1 < j → cb x.f[k].1 x.f[k + 1].1 < 0) (fun iv _ => x.f.length - (intOf iv).toNat)
    case atStart => exact ⟨0, Nat.zero_le _, rfl, by (repeat first | exact Fr.refl _ _ | exact Fr.drewN _ _ _ | apply Fr.drew | apply Fr.alloc | apply Fr.setAt | apply Fr.moreN), fun k _ h => by omega, fun k _ h => by omega⟩
    case round =>
      obtain ⟨j, hj, rfl, hf, hna, hri⟩ := hrel
      have HF := Lib.hid hf; have HNA := Lib.hid hna; have HRI := Lib.hid hri; clear hf hna hri
      have hb0 := HF.out.heap HB0.out (fun h => h)
      have hbl := (Array.getElem?_eq_some_iff.1 hb0).1
      by_cases hlt : j < x.f.length
      · have hin := (HX.out.kept0 (F1.out.trans HF.out (fun _ _ h => h))).inF; rw [HFO.out.F] at hin
        have HIN := Lib.hid hin; clear hin
        have q6 := cell_of_row wr w.heap.size 6 _ _ (0, 0) hb0
        simp only [List.getElem?_toArray, List.getElem?_cons_succ, List.getElem?_cons_zero] at q6
        clear hb0
        cases hnv : nameV x.f[j].1 with
        | false =>
          obtain ⟨b, o, KB, kb, KL, kl, KF, kf, hA, -, r0, r1, r2, r3, r4, r5, r6, r7, hbl2⟩ := HIN.out.get j hlt
          subst hA
          have HNV := Lib.hid hnv; clear hnv
          go_wp2_with fail
          refine wp_region_ord (List.range 28) (fun i => [Kd.p, Kd.l, Kd.p, Kd.p, Kd.p, Kd.l, Kd.e, Kd.p, Kd.p, Kd.p, Kd.p, Kd.p, Kd.p, Kd.l, Kd.p, Kd.p, Kd.p, Kd.l, Kd.p, Kd.l, Kd.p, Kd.p, Kd.p, Kd.p, Kd.l, Kd.p, Kd.p, Kd.p].getD i .e) (by kernel_rfl) (by kernel_rfl) ?_
          iterate 6
            first | (refine wpX_un rfl rfl ?_; go_simp) | first | refine wpX_pu rfl rfl rfl (by first | exact pu_move rfl | exact pu_assign rfl | exact pu_nilCheck rfl rfl | exact pu_binInt rfl rfl rfl | exact pu_conv rfl rfl (by kernel_rfl) | exact pu_fld rfl (by kernel_rfl) | exact pu_ix rfl rfl rfl (by kernel_rfl) | exact pu_unOp rfl | exact pu_binStr rfl rfl rfl | exact pu_len rfl rfl | exact pu_lens rfl rfl | exact pu_pick rfl | exact pu_slice rfl rfl) (fun K hK => ?_) | refine wpX_rd rfl rfl rfl (rd_load rfl) (fun K hK => ?_) | refine wpX_gr rfl rfl rfl (by first | exact gr_buildSlice rfl | exact gr_box rfl | exact gr_alloc rfl) (fun K hK => ?_) | refine wpX_ex rfl rfl rfl (fun K hK => ?_)
            try go_wp2
          refine wpX_ex rfl rfl rfl (fun K hK => ?_)
          go_wp2_with fail
          refine (name3_any _ x.f[j].1 (HX.out.node.n _ (List.getElem_mem _))).mono ?_
          rintro e w3 ⟨rfl, hw⟩
          subst w3
          rw [HNV.out]
          go_wp2_with fail
          iterate 21
            first | (refine wpX_un rfl rfl ?_; go_simp) | first | refine wpX_pu rfl rfl rfl (by first | exact pu_move rfl | exact pu_assign rfl | exact pu_nilCheck rfl rfl | exact pu_binInt rfl rfl rfl | exact pu_conv rfl rfl (by kernel_rfl) | exact pu_fld rfl (by kernel_rfl) | exact pu_ix rfl rfl rfl (by kernel_rfl) | exact pu_unOp rfl | exact pu_binStr rfl rfl rfl | exact pu_len rfl rfl | exact pu_lens rfl rfl | exact pu_pick rfl | exact pu_slice rfl rfl) (fun K hK => ?_) | refine wpX_rd rfl rfl rfl (rd_load rfl) (fun K hK => ?_) | refine wpX_gr rfl rfl rfl (by first | exact gr_buildSlice rfl | exact gr_box rfl | exact gr_alloc rfl) (fun K hK => ?_) | refine wpX_ex rfl rfl rfl (fun K hK => ?_)
            try go_wp2
          refine wpX_done ?_
          go_wp2_with fail
          go_ret
          refine ⟨?_, F1.out.trans (HF.out.trans (by (repeat first | exact Fr.refl _ _ | exact Fr.drewN _ _ _ | apply Fr.drew | apply Fr.alloc | apply Fr.setAt | apply Fr.moreN)) (fun _ _ h => h)) (fun _ _ h => h)⟩
          have hz : cnt7 x R = 30 := if_neg (fun h => absurd (((rises_iff none x.f).1 h).1 j hlt) (by rw [HNV.out]; exact Bool.noConfusion))
          rw [hz]
          rfl
        | true =>
          have HNV := Lib.hid hnv; clear hnv
          rcases j with _ | m
          · obtain ⟨b, o, KB, kb, KL, kl, KF, kf, hA, -, r0, r1, r2, r3, r4, r5, r6, r7, hbl2⟩ := HIN.out.get 0 hlt
            subst hA
            simp only [Nat.zero_mul, Nat.add_zero] at r0 r1 r2 r3 r4 r5 r6 r7
            go_wp2_with fail
            refine wp_region_ord (List.range 28) (fun i => [Kd.p, Kd.l, Kd.p, Kd.p, Kd.p, Kd.l, Kd.e, Kd.p, Kd.p, Kd.p, Kd.p, Kd.p, Kd.p, Kd.l, Kd.p, Kd.p, Kd.p, Kd.l, Kd.p, Kd.l, Kd.p, Kd.p, Kd.p, Kd.p, Kd.l, Kd.p, Kd.p, Kd.p].getD i .e) (by kernel_rfl) (by kernel_rfl) ?_
            iterate 6
              first | (refine wpX_un rfl rfl ?_; go_simp) | first | refine wpX_pu rfl rfl rfl (by first | exact pu_move rfl | exact pu_assign rfl | exact pu_nilCheck rfl rfl | exact pu_binInt rfl rfl rfl | exact pu_conv rfl rfl (by kernel_rfl) | exact pu_fld rfl (by kernel_rfl) | exact pu_ix rfl rfl rfl (by kernel_rfl) | exact pu_unOp rfl | exact pu_binStr rfl rfl rfl | exact pu_len rfl rfl | exact pu_lens rfl rfl | exact pu_pick rfl | exact pu_slice rfl rfl) (fun K hK => ?_) | refine wpX_rd rfl rfl rfl (rd_load rfl) (fun K hK => ?_) | refine wpX_gr rfl rfl rfl (by first | exact gr_buildSlice rfl | exact gr_box rfl | exact gr_alloc rfl) (fun K hK => ?_) | refine wpX_ex rfl rfl rfl (fun K hK => ?_)
              try go_wp2
            refine wpX_ex rfl rfl rfl (fun K hK => ?_)
            go_wp2_with fail
            refine (name3_any _ x.f[0].1 (HX.out.node.n _ (List.getElem_mem _))).mono ?_
            rintro e w3 ⟨rfl, hw⟩
            subst w3
            rw [HNV.out]
            go_wp2_with fail
            iterate 21
              first | (refine wpX_un rfl rfl ?_; go_simp) | first | refine wpX_pu rfl rfl rfl (by first | exact pu_move rfl | exact pu_assign rfl | exact pu_nilCheck rfl rfl | exact pu_binInt rfl rfl rfl | exact pu_conv rfl rfl (by kernel_rfl) | exact pu_fld rfl (by kernel_rfl) | exact pu_ix rfl rfl rfl (by kernel_rfl) | exact pu_unOp rfl | exact pu_binStr rfl rfl rfl | exact pu_len rfl rfl | exact pu_lens rfl rfl | exact pu_pick rfl | exact pu_slice rfl rfl) (fun K hK => ?_) | refine wpX_rd rfl rfl rfl (rd_load rfl) (fun K hK => ?_) | refine wpX_gr rfl rfl rfl (by first | exact gr_buildSlice rfl | exact gr_box rfl | exact gr_alloc rfl) (fun K hK => ?_) | refine wpX_ex rfl rfl rfl (fun K hK => ?_)
              try go_wp2
            refine wpX_done ?_
            go_wp2
            go_roundw
            case rel => exact ⟨0 + 1, by omega, by first | rfl | go_num, HF.out.trans (by (repeat first | exact Fr.refl _ _ | exact Fr.drewN _ _ _ | apply Fr.drew | apply Fr.alloc | apply Fr.setAt | apply Fr.moreN)) (fun _ _ h => h), fun k hk hlt2 => by
                by_cases h : k < 0
                · exact HNA.out k hk h
                · obtain rfl : k = 0 := by omega
                  exact HNV.out, fun k hk h => by omega⟩
            case measure => simp [intOf]; omega
          · obtain ⟨b, o, KB, kb, KL, kl, KF, kf, hA, -, r0, r1, r2, r3, r4, r5, r6, r7, hbl2⟩ := HIN.out.get (m + 1) hlt
            subst hA
            obtain ⟨b', o', hA2, s0, hsl⟩ := InF.at HIN.out.sl m (by omega)
            simp only [Option.some.injEq, Addr.mk.injEq, and_true] at hA2
            obtain ⟨rfl, rfl⟩ := hA2
            have gg : decide ((0 : Int) < (m : Int) + 1) = true := decide_eq_true (by omega)
            have gg2 : decide (0 < m + 1) = true := by simp
            clear r1 r2 r3 r4 r5 r6 r7
            by_cases hc : cb x.f[m + 1].1 x.f[m].1 ≤ 0
            · have le8 : decide (cb x.f[m + 1].1 x.f[m].1 ≤ 0) = true := decide_eq_true hc
              have lb8 : (Op.bytesLess x.f[m + 1].1 x.f[m].1 || x.f[m + 1].1 == x.f[m].1) = true := by rw [leq_cb]; exact le8
              have HCC := Lib.hid hc; clear hc
              go_wp2_with fail
              refine wp_region_ord (List.range 28) (fun i => [Kd.p, Kd.l, Kd.p, Kd.p, Kd.p, Kd.l, Kd.e, Kd.p, Kd.p, Kd.p, Kd.p, Kd.p, Kd.p, Kd.l, Kd.p, Kd.p, Kd.p, Kd.l, Kd.p, Kd.l, Kd.p, Kd.p, Kd.p, Kd.p, Kd.l, Kd.p, Kd.p, Kd.p].getD i .e) (by kernel_rfl) (by kernel_rfl) ?_
              iterate 6
                first | (refine wpX_un rfl rfl ?_; go_simp) | first | refine wpX_pu rfl rfl rfl (by first | exact pu_move rfl | exact pu_assign rfl | exact pu_nilCheck rfl rfl | exact pu_binInt rfl rfl rfl | exact pu_conv rfl rfl (by kernel_rfl) | exact pu_fld rfl (by kernel_rfl) | exact pu_ix rfl rfl rfl (by kernel_rfl) | exact pu_unOp rfl | exact pu_binStr rfl rfl rfl | exact pu_len rfl rfl | exact pu_lens rfl rfl | exact pu_pick rfl | exact pu_slice rfl rfl) (fun K hK => ?_) | refine wpX_rd rfl rfl rfl (rd_load rfl) (fun K hK => ?_) | refine wpX_gr rfl rfl rfl (by first | exact gr_buildSlice rfl | exact gr_box rfl | exact gr_alloc rfl) (fun K hK => ?_) | refine wpX_ex rfl rfl rfl (fun K hK => ?_)
                try go_wp2
              refine wpX_ex rfl rfl rfl (fun K hK => ?_)
              go_wp2_with fail
              refine (name3_any _ x.f[m + 1].1 (HX.out.node.n _ (List.getElem_mem _))).mono ?_
              rintro e w3 ⟨rfl, hw⟩
              subst w3
              rw [HNV.out]
              go_wp2_with fail
              iterate 21
                first | (refine wpX_un rfl rfl ?_; go_simp) | first | refine wpX_pu rfl rfl rfl (by first | exact pu_move rfl | exact pu_assign rfl | exact pu_nilCheck rfl rfl | exact pu_binInt rfl rfl rfl | exact pu_conv rfl rfl (by kernel_rfl) | exact pu_fld rfl (by kernel_rfl) | exact pu_ix rfl rfl rfl (by kernel_rfl) | exact pu_unOp rfl | exact pu_binStr rfl rfl rfl | exact pu_len rfl rfl | exact pu_lens rfl rfl | exact pu_pick rfl | exact pu_slice rfl rfl) (fun K hK => ?_) | refine wpX_rd rfl rfl rfl (rd_load rfl) (fun K hK => ?_) | refine wpX_gr rfl rfl rfl (by first | exact gr_buildSlice rfl | exact gr_box rfl | exact gr_alloc rfl) (fun K hK => ?_) | refine wpX_ex rfl rfl rfl (fun K hK => ?_)
                try go_wp2
              refine wpX_done ?_
              go_wp2_with fail
              go_ret
              refine ⟨?_, F1.out.trans (HF.out.trans (by (repeat first | exact Fr.refl _ _ | exact Fr.drewN _ _ _ | apply Fr.drew | apply Fr.alloc | apply Fr.setAt | apply Fr.moreN)) (fun _ _ h => h)) (fun _ _ h => h)⟩
              have hz : cnt7 x R = 30 := if_neg (fun h => by
                have h2 := ((rises_iff none x.f).1 h).2.2 m hlt
                have h3 := HCC.out
                rw [cb_swap] at h2
                omega)
              rw [hz]
              rfl
            · have le8 : decide (cb x.f[m + 1].1 x.f[m].1 ≤ 0) = false := decide_eq_false hc
              have lb8 : (Op.bytesLess x.f[m + 1].1 x.f[m].1 || x.f[m + 1].1 == x.f[m].1) = false := by rw [leq_cb]; exact le8
              have HCC := Lib.hid hc; clear hc
              go_wp2_with fail
              refine wp_region_ord (List.range 28) (fun i => [Kd.p, Kd.l, Kd.p, Kd.p, Kd.p, Kd.l, Kd.e, Kd.p, Kd.p, Kd.p, Kd.p, Kd.p, Kd.p, Kd.l, Kd.p, Kd.p, Kd.p, Kd.l, Kd.p, Kd.l, Kd.p, Kd.p, Kd.p, Kd.p, Kd.l, Kd.p, Kd.p, Kd.p].getD i .e) (by kernel_rfl) (by kernel_rfl) ?_
              iterate 6
                first | (refine wpX_un rfl rfl ?_; go_simp) | first | refine wpX_pu rfl rfl rfl (by first | exact pu_move rfl | exact pu_assign rfl | exact pu_nilCheck rfl rfl | exact pu_binInt rfl rfl rfl | exact pu_conv rfl rfl (by kernel_rfl) | exact pu_fld rfl (by kernel_rfl) | exact pu_ix rfl rfl rfl (by kernel_rfl) | exact pu_unOp rfl | exact pu_binStr rfl rfl rfl | exact pu_len rfl rfl | exact pu_lens rfl rfl | exact pu_pick rfl | exact pu_slice rfl rfl) (fun K hK => ?_) | refine wpX_rd rfl rfl rfl (rd_load rfl) (fun K hK => ?_) | refine wpX_gr rfl rfl rfl (by first | exact gr_buildSlice rfl | exact gr_box rfl | exact gr_alloc rfl) (fun K hK => ?_) | refine wpX_ex rfl rfl rfl (fun K hK => ?_)
                try go_wp2
              refine wpX_ex rfl rfl rfl (fun K hK => ?_)
              go_wp2_with fail
              refine (name3_any _ x.f[m + 1].1 (HX.out.node.n _ (List.getElem_mem _))).mono ?_
              rintro e w3 ⟨rfl, hw⟩
              subst w3
              rw [HNV.out]
              go_wp2_with fail
              iterate 21
                first | (refine wpX_un rfl rfl ?_; go_simp) | first | refine wpX_pu rfl rfl rfl (by first | exact pu_move rfl | exact pu_assign rfl | exact pu_nilCheck rfl rfl | exact pu_binInt rfl rfl rfl | exact pu_conv rfl rfl (by kernel_rfl) | exact pu_fld rfl (by kernel_rfl) | exact pu_ix rfl rfl rfl (by kernel_rfl) | exact pu_unOp rfl | exact pu_binStr rfl rfl rfl | exact pu_len rfl rfl | exact pu_lens rfl rfl | exact pu_pick rfl | exact pu_slice rfl rfl) (fun K hK => ?_) | refine wpX_rd rfl rfl rfl (rd_load rfl) (fun K hK => ?_) | refine wpX_gr rfl rfl rfl (by first | exact gr_buildSlice rfl | exact gr_box rfl | exact gr_alloc rfl) (fun K hK => ?_) | refine wpX_ex rfl rfl rfl (fun K hK => ?_)
                try go_wp2
              refine wpX_done ?_
              go_wp2
              go_roundw
              case rel => exact ⟨(m + 1) + 1, by omega, by first | rfl | go_num, HF.out.trans (by (repeat first | exact Fr.refl _ _ | exact Fr.drewN _ _ _ | apply Fr.drew | apply Fr.alloc | apply Fr.setAt | apply Fr.moreN)) (fun _ _ h => h), fun k hk hlt2 => by
                  by_cases h : k < m + 1
                  · exact HNA.out k hk h
                  · obtain rfl : k = m + 1 := by omega
                    exact HNV.out, last_step (hm := hlt) HRI.out (by have h3 := HCC.out; omega)⟩
              case measure => simp [intOf]; omega
      · obtain rfl : j = x.f.length := by omega
        have hri2 : risesF none x.f = true := (rises_iff none x.f).2 ⟨fun k hk => HNA.out k hk hk, (fun q h => by cases h), fun k hk => HRI.out k hk hk⟩
        have q3 := cell_of_row wr w.heap.size 3 _ _ (0, 0) hb0
        have q4 := cell_of_row wr w.heap.size 4 _ _ (0, 0) hb0
        have q6 := cell_of_row wr w.heap.size 6 _ _ (0, 0) hb0
        simp only [List.getElem?_toArray, List.getElem?_cons_succ, List.getElem?_cons_zero] at q3 q4 q6
        have hz : cnt7 x R = cnt3 R 0 := if_pos hri2
        have HZ := Lib.hid hz
        have FX := Lib.hid (F1.out.trans HF.out (fun _ _ h => h))
        clear hri2 hz hlt hj hb0
        go_wp2_with fail
        refine (HRU.out _ FX.out).mono ?_
        rintro e w7 ⟨rfl, hw⟩
        subst w7
        go_wp2
        all_goals (go_ret; exact ⟨by first | (rw [HZ.out, R1.out (by omega)]; rfl) | (rw [HZ.out, R2.out (by omega) (by omega)]; rfl) | (rw [HZ.out, R3.out (by omega) (by omega)]; rfl), FX.out.trans (by (repeat first | exact Fr.refl _ _ | exact Fr.drewN _ _ _ | apply Fr.drew | apply Fr.alloc | apply Fr.setAt | apply Fr.moreN)) (fun _ _ h => h)⟩))

theorem own3_any : Own3 := by
  intro x w hx
  obtain ⟨BA, bc, LA, lc, FA, fc, hf⟩ := hx.node.forms
  have hru : ∀ T : List UInt8, x.t = T → ∀ W, Fr no w W → Calls Tryz.prog 132 #[.string ⟨T.toArray⟩] W fun e w' => e = .returned (.int .i64 (runesV T)) ∧ w' = W := fun T h W _ => by
    subst h
    exact runes3_any W x.t hx.node.t
  have hgood : shapeV x = true → own x = (if risesF none x.f = true then cnt3 (runesV x.t) x.bs.length else 30) := fun h => by
    unfold own cnt3 runesV
    rw [if_neg (by rw [h]; exact Bool.noConfusion)]
    cases risesF none x.f with
    | false => rfl
    | true =>
      cases hv : Lib.validD x.t with
      | false => rfl
      | true =>
        by_cases hP : 1000 < Lib.runeCountL x.t ∨ 4000 < x.bs.length
        · simp only [if_pos hP, Bool.true_eq_false, if_false, if_true]
          rw [if_neg (by omega), if_pos (by omega)]
        · simp only [if_neg hP, Bool.true_eq_false, if_false, if_true]
          rw [if_neg (by omega), if_neg (by omega)]
  have hbad : ¬ shapeV x = true → own x = 30 := fun h => by unfold own; rw [if_pos (by simpa using h)]
  have hnbs : x.bs.length ≤ 140737488351232 := hx.node.bs
  rw [hf.agg]
  by_cases hs : shapeV x = true
  rotate_left
  · rw [hbad hs]
    by_cases hk : x.k.toNat < 1 ∨ 7 < x.k.toNat
    · exact own3_bo w x.k.toNat x.b x.i x.t (by omega)
    have hlz : ∀ {α : Type} {l : List α}, l.length = 0 → l = [] := fun h => List.eq_nil_of_length_eq_zero h
    have e : x.k.toNat = 1 ∨ x.k.toNat = 2 ∨ x.k.toNat = 3 ∨ x.k.toNat = 4 ∨ x.k.toNat = 5 ∨ x.k.toNat = 6 ∨ x.k.toNat = 7 := by omega
    have hkk : ∀ n : UInt8, x.k.toNat = n.toNat → x.k = n := fun n h => UInt8.toNat_inj.1 h
    rcases e with e | e | e | e | e | e | e
    · have hk1 := hkk 1 e
      rw [e]
      exact own3_b1 w x.b x.i x.t (fun ⟨h1, h2, h3, h4, h5, h6⟩ => hs (by unfold shapeV; simp [hk1, h1, h2, h3, hlz h4, hlz h5, hlz h6]))
    · have hk1 := hkk 2 e
      rw [e]
      exact own3_b2 w x.b x.i x.t (fun ⟨h2, h3, h4, h5, h6⟩ => hs (by unfold shapeV; simp [hk1, h2, h3, hlz h4, hlz h5, hlz h6]))
    · have hk1 := hkk 3 e
      rw [e]
      exact own3_b3 w x.b x.i x.t (fun ⟨h1, h3, h4, h5, h6⟩ => hs (by unfold shapeV; simp [hk1, h1, h3, hlz h4, hlz h5, hlz h6]))
    · have hk1 := hkk 4 e
      rw [e]
      exact own3_b4 w x.b x.i x.t (fun ⟨h1, h2, h4, h5, h6⟩ => hs (by unfold shapeV; simp [hk1, h1, h2, hlz h4, hlz h5, hlz h6]))
    · have hk1 := hkk 5 e
      rw [e]
      exact own3_b5 w x.b x.i x.t (fun ⟨h1, h2, h3, h5, h6⟩ => hs (by unfold shapeV; simp [hk1, h1, h2, h3, hlz h5, hlz h6]))
    · have hk1 := hkk 6 e
      rw [e]
      exact own3_b6 w x.b x.i x.t (fun ⟨h1, h2, h3, h4, h6⟩ => hs (by unfold shapeV; simp [hk1, h1, h2, h3, hlz h4, hlz h6]))
    · have hk1 := hkk 7 e
      rw [e]
      exact own3_b7 w x.b x.i x.t (fun ⟨h1, h2, h3, h4, h5⟩ => hs (by unfold shapeV; simp [hk1, h1, h2, h3, hlz h4, hlz h5]))
  · obtain ⟨⟨hk1, hk2⟩, s2, s3, s4, s5, s6, s7⟩ := shape_parts hs
    have h1 := UInt8.le_iff_toNat_le.1 hk1
    have h2 := UInt8.le_iff_toNat_le.1 hk2
    have e : x.k.toNat = 1 ∨ x.k.toNat = 2 ∨ x.k.toNat = 3 ∨ x.k.toNat = 4 ∨ x.k.toNat = 5 ∨ x.k.toNat = 6 ∨ x.k.toNat = 7 := by
      simp at h1 h2; omega
    have hkk : ∀ n : UInt8, x.k.toNat = n.toNat → x.k = n := fun n h => UInt8.toNat_inj.1 h
    have hne : ∀ n m : UInt8, x.k = n → n ≠ m → x.k ≠ m := fun n m h h2 h3 => h2 (h.symm.trans h3)
    have hrn : risesF none ([] : List (List UInt8 × Tr Mm)) = true := rfl
    rw [hgood hs]
    clear hgood hbad hk1 hk2 h1 h2
    rcases e with e | e | e | e | e | e | e
    · have hk := hkk 1 e
      rw [e, s2 (hne 1 2 hk (by decide)), s3 (hne 1 3 hk (by decide)), s5 (hne 1 5 hk (by decide)), s6 (hne 1 6 hk (by decide)), s7 (hne 1 7 hk (by decide)), if_pos hrn, s4 (hne 1 4 hk (by decide))]
      exact own3_g1 w (runesV []) (hru [] (s4 (hne 1 4 hk (by decide))))
    · have hk := hkk 2 e
      rw [e, s3 (hne 2 3 hk (by decide)), s5 (hne 2 5 hk (by decide)), s6 (hne 2 6 hk (by decide)), s7 (hne 2 7 hk (by decide)), if_pos hrn, s4 (hne 2 4 hk (by decide))]
      exact own3_g2 w x.b (runesV []) (hru [] (s4 (hne 2 4 hk (by decide))))
    · have hk := hkk 3 e
      rw [e, s2 (hne 3 2 hk (by decide)), s5 (hne 3 5 hk (by decide)), s6 (hne 3 6 hk (by decide)), s7 (hne 3 7 hk (by decide)), if_pos hrn, s4 (hne 3 4 hk (by decide))]
      exact own3_g3 w x.i (runesV []) (hru [] (s4 (hne 3 4 hk (by decide))))
    · have hk := hkk 4 e
      rw [e, s2 (hne 4 2 hk (by decide)), s3 (hne 4 3 hk (by decide)), s5 (hne 4 5 hk (by decide)), s6 (hne 4 6 hk (by decide)), s7 (hne 4 7 hk (by decide)), if_pos hrn]
      exact own3_g4 w ⟨x.t.toArray⟩ (runesV x.t) (hru x.t rfl)
    · have hk := hkk 5 e
      rw [e, s2 (hne 5 2 hk (by decide)), s3 (hne 5 3 hk (by decide)), s6 (hne 5 6 hk (by decide)), s7 (hne 5 7 hk (by decide)), if_pos hrn, s4 (hne 5 4 hk (by decide))]
      exact own3_g5 w hnbs (runesV []) (hru [] (s4 (hne 5 4 hk (by decide))))
    · have hk := hkk 6 e
      rw [e, s2 (hne 6 2 hk (by decide)), s3 (hne 6 3 hk (by decide)), s5 (hne 6 5 hk (by decide)), s7 (hne 6 7 hk (by decide)), if_pos hrn, s4 (hne 6 4 hk (by decide))]
      exact own3_g6 w (runesV []) (hru [] (s4 (hne 6 4 hk (by decide))))
    · have hk := hkk 7 e
      by_cases hf0 : x.f = []
      · rw [e, s2 (hne 7 2 hk (by decide)), s3 (hne 7 3 hk (by decide)), s5 (hne 7 5 hk (by decide)), s6 (hne 7 6 hk (by decide)), hf0, if_pos hrn, s4 (hne 7 4 hk (by decide))]
        exact own3_g7e w (runesV []) (hru [] (s4 (hne 7 4 hk (by decide))))
      · rw [e, s2 (hne 7 2 hk (by decide)), s3 (hne 7 3 hk (by decide)), s5 (hne 7 5 hk (by decide)), s6 (hne 7 6 hk (by decide)), s4 (hne 7 4 hk (by decide))]
        exact own3_g7 w x hf hx (List.length_pos_iff.2 hf0) (runesV []) (hru [] (s4 (hne 7 4 hk (by decide))))
end Go.Proofs.YtijcleiekafoiaaGreatDoor

/- codicilref05.Decode. Printed by mkrd5d.py. -/
namespace Go.Proofs.YtijcleiekafoiaaGreatDoor
open Go.RowKit
open Tr

/-- What the document's Decode says. -/
def Dec5 (b : List UInt8) (w : World) (e : Ending) (w' : World) : Prop :=
  Fr no w w' ∧ ∃ y : Tr Mm, e = .returned (.tuple #[y.agg, .int .i64 (docCode b)]) ∧ bare y = docVal b ∧ Tr.Good w' y
theorem dec5_bad {b : List UInt8} {w w1 wz : World} (hd : docDec b = none) (hfr : Fr no w w1) (hz : Fr (fun k => k = w.heap.size) w1 wz) : Dec5 b w (.returned (.tuple #[.agg #[.int .u8 0, .bool false, .int .i64 0, .string ⟨#[]⟩, .slice none 0 0, .slice none 0 0, .slice none 0 0], .int .i64 50])) wz := by
  refine ⟨hfr.trans hz (fun k hk h => by have h : k = w.heap.size := h; omega), zeroM, ?_, ?_, zero_good _⟩
  · unfold docCode; rw [hd]; rfl
  · unfold docVal; rw [hd]; exact zero_bare

set_option maxRecDepth 100000 in
set_option maxHeartbeats 4000000 in
theorem decode5_any (w : World) (X : Value) (b : List UInt8) (hx : Sl w 1 X b.length (bvs b)) (hl : b.length ≤ 140737488351232) (hX : ∀ k, X.ownBlock = some k → k < w.heap.size) :
    Calls Tryz.prog 20 #[X] w fun e w' => Dec5 b w e w' := by
  obtain ⟨XA, xc, rfl, _, _⟩ := hx.form
  have HX := Lib.hid hx; have HXX := Lib.hid hX
  clear hx hX
  have hr0 := heap_alloc_new w (.cells #[.int .u8 0, .bool false, .int .i64 0, .string ⟨#[]⟩, .slice none 0 0, .slice none 0 0, .slice none 0 0] 27)
  have hal := (Fr.refl no w).alloc (.cells #[.int .u8 0, .bool false, .int .i64 0, .string ⟨#[]⟩, .slice none 0 0, .slice none 0 0, .slice none 0 0] 27)
  by_cases hb : 8192 < b.length
  · have hdn : docDec b = none := by unfold docDec; rw [if_pos hb]
    have hbi : (8192 : Int) < (b.length : Int) := by omega
    have HDN := Lib.hid hdn; have HR0 := Lib.hid hr0; have HAL := Lib.hid hal
    clear hdn hr0 hal
    go_enter Tryz.func20, Tryz.ntmps20
    go_wp2
    refine bodyPost_ret (results_cell_row2 (P := Tryz.prog) rfl _ _ w.heap.size 27 _ (0, 0) _ rfl HR0.out Tryz.underlying27 rfl (by kernel_rfl)) rfl ?_
    exact dec5_bad HDN.out HAL.out (Fr.refl _ _)
  · have hbi : ¬ (8192 : Int) < (b.length : Int) := by omega
    obtain ⟨ha1, ha2⟩ := two_allocs w (.cells #[.int .u8 0, .bool false, .int .i64 0, .string ⟨#[]⟩, .slice none 0 0, .slice none 0 0, .slice none 0 0] 27) (.cells #[.slice XA b.length xc, .int .i64 0, .int .i64 0, .int .i64 0] 120)
    have hal2 := hal.alloc (.cells #[.slice XA b.length xc, .int .i64 0, .int .i64 0, .int .i64 0] 120)
    have hsz2 : ((w.alloc (.cells #[.int .u8 0, .bool false, .int .i64 0, .string ⟨#[]⟩, .slice none 0 0, .slice none 0 0, .slice none 0 0] 27)).alloc (.cells #[.slice XA b.length xc, .int .i64 0, .int .i64 0, .int .i64 0] 120)).heap.size = w.heap.size + 2 := by rw [World.size_alloc, World.size_alloc]
    have HR0 := Lib.hid hr0; have HAL := Lib.hid hal
    clear hr0 hal
    go_enter Tryz.func20, Tryz.ntmps20
    go_wp2_with fail
    generalize (w.alloc (.cells #[.int .u8 0, .bool false, .int .i64 0, .string ⟨#[]⟩, .slice none 0 0, .slice none 0 0, .slice none 0 0] 27)).alloc (.cells #[.slice XA b.length xc, .int .i64 0, .int .i64 0, .int .i64 0] 120) = w2 at ha1 ha2 hal2 hsz2 ⊢
    have hdx : Dx w2.heap.size (w.heap.size + 1) (.slice XA b.length xc) b w2 ⟨0, 0, 0⟩ false := ⟨⟨ha2, HX.out.kept0 hal2, fun h => by have := HXX.out _ h; omega, Nat.zero_le _, hl, by decide⟩, by omega, fun k hk => by have := HXX.out k hk; omega, rfl⟩
    have hon : RS.On b ⟨0, 0, 0⟩ b := ⟨rfl, Nat.zero_le _, rfl⟩
    have hcall := rval_any w2.heap.size (w.heap.size + 1) _ b (by omega) 9 (by omega) w2 _ b hdx hon (Nat.le_refl _)
    have HC := Lib.hid hcall; have F2 := Lib.hid hal2; have HR2 := Lib.hid ha1; have HS2 := Lib.hid hsz2
    clear hcall hon hdx ha1 ha2 hal2 hsz2
    refine HC.out.mono ?_
    clear HC
    rintro e w3 ⟨f3, hcase⟩
    have F3 := Lib.hid (Fr.since F2.out f3 (fun k hk => by have hk : k = w.heap.size + 1 := hk; omega) : Fr no w w3)
    have HR3 := Lib.hid (f3.heap HR2.out (fun h => by have h : w.heap.size = w.heap.size + 1 := h; omega))
    clear f3 HR2
    rcases hcase with ⟨x, r, s, hdc, rfl, hh, hbk, hdr, hon⟩ | ⟨hdc, ⟨jk, jb, ji, jt, JB, jbn, jbc, JL, jln, jlc, JF, jfn, jfc, rfl⟩, s, bad, hdr, hlo⟩
    · have hds := ddec_some 9 _ _ _ hdc
      have hgx := held_good (N := 1000000) (by omega) x hds.2.1 (by have h1 := congrArg List.length hds.1; simp only [List.length_append] at h1; omega) hh
      have hpx : parts x ≤ 1000000 := by
        have h1 := parts_denc (bare x) hds.2.1
        have h2 := congrArg List.length hds.1
        simp only [List.length_append] at h2
        rw [bare_parts] at h1
        omega
      obtain ⟨XB, xb, XL, xl, XF, xf, hfx⟩ := hgx.node.forms
      have hag := hfx.agg
      have hchk := fun W (f : Fr no w3 W) => check3_any own3_any x W (hgx.kept0 f) hpx
      rw [hag] at hchk ⊢
      have hal := (Fr.refl no w3).alloc (.cells #[.int .u8 x.k.toNat, .bool x.b, .int .i64 x.i, .string ⟨x.t.toArray⟩, .slice XB x.bs.length xb, .slice XL x.l.length xl, .slice XF x.f.length xf] 27)
      have hrv := heap_alloc_new w3 (.cells #[.int .u8 x.k.toNat, .bool x.b, .int .i64 x.i, .string ⟨x.t.toArray⟩, .slice XB x.bs.length xb, .slice XL x.l.length xl, .slice XF x.f.length xf] 27)
      have HCHK := Lib.hid hchk; have HGX := Lib.hid hgx; have HDR := Lib.hid hdr; have HON := Lib.hid hon; have HDC := Lib.hid hdc; have HPL := Lib.hid (check_le x); have HHH := Lib.hid hh; have HBK := Lib.hid hbk; have HAG := Lib.hid hag
      clear hdc hds hgx hfx hag hchk hdr hon hh hbk hpx
      go_wp2_with fail
      generalize w3.alloc (.cells #[.int .u8 x.k.toNat, .bool x.b, .int .i64 x.i, .string ⟨x.t.toArray⟩, .slice XB x.bs.length xb, .slice XL x.l.length xl, .slice XF x.f.length xf] 27) = w4 at hal hrv ⊢
      have HD4 := Lib.hid (HDR.out.kept0 hal); have HAL4 := Lib.hid hal; have HRV := Lib.hid hrv; have HR4 := Lib.hid (hal.heap HR3.out (fun h => h))
      clear hal hrv HDR
      refine (xend_any (w.heap.size + 1) w4 _ b s HD4.out.rx).mono ?_
      rintro e w5 ⟨rfl, n5, hw5⟩
      have f5 : Fr no w4 w5 := by rw [hw5]; exact Fr.drewN _ _ _
      have F35 := Lib.hid (HAL4.out.trans f5 (fun _ _ h => h)); have HR5 := Lib.hid (f5.heap HR4.out (fun h => h)); have HRV5 := Lib.hid (f5.heap HRV.out (fun h => h))
      clear hw5 f5 HD4
      by_cases hrn : r = []
      · subst hrn
        rw [last_yes HON.out]
        obtain ⟨v0, v1, v2, v3, v4, v5, v6, vz, vl⟩ := seven_cells HRV5.out
        rw [show ((0 : Nat) : Int) = 0 from rfl]
        go_wp2_with fail
        refine (HCHK.out w5 F35.out).mono ?_
        rintro e w6 ⟨rfl, f6⟩
        have F36 := Lib.hid (F35.out.trans f6 (fun _ _ h => h)); have HR6 := Lib.hid (f6.heap HR5.out (fun h => h)); have HRV6 := Lib.hid (f6.heap HRV5.out (fun h => h))
        clear f6 v0 v1 v2 v3 v4 v5 v6 vz vl
        obtain ⟨q0, q1, q2, q3, q4, q5, q6, qz, ql⟩ := seven_cells HR6.out
        by_cases hc : check x = 0
        · rw [hc, show ((0 : Nat) : Int) = 0 from rfl]
          obtain ⟨v0, v1, v2, v3, v4, v5, v6, vz, vl⟩ := seven_cells HRV6.out
          have hdy := dec_yes hb HDC.out (by rw [bare_check]; exact hc)
          have HDY := Lib.hid hdy
          clear hdy hc
          go_wp2
          have hset := set7_row (a := .int .u8 x.k.toNat) (b := .bool x.b) (c := .int .i64 x.i) (d := .string ⟨x.t.toArray⟩) (e := .slice XB x.bs.length xb) (f := .slice XL x.l.length xl) (h := .slice XF x.f.length xf) HR6.out
          have hsf := set7_fr w6 w.heap.size (.int .u8 x.k.toNat) (.bool x.b) (.int .i64 x.i) (.string ⟨x.t.toArray⟩) (.slice XB x.bs.length xb) (.slice XL x.l.length xl) (.slice XF x.f.length xf)
          unfold set7 at hset hsf
          refine bodyPost_ret (results_cell_row2 (P := Tryz.prog) rfl _ _ w.heap.size 27 _ (0, 0) _ rfl hset Tryz.underlying27 rfl (by kernel_rfl)) rfl ?_
          have hhz := (HHH.out.kept0 F36.out).kept hsf (fun k hk h => by have h : k = w.heap.size := h; have h1 := HBK.out k hk; have h2 := HS2.out; omega)
          have hds := ddec_some 9 _ _ _ HDC.out
          have hgz := held_good (N := 1000000) (by omega) x hds.2.1 (by have h1 := congrArg List.length hds.1; simp only [List.length_append] at h1; omega) hhz
          refine ⟨(F3.out.trans F36.out (fun _ _ h => h)).trans hsf (fun k hk h => by have h : k = w.heap.size := h; omega), x, ?_, ?_, hgz⟩
          · rw [HAG.out]; unfold docCode; rw [HDY.out]; rfl
          · unfold docVal; rw [HDY.out]; rfl
        · have hcn : ((check x : Nat) : Int) ≠ 0 := by omega
          have hdn : docDec b = none := dec_chk HDC.out (by rw [bare_check]; exact hc)
          obtain ⟨k, hk⟩ : ∃ k, k = check x := ⟨_, rfl⟩
          have hkl := HPL.out
          rw [← hk] at hcn hkl ⊢
          have HDN := Lib.hid hdn
          clear hdn hc hk
          have hb1 : ((k : Int) != 0) = true := by rw [bne_iff_ne]; exact hcn
          go_wp2
          have hset := set7_row (a := .int .u8 0) (b := .bool false) (c := .int .i64 0) (d := .string ⟨#[]⟩) (e := .slice none 0 0) (f := .slice none 0 0) (h := .slice none 0 0) (HR6.out)
          have hsf := set7_fr w6 w.heap.size (.int .u8 0) (.bool false) (.int .i64 0) (.string ⟨#[]⟩) (.slice none 0 0) (.slice none 0 0) (.slice none 0 0)
          unfold set7 at hset hsf
          refine bodyPost_ret (results_cell_row2 (P := Tryz.prog) rfl _ _ w.heap.size 27 _ (0, 0) _ rfl hset Tryz.underlying27 rfl (by kernel_rfl)) rfl ?_
          exact dec5_bad (HDN.out) (F3.out.trans F36.out (fun _ _ h => h)) hsf
      · have hdn := dec_rest HDC.out hrn
        rw [last_no HON.out hrn]
        have HDN := Lib.hid hdn
        clear hdn hrn
        obtain ⟨q0, q1, q2, q3, q4, q5, q6, qz, ql⟩ := seven_cells HR5.out
        rw [show ((21 : Nat) : Int) = 21 from rfl]
        go_wp2
        have hset := set7_row (a := .int .u8 0) (b := .bool false) (c := .int .i64 0) (d := .string ⟨#[]⟩) (e := .slice none 0 0) (f := .slice none 0 0) (h := .slice none 0 0) (HR5.out)
        have hsf := set7_fr w5 w.heap.size (.int .u8 0) (.bool false) (.int .i64 0) (.string ⟨#[]⟩) (.slice none 0 0) (.slice none 0 0) (.slice none 0 0)
        unfold set7 at hset hsf
        refine bodyPost_ret (results_cell_row2 (P := Tryz.prog) rfl _ _ w.heap.size 27 _ (0, 0) _ rfl hset Tryz.underlying27 rfl (by kernel_rfl)) rfl ?_
        exact dec5_bad (HDN.out) (F3.out.trans F35.out (fun _ _ h => h)) hsf
    · have hdn := dec_none hdc
      have he := dx_lost hdr hlo
      have hal := (Fr.refl no w3).alloc (.cells #[.int .u8 jk, .bool jb, .int .i64 ji, .string jt, .slice JB jbn jbc, .slice JL jln jlc, .slice JF jfn jfc] 27)
      have HDN := Lib.hid hdn; have HDR := Lib.hid hdr
      clear hdn hdc hdr hlo
      go_wp2_with fail
      generalize w3.alloc (.cells #[.int .u8 jk, .bool jb, .int .i64 ji, .string jt, .slice JB jbn jbc, .slice JL jln jlc, .slice JF jfn jfc] 27) = w4 at hal ⊢
      have HD4 := Lib.hid (HDR.out.kept0 hal); have HAL4 := Lib.hid hal; have HR4 := Lib.hid (hal.heap HR3.out (fun h => h))
      clear hal HDR
      refine (xend_any (w.heap.size + 1) w4 _ b s HD4.out.rx).mono ?_
      rintro e w5 ⟨rfl, n5, hw5⟩
      have f5 : Fr no w4 w5 := by rw [hw5]; exact Fr.drewN _ _ _
      have F35 := Lib.hid (HAL4.out.trans f5 (fun _ _ h => h)); have HR5 := Lib.hid (f5.heap HR4.out (fun h => h))
      clear hw5 f5
      rw [last_lost he]
      have hb1 : ((s.e : Int) != 0) = true := by rw [bne_iff_ne]; omega
      clear he
      obtain ⟨q0, q1, q2, q3, q4, q5, q6, qz, ql⟩ := seven_cells HR5.out
      go_wp2
      have hset := set7_row (a := .int .u8 0) (b := .bool false) (c := .int .i64 0) (d := .string ⟨#[]⟩) (e := .slice none 0 0) (f := .slice none 0 0) (h := .slice none 0 0) (HR5.out)
      have hsf := set7_fr w5 w.heap.size (.int .u8 0) (.bool false) (.int .i64 0) (.string ⟨#[]⟩) (.slice none 0 0) (.slice none 0 0) (.slice none 0 0)
      unfold set7 at hset hsf
      refine bodyPost_ret (results_cell_row2 (P := Tryz.prog) rfl _ _ w.heap.size 27 _ (0, 0) _ rfl hset Tryz.underlying27 rfl (by kernel_rfl)) rfl ?_
      exact dec5_bad (HDN.out) (F3.out.trans F35.out (fun _ _ h => h)) hsf
end Go.Proofs.YtijcleiekafoiaaGreatDoor

/- append onto a row of one's own that has room: it stays where it is. General. -/
namespace Go
open Go.RowKit
section
variable {P : Program} {w : World} {o : Oper} {a : Act} {K : Act → World → Prop} {Q : Exit → Act → World → Prop}

theorem run_apr {t e : TypeId} {z : Value} {size bytes : Nat} (tb : Tb P t e z size bytes) (ty : TypeId) {g n cap : Nat} {xs : List Value} (hown : w.ownsRow 0 e size (.slice (some ⟨g, 0, none⟩) n cap) n xs)
    {x : Value} {m : Nat} {news : List Value} (hx : Sl w size x m news) (h1 : ∀ u ∈ news, u.oneCell' = true) (hr : n + m ≤ cap) :
    ∃ w', (Builtin.append_ #[t, t] ty #[.slice (some ⟨g, 0, none⟩) n cap, x]).run P w = .ok (.slice (some ⟨g, 0, none⟩) (n + m) cap) w' ∧ w'.ownsRow 0 e size (.slice (some ⟨g, 0, none⟩) (n + m) cap) (n + m) (xs ++ news) ∧ Fr (fun k => k = g) w w' := by
  obtain ⟨i, hi, hz0, hz1, hz2⟩ := info_parts tb.info
  have hx2 : (x = .slice none 0 0 ∧ m = 0) ∨ ∃ y cap', x = .slice (some y) m cap' ∧ ∀ j u, news[j]? = some u → w.cell? (y.add j) = some u := by
    rcases hx.2 with ⟨Y, h1, h2⟩ | ⟨b, off, cap', h1, _, _, hc⟩
    · subst h1; subst h2
      cases Y with
      | none => exact .inl ⟨rfl, rfl⟩
      | some y => exact .inr ⟨y, 0, rfl, fun j u hu => by
          have hn : news = [] := List.eq_nil_of_length_eq_zero (by simpa using hx.1)
          subst hn; simp at hu⟩
    · exact .inr ⟨⟨b, off, none⟩, cap', h1, fun j u hu => by rw [Addr.add_lit]; exact hc j u hu⟩
  rcases hx2 with ⟨rfl, rfl⟩ | ⟨y, cap', rfl, hnews⟩
  · have hn : news = [] := List.eq_nil_of_length_eq_zero (by simpa using hx.1)
    subst hn
    exact ⟨w, run_append_owned_none (P := P) w 0 t ty e i size tb.und hi _ n xs hown, by simpa using hown, Fr.refl _ _⟩
  · rcases hown.2 with ⟨h, _⟩ | ⟨g', cap0, cur, h, hbg, hg, hnc, hcm, hcs, htake⟩
    · simp at h
    · simp only [Value.slice.injEq, Option.some.injEq, Addr.mk.injEq, and_true, true_and] at h
      obtain ⟨rfl, rfl⟩ := h
      subst hz1
      have hfit : n * i.size + news.length ≤ cur.size := by rw [hx.1, hcs, ← Nat.add_mul]; exact Nat.mul_le_mul_right _ hr
      have hrun := run_append_room (P := P) w t ty e i tb.und hi g n cap cur hg y m cap' news hx.1 hnews h1 hr hfit
      refine ⟨_, hrun, ⟨by rw [List.length_append, hown.1, hx.1, Nat.add_mul], .inr ⟨g, cap, _, rfl, hbg, setRow_heap w g cur _ e _ hg, hr, hcm, ?_, ?_⟩⟩, ⟨rfl, rfl, rfl, by simp, fun k _ hk => setRow_other w g k _ (fun e => hk e)⟩⟩
      · simp only [List.size_toArray, List.length_append, List.length_take, List.length_drop, Array.length_toList]
        omega
      · have hlen : (xs ++ news).length = (n + m) * i.size := by rw [List.length_append, hown.1, hx.1, Nat.add_mul]
        rw [htake, ← hlen]
        exact List.take_left

theorem wp_apr (s x : Operand) (t : TypeId) (ho : o.op = .call { callee := .builtin .append, args := #[s, x], argTypes := #[t, t] })
    {e : TypeId} {z : Value} {size bytes : Nat} (tb : Tb P t e z size bytes) {g n cap : Nat} {xs : List Value} (hown : w.ownsRow 0 e size (.slice (some ⟨g, 0, none⟩) n cap) n xs)
    {vx : Value} {m : Nat} {news : List Value} (hx : Sl w size vx m news) (hse : a.eval s = .slice (some ⟨g, 0, none⟩) n cap) (hxe : a.eval x = vx) (h1 : ∀ u ∈ news, u.oneCell' = true) (hr : n + m ≤ cap)
    (h : ∀ N w', N = n + m → w'.ownsRow 0 e size (.slice (some ⟨g, 0, none⟩) N cap) N (xs ++ news) → Fr (fun k => k = g) w w' → K (a.put o.dst (.slice (some ⟨g, 0, none⟩) N cap)) w') : o.wp P a w K Q := by
  obtain ⟨w', hrun, h2, h3⟩ := run_apr (P := P) tb o.type hown hx h1 hr
  unfold Oper.wp execOp
  simp only [ho, resolve, invoke, builtin, Sem.run_bind, Sem.run_pure, Result.andThen_ok, List.map_toArray, List.map_cons, List.map_nil, hse, hxe, hrun]
  exact h _ w' rfl h2 h3
variable {ops : Array Oper} {rest : List Oper}
theorem wpList_apr (hgd : o.guard = none) (s x : Operand) (t : TypeId) (ho : o.op = .call { callee := .builtin .append, args := #[s, x], argTypes := #[t, t] })
    {e : TypeId} {z : Value} {size bytes : Nat} (tb : Tb P t e z size bytes) {g n cap : Nat} {xs : List Value} (hown : w.ownsRow 0 e size (.slice (some ⟨g, 0, none⟩) n cap) n xs)
    {vx : Value} {m : Nat} {news : List Value} (hx : Sl w size vx m news) (hse : a.eval s = .slice (some ⟨g, 0, none⟩) n cap) (hxe : a.eval x = vx) (h1 : ∀ u ∈ news, u.oneCell' = true) (hr : n + m ≤ cap)
    (h : ∀ N w', N = n + m → w'.ownsRow 0 e size (.slice (some ⟨g, 0, none⟩) N cap) N (xs ++ news) → Fr (fun k => k = g) w w' → wpList P ops Q rest (a.put o.dst (.slice (some ⟨g, 0, none⟩) N cap)) w') : wpList P ops Q (o :: rest) a w :=
  wpList_plain hgd fun _ hK => wp_apr s x t ho tb hown hx hse hxe h1 hr fun N w' h2 h3 h4 => hK _ _ (h N w' h2 h3 h4)
end
end Go

/- What is lent to a call, looked at and written over behind it: LentBytes, WholeBytes, SpoilBytes. -/
namespace Go.Proofs.YtijcleiekafoiaaGreatDoor
open Go.RowKit

/-- At block g lie these bytes, and the two marks behind. -/
def Lent (w : World) (g : Nat) (l : List UInt8) : Prop := w.heap[g]? = some (.cells (bvs (l ++ [91, 92])).toArray 5 (0, 0))

theorem Lent.sl {w : World} {g : Nat} {l : List UInt8} (h : Lent w g l) (hl : l.length ≤ 140737488351232) : Sl w 1 (.slice (some ⟨g, 0, none⟩) l.length (l.length + 2)) l.length (bvs l) := by
  refine ⟨by rw [bvs_length, Nat.mul_one], .inr ⟨g, 0, _, rfl, by omega, by simp only [maxLen]; omega, fun j u hu => ?_⟩⟩
  have hj := (List.getElem?_eq_some_iff.1 hu).1
  rw [Nat.zero_add, cell_of_row w g j _ _ (0, 0) h, bvs_append]
  simp only [List.getElem?_toArray]
  rw [List.getElem?_append_left hj, hu]

set_option maxRecDepth 100000 in
set_option maxHeartbeats 400000 in
theorem lent_any (w : World) (x : Value) (l : List UInt8) (hx : Sl w 1 x l.length (bvs l)) (hl : l.length ≤ 140737488351232) :
    Calls Tryz.prog 16 #[x] w fun e w' => ∃ g, e = .returned (.slice (some ⟨g, 0, none⟩) l.length (l.length + 2)) ∧ w.heap.size ≤ g ∧ Lent w' g l ∧ Fr no w w' := by
  obtain ⟨A, c, rfl, hc1, hc2⟩ := hx.form
  have HX := Lib.hid hx; clear hx hc2
  obtain ⟨inf, hi, hz0, hz1, hz2⟩ := info_parts tbB.info
  obtain ⟨wm, hmk, hown, hgrow⟩ := run_make_own (P := Tryz.prog) w 0 23 5 inf (.int .u8 0) 1 tbB.und hi hz0 hz1 .i64 .i64 (l.length + 2) (by rw [hz2]; omega) (by simp only [maxLen]; omega) (Nat.zero_le _)
  rw [show ((l.length + 2 : Nat) : Int) = (l.length : Int) + 2 from by omega] at hmk
  have hfm : Fr no w wm := (Fr.of_grown hgrow).mono (fun k _ h => by cases h)
  have HO := Lib.hid hown; have HFM := Lib.hid hfm; have HG := Lib.hid (hown.lt _ rfl); clear hown hfm hgrow hi hz0 hz1 hz2
  go_enter Tryz.func16, Tryz.ntmps16
  go_wp2_with (at_builtin; refine wpList_apr rfl (.tmp 8) (.tmp 9) 23 rfl tbB HO.out (HX.out.kept0 HFM.out) rfl rfl (bvs_one l) (by omega) ?go)
  case go =>
    intro N w1 hN ho1 hf1
    obtain rfl : N = l.length := by omega
    have HO1 := Lib.hid ho1; have HF1 := Lib.hid hf1; clear ho1 hf1 hmk hN
    go_wp2_with (at_builtin; refine wpList_apr rfl (.tmp 11) (.tmp 12) 23 rfl tbB (own_kept0 HO1.out ?fr) (Sl.fresh w1 [91, 92] 5 (by rfl) (by simp [maxLen])) rfl rfl (bvs_one _) (by simp) ?go2)
    case fr => (repeat first | exact Fr.refl _ _ | apply Fr.drew | apply Fr.alloc)
    case go2 =>
      intro N w2 hN ho2 hf2
      have HO2 := Lib.hid ho2; have HF2 := Lib.hid hf2; clear ho2 hf2
      obtain rfl : N = l.length + 2 := by simpa using hN
      clear hN
      go_wp2
      go_ret
      have h := HO2.out
      rcases h.2 with ⟨h1, _⟩ | ⟨g, cap, cur, h1, _, hg, _, _, h4, h5⟩
      · cases h1
      · simp only [Value.slice.injEq, Option.some.injEq, Addr.mk.injEq, and_true, true_and] at h1
        obtain ⟨rfl, rfl⟩ := h1
        refine ⟨_, rfl, Nat.le_refl _, ?_, ?_⟩
        · unfold Lent
          rw [hg]
          rw [List.take_of_length_le (by rw [Array.length_toList]; omega)] at h5
          rw [bvs_append, ← h5]
        · have f1 : Fr no w w1 := HFM.out.trans HF1.out (fun k hk h => by omega)
          exact (f1.alloc _).trans HF2.out (fun k hk h => by omega)

theorem Lent.whole {w : World} {g : Nat} {l : List UInt8} (h : Lent w g l) : w.cell? ⟨g, l.length, none⟩ = some (.int .u8 91) ∧ w.cell? ⟨g, l.length + 1, none⟩ = some (.int .u8 92) := by
  constructor
  · rw [cell_of_row w g _ _ _ (0, 0) h]; simp [bvs, Bv]
  · rw [cell_of_row w g _ _ _ (0, 0) h]; simp [bvs, Bv]

theorem Lent.kept {S : Nat → Prop} {w w1 : World} {g : Nat} {l : List UInt8} (h : Lent w g l) (f : Fr S w w1) (hn : ¬ S g) : Lent w1 g l := f.heap h hn

set_option maxRecDepth 100000 in
set_option maxHeartbeats 400000 in
theorem whole_lent (w : World) (g : Nat) (y : Value) (l k : List UInt8) (hx : Lent w g l) (hy : Sl w 1 y k.length (bvs k)) (hl : l.length ≤ 140737488351232) (hk : k.length ≤ 140737488351232) :
    Calls Tryz.prog 18 #[.slice (some ⟨g, 0, none⟩) l.length (l.length + 2), y] w fun e w' => e = .returned (.bool (decide (l = k))) ∧ ∃ n, w' = w.drewN n := by
  obtain ⟨A, c, rfl, hc1, hc2⟩ := hy.form
  obtain ⟨q1, q2⟩ := hx.whole
  have HX := Lib.hid (hx.sl hl); have HY := Lib.hid hy; clear hx hy hc2
  go_enter Tryz.func18, Tryz.ntmps18
  go_wp2_with fail
  refine (same_any _ _ _ l k HX.out HY.out hl hk).mono ?_
  rintro e w1 ⟨rfl, n1, rfl⟩
  go_wp2
  go_ret
  exact ⟨rfl, n1, rfl⟩

end Go.Proofs.YtijcleiekafoiaaGreatDoor

/- SpoilBytes of bytes that were lent. -/
namespace Go.Proofs.YtijcleiekafoiaaGreatDoor
open Go.RowKit

set_option maxRecDepth 100000 in
set_option maxHeartbeats 400000 in
theorem spoil_lent (w : World) (g : Nat) (l : List UInt8) (hx : Lent w g l) (hl : l.length ≤ 140737488351232) :
    Calls Tryz.prog 19 #[.slice (some ⟨g, 0, none⟩) l.length (l.length + 2)] w fun e w' => e = .returned (.tuple #[]) ∧ Fr (fun k => k = g) w w' := by
  go_enter Tryz.func19, Tryz.ntmps19
  go_wp2
  go_loopw [3] (fun i wr => ∃ j : Nat, j ≤ l.length + 2 ∧ i = .int .i64 j ∧ Fr (fun k => k = g) w wr ∧ ∃ cur, wr.heap[g]? = some (.cells cur 5 (0, 0)) ∧ cur.size = l.length + 2) (fun i _ => l.length + 2 - (intOf i).toNat)
  case atStart => exact ⟨0, Nat.zero_le _, rfl, Fr.refl _ _, _, hx, by simp [bvs]⟩
  case round =>
    obtain ⟨j, hj, rfl, hf, cur, hg, hsz⟩ := hrel
    have HF := Lib.hid hf; have HG := Lib.hid hg; clear hf hg
    by_cases hlt : j < l.length + 2
    · have q0 : wr.cell? ⟨g, j, none⟩ = some (cur[j]'(by omega)) := by rw [cell_of_row wr g _ _ _ (0, 0) HG.out]; simp
      have q1 : wr.frozen? ⟨g, j, none⟩ = false := by simp [World.frozen?, HG.out]
      go_wp2
      go_roundw
      case rel =>
        refine ⟨j + 1, hlt, by go_num, HF.out.setCell _ _ (fun _ => rfl), cur.setIfInBounds j (.int .u8 238), ?_, by simp [hsz]⟩
        rw [hp_same HG.out]
      case measure => simp [intOf]; omega
    · go_wp2
      go_end0
      exact ⟨rfl, HF.out⟩
end Go.Proofs.YtijcleiekafoiaaGreatDoor
