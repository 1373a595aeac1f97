import Derived.Test.YtdnohhlgaaihmaaMt12
import Derived.Test.YtdnohhlgaaihmaaMt08

/- SameSpans. -/
namespace Go.Proofs.Ytdnohhlgaaihmaa
open Go.RowKit

theorem pr_inj {x y : SpV} : x.pr = y.pr ↔ x.f = y.f ∧ x.t = y.t ∧ x.o = y.o := by simp [SpV.pr]

theorem map_take_ne {l k : List SpV} {j : Nat} (h1 : j < l.length) (h2 : j < k.length) (h : l[j].pr ≠ k[j].pr) : l.map SpV.pr ≠ k.map SpV.pr := fun e => h (by
  have := congrArg (fun z => z[j]?) e
  simpa [h1, h2] using this)

set_option maxRecDepth 100000 in
set_option maxHeartbeats 4000000 in
theorem samesp_any (w : World) (x y : Value) (l k : List SpV) (hx : Sl w 3 x l.length (l.flatMap SpV.cells)) (hy : Sl w 3 y k.length (k.flatMap SpV.cells)) (gl : ∀ z ∈ l, z.Good w) (gk : ∀ z ∈ k, z.Good w) (hl : l.length ≤ 100000) :
    Calls Try.prog 45 #[x, y] w fun e w' => e = .returned (.bool (decide (l.map SpV.pr = k.map SpV.pr))) ∧ Fr no w w' := by
  obtain ⟨A, c, rfl, hc1, hc2⟩ := hx.form
  obtain ⟨B, d, rfl, hd1, hd2⟩ := hy.form
  have HX := Lib.hid hx; have HY := Lib.hid hy; have GL := Lib.hid gl; have GK := Lib.hid gk; clear hx hy gl gk
  by_cases hlen : l.length = k.length
  · have hb : ((l.length : Int) != (k.length : Int)) = false := by simp [hlen]
    have HLEN := Lib.hid hlen; clear hlen
    go_enter Try.func45, Try.ntmps45
    go_wp2
    go_loopw [5] (fun i wr => ∃ j : Nat, j ≤ l.length ∧ i = .int .i64 j ∧ (l.take j).map SpV.pr = (k.take j).map SpV.pr ∧ Fr no w wr) (fun i _ => l.length - (intOf i).toNat)
    case atStart => exact ⟨0, Nat.zero_le _, rfl, rfl, Fr.refl _ _⟩
    case round =>
      obtain ⟨j, hj, rfl, ht, hf⟩ := hrel
      have HT := Lib.hid ht; have HF := Lib.hid hf; clear ht hf
      by_cases hlt : j < l.length
      · have hlt2 : j < k.length := by have := HLEN.out; omega
        obtain ⟨b, o, hA, q0, q1, q2⟩ := Spans.at (HX.out.kept0 HF.out) j hlt
        obtain ⟨b2, o2, hB, r0, r1, r2⟩ := Spans.at (HY.out.kept0 HF.out) j hlt2
        obtain ⟨P1, e1, h1, _, _⟩ := (GL.out l[j] (List.getElem_mem _)).F.form
        obtain ⟨P2, e2, h2, _, _⟩ := (GL.out l[j] (List.getElem_mem _)).T.form
        obtain ⟨P3, e3, h3, _, _⟩ := (GK.out k[j] (List.getElem_mem _)).F.form
        obtain ⟨P4, e4, h4, _, _⟩ := (GK.out k[j] (List.getElem_mem _)).T.form
        have HL := Lib.hid ((GL.out l[j] (List.getElem_mem _)).kept0 HF.out)
        have HK := Lib.hid ((GK.out k[j] (List.getElem_mem _)).kept0 HF.out)
        have f1 := Lib.hid (h1 ▸ HL.out.F); have f2 := Lib.hid (h2 ▸ HL.out.T); have f3 := Lib.hid (h3 ▸ HK.out.F); have f4 := Lib.hid (h4 ▸ HK.out.T)
        have hq := World.block_lt_of_cell? wr _ q0
        have hr := World.block_lt_of_cell? wr _ r0
        rw [h1] at q0; rw [h2] at q1; rw [h3] at r0; rw [h4] at r1
        subst hA; subst hB
        clear h1 h2 h3 h4
        by_cases ho : l[j].o = k[j].o
        · rw [← ho] at r2
          have HO := Lib.hid ho; clear ho
          by_cases hff : l[j].f = k[j].f
          · have hd1 : decide (l[j].f = k[j].f) = true := by simpa using hff
            have HFF := Lib.hid hff; clear hff
            by_cases htt : l[j].t = k[j].t
            · have hd2 : decide (l[j].t = k[j].t) = true := by simpa using htt
              have HTT := Lib.hid htt; clear htt
              go_wp2_with fail
              refine wp_region_ord (List.range 39) (fun i => [Kd.p, Kd.p, Kd.p, Kd.p, Kd.l, Kd.p, Kd.p, Kd.p, Kd.p, Kd.l, Kd.e, Kd.p, Kd.p, Kd.p, Kd.p, Kd.p, Kd.l, Kd.p, Kd.p, Kd.p, Kd.p, Kd.l, Kd.e, Kd.p, Kd.p, Kd.p, Kd.p, Kd.p, Kd.p, Kd.p, Kd.l, Kd.p, Kd.p, Kd.p, Kd.p, Kd.l, Kd.e, Kd.p, Kd.p].getD i .e) (by kernel_rfl) (by kernel_rfl) ?_
              iterate 10
                first | (refine wpX_un rfl rfl ?_; go_simp) | first | refine wpX_pu rfl rfl rfl (by first | exact pu_move rfl | exact pu_assign rfl | exact pu_nilCheck rfl rfl | exact pu_binInt rfl rfl rfl | exact pu_conv rfl rfl (by kernel_rfl) | exact pu_fld rfl (by kernel_rfl) | exact pu_ix rfl rfl rfl (by kernel_rfl) | exact pu_unOp rfl | exact pu_binStr rfl rfl rfl | exact pu_len rfl rfl | exact pu_lens rfl rfl | exact pu_pick rfl | exact pu_slice rfl rfl) (fun K hK => ?_) | refine wpX_rd rfl rfl rfl (rd_load rfl) (fun K hK => ?_) | refine wpX_gr rfl rfl rfl (by first | exact gr_buildSlice rfl | exact gr_box rfl | exact gr_alloc rfl) (fun K hK => ?_) | refine wpX_ex rfl rfl rfl (fun K hK => ?_)
                try go_wp2
              refine wpX_ex rfl rfl rfl (fun K hK => ?_)
              go_simp
              refine hK _ _ ?_
              clear hK K
              iterate 11
                first | (refine wpX_un rfl rfl ?_; go_simp) | first | refine wpX_pu rfl rfl rfl (by first | exact pu_move rfl | exact pu_assign rfl | exact pu_nilCheck rfl rfl | exact pu_binInt rfl rfl rfl | exact pu_conv rfl rfl (by kernel_rfl) | exact pu_fld rfl (by kernel_rfl) | exact pu_ix rfl rfl rfl (by kernel_rfl) | exact pu_unOp rfl | exact pu_binStr rfl rfl rfl | exact pu_len rfl rfl | exact pu_lens rfl rfl | exact pu_pick rfl | exact pu_slice rfl rfl) (fun K hK => ?_) | refine wpX_rd rfl rfl rfl (rd_load rfl) (fun K hK => ?_) | refine wpX_gr rfl rfl rfl (by first | exact gr_buildSlice rfl | exact gr_box rfl | exact gr_alloc rfl) (fun K hK => ?_) | refine wpX_ex rfl rfl rfl (fun K hK => ?_)
                try go_wp2
              refine wpX_ex rfl rfl rfl (fun K hK => ?_)
              go_wp2_with fail
              refine (same_any _ _ _ l[j].f k[j].f (f1.out.kept0 (by (repeat first | exact Fr.refl _ _ | exact Fr.drewN _ _ _ | apply Fr.drew | apply Fr.alloc | apply Fr.setAt | apply Fr.moreN))) (f3.out.kept0 (by (repeat first | exact Fr.refl _ _ | exact Fr.drewN _ _ _ | apply Fr.drew | apply Fr.alloc | apply Fr.setAt | apply Fr.moreN))) HL.out.lf HK.out.lf).mono ?_
              rintro e w2 ⟨rfl, n1, rfl⟩
              rw [hd1]
              go_wp2_with fail
              iterate 13
                first | (refine wpX_un rfl rfl ?_; go_simp) | first | refine wpX_pu rfl rfl rfl (by first | exact pu_move rfl | exact pu_assign rfl | exact pu_nilCheck rfl rfl | exact pu_binInt rfl rfl rfl | exact pu_conv rfl rfl (by kernel_rfl) | exact pu_fld rfl (by kernel_rfl) | exact pu_ix rfl rfl rfl (by kernel_rfl) | exact pu_unOp rfl | exact pu_binStr rfl rfl rfl | exact pu_len rfl rfl | exact pu_lens rfl rfl | exact pu_pick rfl | exact pu_slice rfl rfl) (fun K hK => ?_) | refine wpX_rd rfl rfl rfl (rd_load rfl) (fun K hK => ?_) | refine wpX_gr rfl rfl rfl (by first | exact gr_buildSlice rfl | exact gr_box rfl | exact gr_alloc rfl) (fun K hK => ?_) | refine wpX_ex rfl rfl rfl (fun K hK => ?_)
                try go_wp2
              refine wpX_ex rfl rfl rfl (fun K hK => ?_)
              go_wp2_with fail
              refine (same_any _ _ _ l[j].t k[j].t (f2.out.kept0 (by (repeat first | exact Fr.refl _ _ | exact Fr.drewN _ _ _ | apply Fr.drew | apply Fr.alloc | apply Fr.setAt | apply Fr.moreN))) (f4.out.kept0 (by (repeat first | exact Fr.refl _ _ | exact Fr.drewN _ _ _ | apply Fr.drew | apply Fr.alloc | apply Fr.setAt | apply Fr.moreN))) HL.out.lt HK.out.lt).mono ?_
              rintro e w3 ⟨rfl, n2, rfl⟩
              rw [hd2]
              go_wp2_with fail
              iterate 2
                first | (refine wpX_un rfl rfl ?_; go_simp) | first | refine wpX_pu rfl rfl rfl (by first | exact pu_move rfl | exact pu_assign rfl | exact pu_nilCheck rfl rfl | exact pu_binInt rfl rfl rfl | exact pu_conv rfl rfl (by kernel_rfl) | exact pu_fld rfl (by kernel_rfl) | exact pu_ix rfl rfl rfl (by kernel_rfl) | exact pu_unOp rfl | exact pu_binStr rfl rfl rfl | exact pu_len rfl rfl | exact pu_lens rfl rfl | exact pu_pick rfl | exact pu_slice rfl rfl) (fun K hK => ?_) | refine wpX_rd rfl rfl rfl (rd_load rfl) (fun K hK => ?_) | refine wpX_gr rfl rfl rfl (by first | exact gr_buildSlice rfl | exact gr_box rfl | exact gr_alloc rfl) (fun K hK => ?_) | refine wpX_ex rfl rfl rfl (fun K hK => ?_)
                try go_wp2
              refine wpX_done ?_
              go_wp2
              go_roundw
              case rel =>
                refine ⟨j + 1, hlt, by go_num, ?_, HF.out.trans (by (repeat first | exact Fr.refl _ _ | exact Fr.drewN _ _ _ | apply Fr.drew | apply Fr.alloc | apply Fr.setAt | apply Fr.moreN)) (fun _ _ h => h)⟩
                rw [List.take_succ_eq_append_getElem hlt, List.take_succ_eq_append_getElem hlt2, List.map_append, List.map_append, HT.out]
                have e : l[j].pr = k[j].pr := pr_inj.2 ⟨HFF.out, HTT.out, HO.out⟩
                rw [List.map_singleton, List.map_singleton, e]
              case measure => simp [intOf]; omega
            · have hd2 : decide (l[j].t = k[j].t) = false := by simpa using htt
              have HTT := Lib.hid htt; clear htt
              go_wp2_with fail
              refine wp_region_ord (List.range 39) (fun i => [Kd.p, Kd.p, Kd.p, Kd.p, Kd.l, Kd.p, Kd.p, Kd.p, Kd.p, Kd.l, Kd.e, Kd.p, Kd.p, Kd.p, Kd.p, Kd.p, Kd.l, Kd.p, Kd.p, Kd.p, Kd.p, Kd.l, Kd.e, Kd.p, Kd.p, Kd.p, Kd.p, Kd.p, Kd.p, Kd.p, Kd.l, Kd.p, Kd.p, Kd.p, Kd.p, Kd.l, Kd.e, Kd.p, Kd.p].getD i .e) (by kernel_rfl) (by kernel_rfl) ?_
              iterate 10
                first | (refine wpX_un rfl rfl ?_; go_simp) | first | refine wpX_pu rfl rfl rfl (by first | exact pu_move rfl | exact pu_assign rfl | exact pu_nilCheck rfl rfl | exact pu_binInt rfl rfl rfl | exact pu_conv rfl rfl (by kernel_rfl) | exact pu_fld rfl (by kernel_rfl) | exact pu_ix rfl rfl rfl (by kernel_rfl) | exact pu_unOp rfl | exact pu_binStr rfl rfl rfl | exact pu_len rfl rfl | exact pu_lens rfl rfl | exact pu_pick rfl | exact pu_slice rfl rfl) (fun K hK => ?_) | refine wpX_rd rfl rfl rfl (rd_load rfl) (fun K hK => ?_) | refine wpX_gr rfl rfl rfl (by first | exact gr_buildSlice rfl | exact gr_box rfl | exact gr_alloc rfl) (fun K hK => ?_) | refine wpX_ex rfl rfl rfl (fun K hK => ?_)
                try go_wp2
              refine wpX_ex rfl rfl rfl (fun K hK => ?_)
              go_simp
              refine hK _ _ ?_
              clear hK K
              iterate 11
                first | (refine wpX_un rfl rfl ?_; go_simp) | first | refine wpX_pu rfl rfl rfl (by first | exact pu_move rfl | exact pu_assign rfl | exact pu_nilCheck rfl rfl | exact pu_binInt rfl rfl rfl | exact pu_conv rfl rfl (by kernel_rfl) | exact pu_fld rfl (by kernel_rfl) | exact pu_ix rfl rfl rfl (by kernel_rfl) | exact pu_unOp rfl | exact pu_binStr rfl rfl rfl | exact pu_len rfl rfl | exact pu_lens rfl rfl | exact pu_pick rfl | exact pu_slice rfl rfl) (fun K hK => ?_) | refine wpX_rd rfl rfl rfl (rd_load rfl) (fun K hK => ?_) | refine wpX_gr rfl rfl rfl (by first | exact gr_buildSlice rfl | exact gr_box rfl | exact gr_alloc rfl) (fun K hK => ?_) | refine wpX_ex rfl rfl rfl (fun K hK => ?_)
                try go_wp2
              refine wpX_ex rfl rfl rfl (fun K hK => ?_)
              go_wp2_with fail
              refine (same_any _ _ _ l[j].f k[j].f (f1.out.kept0 (by (repeat first | exact Fr.refl _ _ | exact Fr.drewN _ _ _ | apply Fr.drew | apply Fr.alloc | apply Fr.setAt | apply Fr.moreN))) (f3.out.kept0 (by (repeat first | exact Fr.refl _ _ | exact Fr.drewN _ _ _ | apply Fr.drew | apply Fr.alloc | apply Fr.setAt | apply Fr.moreN))) HL.out.lf HK.out.lf).mono ?_
              rintro e w2 ⟨rfl, n1, rfl⟩
              rw [hd1]
              go_wp2_with fail
              iterate 13
                first | (refine wpX_un rfl rfl ?_; go_simp) | first | refine wpX_pu rfl rfl rfl (by first | exact pu_move rfl | exact pu_assign rfl | exact pu_nilCheck rfl rfl | exact pu_binInt rfl rfl rfl | exact pu_conv rfl rfl (by kernel_rfl) | exact pu_fld rfl (by kernel_rfl) | exact pu_ix rfl rfl rfl (by kernel_rfl) | exact pu_unOp rfl | exact pu_binStr rfl rfl rfl | exact pu_len rfl rfl | exact pu_lens rfl rfl | exact pu_pick rfl | exact pu_slice rfl rfl) (fun K hK => ?_) | refine wpX_rd rfl rfl rfl (rd_load rfl) (fun K hK => ?_) | refine wpX_gr rfl rfl rfl (by first | exact gr_buildSlice rfl | exact gr_box rfl | exact gr_alloc rfl) (fun K hK => ?_) | refine wpX_ex rfl rfl rfl (fun K hK => ?_)
                try go_wp2
              refine wpX_ex rfl rfl rfl (fun K hK => ?_)
              go_wp2_with fail
              refine (same_any _ _ _ l[j].t k[j].t (f2.out.kept0 (by (repeat first | exact Fr.refl _ _ | exact Fr.drewN _ _ _ | apply Fr.drew | apply Fr.alloc | apply Fr.setAt | apply Fr.moreN))) (f4.out.kept0 (by (repeat first | exact Fr.refl _ _ | exact Fr.drewN _ _ _ | apply Fr.drew | apply Fr.alloc | apply Fr.setAt | apply Fr.moreN))) HL.out.lt HK.out.lt).mono ?_
              rintro e w3 ⟨rfl, n2, rfl⟩
              rw [hd2]
              go_wp2_with fail
              iterate 2
                first | (refine wpX_un rfl rfl ?_; go_simp) | first | refine wpX_pu rfl rfl rfl (by first | exact pu_move rfl | exact pu_assign rfl | exact pu_nilCheck rfl rfl | exact pu_binInt rfl rfl rfl | exact pu_conv rfl rfl (by kernel_rfl) | exact pu_fld rfl (by kernel_rfl) | exact pu_ix rfl rfl rfl (by kernel_rfl) | exact pu_unOp rfl | exact pu_binStr rfl rfl rfl | exact pu_len rfl rfl | exact pu_lens rfl rfl | exact pu_pick rfl | exact pu_slice rfl rfl) (fun K hK => ?_) | refine wpX_rd rfl rfl rfl (rd_load rfl) (fun K hK => ?_) | refine wpX_gr rfl rfl rfl (by first | exact gr_buildSlice rfl | exact gr_box rfl | exact gr_alloc rfl) (fun K hK => ?_) | refine wpX_ex rfl rfl rfl (fun K hK => ?_)
                try go_wp2
              refine wpX_done ?_
              go_wp2
              go_ret
              exact ⟨by rw [decide_eq_false (map_take_ne hlt hlt2 (fun e => HTT.out (pr_inj.1 e).2.1))]; rfl, HF.out.trans (by (repeat first | exact Fr.refl _ _ | exact Fr.drewN _ _ _ | apply Fr.drew | apply Fr.alloc | apply Fr.setAt | apply Fr.moreN)) (fun _ _ h => h)⟩
          · have hd1 : decide (l[j].f = k[j].f) = false := by simpa using hff
            have HFF := Lib.hid hff; clear hff
            go_wp2_with fail
            refine wp_region_ord (List.range 39) (fun i => [Kd.p, Kd.p, Kd.p, Kd.p, Kd.l, Kd.p, Kd.p, Kd.p, Kd.p, Kd.l, Kd.e, Kd.p, Kd.p, Kd.p, Kd.p, Kd.p, Kd.l, Kd.p, Kd.p, Kd.p, Kd.p, Kd.l, Kd.e, Kd.p, Kd.p, Kd.p, Kd.p, Kd.p, Kd.p, Kd.p, Kd.l, Kd.p, Kd.p, Kd.p, Kd.p, Kd.l, Kd.e, Kd.p, Kd.p].getD i .e) (by kernel_rfl) (by kernel_rfl) ?_
            iterate 10
              first | (refine wpX_un rfl rfl ?_; go_simp) | first | refine wpX_pu rfl rfl rfl (by first | exact pu_move rfl | exact pu_assign rfl | exact pu_nilCheck rfl rfl | exact pu_binInt rfl rfl rfl | exact pu_conv rfl rfl (by kernel_rfl) | exact pu_fld rfl (by kernel_rfl) | exact pu_ix rfl rfl rfl (by kernel_rfl) | exact pu_unOp rfl | exact pu_binStr rfl rfl rfl | exact pu_len rfl rfl | exact pu_lens rfl rfl | exact pu_pick rfl | exact pu_slice rfl rfl) (fun K hK => ?_) | refine wpX_rd rfl rfl rfl (rd_load rfl) (fun K hK => ?_) | refine wpX_gr rfl rfl rfl (by first | exact gr_buildSlice rfl | exact gr_box rfl | exact gr_alloc rfl) (fun K hK => ?_) | refine wpX_ex rfl rfl rfl (fun K hK => ?_)
              try go_wp2
            refine wpX_ex rfl rfl rfl (fun K hK => ?_)
            go_simp
            refine hK _ _ ?_
            clear hK K
            iterate 11
              first | (refine wpX_un rfl rfl ?_; go_simp) | first | refine wpX_pu rfl rfl rfl (by first | exact pu_move rfl | exact pu_assign rfl | exact pu_nilCheck rfl rfl | exact pu_binInt rfl rfl rfl | exact pu_conv rfl rfl (by kernel_rfl) | exact pu_fld rfl (by kernel_rfl) | exact pu_ix rfl rfl rfl (by kernel_rfl) | exact pu_unOp rfl | exact pu_binStr rfl rfl rfl | exact pu_len rfl rfl | exact pu_lens rfl rfl | exact pu_pick rfl | exact pu_slice rfl rfl) (fun K hK => ?_) | refine wpX_rd rfl rfl rfl (rd_load rfl) (fun K hK => ?_) | refine wpX_gr rfl rfl rfl (by first | exact gr_buildSlice rfl | exact gr_box rfl | exact gr_alloc rfl) (fun K hK => ?_) | refine wpX_ex rfl rfl rfl (fun K hK => ?_)
              try go_wp2
            refine wpX_ex rfl rfl rfl (fun K hK => ?_)
            go_wp2_with fail
            refine (same_any _ _ _ l[j].f k[j].f (f1.out.kept0 (by (repeat first | exact Fr.refl _ _ | exact Fr.drewN _ _ _ | apply Fr.drew | apply Fr.alloc | apply Fr.setAt | apply Fr.moreN))) (f3.out.kept0 (by (repeat first | exact Fr.refl _ _ | exact Fr.drewN _ _ _ | apply Fr.drew | apply Fr.alloc | apply Fr.setAt | apply Fr.moreN))) HL.out.lf HK.out.lf).mono ?_
            rintro e w2 ⟨rfl, n1, rfl⟩
            rw [hd1]
            go_wp2_with fail
            iterate 16
              first | (refine wpX_un rfl rfl ?_; go_simp) | first | refine wpX_pu rfl rfl rfl (by first | exact pu_move rfl | exact pu_assign rfl | exact pu_nilCheck rfl rfl | exact pu_binInt rfl rfl rfl | exact pu_conv rfl rfl (by kernel_rfl) | exact pu_fld rfl (by kernel_rfl) | exact pu_ix rfl rfl rfl (by kernel_rfl) | exact pu_unOp rfl | exact pu_binStr rfl rfl rfl | exact pu_len rfl rfl | exact pu_lens rfl rfl | exact pu_pick rfl | exact pu_slice rfl rfl) (fun K hK => ?_) | refine wpX_rd rfl rfl rfl (rd_load rfl) (fun K hK => ?_) | refine wpX_gr rfl rfl rfl (by first | exact gr_buildSlice rfl | exact gr_box rfl | exact gr_alloc rfl) (fun K hK => ?_) | refine wpX_ex rfl rfl rfl (fun K hK => ?_)
              try go_wp2
            refine wpX_done ?_
            go_wp2
            go_ret
            exact ⟨by rw [decide_eq_false (map_take_ne hlt hlt2 (fun e => HFF.out (pr_inj.1 e).1))]; rfl, HF.out.trans (by (repeat first | exact Fr.refl _ _ | exact Fr.drewN _ _ _ | apply Fr.drew | apply Fr.alloc | apply Fr.setAt | apply Fr.moreN)) (fun _ _ h => h)⟩
        · have ho2 : (l[j].o = true ∧ k[j].o = false) ∨ (l[j].o = false ∧ k[j].o = true) := by
            revert ho; cases l[j].o <;> cases k[j].o <;> simp
          have HO := Lib.hid ho; clear ho
          rcases ho2 with ⟨ha, hb2⟩ | ⟨ha, hb2⟩
          all_goals
            rw [ha] at q2; rw [hb2] at r2
            clear ha hb2
            go_wp2_with fail
            refine wp_region_ord (List.range 39) (fun i => [Kd.p, Kd.p, Kd.p, Kd.p, Kd.l, Kd.p, Kd.p, Kd.p, Kd.p, Kd.l, Kd.e, Kd.p, Kd.p, Kd.p, Kd.p, Kd.p, Kd.l, Kd.p, Kd.p, Kd.p, Kd.p, Kd.l, Kd.e, Kd.p, Kd.p, Kd.p, Kd.p, Kd.p, Kd.p, Kd.p, Kd.l, Kd.p, Kd.p, Kd.p, Kd.p, Kd.l, Kd.e, Kd.p, Kd.p].getD i .e) (by kernel_rfl) (by kernel_rfl) ?_
            iterate 10
              first | (refine wpX_un rfl rfl ?_; go_simp) | first | refine wpX_pu rfl rfl rfl (by first | exact pu_move rfl | exact pu_assign rfl | exact pu_nilCheck rfl rfl | exact pu_binInt rfl rfl rfl | exact pu_conv rfl rfl (by kernel_rfl) | exact pu_fld rfl (by kernel_rfl) | exact pu_ix rfl rfl rfl (by kernel_rfl) | exact pu_unOp rfl | exact pu_binStr rfl rfl rfl | exact pu_len rfl rfl | exact pu_lens rfl rfl | exact pu_pick rfl | exact pu_slice rfl rfl) (fun K hK => ?_) | refine wpX_rd rfl rfl rfl (rd_load rfl) (fun K hK => ?_) | refine wpX_gr rfl rfl rfl (by first | exact gr_buildSlice rfl | exact gr_box rfl | exact gr_alloc rfl) (fun K hK => ?_) | refine wpX_ex rfl rfl rfl (fun K hK => ?_)
              try go_wp2
            refine wpX_ex rfl rfl rfl (fun K hK => ?_)
            go_simp
            refine hK _ _ ?_
            clear hK K
            iterate 28
              first | (refine wpX_un rfl rfl ?_; go_simp) | first | refine wpX_pu rfl rfl rfl (by first | exact pu_move rfl | exact pu_assign rfl | exact pu_nilCheck rfl rfl | exact pu_binInt rfl rfl rfl | exact pu_conv rfl rfl (by kernel_rfl) | exact pu_fld rfl (by kernel_rfl) | exact pu_ix rfl rfl rfl (by kernel_rfl) | exact pu_unOp rfl | exact pu_binStr rfl rfl rfl | exact pu_len rfl rfl | exact pu_lens rfl rfl | exact pu_pick rfl | exact pu_slice rfl rfl) (fun K hK => ?_) | refine wpX_rd rfl rfl rfl (rd_load rfl) (fun K hK => ?_) | refine wpX_gr rfl rfl rfl (by first | exact gr_buildSlice rfl | exact gr_box rfl | exact gr_alloc rfl) (fun K hK => ?_) | refine wpX_ex rfl rfl rfl (fun K hK => ?_)
              try go_wp2
            refine wpX_done ?_
            go_wp2
            go_ret
            exact ⟨by rw [decide_eq_false (map_take_ne hlt hlt2 (fun e => HO.out (pr_inj.1 e).2.2))]; rfl, HF.out.trans (by (repeat first | exact Fr.refl _ _ | exact Fr.drewN _ _ _ | apply Fr.drew | apply Fr.alloc | apply Fr.setAt | apply Fr.moreN)) (fun _ _ h => h)⟩
      · go_wp2
        go_ret
        have h := HT.out
        rw [List.take_of_length_le (by omega), List.take_of_length_le (by have := HLEN.out; omega)] at h
        exact ⟨by rw [decide_eq_true h]; rfl, HF.out⟩
  · have hb : ((l.length : Int) != (k.length : Int)) = true := by rw [bne_iff_ne]; intro h; exact hlen (by omega)
    have hne : decide (l.map SpV.pr = k.map SpV.pr) = false := by
      rw [decide_eq_false_iff_not]; intro h
      have := congrArg List.length h; simp at this; exact hlen this
    rw [hne]
    go_enter Try.func45, Try.ntmps45
    go_wp2
    go_ret
    exact ⟨rfl, Fr.refl _ _⟩
end Go.Proofs.Ytdnohhlgaaihmaa

/- The owner's check of a whole book: one kind of lists behind the other. -/
namespace Go.Proofs.Ytdnohhlgaaihmaa
open Go.RowKit

set_option maxRecDepth 100000 in
set_option maxHeartbeats 4000000 in
theorem own_all (b : Nat) (w : World) (F : Nat → Value) (I : Nat → World → Prop) (h0 : I 0 w) (hc : ∀ i w', i < 23 → I i w' → w'.cell? ⟨b, i, none⟩ = some (F i))
    (k0 : ∀ w', I 0 w' → Calls Try.prog 83 #[F 0] w' fun e w'' => e = .returned (.bool true) ∧ I 1 w'')
    (k1 : ∀ w', I 1 w' → Calls Try.prog 84 #[F 1] w' fun e w'' => e = .returned (.bool true) ∧ I 2 w'')
    (k2 : ∀ w', I 2 w' → Calls Try.prog 85 #[F 2] w' fun e w'' => e = .returned (.bool true) ∧ I 3 w'')
    (k3 : ∀ w', I 3 w' → Calls Try.prog 86 #[F 3] w' fun e w'' => e = .returned (.bool true) ∧ I 4 w'')
    (k4 : ∀ w', I 4 w' → Calls Try.prog 87 #[F 4] w' fun e w'' => e = .returned (.bool true) ∧ I 5 w'')
    (k5 : ∀ w', I 5 w' → Calls Try.prog 88 #[F 5] w' fun e w'' => e = .returned (.bool true) ∧ I 6 w'')
    (k6 : ∀ w', I 6 w' → Calls Try.prog 89 #[F 6] w' fun e w'' => e = .returned (.bool true) ∧ I 7 w'')
    (k7 : ∀ w', I 7 w' → Calls Try.prog 90 #[F 7] w' fun e w'' => e = .returned (.bool true) ∧ I 8 w'')
    (k8 : ∀ w', I 8 w' → Calls Try.prog 91 #[F 8] w' fun e w'' => e = .returned (.bool true) ∧ I 9 w'')
    (k9 : ∀ w', I 9 w' → Calls Try.prog 92 #[F 9] w' fun e w'' => e = .returned (.bool true) ∧ I 10 w'')
    (k10 : ∀ w', I 10 w' → Calls Try.prog 93 #[F 10] w' fun e w'' => e = .returned (.bool true) ∧ I 11 w'')
    (k11 : ∀ w', I 11 w' → Calls Try.prog 94 #[F 11] w' fun e w'' => e = .returned (.bool true) ∧ I 12 w'')
    (k12 : ∀ w', I 12 w' → Calls Try.prog 95 #[F 12] w' fun e w'' => e = .returned (.bool true) ∧ I 13 w'')
    (k13 : ∀ w', I 13 w' → Calls Try.prog 96 #[F 13] w' fun e w'' => e = .returned (.bool true) ∧ I 14 w'')
    (k14 : ∀ w', I 14 w' → Calls Try.prog 97 #[F 14] w' fun e w'' => e = .returned (.bool true) ∧ I 15 w'')
    (k15 : ∀ w', I 15 w' → Calls Try.prog 98 #[F 15] w' fun e w'' => e = .returned (.bool true) ∧ I 16 w'')
    (k16 : ∀ w', I 16 w' → Calls Try.prog 99 #[F 16] w' fun e w'' => e = .returned (.bool true) ∧ I 17 w'')
    (k17 : ∀ w', I 17 w' → Calls Try.prog 100 #[F 17] w' fun e w'' => e = .returned (.bool true) ∧ I 18 w'')
    (k18 : ∀ w', I 18 w' → Calls Try.prog 101 #[F 18] w' fun e w'' => e = .returned (.bool true) ∧ I 19 w'')
    (k19 : ∀ w', I 19 w' → Calls Try.prog 102 #[F 19] w' fun e w'' => e = .returned (.bool true) ∧ I 20 w'')
    (k20 : ∀ w', I 20 w' → Calls Try.prog 103 #[F 20] w' fun e w'' => e = .returned (.bool true) ∧ I 21 w'')
    (k21 : ∀ w', I 21 w' → Calls Try.prog 104 #[F 21] w' fun e w'' => e = .returned (.bool true) ∧ I 22 w'')
    (k22 : ∀ w', I 22 w' → Calls Try.prog 105 #[F 22] w' fun e w'' => e = .returned (.bool true) ∧ I 23 w'')
    : Calls Try.prog 37 #[.pointer (some ⟨b, 0, none⟩)] w fun e w' => e = .returned (.bool true) ∧ I 23 w' := by
  have HC := Lib.hid hc; clear hc
  have K0 := Lib.hid k0; clear k0
  have K1 := Lib.hid k1; clear k1
  have K2 := Lib.hid k2; clear k2
  have K3 := Lib.hid k3; clear k3
  have K4 := Lib.hid k4; clear k4
  have K5 := Lib.hid k5; clear k5
  have K6 := Lib.hid k6; clear k6
  have K7 := Lib.hid k7; clear k7
  have K8 := Lib.hid k8; clear k8
  have K9 := Lib.hid k9; clear k9
  have K10 := Lib.hid k10; clear k10
  have K11 := Lib.hid k11; clear k11
  have K12 := Lib.hid k12; clear k12
  have K13 := Lib.hid k13; clear k13
  have K14 := Lib.hid k14; clear k14
  have K15 := Lib.hid k15; clear k15
  have K16 := Lib.hid k16; clear k16
  have K17 := Lib.hid k17; clear k17
  have K18 := Lib.hid k18; clear k18
  have K19 := Lib.hid k19; clear k19
  have K20 := Lib.hid k20; clear k20
  have K21 := Lib.hid k21; clear k21
  have K22 := Lib.hid k22; clear k22
  have HI := Lib.hid h0; clear h0
  obtain ⟨F, rfl⟩ : ∃ G : Nat → Value, G = F := ⟨_, rfl⟩
  generalize hF0 : F 0 = v0 at K0
  generalize hF1 : F 1 = v1 at K1
  generalize hF2 : F 2 = v2 at K2
  generalize hF3 : F 3 = v3 at K3
  generalize hF4 : F 4 = v4 at K4
  generalize hF5 : F 5 = v5 at K5
  generalize hF6 : F 6 = v6 at K6
  generalize hF7 : F 7 = v7 at K7
  generalize hF8 : F 8 = v8 at K8
  generalize hF9 : F 9 = v9 at K9
  generalize hF10 : F 10 = v10 at K10
  generalize hF11 : F 11 = v11 at K11
  generalize hF12 : F 12 = v12 at K12
  generalize hF13 : F 13 = v13 at K13
  generalize hF14 : F 14 = v14 at K14
  generalize hF15 : F 15 = v15 at K15
  generalize hF16 : F 16 = v16 at K16
  generalize hF17 : F 17 = v17 at K17
  generalize hF18 : F 18 = v18 at K18
  generalize hF19 : F 19 = v19 at K19
  generalize hF20 : F 20 = v20 at K20
  generalize hF21 : F 21 = v21 at K21
  generalize hF22 : F 22 = v22 at K22
  have HF0 := Lib.hid hF0; clear hF0
  have HF1 := Lib.hid hF1; clear hF1
  have HF2 := Lib.hid hF2; clear hF2
  have HF3 := Lib.hid hF3; clear hF3
  have HF4 := Lib.hid hF4; clear hF4
  have HF5 := Lib.hid hF5; clear hF5
  have HF6 := Lib.hid hF6; clear hF6
  have HF7 := Lib.hid hF7; clear hF7
  have HF8 := Lib.hid hF8; clear hF8
  have HF9 := Lib.hid hF9; clear hF9
  have HF10 := Lib.hid hF10; clear hF10
  have HF11 := Lib.hid hF11; clear hF11
  have HF12 := Lib.hid hF12; clear hF12
  have HF13 := Lib.hid hF13; clear hF13
  have HF14 := Lib.hid hF14; clear hF14
  have HF15 := Lib.hid hF15; clear hF15
  have HF16 := Lib.hid hF16; clear hF16
  have HF17 := Lib.hid hF17; clear hF17
  have HF18 := Lib.hid hF18; clear hF18
  have HF19 := Lib.hid hF19; clear hF19
  have HF20 := Lib.hid hF20; clear hF20
  have HF21 := Lib.hid hF21; clear hF21
  have HF22 := Lib.hid hF22; clear hF22
  have c := HC.out 0 w (by omega) HI.out
  rw [HF0.out] at c
  go_enter Try.func37, Try.ntmps37
  go_wp2_with fail
  refine (K0.out _ HI.out).mono ?_
  clear c HI
  rintro e w1 ⟨rfl, hi⟩
  have HI := Lib.hid hi; clear hi
  have c := HC.out 1 w1 (by omega) HI.out
  rw [HF1.out] at c
  go_wp2_with fail
  refine (K1.out _ HI.out).mono ?_
  clear c HI
  rintro e w2 ⟨rfl, hi⟩
  have HI := Lib.hid hi; clear hi
  have c := HC.out 2 w2 (by omega) HI.out
  rw [HF2.out] at c
  go_wp2_with fail
  refine (K2.out _ HI.out).mono ?_
  clear c HI
  rintro e w3 ⟨rfl, hi⟩
  have HI := Lib.hid hi; clear hi
  have c := HC.out 3 w3 (by omega) HI.out
  rw [HF3.out] at c
  go_wp2_with fail
  refine (K3.out _ HI.out).mono ?_
  clear c HI
  rintro e w4 ⟨rfl, hi⟩
  have HI := Lib.hid hi; clear hi
  have c := HC.out 4 w4 (by omega) HI.out
  rw [HF4.out] at c
  go_wp2_with fail
  refine (K4.out _ HI.out).mono ?_
  clear c HI
  rintro e w5 ⟨rfl, hi⟩
  have HI := Lib.hid hi; clear hi
  have c := HC.out 5 w5 (by omega) HI.out
  rw [HF5.out] at c
  go_wp2_with fail
  refine (K5.out _ HI.out).mono ?_
  clear c HI
  rintro e w6 ⟨rfl, hi⟩
  have HI := Lib.hid hi; clear hi
  have c := HC.out 6 w6 (by omega) HI.out
  rw [HF6.out] at c
  go_wp2_with fail
  refine (K6.out _ HI.out).mono ?_
  clear c HI
  rintro e w7 ⟨rfl, hi⟩
  have HI := Lib.hid hi; clear hi
  have c := HC.out 7 w7 (by omega) HI.out
  rw [HF7.out] at c
  go_wp2_with fail
  refine (K7.out _ HI.out).mono ?_
  clear c HI
  rintro e w8 ⟨rfl, hi⟩
  have HI := Lib.hid hi; clear hi
  have c := HC.out 8 w8 (by omega) HI.out
  rw [HF8.out] at c
  go_wp2_with fail
  refine (K8.out _ HI.out).mono ?_
  clear c HI
  rintro e w9 ⟨rfl, hi⟩
  have HI := Lib.hid hi; clear hi
  have c := HC.out 9 w9 (by omega) HI.out
  rw [HF9.out] at c
  go_wp2_with fail
  refine (K9.out _ HI.out).mono ?_
  clear c HI
  rintro e w10 ⟨rfl, hi⟩
  have HI := Lib.hid hi; clear hi
  have c := HC.out 10 w10 (by omega) HI.out
  rw [HF10.out] at c
  go_wp2_with fail
  refine (K10.out _ HI.out).mono ?_
  clear c HI
  rintro e w11 ⟨rfl, hi⟩
  have HI := Lib.hid hi; clear hi
  have c := HC.out 11 w11 (by omega) HI.out
  rw [HF11.out] at c
  go_wp2_with fail
  refine (K11.out _ HI.out).mono ?_
  clear c HI
  rintro e w12 ⟨rfl, hi⟩
  have HI := Lib.hid hi; clear hi
  have c := HC.out 12 w12 (by omega) HI.out
  rw [HF12.out] at c
  go_wp2_with fail
  refine (K12.out _ HI.out).mono ?_
  clear c HI
  rintro e w13 ⟨rfl, hi⟩
  have HI := Lib.hid hi; clear hi
  have c := HC.out 13 w13 (by omega) HI.out
  rw [HF13.out] at c
  go_wp2_with fail
  refine (K13.out _ HI.out).mono ?_
  clear c HI
  rintro e w14 ⟨rfl, hi⟩
  have HI := Lib.hid hi; clear hi
  have c := HC.out 14 w14 (by omega) HI.out
  rw [HF14.out] at c
  go_wp2_with fail
  refine (K14.out _ HI.out).mono ?_
  clear c HI
  rintro e w15 ⟨rfl, hi⟩
  have HI := Lib.hid hi; clear hi
  have c := HC.out 15 w15 (by omega) HI.out
  rw [HF15.out] at c
  go_wp2_with fail
  refine (K15.out _ HI.out).mono ?_
  clear c HI
  rintro e w16 ⟨rfl, hi⟩
  have HI := Lib.hid hi; clear hi
  have c := HC.out 16 w16 (by omega) HI.out
  rw [HF16.out] at c
  go_wp2_with fail
  refine (K16.out _ HI.out).mono ?_
  clear c HI
  rintro e w17 ⟨rfl, hi⟩
  have HI := Lib.hid hi; clear hi
  have c := HC.out 17 w17 (by omega) HI.out
  rw [HF17.out] at c
  go_wp2_with fail
  refine (K17.out _ HI.out).mono ?_
  clear c HI
  rintro e w18 ⟨rfl, hi⟩
  have HI := Lib.hid hi; clear hi
  have c := HC.out 18 w18 (by omega) HI.out
  rw [HF18.out] at c
  go_wp2_with fail
  refine (K18.out _ HI.out).mono ?_
  clear c HI
  rintro e w19 ⟨rfl, hi⟩
  have HI := Lib.hid hi; clear hi
  have c := HC.out 19 w19 (by omega) HI.out
  rw [HF19.out] at c
  go_wp2_with fail
  refine (K19.out _ HI.out).mono ?_
  clear c HI
  rintro e w20 ⟨rfl, hi⟩
  have HI := Lib.hid hi; clear hi
  have c := HC.out 20 w20 (by omega) HI.out
  rw [HF20.out] at c
  go_wp2_with fail
  refine (K20.out _ HI.out).mono ?_
  clear c HI
  rintro e w21 ⟨rfl, hi⟩
  have HI := Lib.hid hi; clear hi
  have c := HC.out 21 w21 (by omega) HI.out
  rw [HF21.out] at c
  go_wp2_with fail
  refine (K21.out _ HI.out).mono ?_
  clear c HI
  rintro e w22 ⟨rfl, hi⟩
  have HI := Lib.hid hi; clear hi
  have c := HC.out 22 w22 (by omega) HI.out
  rw [HF22.out] at c
  go_wp2_with fail
  refine (K22.out _ HI.out).mono ?_
  clear c HI
  rintro e w23 ⟨rfl, hi⟩
  have HI := Lib.hid hi; clear hi
  go_wp2
  go_ret
  exact ⟨rfl, HI.out⟩
end Go.Proofs.Ytdnohhlgaaihmaa
