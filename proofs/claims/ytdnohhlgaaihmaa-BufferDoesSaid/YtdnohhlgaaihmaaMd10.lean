import Derived.Test.YtdnohhlgaaihmaaMd09
import Derived.Test.YtdnohhlgaaihmaaMd03

/- SameChanges. -/
namespace Go.Proofs.Ytdnohhlgaaihmaa
open Go.RowKit

def SpV.pr (x : SpV) : List UInt8 × List UInt8 × Bool := (x.f, x.t, x.o)
theorem pr_inj {x y : SpV} : x.pr = y.pr ↔ x.f = y.f ∧ x.t = y.t ∧ x.o = y.o := by simp [SpV.pr]

theorem map_take_ne {l k : List SpV} {j : Nat} (h1 : j < l.length) (h2 : j < k.length) (h : l[j].pr ≠ k[j].pr) : l.map SpV.pr ≠ k.map SpV.pr := fun e => h (by
  have := congrArg (fun z => z[j]?) e
  simpa [h1, h2] using this)

set_option maxRecDepth 100000 in
set_option maxHeartbeats 4000000 in
theorem samech_any (w : World) (x y : Value) (l k : List SpV) (hx : Sl w 3 x l.length (l.flatMap SpV.cells)) (hy : Sl w 3 y k.length (k.flatMap SpV.cells)) (gl : ∀ z ∈ l, z.Good w) (gk : ∀ z ∈ k, z.Good w) (hl : l.length ≤ 100000) :
    Calls Try.prog 25 #[x, y] w fun e w' => e = .returned (.bool (decide (l.map SpV.pr = k.map SpV.pr))) ∧ Fr no w w' := by
  obtain ⟨A, c, rfl, hc1, hc2⟩ := hx.form
  obtain ⟨B, d, rfl, hd1, hd2⟩ := hy.form
  have HX := Lib.hid hx; have HY := Lib.hid hy; have GL := Lib.hid gl; have GK := Lib.hid gk; clear hx hy gl gk
  by_cases hlen : l.length = k.length
  · have hb : ((l.length : Int) != (k.length : Int)) = false := by simp [hlen]
    have HLEN := Lib.hid hlen; clear hlen
    go_enter Try.func25, Try.ntmps25
    go_wp2
    go_loopw [5] (fun i wr => ∃ j : Nat, j ≤ l.length ∧ i = .int .i64 j ∧ (l.take j).map SpV.pr = (k.take j).map SpV.pr ∧ Fr no w wr) (fun i _ => l.length - (intOf i).toNat)
    case atStart => exact ⟨0, Nat.zero_le _, rfl, rfl, Fr.refl _ _⟩
    case round =>
      obtain ⟨j, hj, rfl, ht, hf⟩ := hrel
      have HT := Lib.hid ht; have HF := Lib.hid hf; clear ht hf
      by_cases hlt : j < l.length
      · have hlt2 : j < k.length := by have := HLEN.out; omega
        obtain ⟨b, o, hA, q0, q1, q2⟩ := Spans.at (HX.out.kept0 HF.out) j hlt
        obtain ⟨b2, o2, hB, r0, r1, r2⟩ := Spans.at (HY.out.kept0 HF.out) j hlt2
        obtain ⟨P1, e1, h1, _, _⟩ := (GL.out l[j] (List.getElem_mem _)).F.form
        obtain ⟨P2, e2, h2, _, _⟩ := (GL.out l[j] (List.getElem_mem _)).T.form
        obtain ⟨P3, e3, h3, _, _⟩ := (GK.out k[j] (List.getElem_mem _)).F.form
        obtain ⟨P4, e4, h4, _, _⟩ := (GK.out k[j] (List.getElem_mem _)).T.form
        have HL := Lib.hid ((GL.out l[j] (List.getElem_mem _)).kept0 HF.out)
        have HK := Lib.hid ((GK.out k[j] (List.getElem_mem _)).kept0 HF.out)
        have f1 := Lib.hid (h1 ▸ HL.out.F); have f2 := Lib.hid (h2 ▸ HL.out.T); have f3 := Lib.hid (h3 ▸ HK.out.F); have f4 := Lib.hid (h4 ▸ HK.out.T)
        have hq := World.block_lt_of_cell? wr _ q0
        have hr := World.block_lt_of_cell? wr _ r0
        rw [h1] at q0; rw [h2] at q1; rw [h3] at r0; rw [h4] at r1
        subst hA; subst hB
        clear h1 h2 h3 h4
        by_cases ho : l[j].o = k[j].o
        · rw [← ho] at r2
          have HO := Lib.hid ho; clear ho
          by_cases hff : l[j].f = k[j].f
          · have hd1 : decide (l[j].f = k[j].f) = true := by simpa using hff
            have HFF := Lib.hid hff; clear hff
            by_cases htt : l[j].t = k[j].t
            · have hd2 : decide (l[j].t = k[j].t) = true := by simpa using htt
              have HTT := Lib.hid htt; clear htt
              go_wp2_with fail
              refine wp_region_ord (List.range 39) (fun i => [Kd.p, Kd.p, Kd.p, Kd.p, Kd.l, Kd.p, Kd.p, Kd.p, Kd.p, Kd.l, Kd.e, Kd.p, Kd.p, Kd.p, Kd.p, Kd.p, Kd.l, Kd.p, Kd.p, Kd.p, Kd.p, Kd.l, Kd.e, Kd.p, Kd.p, Kd.p, Kd.p, Kd.p, Kd.p, Kd.p, Kd.l, Kd.p, Kd.p, Kd.p, Kd.p, Kd.l, Kd.e, Kd.p, Kd.p].getD i .e) (by kernel_rfl) (by kernel_rfl) ?_
              iterate 10
                first | (refine wpX_un rfl rfl ?_; go_simp) | first | refine wpX_pu rfl rfl rfl (by first | exact pu_move rfl | exact pu_assign rfl | exact pu_nilCheck rfl rfl | exact pu_binInt rfl rfl rfl | exact pu_conv rfl rfl (by kernel_rfl) | exact pu_fld rfl (by kernel_rfl) | exact pu_ix rfl rfl rfl (by kernel_rfl) | exact pu_unOp rfl | exact pu_binStr rfl rfl rfl | exact pu_len rfl rfl | exact pu_lens rfl rfl | exact pu_pick rfl | exact pu_slice rfl rfl) (fun K hK => ?_) | refine wpX_rd rfl rfl rfl (rd_load rfl) (fun K hK => ?_) | refine wpX_gr rfl rfl rfl (by first | exact gr_buildSlice rfl | exact gr_box rfl | exact gr_alloc rfl) (fun K hK => ?_) | refine wpX_ex rfl rfl rfl (fun K hK => ?_)
                try go_wp2
              refine wpX_ex rfl rfl rfl (fun K hK => ?_)
              go_simp
              refine hK _ _ ?_
              clear hK K
              iterate 11
                first | (refine wpX_un rfl rfl ?_; go_simp) | first | refine wpX_pu rfl rfl rfl (by first | exact pu_move rfl | exact pu_assign rfl | exact pu_nilCheck rfl rfl | exact pu_binInt rfl rfl rfl | exact pu_conv rfl rfl (by kernel_rfl) | exact pu_fld rfl (by kernel_rfl) | exact pu_ix rfl rfl rfl (by kernel_rfl) | exact pu_unOp rfl | exact pu_binStr rfl rfl rfl | exact pu_len rfl rfl | exact pu_lens rfl rfl | exact pu_pick rfl | exact pu_slice rfl rfl) (fun K hK => ?_) | refine wpX_rd rfl rfl rfl (rd_load rfl) (fun K hK => ?_) | refine wpX_gr rfl rfl rfl (by first | exact gr_buildSlice rfl | exact gr_box rfl | exact gr_alloc rfl) (fun K hK => ?_) | refine wpX_ex rfl rfl rfl (fun K hK => ?_)
                try go_wp2
              refine wpX_ex rfl rfl rfl (fun K hK => ?_)
              go_wp2_with fail
              refine (same_any _ _ _ l[j].f k[j].f (f1.out.kept0 (by (repeat first | exact Fr.refl _ _ | exact Fr.drewN _ _ _ | apply Fr.drew | apply Fr.alloc | apply Fr.setAt | apply Fr.moreN))) (f3.out.kept0 (by (repeat first | exact Fr.refl _ _ | exact Fr.drewN _ _ _ | apply Fr.drew | apply Fr.alloc | apply Fr.setAt | apply Fr.moreN))) HL.out.lf HK.out.lf).mono ?_
              rintro e w2 ⟨rfl, n1, rfl⟩
              rw [hd1]
              go_wp2_with fail
              iterate 13
                first | (refine wpX_un rfl rfl ?_; go_simp) | first | refine wpX_pu rfl rfl rfl (by first | exact pu_move rfl | exact pu_assign rfl | exact pu_nilCheck rfl rfl | exact pu_binInt rfl rfl rfl | exact pu_conv rfl rfl (by kernel_rfl) | exact pu_fld rfl (by kernel_rfl) | exact pu_ix rfl rfl rfl (by kernel_rfl) | exact pu_unOp rfl | exact pu_binStr rfl rfl rfl | exact pu_len rfl rfl | exact pu_lens rfl rfl | exact pu_pick rfl | exact pu_slice rfl rfl) (fun K hK => ?_) | refine wpX_rd rfl rfl rfl (rd_load rfl) (fun K hK => ?_) | refine wpX_gr rfl rfl rfl (by first | exact gr_buildSlice rfl | exact gr_box rfl | exact gr_alloc rfl) (fun K hK => ?_) | refine wpX_ex rfl rfl rfl (fun K hK => ?_)
                try go_wp2
              refine wpX_ex rfl rfl rfl (fun K hK => ?_)
              go_wp2_with fail
              refine (same_any _ _ _ l[j].t k[j].t (f2.out.kept0 (by (repeat first | exact Fr.refl _ _ | exact Fr.drewN _ _ _ | apply Fr.drew | apply Fr.alloc | apply Fr.setAt | apply Fr.moreN))) (f4.out.kept0 (by (repeat first | exact Fr.refl _ _ | exact Fr.drewN _ _ _ | apply Fr.drew | apply Fr.alloc | apply Fr.setAt | apply Fr.moreN))) HL.out.lt HK.out.lt).mono ?_
              rintro e w3 ⟨rfl, n2, rfl⟩
              rw [hd2]
              go_wp2_with fail
              iterate 2
                first | (refine wpX_un rfl rfl ?_; go_simp) | first | refine wpX_pu rfl rfl rfl (by first | exact pu_move rfl | exact pu_assign rfl | exact pu_nilCheck rfl rfl | exact pu_binInt rfl rfl rfl | exact pu_conv rfl rfl (by kernel_rfl) | exact pu_fld rfl (by kernel_rfl) | exact pu_ix rfl rfl rfl (by kernel_rfl) | exact pu_unOp rfl | exact pu_binStr rfl rfl rfl | exact pu_len rfl rfl | exact pu_lens rfl rfl | exact pu_pick rfl | exact pu_slice rfl rfl) (fun K hK => ?_) | refine wpX_rd rfl rfl rfl (rd_load rfl) (fun K hK => ?_) | refine wpX_gr rfl rfl rfl (by first | exact gr_buildSlice rfl | exact gr_box rfl | exact gr_alloc rfl) (fun K hK => ?_) | refine wpX_ex rfl rfl rfl (fun K hK => ?_)
                try go_wp2
              refine wpX_done ?_
              go_wp2
              go_roundw
              case rel =>
                refine ⟨j + 1, hlt, by go_num, ?_, HF.out.trans (by (repeat first | exact Fr.refl _ _ | exact Fr.drewN _ _ _ | apply Fr.drew | apply Fr.alloc | apply Fr.setAt | apply Fr.moreN)) (fun _ _ h => h)⟩
                rw [List.take_succ_eq_append_getElem hlt, List.take_succ_eq_append_getElem hlt2, List.map_append, List.map_append, HT.out]
                have e : l[j].pr = k[j].pr := pr_inj.2 ⟨HFF.out, HTT.out, HO.out⟩
                rw [List.map_singleton, List.map_singleton, e]
              case measure => simp [intOf]; omega
            · have hd2 : decide (l[j].t = k[j].t) = false := by simpa using htt
              have HTT := Lib.hid htt; clear htt
              go_wp2_with fail
              refine wp_region_ord (List.range 39) (fun i => [Kd.p, Kd.p, Kd.p, Kd.p, Kd.l, Kd.p, Kd.p, Kd.p, Kd.p, Kd.l, Kd.e, Kd.p, Kd.p, Kd.p, Kd.p, Kd.p, Kd.l, Kd.p, Kd.p, Kd.p, Kd.p, Kd.l, Kd.e, Kd.p, Kd.p, Kd.p, Kd.p, Kd.p, Kd.p, Kd.p, Kd.l, Kd.p, Kd.p, Kd.p, Kd.p, Kd.l, Kd.e, Kd.p, Kd.p].getD i .e) (by kernel_rfl) (by kernel_rfl) ?_
              iterate 10
                first | (refine wpX_un rfl rfl ?_; go_simp) | first | refine wpX_pu rfl rfl rfl (by first | exact pu_move rfl | exact pu_assign rfl | exact pu_nilCheck rfl rfl | exact pu_binInt rfl rfl rfl | exact pu_conv rfl rfl (by kernel_rfl) | exact pu_fld rfl (by kernel_rfl) | exact pu_ix rfl rfl rfl (by kernel_rfl) | exact pu_unOp rfl | exact pu_binStr rfl rfl rfl | exact pu_len rfl rfl | exact pu_lens rfl rfl | exact pu_pick rfl | exact pu_slice rfl rfl) (fun K hK => ?_) | refine wpX_rd rfl rfl rfl (rd_load rfl) (fun K hK => ?_) | refine wpX_gr rfl rfl rfl (by first | exact gr_buildSlice rfl | exact gr_box rfl | exact gr_alloc rfl) (fun K hK => ?_) | refine wpX_ex rfl rfl rfl (fun K hK => ?_)
                try go_wp2
              refine wpX_ex rfl rfl rfl (fun K hK => ?_)
              go_simp
              refine hK _ _ ?_
              clear hK K
              iterate 11
                first | (refine wpX_un rfl rfl ?_; go_simp) | first | refine wpX_pu rfl rfl rfl (by first | exact pu_move rfl | exact pu_assign rfl | exact pu_nilCheck rfl rfl | exact pu_binInt rfl rfl rfl | exact pu_conv rfl rfl (by kernel_rfl) | exact pu_fld rfl (by kernel_rfl) | exact pu_ix rfl rfl rfl (by kernel_rfl) | exact pu_unOp rfl | exact pu_binStr rfl rfl rfl | exact pu_len rfl rfl | exact pu_lens rfl rfl | exact pu_pick rfl | exact pu_slice rfl rfl) (fun K hK => ?_) | refine wpX_rd rfl rfl rfl (rd_load rfl) (fun K hK => ?_) | refine wpX_gr rfl rfl rfl (by first | exact gr_buildSlice rfl | exact gr_box rfl | exact gr_alloc rfl) (fun K hK => ?_) | refine wpX_ex rfl rfl rfl (fun K hK => ?_)
                try go_wp2
              refine wpX_ex rfl rfl rfl (fun K hK => ?_)
              go_wp2_with fail
              refine (same_any _ _ _ l[j].f k[j].f (f1.out.kept0 (by (repeat first | exact Fr.refl _ _ | exact Fr.drewN _ _ _ | apply Fr.drew | apply Fr.alloc | apply Fr.setAt | apply Fr.moreN))) (f3.out.kept0 (by (repeat first | exact Fr.refl _ _ | exact Fr.drewN _ _ _ | apply Fr.drew | apply Fr.alloc | apply Fr.setAt | apply Fr.moreN))) HL.out.lf HK.out.lf).mono ?_
              rintro e w2 ⟨rfl, n1, rfl⟩
              rw [hd1]
              go_wp2_with fail
              iterate 13
                first | (refine wpX_un rfl rfl ?_; go_simp) | first | refine wpX_pu rfl rfl rfl (by first | exact pu_move rfl | exact pu_assign rfl | exact pu_nilCheck rfl rfl | exact pu_binInt rfl rfl rfl | exact pu_conv rfl rfl (by kernel_rfl) | exact pu_fld rfl (by kernel_rfl) | exact pu_ix rfl rfl rfl (by kernel_rfl) | exact pu_unOp rfl | exact pu_binStr rfl rfl rfl | exact pu_len rfl rfl | exact pu_lens rfl rfl | exact pu_pick rfl | exact pu_slice rfl rfl) (fun K hK => ?_) | refine wpX_rd rfl rfl rfl (rd_load rfl) (fun K hK => ?_) | refine wpX_gr rfl rfl rfl (by first | exact gr_buildSlice rfl | exact gr_box rfl | exact gr_alloc rfl) (fun K hK => ?_) | refine wpX_ex rfl rfl rfl (fun K hK => ?_)
                try go_wp2
              refine wpX_ex rfl rfl rfl (fun K hK => ?_)
              go_wp2_with fail
              refine (same_any _ _ _ l[j].t k[j].t (f2.out.kept0 (by (repeat first | exact Fr.refl _ _ | exact Fr.drewN _ _ _ | apply Fr.drew | apply Fr.alloc | apply Fr.setAt | apply Fr.moreN))) (f4.out.kept0 (by (repeat first | exact Fr.refl _ _ | exact Fr.drewN _ _ _ | apply Fr.drew | apply Fr.alloc | apply Fr.setAt | apply Fr.moreN))) HL.out.lt HK.out.lt).mono ?_
              rintro e w3 ⟨rfl, n2, rfl⟩
              rw [hd2]
              go_wp2_with fail
              iterate 2
                first | (refine wpX_un rfl rfl ?_; go_simp) | first | refine wpX_pu rfl rfl rfl (by first | exact pu_move rfl | exact pu_assign rfl | exact pu_nilCheck rfl rfl | exact pu_binInt rfl rfl rfl | exact pu_conv rfl rfl (by kernel_rfl) | exact pu_fld rfl (by kernel_rfl) | exact pu_ix rfl rfl rfl (by kernel_rfl) | exact pu_unOp rfl | exact pu_binStr rfl rfl rfl | exact pu_len rfl rfl | exact pu_lens rfl rfl | exact pu_pick rfl | exact pu_slice rfl rfl) (fun K hK => ?_) | refine wpX_rd rfl rfl rfl (rd_load rfl) (fun K hK => ?_) | refine wpX_gr rfl rfl rfl (by first | exact gr_buildSlice rfl | exact gr_box rfl | exact gr_alloc rfl) (fun K hK => ?_) | refine wpX_ex rfl rfl rfl (fun K hK => ?_)
                try go_wp2
              refine wpX_done ?_
              go_wp2
              go_ret
              exact ⟨by rw [decide_eq_false (map_take_ne hlt hlt2 (fun e => HTT.out (pr_inj.1 e).2.1))]; rfl, HF.out.trans (by (repeat first | exact Fr.refl _ _ | exact Fr.drewN _ _ _ | apply Fr.drew | apply Fr.alloc | apply Fr.setAt | apply Fr.moreN)) (fun _ _ h => h)⟩
          · have hd1 : decide (l[j].f = k[j].f) = false := by simpa using hff
            have HFF := Lib.hid hff; clear hff
            go_wp2_with fail
            refine wp_region_ord (List.range 39) (fun i => [Kd.p, Kd.p, Kd.p, Kd.p, Kd.l, Kd.p, Kd.p, Kd.p, Kd.p, Kd.l, Kd.e, Kd.p, Kd.p, Kd.p, Kd.p, Kd.p, Kd.l, Kd.p, Kd.p, Kd.p, Kd.p, Kd.l, Kd.e, Kd.p, Kd.p, Kd.p, Kd.p, Kd.p, Kd.p, Kd.p, Kd.l, Kd.p, Kd.p, Kd.p, Kd.p, Kd.l, Kd.e, Kd.p, Kd.p].getD i .e) (by kernel_rfl) (by kernel_rfl) ?_
            iterate 10
              first | (refine wpX_un rfl rfl ?_; go_simp) | first | refine wpX_pu rfl rfl rfl (by first | exact pu_move rfl | exact pu_assign rfl | exact pu_nilCheck rfl rfl | exact pu_binInt rfl rfl rfl | exact pu_conv rfl rfl (by kernel_rfl) | exact pu_fld rfl (by kernel_rfl) | exact pu_ix rfl rfl rfl (by kernel_rfl) | exact pu_unOp rfl | exact pu_binStr rfl rfl rfl | exact pu_len rfl rfl | exact pu_lens rfl rfl | exact pu_pick rfl | exact pu_slice rfl rfl) (fun K hK => ?_) | refine wpX_rd rfl rfl rfl (rd_load rfl) (fun K hK => ?_) | refine wpX_gr rfl rfl rfl (by first | exact gr_buildSlice rfl | exact gr_box rfl | exact gr_alloc rfl) (fun K hK => ?_) | refine wpX_ex rfl rfl rfl (fun K hK => ?_)
              try go_wp2
            refine wpX_ex rfl rfl rfl (fun K hK => ?_)
            go_simp
            refine hK _ _ ?_
            clear hK K
            iterate 11
              first | (refine wpX_un rfl rfl ?_; go_simp) | first | refine wpX_pu rfl rfl rfl (by first | exact pu_move rfl | exact pu_assign rfl | exact pu_nilCheck rfl rfl | exact pu_binInt rfl rfl rfl | exact pu_conv rfl rfl (by kernel_rfl) | exact pu_fld rfl (by kernel_rfl) | exact pu_ix rfl rfl rfl (by kernel_rfl) | exact pu_unOp rfl | exact pu_binStr rfl rfl rfl | exact pu_len rfl rfl | exact pu_lens rfl rfl | exact pu_pick rfl | exact pu_slice rfl rfl) (fun K hK => ?_) | refine wpX_rd rfl rfl rfl (rd_load rfl) (fun K hK => ?_) | refine wpX_gr rfl rfl rfl (by first | exact gr_buildSlice rfl | exact gr_box rfl | exact gr_alloc rfl) (fun K hK => ?_) | refine wpX_ex rfl rfl rfl (fun K hK => ?_)
              try go_wp2
            refine wpX_ex rfl rfl rfl (fun K hK => ?_)
            go_wp2_with fail
            refine (same_any _ _ _ l[j].f k[j].f (f1.out.kept0 (by (repeat first | exact Fr.refl _ _ | exact Fr.drewN _ _ _ | apply Fr.drew | apply Fr.alloc | apply Fr.setAt | apply Fr.moreN))) (f3.out.kept0 (by (repeat first | exact Fr.refl _ _ | exact Fr.drewN _ _ _ | apply Fr.drew | apply Fr.alloc | apply Fr.setAt | apply Fr.moreN))) HL.out.lf HK.out.lf).mono ?_
            rintro e w2 ⟨rfl, n1, rfl⟩
            rw [hd1]
            go_wp2_with fail
            iterate 16
              first | (refine wpX_un rfl rfl ?_; go_simp) | first | refine wpX_pu rfl rfl rfl (by first | exact pu_move rfl | exact pu_assign rfl | exact pu_nilCheck rfl rfl | exact pu_binInt rfl rfl rfl | exact pu_conv rfl rfl (by kernel_rfl) | exact pu_fld rfl (by kernel_rfl) | exact pu_ix rfl rfl rfl (by kernel_rfl) | exact pu_unOp rfl | exact pu_binStr rfl rfl rfl | exact pu_len rfl rfl | exact pu_lens rfl rfl | exact pu_pick rfl | exact pu_slice rfl rfl) (fun K hK => ?_) | refine wpX_rd rfl rfl rfl (rd_load rfl) (fun K hK => ?_) | refine wpX_gr rfl rfl rfl (by first | exact gr_buildSlice rfl | exact gr_box rfl | exact gr_alloc rfl) (fun K hK => ?_) | refine wpX_ex rfl rfl rfl (fun K hK => ?_)
              try go_wp2
            refine wpX_done ?_
            go_wp2
            go_ret
            exact ⟨by rw [decide_eq_false (map_take_ne hlt hlt2 (fun e => HFF.out (pr_inj.1 e).1))]; rfl, HF.out.trans (by (repeat first | exact Fr.refl _ _ | exact Fr.drewN _ _ _ | apply Fr.drew | apply Fr.alloc | apply Fr.setAt | apply Fr.moreN)) (fun _ _ h => h)⟩
        · have ho2 : (l[j].o = true ∧ k[j].o = false) ∨ (l[j].o = false ∧ k[j].o = true) := by
            revert ho; cases l[j].o <;> cases k[j].o <;> simp
          have HO := Lib.hid ho; clear ho
          rcases ho2 with ⟨ha, hb2⟩ | ⟨ha, hb2⟩
          all_goals
            rw [ha] at q2; rw [hb2] at r2
            clear ha hb2
            go_wp2_with fail
            refine wp_region_ord (List.range 39) (fun i => [Kd.p, Kd.p, Kd.p, Kd.p, Kd.l, Kd.p, Kd.p, Kd.p, Kd.p, Kd.l, Kd.e, Kd.p, Kd.p, Kd.p, Kd.p, Kd.p, Kd.l, Kd.p, Kd.p, Kd.p, Kd.p, Kd.l, Kd.e, Kd.p, Kd.p, Kd.p, Kd.p, Kd.p, Kd.p, Kd.p, Kd.l, Kd.p, Kd.p, Kd.p, Kd.p, Kd.l, Kd.e, Kd.p, Kd.p].getD i .e) (by kernel_rfl) (by kernel_rfl) ?_
            iterate 10
              first | (refine wpX_un rfl rfl ?_; go_simp) | first | refine wpX_pu rfl rfl rfl (by first | exact pu_move rfl | exact pu_assign rfl | exact pu_nilCheck rfl rfl | exact pu_binInt rfl rfl rfl | exact pu_conv rfl rfl (by kernel_rfl) | exact pu_fld rfl (by kernel_rfl) | exact pu_ix rfl rfl rfl (by kernel_rfl) | exact pu_unOp rfl | exact pu_binStr rfl rfl rfl | exact pu_len rfl rfl | exact pu_lens rfl rfl | exact pu_pick rfl | exact pu_slice rfl rfl) (fun K hK => ?_) | refine wpX_rd rfl rfl rfl (rd_load rfl) (fun K hK => ?_) | refine wpX_gr rfl rfl rfl (by first | exact gr_buildSlice rfl | exact gr_box rfl | exact gr_alloc rfl) (fun K hK => ?_) | refine wpX_ex rfl rfl rfl (fun K hK => ?_)
              try go_wp2
            refine wpX_ex rfl rfl rfl (fun K hK => ?_)
            go_simp
            refine hK _ _ ?_
            clear hK K
            iterate 28
              first | (refine wpX_un rfl rfl ?_; go_simp) | first | refine wpX_pu rfl rfl rfl (by first | exact pu_move rfl | exact pu_assign rfl | exact pu_nilCheck rfl rfl | exact pu_binInt rfl rfl rfl | exact pu_conv rfl rfl (by kernel_rfl) | exact pu_fld rfl (by kernel_rfl) | exact pu_ix rfl rfl rfl (by kernel_rfl) | exact pu_unOp rfl | exact pu_binStr rfl rfl rfl | exact pu_len rfl rfl | exact pu_lens rfl rfl | exact pu_pick rfl | exact pu_slice rfl rfl) (fun K hK => ?_) | refine wpX_rd rfl rfl rfl (rd_load rfl) (fun K hK => ?_) | refine wpX_gr rfl rfl rfl (by first | exact gr_buildSlice rfl | exact gr_box rfl | exact gr_alloc rfl) (fun K hK => ?_) | refine wpX_ex rfl rfl rfl (fun K hK => ?_)
              try go_wp2
            refine wpX_done ?_
            go_wp2
            go_ret
            exact ⟨by rw [decide_eq_false (map_take_ne hlt hlt2 (fun e => HO.out (pr_inj.1 e).2.2))]; rfl, HF.out.trans (by (repeat first | exact Fr.refl _ _ | exact Fr.drewN _ _ _ | apply Fr.drew | apply Fr.alloc | apply Fr.setAt | apply Fr.moreN)) (fun _ _ h => h)⟩
      · go_wp2
        go_ret
        have h := HT.out
        rw [List.take_of_length_le (by omega), List.take_of_length_le (by have := HLEN.out; omega)] at h
        exact ⟨by rw [decide_eq_true h]; rfl, HF.out⟩
  · have hb : ((l.length : Int) != (k.length : Int)) = true := by rw [bne_iff_ne]; intro h; exact hlen (by omega)
    have hne : decide (l.map SpV.pr = k.map SpV.pr) = false := by
      rw [decide_eq_false_iff_not]; intro h
      have := congrArg List.length h; simp at this; exact hlen this
    rw [hne]
    go_enter Try.func25, Try.ntmps25
    go_wp2
    go_ret
    exact ⟨rfl, Fr.refl _ _⟩
end Go.Proofs.Ytdnohhlgaaihmaa

/- append onto a row of one's own that has room: it stays where it is. General. -/
namespace Go
open Go.RowKit
section
variable {P : Program} {w : World} {o : Oper} {a : Act} {K : Act → World → Prop} {Q : Exit → Act → World → Prop}

theorem run_apr {t e : TypeId} {z : Value} {size bytes : Nat} (tb : Tb P t e z size bytes) (ty : TypeId) {g n cap : Nat} {xs : List Value} (hown : w.ownsRow 0 e size (.slice (some ⟨g, 0, none⟩) n cap) n xs)
    {x : Value} {m : Nat} {news : List Value} (hx : Sl w size x m news) (h1 : ∀ u ∈ news, u.oneCell' = true) (hr : n + m ≤ cap) :
    ∃ w', (Builtin.append_ #[t, t] ty #[.slice (some ⟨g, 0, none⟩) n cap, x]).run P w = .ok (.slice (some ⟨g, 0, none⟩) (n + m) cap) w' ∧ w'.ownsRow 0 e size (.slice (some ⟨g, 0, none⟩) (n + m) cap) (n + m) (xs ++ news) ∧ Fr (fun k => k = g) w w' := by
  obtain ⟨i, hi, hz0, hz1, hz2⟩ := info_parts tb.info
  have hx2 : (x = .slice none 0 0 ∧ m = 0) ∨ ∃ y cap', x = .slice (some y) m cap' ∧ ∀ j u, news[j]? = some u → w.cell? (y.add j) = some u := by
    rcases hx.2 with ⟨Y, h1, h2⟩ | ⟨b, off, cap', h1, _, _, hc⟩
    · subst h1; subst h2
      cases Y with
      | none => exact .inl ⟨rfl, rfl⟩
      | some y => exact .inr ⟨y, 0, rfl, fun j u hu => by
          have hn : news = [] := List.eq_nil_of_length_eq_zero (by simpa using hx.1)
          subst hn; simp at hu⟩
    · exact .inr ⟨⟨b, off, none⟩, cap', h1, fun j u hu => by rw [Addr.add_lit]; exact hc j u hu⟩
  rcases hx2 with ⟨rfl, rfl⟩ | ⟨y, cap', rfl, hnews⟩
  · have hn : news = [] := List.eq_nil_of_length_eq_zero (by simpa using hx.1)
    subst hn
    exact ⟨w, run_append_owned_none (P := P) w 0 t ty e i size tb.und hi _ n xs hown, by simpa using hown, Fr.refl _ _⟩
  · rcases hown.2 with ⟨h, _⟩ | ⟨g', cap0, cur, h, hbg, hg, hnc, hcm, hcs, htake⟩
    · simp at h
    · simp only [Value.slice.injEq, Option.some.injEq, Addr.mk.injEq, and_true, true_and] at h
      obtain ⟨rfl, rfl⟩ := h
      subst hz1
      have hfit : n * i.size + news.length ≤ cur.size := by rw [hx.1, hcs, ← Nat.add_mul]; exact Nat.mul_le_mul_right _ hr
      have hrun := run_append_room (P := P) w t ty e i tb.und hi g n cap cur hg y m cap' news hx.1 hnews h1 hr hfit
      refine ⟨_, hrun, ⟨by rw [List.length_append, hown.1, hx.1, Nat.add_mul], .inr ⟨g, cap, _, rfl, hbg, setRow_heap w g cur _ e _ hg, hr, hcm, ?_, ?_⟩⟩, ⟨rfl, rfl, rfl, by simp, fun k _ hk => setRow_other w g k _ (fun e => hk e)⟩⟩
      · simp only [List.size_toArray, List.length_append, List.length_take, List.length_drop, Array.length_toList]
        omega
      · have hlen : (xs ++ news).length = (n + m) * i.size := by rw [List.length_append, hown.1, hx.1, Nat.add_mul]
        rw [htake, ← hlen]
        exact List.take_left

theorem wp_apr (s x : Operand) (t : TypeId) (ho : o.op = .call { callee := .builtin .append, args := #[s, x], argTypes := #[t, t] })
    {e : TypeId} {z : Value} {size bytes : Nat} (tb : Tb P t e z size bytes) {g n cap : Nat} {xs : List Value} (hown : w.ownsRow 0 e size (.slice (some ⟨g, 0, none⟩) n cap) n xs)
    {vx : Value} {m : Nat} {news : List Value} (hx : Sl w size vx m news) (hse : a.eval s = .slice (some ⟨g, 0, none⟩) n cap) (hxe : a.eval x = vx) (h1 : ∀ u ∈ news, u.oneCell' = true) (hr : n + m ≤ cap)
    (h : ∀ N w', N = n + m → w'.ownsRow 0 e size (.slice (some ⟨g, 0, none⟩) N cap) N (xs ++ news) → Fr (fun k => k = g) w w' → K (a.put o.dst (.slice (some ⟨g, 0, none⟩) N cap)) w') : o.wp P a w K Q := by
  obtain ⟨w', hrun, h2, h3⟩ := run_apr (P := P) tb o.type hown hx h1 hr
  unfold Oper.wp execOp
  simp only [ho, resolve, invoke, builtin, Sem.run_bind, Sem.run_pure, Result.andThen_ok, List.map_toArray, List.map_cons, List.map_nil, hse, hxe, hrun]
  exact h _ w' rfl h2 h3
variable {ops : Array Oper} {rest : List Oper}
theorem wpList_apr (hgd : o.guard = none) (s x : Operand) (t : TypeId) (ho : o.op = .call { callee := .builtin .append, args := #[s, x], argTypes := #[t, t] })
    {e : TypeId} {z : Value} {size bytes : Nat} (tb : Tb P t e z size bytes) {g n cap : Nat} {xs : List Value} (hown : w.ownsRow 0 e size (.slice (some ⟨g, 0, none⟩) n cap) n xs)
    {vx : Value} {m : Nat} {news : List Value} (hx : Sl w size vx m news) (hse : a.eval s = .slice (some ⟨g, 0, none⟩) n cap) (hxe : a.eval x = vx) (h1 : ∀ u ∈ news, u.oneCell' = true) (hr : n + m ≤ cap)
    (h : ∀ N w', N = n + m → w'.ownsRow 0 e size (.slice (some ⟨g, 0, none⟩) N cap) N (xs ++ news) → Fr (fun k => k = g) w w' → wpList P ops Q rest (a.put o.dst (.slice (some ⟨g, 0, none⟩) N cap)) w') : wpList P ops Q (o :: rest) a w :=
  wpList_plain hgd fun _ hK => wp_apr s x t ho tb hown hx hse hxe h1 hr fun N w' h2 h3 h4 => hK _ _ (h N w' h2 h3 h4)
end
end Go

/- What is lent to a call, looked at and written over behind it: LentBytes, WholeBytes, SpoilBytes. -/
namespace Go.Proofs.Ytdnohhlgaaihmaa
open Go.RowKit

/-- At block g lie these bytes, and the two marks behind. -/
def Lent (w : World) (g : Nat) (l : List UInt8) : Prop := w.heap[g]? = some (.cells (bvs (l ++ [91, 92])).toArray 5 (0, 0))

theorem Lent.sl {w : World} {g : Nat} {l : List UInt8} (h : Lent w g l) (hl : l.length ≤ 140737488351232) : Sl w 1 (.slice (some ⟨g, 0, none⟩) l.length (l.length + 2)) l.length (bvs l) := by
  refine ⟨by rw [bvs_length, Nat.mul_one], .inr ⟨g, 0, _, rfl, by omega, by simp only [maxLen]; omega, fun j u hu => ?_⟩⟩
  have hj := (List.getElem?_eq_some_iff.1 hu).1
  rw [Nat.zero_add, cell_of_row w g j _ _ (0, 0) h, bvs_append]
  simp only [List.getElem?_toArray]
  rw [List.getElem?_append_left hj, hu]

set_option maxRecDepth 100000 in
set_option maxHeartbeats 400000 in
theorem lent_any (w : World) (x : Value) (l : List UInt8) (hx : Sl w 1 x l.length (bvs l)) (hl : l.length ≤ 140737488351232) :
    Calls Try.prog 64 #[x] w fun e w' => ∃ g, e = .returned (.slice (some ⟨g, 0, none⟩) l.length (l.length + 2)) ∧ w.heap.size ≤ g ∧ Lent w' g l ∧ Fr no w w' := by
  obtain ⟨A, c, rfl, hc1, hc2⟩ := hx.form
  have HX := Lib.hid hx; clear hx hc2
  obtain ⟨inf, hi, hz0, hz1, hz2⟩ := info_parts tbB.info
  obtain ⟨wm, hmk, hown, hgrow⟩ := run_make_own (P := Try.prog) w 0 34 5 inf (.int .u8 0) 1 tbB.und hi hz0 hz1 .i64 .i64 (l.length + 2) (by rw [hz2]; omega) (by simp only [maxLen]; omega) (Nat.zero_le _)
  rw [show ((l.length + 2 : Nat) : Int) = (l.length : Int) + 2 from by omega] at hmk
  have hfm : Fr no w wm := (Fr.of_grown hgrow).mono (fun k _ h => by cases h)
  have HO := Lib.hid hown; have HFM := Lib.hid hfm; have HG := Lib.hid (hown.lt _ rfl); clear hown hfm hgrow hi hz0 hz1 hz2
  go_enter Try.func64, Try.ntmps64
  go_wp2_with (at_builtin; refine wpList_apr rfl (.tmp 8) (.tmp 9) 34 rfl tbB HO.out (HX.out.kept0 HFM.out) rfl rfl (bvs_one l) (by omega) ?go)
  case go =>
    intro N w1 hN ho1 hf1
    obtain rfl : N = l.length := by omega
    have HO1 := Lib.hid ho1; have HF1 := Lib.hid hf1; clear ho1 hf1 hmk hN
    go_wp2_with (at_builtin; refine wpList_apr rfl (.tmp 11) (.tmp 12) 34 rfl tbB (own_kept0 HO1.out ?fr) (Sl.fresh w1 [91, 92] 5 (by rfl) (by simp [maxLen])) rfl rfl (bvs_one _) (by simp) ?go2)
    case fr => (repeat first | exact Fr.refl _ _ | apply Fr.drew | apply Fr.alloc)
    case go2 =>
      intro N w2 hN ho2 hf2
      have HO2 := Lib.hid ho2; have HF2 := Lib.hid hf2; clear ho2 hf2
      obtain rfl : N = l.length + 2 := by simpa using hN
      clear hN
      go_wp2
      go_ret
      have h := HO2.out
      rcases h.2 with ⟨h1, _⟩ | ⟨g, cap, cur, h1, _, hg, _, _, h4, h5⟩
      · cases h1
      · simp only [Value.slice.injEq, Option.some.injEq, Addr.mk.injEq, and_true, true_and] at h1
        obtain ⟨rfl, rfl⟩ := h1
        refine ⟨_, rfl, Nat.le_refl _, ?_, ?_⟩
        · unfold Lent
          rw [hg]
          rw [List.take_of_length_le (by rw [Array.length_toList]; omega)] at h5
          rw [bvs_append, ← h5]
        · have f1 : Fr no w w1 := HFM.out.trans HF1.out (fun k hk h => by omega)
          exact (f1.alloc _).trans HF2.out (fun k hk h => by omega)

theorem Lent.whole {w : World} {g : Nat} {l : List UInt8} (h : Lent w g l) : w.cell? ⟨g, l.length, none⟩ = some (.int .u8 91) ∧ w.cell? ⟨g, l.length + 1, none⟩ = some (.int .u8 92) := by
  constructor
  · rw [cell_of_row w g _ _ _ (0, 0) h]; simp [bvs, Bv]
  · rw [cell_of_row w g _ _ _ (0, 0) h]; simp [bvs, Bv]

theorem Lent.kept {S : Nat → Prop} {w w1 : World} {g : Nat} {l : List UInt8} (h : Lent w g l) (f : Fr S w w1) (hn : ¬ S g) : Lent w1 g l := f.heap h hn

set_option maxRecDepth 100000 in
set_option maxHeartbeats 400000 in
theorem whole_lent (w : World) (g : Nat) (y : Value) (l k : List UInt8) (hx : Lent w g l) (hy : Sl w 1 y k.length (bvs k)) (hl : l.length ≤ 140737488351232) (hk : k.length ≤ 140737488351232) :
    Calls Try.prog 80 #[.slice (some ⟨g, 0, none⟩) l.length (l.length + 2), y] w fun e w' => e = .returned (.bool (decide (l = k))) ∧ ∃ n, w' = w.drewN n := by
  obtain ⟨A, c, rfl, hc1, hc2⟩ := hy.form
  obtain ⟨q1, q2⟩ := hx.whole
  have HX := Lib.hid (hx.sl hl); have HY := Lib.hid hy; clear hx hy hc2
  go_enter Try.func80, Try.ntmps80
  go_wp2_with fail
  refine (same_any _ _ _ l k HX.out HY.out hl hk).mono ?_
  rintro e w1 ⟨rfl, n1, rfl⟩
  go_wp2
  go_ret
  exact ⟨rfl, n1, rfl⟩

set_option maxRecDepth 100000 in
set_option maxHeartbeats 400000 in
theorem spoil_lent (w : World) (g : Nat) (l : List UInt8) (hx : Lent w g l) (hl : l.length ≤ 140737488351232) :
    Calls Try.prog 81 #[.slice (some ⟨g, 0, none⟩) l.length (l.length + 2)] w fun e w' => e = .returned (.tuple #[]) ∧ Fr (fun k => k = g) w w' := by
  go_enter Try.func81, Try.ntmps81
  go_wp2
  go_loopw [3] (fun i wr => ∃ j : Nat, j ≤ l.length + 2 ∧ i = .int .i64 j ∧ Fr (fun k => k = g) w wr ∧ ∃ cur, wr.heap[g]? = some (.cells cur 5 (0, 0)) ∧ cur.size = l.length + 2) (fun i _ => l.length + 2 - (intOf i).toNat)
  case atStart => exact ⟨0, Nat.zero_le _, rfl, Fr.refl _ _, _, hx, by simp [bvs]⟩
  case round =>
    obtain ⟨j, hj, rfl, hf, cur, hg, hsz⟩ := hrel
    have HF := Lib.hid hf; have HG := Lib.hid hg; clear hf hg
    by_cases hlt : j < l.length + 2
    · have q0 : wr.cell? ⟨g, j, none⟩ = some (cur[j]'(by omega)) := by rw [cell_of_row wr g _ _ _ (0, 0) HG.out]; simp
      have q1 : wr.frozen? ⟨g, j, none⟩ = false := by simp [World.frozen?, HG.out]
      go_wp2
      go_roundw
      case rel =>
        refine ⟨j + 1, hlt, by go_num, HF.out.setCell _ _ (fun _ => rfl), cur.setIfInBounds j (.int .u8 238), ?_, by simp [hsz]⟩
        rw [hp_same HG.out]
      case measure => simp [intOf]; omega
    · go_wp2
      go_end0
      exact ⟨rfl, HF.out⟩
end Go.Proofs.Ytdnohhlgaaihmaa

/- law16: pairs, and what lies below a buffer. -/
namespace Go.Proofs.Ytdnohhlgaaihmaa
open Go.RowKit

/-- A pair: its two slices, their bytes. -/
structure PrV where
  K : Value
  V : Value
  k : List UInt8
  v : List UInt8
namespace PrV
def cells (x : PrV) : List Value := [x.K, x.V]
structure Good (w : World) (x : PrV) : Prop where
  K : Sl w 1 x.K x.k.length (bvs x.k)
  V : Sl w 1 x.V x.v.length (bvs x.v)
  lk : x.k.length ≤ 140737488351232
  lv : x.v.length ≤ 140737488351232
theorem Good.kept {w w1 : World} {x : PrV} {S : Nat → Prop} (h : x.Good w) (f : Fr S w w1) (h1 : ∀ k, x.K.ownBlock = some k → ¬ S k) (h2 : ∀ k, x.V.ownBlock = some k → ¬ S k) : x.Good w1 :=
  ⟨h.K.kept f h1, h.V.kept f h2, h.lk, h.lv⟩
theorem Good.kept0 {w w1 : World} {x : PrV} (h : x.Good w) (f : Fr no w w1) : x.Good w1 := h.kept f (fun _ _ h => h) (fun _ _ h => h)
end PrV

theorem flat2 (l : List PrV) (j : Nat) (h : j < l.length) (i : Nat) (hi : i < 2) : (l.flatMap PrV.cells)[2 * j + i]? = (l[j].cells)[i]? := by
  have e : l.flatMap PrV.cells = (l.map PrV.cells).flatten := by rw [List.flatMap_def]
  rw [e, flat_get (sz := 2) (by omega) _ (by intro c hc; obtain ⟨o, _, rfl⟩ := List.mem_map.1 hc; rfl)]
  rw [show (2 * j + i) / 2 = j by omega, show (2 * j + i) % 2 = i by omega]
  simp [h]

/-- Pairs in a row. -/
structure Pairs (w : World) (x : Value) (l : List PrV) : Prop where
  sl : Sl w 2 x l.length (l.flatMap PrV.cells)
  good : ∀ y ∈ l, y.Good w
  n : l.length ≤ 1000000
theorem Pairs.kept0 {w w1 : World} {x : Value} {l : List PrV} (h : Pairs w x l) (f : Fr no w w1) : Pairs w1 x l := ⟨h.sl.kept0 f, fun y hy => (h.good y hy).kept0 f, h.n⟩
theorem Pairs.at {w : World} {A : Option Addr} {n c : Nat} {l : List PrV} (h : Pairs w (.slice A n c) l) (j : Nat) (hj : j < l.length) :
    ∃ b o KA kc VA vc, A = some ⟨b, o, none⟩ ∧ n = l.length ∧ w.cell? ⟨b, o + j * 2, none⟩ = some (.slice KA l[j].k.length kc) ∧ w.cell? ⟨b, o + j * 2 + 1, none⟩ = some (.slice VA l[j].v.length vc) ∧
      PrV.Good w ⟨.slice KA l[j].k.length kc, .slice VA l[j].v.length vc, l[j].k, l[j].v⟩ ∧ l[j].K = .slice KA l[j].k.length kc ∧ l[j].V = .slice VA l[j].v.length vc := by
  have hg := h.good l[j] (List.getElem_mem _)
  obtain ⟨KA, kc, hK, _, _⟩ := hg.K.form
  obtain ⟨VA, vc, hV, _, _⟩ := hg.V.form
  rcases h.sl.2 with ⟨_, h1, h2⟩ | ⟨b, o, cap, h1, _, _, h4⟩
  · omega
  · cases h1
    have g : ∀ i, i < 2 → ∀ u, (l[j].cells)[i]? = some u → w.cell? ⟨b, o + j * 2 + i, none⟩ = some u := fun i hi u hu => by
      have := h4 (2 * j + i) u (by rw [flat2 l j hj i hi, hu])
      rw [show o + j * 2 + i = o + (2 * j + i) by omega]; exact this
    refine ⟨b, o, KA, kc, VA, vc, rfl, rfl, ?_, ?_, ⟨hK ▸ hg.K, hV ▸ hg.V, hg.lk, hg.lv⟩, hK, hV⟩
    · rw [← hK]; exact g 0 (by omega) _ rfl
    · rw [← hV]; exact g 1 (by omega) _ rfl

/-- A key behind a place, going up. -/
def abv (k f : List UInt8) (b : Bool) : Bool := decide (0 < cb k f) || (b && decide (k = f))
/-- And going down. -/
def bel (k f : List UInt8) (b : Bool) : Bool := decide (cb k f < 0) || (b && (decide (f = []) || decide (k = f)))

theorem str_eq (k f : List UInt8) : (k == f) = decide (k = f) := by
  by_cases h : k = f <;> simp [h]

set_option maxRecDepth 100000 in
set_option maxHeartbeats 4000000 in
theorem above_any (w : World) (K F : Value) (k f : List UInt8) (b : Bool) (hK : Sl w 1 K k.length (bvs k)) (hF : Sl w 1 F f.length (bvs f)) :
    Calls Try.prog 123 #[K, F, .bool b] w fun e w' => e = .returned (.bool (abv k f b)) ∧ w' = w := by
  have hs1 := run_str (P := Try.prog) w (src := 34) (dst := 9) (e := 5) (by kernel_rfl) (by kernel_rfl) (by kernel_rfl) hK
  have hs2 := run_str (P := Try.prog) w (src := 34) (dst := 9) (e := 5) (by kernel_rfl) (by kernel_rfl) (by kernel_rfl) hF
  clear hK hF
  by_cases h1 : 0 < cb k f
  · have hl : Op.bytesLess f k = true := by rw [less_cb]; have := cb_swap k f; exact decide_eq_true (by omega)
    have he : abv k f b = true := by unfold abv; simp [h1]
    have HE := Lib.hid he; clear he
    go_enter Try.func123, Try.ntmps123
    go_wp2
    go_ret
    rw [HE.out]; exact ⟨by first | rfl | simp, rfl⟩
  · have hl : Op.bytesLess f k = false := by rw [less_cb]; have := cb_swap k f; exact decide_eq_false (by omega)
    cases b with
    | false =>
      have he : abv k f false = false := by unfold abv; simp; omega
      have HE := Lib.hid he; clear he
      go_enter Try.func123, Try.ntmps123
      go_wp2
      go_ret
      rw [HE.out]; exact ⟨by first | rfl | simp, rfl⟩
    | true =>
      have he : abv k f true = (k == f) := by unfold abv; rw [str_eq]; simp [h1]
      have HE := Lib.hid he; clear he
      go_enter Try.func123, Try.ntmps123
      go_wp2
      go_ret
      rw [HE.out]; exact ⟨by first | rfl | simp, rfl⟩

set_option maxRecDepth 100000 in
set_option maxHeartbeats 4000000 in
theorem below_any (w : World) (K F : Value) (k f : List UInt8) (b : Bool) (hK : Sl w 1 K k.length (bvs k)) (hF : Sl w 1 F f.length (bvs f)) :
    Calls Try.prog 124 #[K, F, .bool b] w fun e w' => e = .returned (.bool (bel k f b)) ∧ w' = w := by
  obtain ⟨A, c, rfl, _, _⟩ := hF.form
  have hs1 := run_str (P := Try.prog) w (src := 34) (dst := 9) (e := 5) (by kernel_rfl) (by kernel_rfl) (by kernel_rfl) hK
  have hs2 := run_str (P := Try.prog) w (src := 34) (dst := 9) (e := 5) (by kernel_rfl) (by kernel_rfl) (by kernel_rfl) hF
  clear hK hF
  by_cases h1 : cb k f < 0
  · have hl : Op.bytesLess k f = true := by rw [less_cb]; exact decide_eq_true h1
    have he : bel k f b = true := by unfold bel; simp [h1]
    have HE := Lib.hid he; clear he
    go_enter Try.func124, Try.ntmps124
    go_wp2
    go_ret
    rw [HE.out]; exact ⟨by first | rfl | simp, rfl⟩
  · have hl : Op.bytesLess k f = false := by rw [less_cb]; exact decide_eq_false h1
    cases b with
    | false =>
      have he : bel k f false = false := by unfold bel; simp; omega
      have HE := Lib.hid he; clear he
      go_enter Try.func124, Try.ntmps124
      go_wp2
      go_ret
      rw [HE.out]; exact ⟨by first | rfl | simp, rfl⟩
    | true =>
      by_cases hf0 : f = []
      · have hfl : ((f.length : Int) == 0) = true := by simp [hf0]
        have he : bel k f true = true := by unfold bel; simp [hf0]
        have HE := Lib.hid he; clear he hf0
        go_enter Try.func124, Try.ntmps124
        go_wp2
        go_ret
        rw [HE.out]; exact ⟨by first | rfl | simp, rfl⟩
      · have hfl : ((f.length : Int) == 0) = false := by have := List.length_pos_iff.2 hf0; simp; omega
        have he : bel k f true = (k == f) := by unfold bel; rw [str_eq]; simp [h1, hf0]
        have HE := Lib.hid he; clear he hf0
        go_enter Try.func124, Try.ntmps124
        go_wp2
        go_ret
        rw [HE.out]; exact ⟨by first | rfl | simp, rfl⟩
end Go.Proofs.Ytdnohhlgaaihmaa
