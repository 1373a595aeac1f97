/- A span lent to a call: WholeSpans of one span. -/
import Derived.Test.YtdnohhlgaaihmaaSpanI
namespace Go.Proofs.Ytdnohhlgaaihmaa
open Go.RowKit

theorem LentS.kept {w w1 : World} {S : Nat → Prop} {g gF gT gM : Nat} {y : SpV} (h : LentS w g gF gT gM y) (f : Fr S w w1) (hn : ∀ k, k = g ∨ k = gF ∨ k = gT ∨ k = gM → ¬ S k) : LentS w1 g gF gT gM y :=
  ⟨f.heap h.row (hn _ (.inl rfl)), h.F.kept f (hn _ (.inr (.inl rfl))), h.T.kept f (hn _ (.inr (.inr (.inl rfl)))), f.cell h.M (hn _ (.inr (.inr (.inr rfl))))⟩
theorem LentS.kept0 {w w1 : World} {g gF gT gM : Nat} {y : SpV} (h : LentS w g gF gT gM y) (f : Fr no w w1) : LentS w1 g gF gT gM y := h.kept f (fun _ _ h => h)
theorem LentS.cells {w : World} {g gF gT gM : Nat} {y : SpV} (h : LentS w g gF gT gM y) :
    w.cell? ⟨g, 0, none⟩ = some (.slice (some ⟨gF, 0, none⟩) y.f.length (y.f.length + 2)) ∧ w.cell? ⟨g, 1, none⟩ = some (.slice (some ⟨gT, 0, none⟩) y.t.length (y.t.length + 2)) ∧
    w.cell? ⟨g, 2, none⟩ = some (.bool y.o) ∧ w.cell? ⟨g, 3, none⟩ = some (.slice (some ⟨gM, 0, none⟩) 1 1) ∧ g < w.heap.size := by
  have hr := h.row
  refine ⟨?_, ?_, ?_, ?_, (Array.getElem?_eq_some_iff.1 hr).1⟩ <;> (rw [cell_of_row w g _ _ _ (0, 0) hr]; simp [lentCells])

set_option maxRecDepth 100000 in
set_option maxHeartbeats 4000000 in
theorem wholesp_any (w : World) (g gF gT gM : Nat) (x : Value) (y : SpV) (hL : LentS w g gF gT gM y) (hx : Sl w 3 x 1 y.cells) (hy : y.Good w) :
    Calls Try.prog 109 #[.slice (some ⟨g, 0, none⟩) 1 2, x] w fun e w' => e = .returned (.bool true) ∧ Fr no w w' := by
  obtain ⟨A, c, rfl, hc1, hc2⟩ := hx.form
  obtain ⟨b, o, hA, q0, q1, q2⟩ := Spans.at (l := [y]) (n := 1) (by simpa using hx) 0 (by simp)
  obtain ⟨yA, yc, hyA, _, _⟩ := hy.F.form
  obtain ⟨yB, yd, hyB, _, _⟩ := hy.T.form
  subst hA
  simp only [Nat.zero_mul, Nat.add_zero, List.getElem_cons_zero] at q0 q1 q2
  have HYF := Lib.hid hy.F; have HYT := Lib.hid hy.T; have HL1 := Lib.hid hy.lf; have HL2 := Lib.hid hy.lt
  rw [hyA] at q0 HYF; rw [hyB] at q1 HYT
  have Q0 := Lib.hid q0; have Q1 := Lib.hid q1; have Q2 := Lib.hid q2; have HL := Lib.hid hL
  obtain ⟨c0, c1, c2, c3, c4⟩ := hL.cells
  have cM := hL.M
  clear hx hy hyA hyB q0 q1 q2 c0 c1 c2 hL
  go_enter Try.func109, Try.ntmps109
  go_wp2_with fail
  clear c3 c4 cM
  go_loopw [6] (fun i wr => (i = .int .i64 0 ∨ i = .int .i64 1) ∧ Fr no w wr) (fun i _ => 1 - (intOf i).toNat)
  case atStart => exact ⟨.inl rfl, Fr.refl _ _⟩
  case round =>
    obtain ⟨rfl | rfl, hf⟩ := hrel
    · have q0 := hf.cell Q0.out (fun h => h); have q1 := hf.cell Q1.out (fun h => h); have q2 := hf.cell Q2.out (fun h => h)
      have hq := World.block_lt_of_cell? wr _ q0
      obtain ⟨c0, c1, c2, _, c4⟩ := (HL.out.kept0 hf).cells
      have HF := Lib.hid hf; clear hf
      go_wp2_with fail
      refine wp_region_ord (List.range 39) (fun i => [Kd.p, Kd.p, Kd.p, Kd.p, Kd.l, Kd.p, Kd.p, Kd.p, Kd.p, Kd.l, Kd.e, Kd.p, Kd.p, Kd.p, Kd.p, Kd.p, Kd.l, Kd.p, Kd.p, Kd.p, Kd.p, Kd.l, Kd.e, Kd.p, Kd.p, Kd.p, Kd.p, Kd.p, Kd.p, Kd.p, Kd.l, Kd.p, Kd.p, Kd.p, Kd.p, Kd.l, Kd.e, Kd.p, Kd.p].getD i .e) (by kernel_rfl) (by kernel_rfl) ?_
      iterate 10
        first | (refine wpX_un rfl rfl ?_; go_simp) | first | refine wpX_pu rfl rfl rfl (by first | exact pu_move rfl | exact pu_assign rfl | exact pu_nilCheck rfl rfl | exact pu_binInt rfl rfl rfl | exact pu_conv rfl rfl (by kernel_rfl) | exact pu_fld rfl (by kernel_rfl) | exact pu_ix rfl rfl rfl (by kernel_rfl) | exact pu_unOp rfl | exact pu_binStr rfl rfl rfl | exact pu_len rfl rfl | exact pu_lens rfl rfl | exact pu_pick rfl | exact pu_slice rfl rfl) (fun K hK => ?_) | refine wpX_rd rfl rfl rfl (rd_load rfl) (fun K hK => ?_) | refine wpX_gr rfl rfl rfl (by first | exact gr_buildSlice rfl | exact gr_box rfl | exact gr_alloc rfl) (fun K hK => ?_) | refine wpX_ex rfl rfl rfl (fun K hK => ?_)
        try go_wp2
      refine wpX_ex rfl rfl rfl (fun K hK => ?_)
      go_simp
      refine hK _ _ ?_
      clear hK K
      iterate 11
        first | (refine wpX_un rfl rfl ?_; go_simp) | first | refine wpX_pu rfl rfl rfl (by first | exact pu_move rfl | exact pu_assign rfl | exact pu_nilCheck rfl rfl | exact pu_binInt rfl rfl rfl | exact pu_conv rfl rfl (by kernel_rfl) | exact pu_fld rfl (by kernel_rfl) | exact pu_ix rfl rfl rfl (by kernel_rfl) | exact pu_unOp rfl | exact pu_binStr rfl rfl rfl | exact pu_len rfl rfl | exact pu_lens rfl rfl | exact pu_pick rfl | exact pu_slice rfl rfl) (fun K hK => ?_) | refine wpX_rd rfl rfl rfl (rd_load rfl) (fun K hK => ?_) | refine wpX_gr rfl rfl rfl (by first | exact gr_buildSlice rfl | exact gr_box rfl | exact gr_alloc rfl) (fun K hK => ?_) | refine wpX_ex rfl rfl rfl (fun K hK => ?_)
        try go_wp2
      refine wpX_ex rfl rfl rfl (fun K hK => ?_)
      go_wp2_with fail
      refine (whole_lent _ gF _ y.f y.f (HL.out.F.kept (Fr.drew HF.out) (fun h => h)) (HYF.out.kept0 (Fr.drew HF.out)) HL1.out HL1.out).mono ?_
      rintro e w2 ⟨rfl, n1, rfl⟩
      rw [decide_eq_true rfl]
      go_wp2_with fail
      iterate 13
        first | (refine wpX_un rfl rfl ?_; go_simp) | first | refine wpX_pu rfl rfl rfl (by first | exact pu_move rfl | exact pu_assign rfl | exact pu_nilCheck rfl rfl | exact pu_binInt rfl rfl rfl | exact pu_conv rfl rfl (by kernel_rfl) | exact pu_fld rfl (by kernel_rfl) | exact pu_ix rfl rfl rfl (by kernel_rfl) | exact pu_unOp rfl | exact pu_binStr rfl rfl rfl | exact pu_len rfl rfl | exact pu_lens rfl rfl | exact pu_pick rfl | exact pu_slice rfl rfl) (fun K hK => ?_) | refine wpX_rd rfl rfl rfl (rd_load rfl) (fun K hK => ?_) | refine wpX_gr rfl rfl rfl (by first | exact gr_buildSlice rfl | exact gr_box rfl | exact gr_alloc rfl) (fun K hK => ?_) | refine wpX_ex rfl rfl rfl (fun K hK => ?_)
        try go_wp2
      refine wpX_ex rfl rfl rfl (fun K hK => ?_)
      go_wp2_with fail
      refine (whole_lent _ gT _ y.t y.t (HL.out.T.kept (HF.out.moreN (1 + n1)) (fun h => h)) (HYT.out.kept0 (HF.out.moreN (1 + n1))) HL2.out HL2.out).mono ?_
      rintro e w3 ⟨rfl, n2, rfl⟩
      rw [decide_eq_true rfl]
      go_wp2_with fail
      iterate 2
        first | (refine wpX_un rfl rfl ?_; go_simp) | first | refine wpX_pu rfl rfl rfl (by first | exact pu_move rfl | exact pu_assign rfl | exact pu_nilCheck rfl rfl | exact pu_binInt rfl rfl rfl | exact pu_conv rfl rfl (by kernel_rfl) | exact pu_fld rfl (by kernel_rfl) | exact pu_ix rfl rfl rfl (by kernel_rfl) | exact pu_unOp rfl | exact pu_binStr rfl rfl rfl | exact pu_len rfl rfl | exact pu_lens rfl rfl | exact pu_pick rfl | exact pu_slice rfl rfl) (fun K hK => ?_) | refine wpX_rd rfl rfl rfl (rd_load rfl) (fun K hK => ?_) | refine wpX_gr rfl rfl rfl (by first | exact gr_buildSlice rfl | exact gr_box rfl | exact gr_alloc rfl) (fun K hK => ?_) | refine wpX_ex rfl rfl rfl (fun K hK => ?_)
        try go_wp2
      refine wpX_done ?_
      go_wp2
      go_roundw
      case rel => exact ⟨.inr (by first | rfl | go_num), HF.out.trans (by (repeat first | exact Fr.refl _ _ | exact Fr.drewN _ _ _ | apply Fr.drew | apply Fr.alloc | apply Fr.setAt | apply Fr.moreN)) (fun _ _ h => h)⟩
      case measure => simp [intOf]
    · go_wp2
      go_ret
      exact ⟨rfl, hf⟩
end Go.Proofs.Ytdnohhlgaaihmaa
