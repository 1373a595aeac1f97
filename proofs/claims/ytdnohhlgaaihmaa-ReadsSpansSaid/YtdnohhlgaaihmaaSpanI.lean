/- A span lent to a call: LentSpans, WholeSpans, SpoilSpans, of one span. -/
import Derived.Test.YtdnohhlgaaihmaaSpanG
import Derived.Test.YtdnohhlgaaihmaaLent
namespace Go.Proofs.Ytdnohhlgaaihmaa
open Go.RowKit

/-- At block g lies this span, lent; its bytes at gF and gT. -/
def lentCells (y : SpV) (gF gT : Nat) : List Value := [Value.slice (some ⟨gF, 0, none⟩) y.f.length (y.f.length + 2), Value.slice (some ⟨gT, 0, none⟩) y.t.length (y.t.length + 2), Value.bool y.o]

structure LentS (w : World) (g gF gT gM : Nat) (y : SpV) : Prop where
  row : w.heap[g]? = some (.cells (lentCells y gF gT ++ [Value.slice (some ⟨gM, 0, none⟩) 1 1, Value.slice none 0 0, Value.bool false]).toArray 100 (0, 0))
  F : Lent w gF y.f
  T : Lent w gT y.t
  M : w.cell? ⟨gM, 0, none⟩ = some (.int .u8 91)

set_option maxRecDepth 100000 in
set_option maxHeartbeats 4000000 in
theorem lentsp_any (w : World) (x : Value) (y : SpV) (hx : Sl w 3 x 1 y.cells) (hy : y.Good w) :
    Calls Try.prog 107 #[x] w fun e w' => ∃ g gF gT gM, e = .returned (.slice (some ⟨g, 0, none⟩) 1 2) ∧ LentS w' g gF gT gM y ∧ w.heap.size ≤ g ∧ g < gF ∧ gF < gT ∧ gT < gM ∧ gM < w'.heap.size ∧ Fr no w w' := by
  obtain ⟨A, c, rfl, hc1, hc2⟩ := hx.form
  obtain ⟨b, o, hA, q0, q1, q2⟩ := Spans.at (l := [y]) (n := 1) (by simpa using hx) 0 (by simp)
  obtain ⟨yA, yc, hyA, _, _⟩ := hy.F.form
  obtain ⟨yB, yd, hyB, _, _⟩ := hy.T.form
  subst hA
  simp only [Nat.zero_mul, Nat.add_zero, List.getElem_cons_zero] at q0 q1 q2
  have HYF := Lib.hid hy.F; have HYT := Lib.hid hy.T; have HL1 := Lib.hid hy.lf; have HL2 := Lib.hid hy.lt
  rw [hyA] at q0 HYF; rw [hyB] at q1 HYT
  have hq := World.block_lt_of_cell? w _ q0
  have Q0 := Lib.hid q0; have Q1 := Lib.hid q1; have Q2 := Lib.hid q2; have HQ := Lib.hid hq
  clear hx hy hyA hyB q0 q1 q2 hq
  obtain ⟨inf, hi, hz0, hz1, hz2⟩ := info_parts tbSpan.info
  obtain ⟨wm, hmk, hown, hgrow⟩ := run_make_own (P := Try.prog) w 0 90 100 inf (.agg #[.slice none 0 0, .slice none 0 0, .bool false]) 3 tbSpan.und hi hz0 hz1 .i64 .i64 2 (by rw [hz2]; omega) (by simp only [maxLen]; omega) (Nat.zero_le _)
  rw [show ((2 : Nat) : Int) = 2 from rfl] at hmk
  have hfm : Fr no w wm := (Fr.of_grown hgrow).mono (fun k _ h => by cases h)
  have HO := Lib.hid hown; have HFM := Lib.hid hfm; have HG := Lib.hid (hown.lt _ rfl); clear hown hfm hgrow hi hz0 hz1 hz2
  go_enter Try.func107, Try.ntmps107
  go_wp2_with fail
  clear hmk
  go_loopw [3, 4] (fun s i wr => (i = .int .i64 0 ∧ s = .slice (some ⟨w.heap.size, 0, none⟩) 0 2 ∧ wr.ownsRow 0 100 3 (.slice (some ⟨w.heap.size, 0, none⟩) 0 2) 0 [] ∧ Fr no w wr) ∨
    (i = .int .i64 1 ∧ s = .slice (some ⟨w.heap.size, 0, none⟩) 1 2 ∧ ∃ gF gT, wr.ownsRow 0 100 3 (.slice (some ⟨w.heap.size, 0, none⟩) 1 2) 1 (lentCells y gF gT) ∧ Lent wr gF y.f ∧ Lent wr gT y.t ∧ w.heap.size < gF ∧ gF < gT ∧ gT < wr.heap.size ∧ Fr no w wr)) (fun _ i _ => 1 - (intOf i).toNat)
  case atStart => exact .inl ⟨rfl, rfl, HO.out, HFM.out⟩
  case round =>
    rcases hrel with ⟨rfl, rfl, ho, hf⟩ | ⟨rfl, rfl, gF, gT, ho, hF, hT, h1, h2, h3, hf⟩
    · have q0 := hf.cell Q0.out (fun h => h); have q1 := hf.cell Q1.out (fun h => h); have q2 := hf.cell Q2.out (fun h => h)
      have hq : b < wr.heap.size := by have := HQ.out; have := hf.size; simp at *; omega
      have HO1 := Lib.hid ho; have HF := Lib.hid hf; clear ho hf
      go_wp2_with fail
      refine wp_region_ord [0, 1, 2, 3, 4, 5, 6, 7, 8, 9, 10, 12, 13, 14, 15, 16, 11, 17, 18, 19, 20, 21] (fun i => [Kd.p, Kd.p, Kd.p, Kd.p, Kd.p, Kd.l, Kd.p, Kd.p, Kd.p, Kd.p, Kd.l, Kd.g, Kd.p, Kd.p, Kd.p, Kd.p, Kd.l, Kd.g, Kd.e, Kd.e, Kd.e, Kd.e].getD i .e) (by kernel_rfl) (by kernel_rfl) ?_
      iterate 16
        first | refine wpX_pu rfl rfl rfl (by first | exact pu_move rfl | exact pu_assign rfl | exact pu_nilCheck rfl rfl | exact pu_binInt rfl rfl rfl | exact pu_conv rfl rfl (by kernel_rfl) | exact pu_fld rfl (by kernel_rfl) | exact pu_ix rfl rfl rfl (by kernel_rfl) | exact pu_unOp rfl | exact pu_binStr rfl rfl rfl | exact pu_len rfl rfl | exact pu_lens rfl rfl | exact pu_pick rfl | exact pu_slice rfl rfl) (fun K hK => ?_) | refine wpX_rd rfl rfl rfl (rd_load rfl) (fun K hK => ?_) | refine wpX_gr rfl rfl rfl (by first | exact gr_buildSlice rfl | exact gr_box rfl | exact gr_alloc rfl) (fun K hK => ?_) | refine wpX_ex rfl rfl rfl (fun K hK => ?_)
        try go_wp2
      refine wpX_ca rfl rfl rfl (fun K hK => ?_)
      go_wp2_with fail
      refine (lent_any _ _ y.f (HYF.out.kept0 (Fr.drew HF.out)) HL1.out).mono ?_
      rintro e w1 ⟨gF, rfl, h1, h2, h3⟩
      have H1 := Lib.hid h1; have H2 := Lib.hid h2; have H3 := Lib.hid h3; clear h1 h2 h3
      go_wp2
      obtain ⟨⟨xa, xb⟩, hext⟩ := H3.out.ext
      refine ⟨⟨xa, xb, hext⟩, hK _ _ ?_⟩
      clear hK K hext xa xb
      refine wpX_ca rfl rfl rfl (fun K hK => ?_)
      go_wp2_with fail
      refine (lent_any _ _ y.t ((HYT.out.kept0 (Fr.drew HF.out)).kept0 H3.out) HL2.out).mono ?_
      rintro e w2 ⟨gT, rfl, h1, h2, h3⟩
      have G1 := Lib.hid h1; have G2 := Lib.hid h2; have G3 := Lib.hid h3; clear h1 h2 h3
      go_wp2
      obtain ⟨⟨xa, xb⟩, hext⟩ := G3.out.ext
      refine ⟨⟨xa, xb, hext⟩, hK _ _ ?_⟩
      clear hK K hext xa xb q0 q1 q2
      iterate 2
        refine wpX_ex rfl rfl rfl (fun K hK => ?_)
        go_simp
        refine hK _ _ ?_
        clear hK K
      refine wpX_ex rfl rfl rfl (fun K hK => ?_)
      have hx := one_span (w := w2.alloc (.cells #[.slice (some ⟨gF, 0, none⟩) y.f.length (y.f.length + 2), .slice (some ⟨gT, 0, none⟩) y.t.length (y.t.length + 2), .bool y.o] 100)) (heap_alloc_new w2 _ : Has _ w2.heap.size 100 (lentCells y gF gT)) rfl
      have hfa : Fr no wr w2 := ((Fr.refl no wr).drew.trans H3.out (fun _ _ h => h)).trans G3.out (fun _ _ h => h)
      have hfb : Fr no wr (w2.alloc (.cells #[.slice (some ⟨gF, 0, none⟩) y.f.length (y.f.length + 2), .slice (some ⟨gT, 0, none⟩) y.t.length (y.t.length + 2), .bool y.o] 100)) := hfa.alloc _
      refine wp_apr (.tmp 16) (.tmp 35) 90 rfl tbSpan (own_kept0 HO1.out hfb) hx rfl rfl ?b0 (by omega) ?go
      case b0 => intro u hu; simp only [lentCells, List.mem_cons, List.not_mem_nil, or_false] at hu; rcases hu with rfl | rfl | rfl <;> rfl
      case go =>
        intro N w3 hN ho hf2
        obtain rfl : N = 1 := by omega
        clear hN
        have hg1 : gF < w1.heap.size := by have := H2.out; unfold Lent at this; exact (Array.getElem?_eq_some_iff.1 this).1
        have hg2 : gT < w2.heap.size := by have := G2.out; unfold Lent at this; exact (Array.getElem?_eq_some_iff.1 this).1
        have hg0 : w.heap.size < wr.heap.size := (HO1.out.lt _ rfl).2
        have k1 : wr.heap.size ≤ gF := H1.out; have k2 := G1.out; have k3 : wr.heap.size ≤ w1.heap.size := H3.out.size; have k4 := G3.out.size; have k5 := HF.out.size
        have al := (Fr.refl no w2).alloc (.cells #[.slice (some ⟨gF, 0, none⟩) y.f.length (y.f.length + 2), .slice (some ⟨gT, 0, none⟩) y.t.length (y.t.length + 2), .bool y.o] 100)
        have k6 : w2.heap.size ≤ w3.heap.size := Nat.le_trans al.size hf2.size
        have hLF : Lent w3 gF y.f := (((H2.out.kept G3.out (fun h => h)).kept al (fun h => h))).kept hf2 (fun e => by omega)
        have hLT : Lent w3 gT y.t := (G2.out.kept al (fun h => h)).kept hf2 (fun e => by omega)
        have hfr : Fr no w w3 := (HF.out.trans hfb (fun _ _ h => h)).trans hf2 (fun k hk e => by omega)
        have KEEP := Lib.hid (show _ ∧ _ ∧ _ ∧ _ ∧ _ ∧ _ ∧ _ from ⟨ho, hLF, hLT, hfr, (show w.heap.size < gF by omega), (show gF < gT by omega), (show gT < w3.heap.size by omega)⟩)
        clear ho hf2 hLF hLT hfr hx hfa hfb al k1 k2 k3 k4 k5 k6 hg0 hg1 hg2
        go_simp
        refine hK _ _ ?_
        clear hK K
        refine wpX_ex rfl rfl rfl (fun K hK => ?_)
        go_simp
        refine hK _ _ ?_
        clear hK K
        refine wpX_done ?_
        go_wp2
        go_roundw
        case rel =>
          obtain ⟨k1, k2, k3, k4, k5, k6, k7⟩ := KEEP.out
          exact .inr ⟨by first | rfl | go_num, rfl, gF, gT, k1, k2, k3, k5, k6, k7, k4⟩
        case measure => simp [intOf]
    · have HO1 := Lib.hid ho; have HF := Lib.hid hf; have HLF := Lib.hid hF; have HLT := Lib.hid hT; clear ho hf hF hT
      have hx := one_span (w := (wr.alloc (.cells #[.int .u8 91] 5)).alloc (.cells #[.slice (some ⟨wr.heap.size, 0, none⟩) 1 1, .slice none 0 0, .bool false] 100)) (heap_alloc_new _ _ : Has _ (wr.alloc (.cells #[.int .u8 91] 5)).heap.size 100 [.slice (some ⟨wr.heap.size, 0, none⟩) 1 1, .slice none 0 0, .bool false]) rfl
      have hx2 : Sl ((wr.alloc (.cells #[.int .u8 91] 5)).alloc (.cells #[.slice (some ⟨wr.heap.size, 0, none⟩) 1 1, .slice none 0 0, .bool false] 100)) 3 (.slice (some ⟨wr.heap.size + 1, 0, none⟩) 1 1) 1 [.slice (some ⟨wr.heap.size, 0, none⟩) 1 1, .slice none 0 0, .bool false] := by
        have e : (wr.alloc (.cells #[.int .u8 91] 5)).heap.size = wr.heap.size + 1 := by simp only [World.alloc, Array.size_push]
        rw [e] at hx; exact hx
      have HX := Lib.hid hx2; clear hx hx2
      have hfb : Fr no wr ((wr.alloc (.cells #[.int .u8 91] 5)).alloc (.cells #[.slice (some ⟨wr.heap.size, 0, none⟩) 1 1, .slice none 0 0, .bool false] 100)) := ((Fr.refl no wr).alloc _).alloc _
      have HFB := Lib.hid hfb; clear hfb
      go_wp2_with (at_builtin; refine wpList_apr rfl (.tmp 37) (.tmp 40) 90 rfl tbSpan (own_kept0 HO1.out HFB.out) HX.out rfl rfl ?c0 (by omega) ?go2)
      case c0 => intro u hu; simp only [List.mem_cons, List.not_mem_nil, or_false] at hu; rcases hu with rfl | rfl | rfl <;> rfl
      case go2 =>
        intro N w3 hN ho hf2
        obtain rfl : N = 2 := by omega
        clear hN
        have hm : ((wr.alloc (.cells #[.int .u8 91] 5)).alloc (.cells #[.slice (some ⟨wr.heap.size, 0, none⟩) 1 1, .slice none 0 0, .bool false] 100)).cell? ⟨wr.heap.size, 0, none⟩ = some (.int .u8 91) := by
          have h1 := heap_alloc_new wr (.cells #[.int .u8 91] 5)
          exact ((Fr.refl no _).alloc _).cell (one_cells h1).1 (fun h => h)
        have hgl : w.heap.size < wr.heap.size := (HO1.out.lt _ rfl).2
        have hm3 := hf2.cell hm (fun e => by have e2 : wr.heap.size = w.heap.size := e; omega)
        have hLF : Lent w3 gF y.f := (HLF.out.kept HFB.out (fun h => h)).kept hf2 (fun e => by omega)
        have hLT : Lent w3 gT y.t := (HLT.out.kept HFB.out (fun h => h)).kept hf2 (fun e => by omega)
        have hfr : Fr no w w3 := (HF.out.trans HFB.out (fun _ _ h => h)).trans hf2 (fun k hk e => by omega)
        have k6 := hf2.size
        simp only [World.alloc, Array.size_push] at k6
        have hrow : w3.heap[w.heap.size]? = some (.cells (lentCells y gF gT ++ [Value.slice (some ⟨wr.heap.size, 0, none⟩) 1 1, Value.slice none 0 0, Value.bool false]).toArray 100 (0, 0)) := by
          rcases ho.2 with ⟨h1, _⟩ | ⟨g, cap, cur, h1, _, hg, _, _, h4, h5⟩
          · cases h1
          · simp only [Value.slice.injEq, Option.some.injEq, Addr.mk.injEq, and_true, true_and] at h1
            obtain ⟨rfl, rfl⟩ := h1
            rw [hg]
            rw [List.take_of_length_le (by rw [Array.length_toList]; omega)] at h5
            rw [← h5]
        have KEEP := Lib.hid (show _ ∧ _ from ⟨(⟨hrow, hLF, hLT, hm3⟩ : LentS w3 w.heap.size gF gT wr.heap.size y), hfr⟩)
        clear hrow hLF hLT hm3 hm ho hf2 hfr
        go_wp2
        go_ret
        have hlast : wr.heap.size < w3.heap.size := by omega
        first
          | exact ⟨_, rfl, gF, gT, _, KEEP.out.1, Nat.le_refl _, h1, h2, h3, hlast, KEEP.out.2⟩
          | exact ⟨_, gF, gT, _, rfl, KEEP.out.1, Nat.le_refl _, h1, h2, h3, hlast, KEEP.out.2⟩
          | exact ⟨_, rfl, gF, gT, _, KEEP.out.1, h1, h2, h3, hlast, KEEP.out.2⟩
          | exact ⟨gF, gT, _, KEEP.out.1, h1, h2, h3, hlast, KEEP.out.2⟩
end Go.Proofs.Ytdnohhlgaaihmaa
