import Derived.Test.YtdnohhlgaaihmaaMt03
import Derived.Test.YtdnohhlgaaihmaaMt12
import Derived.Test.YtdnohhlgaaihmaaMt10
import Derived.Test.YtdnohhlgaaihmaaMt08
import Derived.WalkSpells
import Derived.Test.YtdnohhlgaaihmaaMt05
import Derived.Laws.ResultCell
import Derived.Laws.Rows

/- What is lent to a call, looked at and written over behind it: LentBytes, WholeBytes, SpoilBytes. -/
namespace Go.Proofs.Ytdnohhlgaaihmaa
open Go.RowKit

/-- At block g lie these bytes, and the two marks behind. -/
def Lent (w : World) (g : Nat) (l : List UInt8) : Prop := w.heap[g]? = some (.cells (bvs (l ++ [91, 92])).toArray 5 (0, 0))

theorem Lent.sl {w : World} {g : Nat} {l : List UInt8} (h : Lent w g l) (hl : l.length ≤ 140737488351232) : Sl w 1 (.slice (some ⟨g, 0, none⟩) l.length (l.length + 2)) l.length (bvs l) := by
  refine ⟨by rw [bvs_length, Nat.mul_one], .inr ⟨g, 0, _, rfl, by omega, by simp only [maxLen]; omega, fun j u hu => ?_⟩⟩
  have hj := (List.getElem?_eq_some_iff.1 hu).1
  rw [Nat.zero_add, cell_of_row w g j _ _ (0, 0) h, bvs_append]
  simp only [List.getElem?_toArray]
  rw [List.getElem?_append_left hj, hu]

set_option maxRecDepth 100000 in
set_option maxHeartbeats 400000 in
theorem lent_any (w : World) (x : Value) (l : List UInt8) (hx : Sl w 1 x l.length (bvs l)) (hl : l.length ≤ 140737488351232) :
    Calls Try.prog 64 #[x] w fun e w' => ∃ g, e = .returned (.slice (some ⟨g, 0, none⟩) l.length (l.length + 2)) ∧ w.heap.size ≤ g ∧ Lent w' g l ∧ Fr no w w' := by
  obtain ⟨A, c, rfl, hc1, hc2⟩ := hx.form
  have HX := Lib.hid hx; clear hx hc2
  obtain ⟨inf, hi, hz0, hz1, hz2⟩ := info_parts tbB.info
  obtain ⟨wm, hmk, hown, hgrow⟩ := run_make_own (P := Try.prog) w 0 34 5 inf (.int .u8 0) 1 tbB.und hi hz0 hz1 .i64 .i64 (l.length + 2) (by rw [hz2]; omega) (by simp only [maxLen]; omega) (Nat.zero_le _)
  rw [show ((l.length + 2 : Nat) : Int) = (l.length : Int) + 2 from by omega] at hmk
  have hfm : Fr no w wm := (Fr.of_grown hgrow).mono (fun k _ h => by cases h)
  have HO := Lib.hid hown; have HFM := Lib.hid hfm; have HG := Lib.hid (hown.lt _ rfl); clear hown hfm hgrow hi hz0 hz1 hz2
  go_enter Try.func64, Try.ntmps64
  go_wp2_with (at_builtin; refine wpList_apr rfl (.tmp 8) (.tmp 9) 34 rfl tbB HO.out (HX.out.kept0 HFM.out) rfl rfl (bvs_one l) (by omega) ?go)
  case go =>
    intro N w1 hN ho1 hf1
    obtain rfl : N = l.length := by omega
    have HO1 := Lib.hid ho1; have HF1 := Lib.hid hf1; clear ho1 hf1 hmk hN
    go_wp2_with (at_builtin; refine wpList_apr rfl (.tmp 11) (.tmp 12) 34 rfl tbB (own_kept0 HO1.out ?fr) (Sl.fresh w1 [91, 92] 5 (by rfl) (by simp [maxLen])) rfl rfl (bvs_one _) (by simp) ?go2)
    case fr => (repeat first | exact Fr.refl _ _ | apply Fr.drew | apply Fr.alloc)
    case go2 =>
      intro N w2 hN ho2 hf2
      have HO2 := Lib.hid ho2; have HF2 := Lib.hid hf2; clear ho2 hf2
      obtain rfl : N = l.length + 2 := by simpa using hN
      clear hN
      go_wp2
      go_ret
      have h := HO2.out
      rcases h.2 with ⟨h1, _⟩ | ⟨g, cap, cur, h1, _, hg, _, _, h4, h5⟩
      · cases h1
      · simp only [Value.slice.injEq, Option.some.injEq, Addr.mk.injEq, and_true, true_and] at h1
        obtain ⟨rfl, rfl⟩ := h1
        refine ⟨_, rfl, Nat.le_refl _, ?_, ?_⟩
        · unfold Lent
          rw [hg]
          rw [List.take_of_length_le (by rw [Array.length_toList]; omega)] at h5
          rw [bvs_append, ← h5]
        · have f1 : Fr no w w1 := HFM.out.trans HF1.out (fun k hk h => by omega)
          exact (f1.alloc _).trans HF2.out (fun k hk h => by omega)

theorem Lent.whole {w : World} {g : Nat} {l : List UInt8} (h : Lent w g l) : w.cell? ⟨g, l.length, none⟩ = some (.int .u8 91) ∧ w.cell? ⟨g, l.length + 1, none⟩ = some (.int .u8 92) := by
  constructor
  · rw [cell_of_row w g _ _ _ (0, 0) h]; simp [bvs, Bv]
  · rw [cell_of_row w g _ _ _ (0, 0) h]; simp [bvs, Bv]

theorem Lent.kept {S : Nat → Prop} {w w1 : World} {g : Nat} {l : List UInt8} (h : Lent w g l) (f : Fr S w w1) (hn : ¬ S g) : Lent w1 g l := f.heap h hn

set_option maxRecDepth 100000 in
set_option maxHeartbeats 400000 in
theorem whole_lent (w : World) (g : Nat) (y : Value) (l k : List UInt8) (hx : Lent w g l) (hy : Sl w 1 y k.length (bvs k)) (hl : l.length ≤ 140737488351232) (hk : k.length ≤ 140737488351232) :
    Calls Try.prog 80 #[.slice (some ⟨g, 0, none⟩) l.length (l.length + 2), y] w fun e w' => e = .returned (.bool (decide (l = k))) ∧ ∃ n, w' = w.drewN n := by
  obtain ⟨A, c, rfl, hc1, hc2⟩ := hy.form
  obtain ⟨q1, q2⟩ := hx.whole
  have HX := Lib.hid (hx.sl hl); have HY := Lib.hid hy; clear hx hy hc2
  go_enter Try.func80, Try.ntmps80
  go_wp2_with fail
  refine (same_any _ _ _ l k HX.out HY.out hl hk).mono ?_
  rintro e w1 ⟨rfl, n1, rfl⟩
  go_wp2
  go_ret
  exact ⟨rfl, n1, rfl⟩

set_option maxRecDepth 100000 in
set_option maxHeartbeats 400000 in
theorem spoil_lent (w : World) (g : Nat) (l : List UInt8) (hx : Lent w g l) (hl : l.length ≤ 140737488351232) :
    Calls Try.prog 81 #[.slice (some ⟨g, 0, none⟩) l.length (l.length + 2)] w fun e w' => e = .returned (.tuple #[]) ∧ Fr (fun k => k = g) w w' := by
  go_enter Try.func81, Try.ntmps81
  go_wp2
  go_loopw [3] (fun i wr => ∃ j : Nat, j ≤ l.length + 2 ∧ i = .int .i64 j ∧ Fr (fun k => k = g) w wr ∧ ∃ cur, wr.heap[g]? = some (.cells cur 5 (0, 0)) ∧ cur.size = l.length + 2) (fun i _ => l.length + 2 - (intOf i).toNat)
  case atStart => exact ⟨0, Nat.zero_le _, rfl, Fr.refl _ _, _, hx, by simp [bvs]⟩
  case round =>
    obtain ⟨j, hj, rfl, hf, cur, hg, hsz⟩ := hrel
    have HF := Lib.hid hf; have HG := Lib.hid hg; clear hf hg
    by_cases hlt : j < l.length + 2
    · have q0 : wr.cell? ⟨g, j, none⟩ = some (cur[j]'(by omega)) := by rw [cell_of_row wr g _ _ _ (0, 0) HG.out]; simp
      have q1 : wr.frozen? ⟨g, j, none⟩ = false := by simp [World.frozen?, HG.out]
      go_wp2
      go_roundw
      case rel =>
        refine ⟨j + 1, hlt, by go_num, HF.out.setCell _ _ (fun _ => rfl), cur.setIfInBounds j (.int .u8 238), ?_, by simp [hsz]⟩
        rw [hp_same HG.out]
      case measure => simp [intOf]; omega
    · go_wp2
      go_end0
      exact ⟨rfl, HF.out⟩
end Go.Proofs.Ytdnohhlgaaihmaa

/- A span lent to a call: LentSpans, WholeSpans, SpoilSpans, of one span. -/
namespace Go.Proofs.Ytdnohhlgaaihmaa
open Go.RowKit

/-- At block g lies this span, lent; its bytes at gF and gT. -/
def lentCells (y : SpV) (gF gT : Nat) : List Value := [Value.slice (some ⟨gF, 0, none⟩) y.f.length (y.f.length + 2), Value.slice (some ⟨gT, 0, none⟩) y.t.length (y.t.length + 2), Value.bool y.o]

structure LentS (w : World) (g gF gT gM : Nat) (y : SpV) : Prop where
  row : w.heap[g]? = some (.cells (lentCells y gF gT ++ [Value.slice (some ⟨gM, 0, none⟩) 1 1, Value.slice none 0 0, Value.bool false]).toArray 100 (0, 0))
  F : Lent w gF y.f
  T : Lent w gT y.t
  M : w.cell? ⟨gM, 0, none⟩ = some (.int .u8 91)

set_option maxRecDepth 100000 in
set_option maxHeartbeats 4000000 in
theorem lentsp_any (w : World) (x : Value) (y : SpV) (hx : Sl w 3 x 1 y.cells) (hy : y.Good w) :
    Calls Try.prog 107 #[x] w fun e w' => ∃ g gF gT gM, e = .returned (.slice (some ⟨g, 0, none⟩) 1 2) ∧ LentS w' g gF gT gM y ∧ w.heap.size ≤ g ∧ g < gF ∧ gF < gT ∧ gT < gM ∧ gM < w'.heap.size ∧ Fr no w w' := by
  obtain ⟨A, c, rfl, hc1, hc2⟩ := hx.form
  obtain ⟨b, o, hA, q0, q1, q2⟩ := Spans.at (l := [y]) (n := 1) (by simpa using hx) 0 (by simp)
  obtain ⟨yA, yc, hyA, _, _⟩ := hy.F.form
  obtain ⟨yB, yd, hyB, _, _⟩ := hy.T.form
  subst hA
  simp only [Nat.zero_mul, Nat.add_zero, List.getElem_cons_zero] at q0 q1 q2
  have HYF := Lib.hid hy.F; have HYT := Lib.hid hy.T; have HL1 := Lib.hid hy.lf; have HL2 := Lib.hid hy.lt
  rw [hyA] at q0 HYF; rw [hyB] at q1 HYT
  have hq := World.block_lt_of_cell? w _ q0
  have Q0 := Lib.hid q0; have Q1 := Lib.hid q1; have Q2 := Lib.hid q2; have HQ := Lib.hid hq
  clear hx hy hyA hyB q0 q1 q2 hq
  obtain ⟨inf, hi, hz0, hz1, hz2⟩ := info_parts tbSpan.info
  obtain ⟨wm, hmk, hown, hgrow⟩ := run_make_own (P := Try.prog) w 0 90 100 inf (.agg #[.slice none 0 0, .slice none 0 0, .bool false]) 3 tbSpan.und hi hz0 hz1 .i64 .i64 2 (by rw [hz2]; omega) (by simp only [maxLen]; omega) (Nat.zero_le _)
  rw [show ((2 : Nat) : Int) = 2 from rfl] at hmk
  have hfm : Fr no w wm := (Fr.of_grown hgrow).mono (fun k _ h => by cases h)
  have HO := Lib.hid hown; have HFM := Lib.hid hfm; have HG := Lib.hid (hown.lt _ rfl); clear hown hfm hgrow hi hz0 hz1 hz2
  go_enter Try.func107, Try.ntmps107
  go_wp2_with fail
  clear hmk
  go_loopw [3, 4] (fun s i wr => (i = .int .i64 0 ∧ s = .slice (some ⟨w.heap.size, 0, none⟩) 0 2 ∧ wr.ownsRow 0 100 3 (.slice (some ⟨w.heap.size, 0, none⟩) 0 2) 0 [] ∧ Fr no w wr) ∨
    (i = .int .i64 1 ∧ s = .slice (some ⟨w.heap.size, 0, none⟩) 1 2 ∧ ∃ gF gT, wr.ownsRow 0 100 3 (.slice (some ⟨w.heap.size, 0, none⟩) 1 2) 1 (lentCells y gF gT) ∧ Lent wr gF y.f ∧ Lent wr gT y.t ∧ w.heap.size < gF ∧ gF < gT ∧ gT < wr.heap.size ∧ Fr no w wr)) (fun _ i _ => 1 - (intOf i).toNat)
  case atStart => exact .inl ⟨rfl, rfl, HO.out, HFM.out⟩
  case round =>
    rcases hrel with ⟨rfl, rfl, ho, hf⟩ | ⟨rfl, rfl, gF, gT, ho, hF, hT, h1, h2, h3, hf⟩
    · have q0 := hf.cell Q0.out (fun h => h); have q1 := hf.cell Q1.out (fun h => h); have q2 := hf.cell Q2.out (fun h => h)
      have hq : b < wr.heap.size := by have := HQ.out; have := hf.size; simp at *; omega
      have HO1 := Lib.hid ho; have HF := Lib.hid hf; clear ho hf
      go_wp2_with fail
      refine wp_region_ord [0, 1, 2, 3, 4, 5, 6, 7, 8, 9, 10, 12, 13, 14, 15, 16, 11, 17, 18, 19, 20, 21] (fun i => [Kd.p, Kd.p, Kd.p, Kd.p, Kd.p, Kd.l, Kd.p, Kd.p, Kd.p, Kd.p, Kd.l, Kd.g, Kd.p, Kd.p, Kd.p, Kd.p, Kd.l, Kd.g, Kd.e, Kd.e, Kd.e, Kd.e].getD i .e) (by kernel_rfl) (by kernel_rfl) ?_
      iterate 16
        first | refine wpX_pu rfl rfl rfl (by first | exact pu_move rfl | exact pu_assign rfl | exact pu_nilCheck rfl rfl | exact pu_binInt rfl rfl rfl | exact pu_conv rfl rfl (by kernel_rfl) | exact pu_fld rfl (by kernel_rfl) | exact pu_ix rfl rfl rfl (by kernel_rfl) | exact pu_unOp rfl | exact pu_binStr rfl rfl rfl | exact pu_len rfl rfl | exact pu_lens rfl rfl | exact pu_pick rfl | exact pu_slice rfl rfl) (fun K hK => ?_) | refine wpX_rd rfl rfl rfl (rd_load rfl) (fun K hK => ?_) | refine wpX_gr rfl rfl rfl (by first | exact gr_buildSlice rfl | exact gr_box rfl | exact gr_alloc rfl) (fun K hK => ?_) | refine wpX_ex rfl rfl rfl (fun K hK => ?_)
        try go_wp2
      refine wpX_ca rfl rfl rfl (fun K hK => ?_)
      go_wp2_with fail
      refine (lent_any _ _ y.f (HYF.out.kept0 (Fr.drew HF.out)) HL1.out).mono ?_
      rintro e w1 ⟨gF, rfl, h1, h2, h3⟩
      have H1 := Lib.hid h1; have H2 := Lib.hid h2; have H3 := Lib.hid h3; clear h1 h2 h3
      go_wp2
      obtain ⟨⟨xa, xb⟩, hext⟩ := H3.out.ext
      refine ⟨⟨xa, xb, hext⟩, hK _ _ ?_⟩
      clear hK K hext xa xb
      refine wpX_ca rfl rfl rfl (fun K hK => ?_)
      go_wp2_with fail
      refine (lent_any _ _ y.t ((HYT.out.kept0 (Fr.drew HF.out)).kept0 H3.out) HL2.out).mono ?_
      rintro e w2 ⟨gT, rfl, h1, h2, h3⟩
      have G1 := Lib.hid h1; have G2 := Lib.hid h2; have G3 := Lib.hid h3; clear h1 h2 h3
      go_wp2
      obtain ⟨⟨xa, xb⟩, hext⟩ := G3.out.ext
      refine ⟨⟨xa, xb, hext⟩, hK _ _ ?_⟩
      clear hK K hext xa xb q0 q1 q2
      iterate 2
        refine wpX_ex rfl rfl rfl (fun K hK => ?_)
        go_simp
        refine hK _ _ ?_
        clear hK K
      refine wpX_ex rfl rfl rfl (fun K hK => ?_)
      have hx := one_span (w := w2.alloc (.cells #[.slice (some ⟨gF, 0, none⟩) y.f.length (y.f.length + 2), .slice (some ⟨gT, 0, none⟩) y.t.length (y.t.length + 2), .bool y.o] 100)) (heap_alloc_new w2 _ : Has _ w2.heap.size 100 (lentCells y gF gT)) rfl
      have hfa : Fr no wr w2 := ((Fr.refl no wr).drew.trans H3.out (fun _ _ h => h)).trans G3.out (fun _ _ h => h)
      have hfb : Fr no wr (w2.alloc (.cells #[.slice (some ⟨gF, 0, none⟩) y.f.length (y.f.length + 2), .slice (some ⟨gT, 0, none⟩) y.t.length (y.t.length + 2), .bool y.o] 100)) := hfa.alloc _
      refine wp_apr (.tmp 16) (.tmp 35) 90 rfl tbSpan (own_kept0 HO1.out hfb) hx rfl rfl ?b0 (by omega) ?go
      case b0 => intro u hu; simp only [lentCells, List.mem_cons, List.not_mem_nil, or_false] at hu; rcases hu with rfl | rfl | rfl <;> rfl
      case go =>
        intro N w3 hN ho hf2
        obtain rfl : N = 1 := by omega
        clear hN
        have hg1 : gF < w1.heap.size := by have := H2.out; unfold Lent at this; exact (Array.getElem?_eq_some_iff.1 this).1
        have hg2 : gT < w2.heap.size := by have := G2.out; unfold Lent at this; exact (Array.getElem?_eq_some_iff.1 this).1
        have hg0 : w.heap.size < wr.heap.size := (HO1.out.lt _ rfl).2
        have k1 : wr.heap.size ≤ gF := H1.out; have k2 := G1.out; have k3 : wr.heap.size ≤ w1.heap.size := H3.out.size; have k4 := G3.out.size; have k5 := HF.out.size
        have al := (Fr.refl no w2).alloc (.cells #[.slice (some ⟨gF, 0, none⟩) y.f.length (y.f.length + 2), .slice (some ⟨gT, 0, none⟩) y.t.length (y.t.length + 2), .bool y.o] 100)
        have k6 : w2.heap.size ≤ w3.heap.size := Nat.le_trans al.size hf2.size
        have hLF : Lent w3 gF y.f := (((H2.out.kept G3.out (fun h => h)).kept al (fun h => h))).kept hf2 (fun e => by omega)
        have hLT : Lent w3 gT y.t := (G2.out.kept al (fun h => h)).kept hf2 (fun e => by omega)
        have hfr : Fr no w w3 := (HF.out.trans hfb (fun _ _ h => h)).trans hf2 (fun k hk e => by omega)
        have KEEP := Lib.hid (show _ ∧ _ ∧ _ ∧ _ ∧ _ ∧ _ ∧ _ from ⟨ho, hLF, hLT, hfr, (show w.heap.size < gF by omega), (show gF < gT by omega), (show gT < w3.heap.size by omega)⟩)
        clear ho hf2 hLF hLT hfr hx hfa hfb al k1 k2 k3 k4 k5 k6 hg0 hg1 hg2
        go_simp
        refine hK _ _ ?_
        clear hK K
        refine wpX_ex rfl rfl rfl (fun K hK => ?_)
        go_simp
        refine hK _ _ ?_
        clear hK K
        refine wpX_done ?_
        go_wp2
        go_roundw
        case rel =>
          obtain ⟨k1, k2, k3, k4, k5, k6, k7⟩ := KEEP.out
          exact .inr ⟨by first | rfl | go_num, rfl, gF, gT, k1, k2, k3, k5, k6, k7, k4⟩
        case measure => simp [intOf]
    · have HO1 := Lib.hid ho; have HF := Lib.hid hf; have HLF := Lib.hid hF; have HLT := Lib.hid hT; clear ho hf hF hT
      have hx := one_span (w := (wr.alloc (.cells #[.int .u8 91] 5)).alloc (.cells #[.slice (some ⟨wr.heap.size, 0, none⟩) 1 1, .slice none 0 0, .bool false] 100)) (heap_alloc_new _ _ : Has _ (wr.alloc (.cells #[.int .u8 91] 5)).heap.size 100 [.slice (some ⟨wr.heap.size, 0, none⟩) 1 1, .slice none 0 0, .bool false]) rfl
      have hx2 : Sl ((wr.alloc (.cells #[.int .u8 91] 5)).alloc (.cells #[.slice (some ⟨wr.heap.size, 0, none⟩) 1 1, .slice none 0 0, .bool false] 100)) 3 (.slice (some ⟨wr.heap.size + 1, 0, none⟩) 1 1) 1 [.slice (some ⟨wr.heap.size, 0, none⟩) 1 1, .slice none 0 0, .bool false] := by
        have e : (wr.alloc (.cells #[.int .u8 91] 5)).heap.size = wr.heap.size + 1 := by simp only [World.alloc, Array.size_push]
        rw [e] at hx; exact hx
      have HX := Lib.hid hx2; clear hx hx2
      have hfb : Fr no wr ((wr.alloc (.cells #[.int .u8 91] 5)).alloc (.cells #[.slice (some ⟨wr.heap.size, 0, none⟩) 1 1, .slice none 0 0, .bool false] 100)) := ((Fr.refl no wr).alloc _).alloc _
      have HFB := Lib.hid hfb; clear hfb
      go_wp2_with (at_builtin; refine wpList_apr rfl (.tmp 37) (.tmp 40) 90 rfl tbSpan (own_kept0 HO1.out HFB.out) HX.out rfl rfl ?c0 (by omega) ?go2)
      case c0 => intro u hu; simp only [List.mem_cons, List.not_mem_nil, or_false] at hu; rcases hu with rfl | rfl | rfl <;> rfl
      case go2 =>
        intro N w3 hN ho hf2
        obtain rfl : N = 2 := by omega
        clear hN
        have hm : ((wr.alloc (.cells #[.int .u8 91] 5)).alloc (.cells #[.slice (some ⟨wr.heap.size, 0, none⟩) 1 1, .slice none 0 0, .bool false] 100)).cell? ⟨wr.heap.size, 0, none⟩ = some (.int .u8 91) := by
          have h1 := heap_alloc_new wr (.cells #[.int .u8 91] 5)
          exact ((Fr.refl no _).alloc _).cell (one_cells h1).1 (fun h => h)
        have hgl : w.heap.size < wr.heap.size := (HO1.out.lt _ rfl).2
        have hm3 := hf2.cell hm (fun e => by have e2 : wr.heap.size = w.heap.size := e; omega)
        have hLF : Lent w3 gF y.f := (HLF.out.kept HFB.out (fun h => h)).kept hf2 (fun e => by omega)
        have hLT : Lent w3 gT y.t := (HLT.out.kept HFB.out (fun h => h)).kept hf2 (fun e => by omega)
        have hfr : Fr no w w3 := (HF.out.trans HFB.out (fun _ _ h => h)).trans hf2 (fun k hk e => by omega)
        have k6 := hf2.size
        simp only [World.alloc, Array.size_push] at k6
        have hrow : w3.heap[w.heap.size]? = some (.cells (lentCells y gF gT ++ [Value.slice (some ⟨wr.heap.size, 0, none⟩) 1 1, Value.slice none 0 0, Value.bool false]).toArray 100 (0, 0)) := by
          rcases ho.2 with ⟨h1, _⟩ | ⟨g, cap, cur, h1, _, hg, _, _, h4, h5⟩
          · cases h1
          · simp only [Value.slice.injEq, Option.some.injEq, Addr.mk.injEq, and_true, true_and] at h1
            obtain ⟨rfl, rfl⟩ := h1
            rw [hg]
            rw [List.take_of_length_le (by rw [Array.length_toList]; omega)] at h5
            rw [← h5]
        have KEEP := Lib.hid (show _ ∧ _ from ⟨(⟨hrow, hLF, hLT, hm3⟩ : LentS w3 w.heap.size gF gT wr.heap.size y), hfr⟩)
        clear hrow hLF hLT hm3 hm ho hf2 hfr
        go_wp2
        go_ret
        have hlast : wr.heap.size < w3.heap.size := by omega
        first
          | exact ⟨_, rfl, gF, gT, _, KEEP.out.1, Nat.le_refl _, h1, h2, h3, hlast, KEEP.out.2⟩
          | exact ⟨_, gF, gT, _, rfl, KEEP.out.1, Nat.le_refl _, h1, h2, h3, hlast, KEEP.out.2⟩
          | exact ⟨_, rfl, gF, gT, _, KEEP.out.1, h1, h2, h3, hlast, KEEP.out.2⟩
          | exact ⟨gF, gT, _, KEEP.out.1, h1, h2, h3, hlast, KEEP.out.2⟩
end Go.Proofs.Ytdnohhlgaaihmaa

/- Rows of bytes lent to a call: LentRows, WholeRows. -/
namespace Go.Proofs.Ytdnohhlgaaihmaa
open Go.RowKit

/-- An element of a lent row, behind the row. -/
def LentK (w : World) (lo : Nat) (y : Kv) : Prop := ∃ g, lo < g ∧ y.V = .slice (some ⟨g, 0, none⟩) y.b.length (y.b.length + 2) ∧ Lent w g y.b

structure LentR (w : World) (g : Nat) (own : List Kv) : Prop where
  row : w.heap[g]? = some (.cells (own.map Kv.V ++ [Value.slice none 0 0]).toArray 34 (0, 0))
  lent : ∀ y ∈ own, LentK w g y
  short : ∀ y ∈ own, y.b.length ≤ 100000
  n : own.length ≤ 100000

theorem LentK.kept0 {w w1 : World} {lo : Nat} {y : Kv} (h : LentK w lo y) (f : Fr no w w1) : LentK w1 lo y := by
  obtain ⟨g, h1, h2, h3⟩ := h
  exact ⟨g, h1, h2, h3.kept f (fun h => h)⟩
theorem LentR.kept0 {w w1 : World} {g : Nat} {own : List Kv} (h : LentR w g own) (f : Fr no w w1) : LentR w1 g own :=
  ⟨f.heap h.row (fun h => h), fun y hy => (h.lent y hy).kept0 f, h.short, h.n⟩
theorem LentR.keys {w : World} {g : Nat} {own : List Kv} (h : LentR w g own) : Keys w (.slice (some ⟨g, 0, none⟩) own.length (own.length + 1)) own := by
  refine ⟨⟨by simp, .inr ⟨g, 0, _, rfl, by omega, by have := h.n; simp only [maxLen]; omega, fun j u hu => ?_⟩⟩, fun y hy => ?_⟩
  · have hj := (List.getElem?_eq_some_iff.1 hu).1
    rw [Nat.zero_add, cell_of_row w g j _ _ (0, 0) h.row]
    simp only [List.getElem?_toArray]
    rw [List.getElem?_append_left hj, hu]
  · obtain ⟨gi, _, h2, h3⟩ := h.lent y hy
    have h4 := h.short y hy
    exact ⟨by rw [h2]; exact h3.sl (by omega), by have : (100000 : Nat) ≤ reachBytes := by decide
                                                  omega⟩

set_option maxRecDepth 100000 in
set_option maxHeartbeats 4000000 in
theorem lentrows_any (w : World) (x : Value) (ks : List Kv) (hx : Keys w x ks) (hn : ks.length ≤ 10000) (hb : ∀ y ∈ ks, y.b.length ≤ 100000) :
    Calls Try.prog 47 #[x] w fun e w' => ∃ g own, e = .returned (.slice (some ⟨g, 0, none⟩) own.length (own.length + 1)) ∧ own.map Kv.b = ks.map Kv.b ∧ LentR w' g own ∧ w.heap.size ≤ g ∧ Fr no w w' := by
  obtain ⟨A, c, rfl, hc1, hc2⟩ := hx.sl.form
  obtain ⟨inf, hi, hz0, hz1, hz2⟩ := info_parts tbRows.info
  obtain ⟨wm, hmk, hown, hgrow⟩ := run_make_own (P := Try.prog) w 0 63 34 inf (.slice none 0 0) 1 tbRows.und hi hz0 hz1 .i64 .i64 (ks.length + 1) (by rw [hz2]; omega) (by simp only [maxLen]; omega) (Nat.zero_le _)
  rw [show ((ks.length + 1 : Nat) : Int) = (ks.length : Int) + 1 from by omega] at hmk
  have hfm : Fr no w wm := (Fr.of_grown hgrow).mono (fun k _ h => by cases h)
  have HX := Lib.hid hx
  have HO := Lib.hid hown; have HFM := Lib.hid hfm; have HG := Lib.hid (hown.lt _ rfl); clear hown hfm hgrow hi hz0 hz1 hz2 hx hc2
  go_enter Try.func47, Try.ntmps47
  go_wp2_with fail
  clear hmk
  go_loopw [3, 4] (fun s i wr => ∃ (j : Nat) (own : List Kv), j ≤ ks.length ∧ i = .int .i64 j ∧ own.length = j ∧ own.map Kv.b = (ks.take j).map Kv.b ∧ s = .slice (some ⟨w.heap.size, 0, none⟩) j (ks.length + 1) ∧ wr.ownsRow 0 34 1 (.slice (some ⟨w.heap.size, 0, none⟩) j (ks.length + 1)) j (own.map Kv.V) ∧ (∀ y ∈ own, LentK wr w.heap.size y ∧ y.b.length ≤ 100000) ∧ Fr no w wr) (fun _ i _ => ks.length - (intOf i).toNat)
  case atStart => exact ⟨0, [], Nat.zero_le _, rfl, rfl, rfl, rfl, HO.out, (fun _ h => nomatch h), HFM.out⟩
  case round =>
    obtain ⟨j, own, hj, rfl, hlen, hmap, rfl, ho, hl, hf⟩ := hrel
    have HLEN := Lib.hid hlen; have HMAP := Lib.hid hmap; have HO1 := Lib.hid ho; have HL := Lib.hid hl; have HF := Lib.hid hf
    clear hlen hmap ho hl hf
    by_cases hlt : j < ks.length
    · obtain ⟨b, o, hA, q0⟩ := (HX.out.kept0 HF.out).at j hlt
      subst hA
      have hg := HX.out.good ks[j] (List.getElem_mem _)
      obtain ⟨FA, fc, hFA, _, _⟩ := hg.1.form
      rw [hFA] at q0
      have HGD := Lib.hid (hFA ▸ hg.1); have HBL := Lib.hid (hb ks[j] (List.getElem_mem _))
      have hq := World.block_lt_of_cell? _ _ q0
      clear hg hFA
      go_wp2_with fail
      refine (lent_any _ _ ks[j].b (HGD.out.kept0 HF.out) (by have := HBL.out; omega)).mono ?_
      rintro e w1 ⟨gi, rfl, h1, h2, h3⟩
      have H1 := Lib.hid h1; have H2 := Lib.hid h2; have H3 := Lib.hid h3; clear h1 h2 h3 q0 hq
      have hal := H3.out.alloc (.cells #[.slice (some ⟨gi, 0, none⟩) ks[j].b.length (ks[j].b.length + 2)] 34)
      have HAL := Lib.hid hal; clear hal
      go_wp2_with (at_builtin; refine wpList_apr rfl (.tmp 16) (.tmp 22) 63 rfl tbRows (own_kept0 HO1.out HAL.out) (Sl.built w1 _ _) rfl rfl ?b0 (by omega) ?go)
      case b0 => intro u hu; simp only [List.mem_cons, List.not_mem_nil, or_false] at hu; subst hu; rfl
      case go =>
        intro N w3 hN ho hf2
        subst hN
        have hgw : gi < w1.heap.size := by have := H2.out; unfold Lent at this; exact (Array.getElem?_eq_some_iff.1 this).1
        have hg0 : w.heap.size < wr.heap.size := (HO1.out.lt _ rfl).2
        have k1 : wr.heap.size ≤ gi := H1.out
        have al := (Fr.refl no w1).alloc (.cells #[.slice (some ⟨gi, 0, none⟩) ks[j].b.length (ks[j].b.length + 2)] 34)
        have hLN : Lent w3 gi ks[j].b := (H2.out.kept al (fun h => h)).kept hf2 (fun e => by omega)
        have hold : ∀ y ∈ own, LentK w3 w.heap.size y := fun y hy => by
          obtain ⟨⟨g, g1, g2, g3⟩, _⟩ := HL.out y hy
          exact ⟨g, g1, g2, (g3.kept HAL.out (fun h => h)).kept hf2 (fun e => by omega)⟩
        have hfr : Fr no w w3 := (HF.out.trans HAL.out (fun _ _ h => h)).trans hf2 (fun k hk e => by omega)
        have KEEP := Lib.hid (show _ ∧ _ ∧ _ ∧ _ ∧ _ from ⟨ho, hLN, hold, hfr, (show w.heap.size < gi by omega)⟩)
        clear hgw hg0 k1 al hLN hold hfr ho hf2
        go_wp2
        go_roundw
        case rel =>
          obtain ⟨k1, k2, k3, k4, k5⟩ := KEEP.out
          exact ⟨j + 1, own ++ [⟨.slice (some ⟨gi, 0, none⟩) ks[j].b.length (ks[j].b.length + 2), ks[j].b⟩], by omega, by first | rfl | go_num, by rw [List.length_append, HLEN.out]; rfl, by rw [List.map_append, HMAP.out, List.take_succ_eq_append_getElem hlt, List.map_append]; rfl, rfl, by rw [List.map_append]; exact k1, fun y hy => by
            rcases List.mem_append.1 hy with hy | hy
            · exact ⟨k3 y hy, (HL.out y hy).2⟩
            · rw [List.mem_singleton.1 hy]; exact ⟨⟨gi, k5, rfl, k2⟩, HBL.out⟩, k4⟩
        case measure => simp [intOf]; omega
    · obtain rfl : j = ks.length := by omega
      have hal := (Fr.refl no wr).alloc (.cells #[.slice none 0 0] 34)
      have HAL := Lib.hid hal; clear hal
      go_wp2_with (at_builtin; refine wpList_apr rfl (.tmp 24) (.tmp 25) 63 rfl tbRows (own_kept0 HO1.out HAL.out) (Sl.built wr _ _) rfl rfl ?c0 (by omega) ?go2)
      case c0 => intro u hu; simp only [List.mem_cons, List.not_mem_nil, or_false] at hu; subst hu; rfl
      case go2 =>
        intro N w3 hN ho hf2
        subst hN
        have hg0 : w.heap.size < wr.heap.size := (HO1.out.lt _ rfl).2
        have hold : ∀ y ∈ own, LentK w3 w.heap.size y := fun y hy => by
          obtain ⟨⟨g, g1, g2, g3⟩, _⟩ := HL.out y hy
          exact ⟨g, g1, g2, (g3.kept HAL.out (fun h => h)).kept hf2 (fun e => by omega)⟩
        have hfr : Fr no w w3 := (HF.out.trans HAL.out (fun _ _ h => h)).trans hf2 (fun k hk e => by omega)
        have hrow : w3.heap[w.heap.size]? = some (.cells (own.map Kv.V ++ [Value.slice none 0 0]).toArray 34 (0, 0)) := by
          rcases ho.2 with ⟨h1, _⟩ | ⟨g, cap, cur, h1, _, hg, _, _, h4, h5⟩
          · cases h1
          · simp only [Value.slice.injEq, Option.some.injEq, Addr.mk.injEq, and_true, true_and] at h1
            obtain ⟨rfl, rfl⟩ := h1
            rw [hg]
            rw [List.take_of_length_le (by rw [Array.length_toList]; omega)] at h5
            rw [← h5]
        have KEEP := Lib.hid (show _ ∧ _ ∧ _ from ⟨hrow, hold, hfr⟩)
        clear hg0 hold hfr hrow ho hf2
        go_wp2
        go_ret
        obtain ⟨k1, k2, k3⟩ := KEEP.out
        have hlen := HLEN.out
        exact ⟨w.heap.size, own, (by rw [hlen]; rfl), by rw [HMAP.out, List.take_of_length_le (Nat.le_refl _)], ⟨k1, k2, fun y hy => (HL.out y hy).2, by omega⟩, Nat.le_refl _, k3⟩

set_option maxRecDepth 100000 in
set_option maxHeartbeats 4000000 in
theorem wholerows_any (w : World) (x : Value) (g : Nat) (own ks : List Kv) (hL : LentR w g own) (hx : Keys w x ks) (hm : own.map Kv.b = ks.map Kv.b) :
    Calls Try.prog 52 #[.slice (some ⟨g, 0, none⟩) own.length (own.length + 1), x] w fun e w' => e = .returned (.bool true) ∧ Fr no w w' := by
  obtain ⟨A, c, rfl, hc1, hc2⟩ := hx.sl.form
  have hlen : ks.length = own.length := by have := congrArg List.length hm; simpa using this.symm
  have hn := hL.n
  have HX := Lib.hid hx; have HL := Lib.hid hL; have HM := Lib.hid hm
  have hgl : g < w.heap.size := (Array.getElem?_eq_some_iff.1 hL.row).1
  have q9 : w.cell? ⟨g, own.length, none⟩ = some (.slice none 0 0) := by
    rw [cell_of_row w g _ _ _ (0, 0) hL.row]; simp
  clear hL hm
  rw [hlen]
  rw [hlen] at hc1
  clear hx
  have HLEN := Lib.hid hlen; clear hlen
  go_enter Try.func52, Try.ntmps52
  have hnil := fun (w : World) (a : Option Addr) (n c n' c' : Nat) => run_neq_slice_nil_any (P := Try.prog) w 34 5 a n c n' c' (by kernel_rfl)
  go_wp2_with fail
  clear hnil q9
  go_loopw [5] (fun i wr => ∃ j : Nat, j ≤ own.length ∧ i = .int .i64 j ∧ Fr no w wr) (fun i _ => own.length - (intOf i).toNat)
  case atStart => exact ⟨0, Nat.zero_le _, rfl, Fr.refl _ _⟩
  case round =>
    obtain ⟨j, hj, rfl, hf⟩ := hrel
    have HF := Lib.hid hf; clear hf
    by_cases hlt : j < own.length
    · have hlt2 : j < ks.length := by rw [HLEN.out]; exact hlt
      obtain ⟨b1, o1, hA1, q0⟩ := (HX.out.kept0 HF.out).at j hlt2
      have hke := (HL.out.kept0 HF.out).keys
      obtain ⟨b2, o2, hA2, p0⟩ := hke.at j hlt
      simp only [Option.some.injEq, Addr.mk.injEq, and_true] at hA2
      obtain ⟨rfl, rfl⟩ := hA2
      subst hA1
      simp only [Nat.zero_add] at p0
      have hg := HX.out.good ks[j] (List.getElem_mem _)
      obtain ⟨FA, fc, hFA, _, _⟩ := hg.1.form
      obtain ⟨gi, _, hV, hLn⟩ := HL.out.lent own[j] (List.getElem_mem _)
      have hbe : ks[j].b = own[j].b := by
        have h1 : (own.map Kv.b)[j]? = (ks.map Kv.b)[j]? := by rw [HM.out]
        rw [List.getElem?_map, List.getElem?_map, List.getElem?_eq_getElem hlt, List.getElem?_eq_getElem hlt2] at h1
        simpa using h1.symm
      have hgs := hg.1
      rw [hFA] at q0 hgs
      rw [hV] at p0
      rw [hbe] at q0 hgs
      have hsh := HL.out.short own[j] (List.getElem_mem _)
      have HLN := Lib.hid hLn; have HGS := Lib.hid hgs
      have x1 := World.block_lt_of_cell? wr _ q0
      have x2 := World.block_lt_of_cell? wr _ p0
      clear hke hg hFA hV hLn hgs hbe
      go_wp2_with fail
      refine wp_region_ord (List.range 10) (fun i => [Kd.p, Kd.p, Kd.p, Kd.l, Kd.p, Kd.p, Kd.p, Kd.l, Kd.e, Kd.p].getD i .e) (by kernel_rfl) (by kernel_rfl) ?_
      iterate 8
        first | refine wpX_pu rfl rfl rfl (by first | exact pu_move rfl | exact pu_assign rfl | exact pu_nilCheck rfl rfl | exact pu_binInt rfl rfl rfl | exact pu_conv rfl rfl (by kernel_rfl) | exact pu_fld rfl (by kernel_rfl) | exact pu_ix rfl rfl rfl (by kernel_rfl) | exact pu_unOp rfl | exact pu_binStr rfl rfl rfl | exact pu_len rfl rfl | exact pu_lens rfl rfl | exact pu_pick rfl | exact pu_slice rfl rfl) (fun K hK => ?_) | refine wpX_rd rfl rfl rfl (rd_load rfl) (fun K hK => ?_) | refine wpX_gr rfl rfl rfl (by first | exact gr_buildSlice rfl | exact gr_box rfl | exact gr_alloc rfl) (fun K hK => ?_) | refine wpX_ex rfl rfl rfl (fun K hK => ?_)
        try go_wp2
      refine wpX_ex rfl rfl rfl (fun K hK => ?_)
      go_wp2_with fail
      refine (whole_lent _ gi _ own[j].b own[j].b (HLN.out.kept (HF.out.trans (by (repeat first | exact Fr.refl _ _ | exact Fr.drewN _ _ _ | apply Fr.drew | apply Fr.alloc | apply Fr.setAt | apply Fr.moreN) : Fr no wr _) (fun _ _ h => h)) (fun h => h)) (HGS.out.kept0 (HF.out.trans (by (repeat first | exact Fr.refl _ _ | exact Fr.drewN _ _ _ | apply Fr.drew | apply Fr.alloc | apply Fr.setAt | apply Fr.moreN) : Fr no wr _) (fun _ _ h => h))) (by omega) (by omega)).mono ?_
      rintro e w2 ⟨rfl, n1, rfl⟩
      rw [decide_eq_true rfl]
      go_wp2_with fail
      first | refine wpX_pu rfl rfl rfl (by first | exact pu_move rfl | exact pu_assign rfl | exact pu_nilCheck rfl rfl | exact pu_binInt rfl rfl rfl | exact pu_conv rfl rfl (by kernel_rfl) | exact pu_fld rfl (by kernel_rfl) | exact pu_ix rfl rfl rfl (by kernel_rfl) | exact pu_unOp rfl | exact pu_binStr rfl rfl rfl | exact pu_len rfl rfl | exact pu_lens rfl rfl | exact pu_pick rfl | exact pu_slice rfl rfl) (fun K hK => ?_) | refine wpX_rd rfl rfl rfl (rd_load rfl) (fun K hK => ?_) | refine wpX_gr rfl rfl rfl (by first | exact gr_buildSlice rfl | exact gr_box rfl | exact gr_alloc rfl) (fun K hK => ?_) | refine wpX_ex rfl rfl rfl (fun K hK => ?_)
      try go_wp2
      refine wpX_done ?_
      go_wp2
      go_roundw
      case rel => exact ⟨j + 1, by omega, by first | rfl | go_num, HF.out.trans (by (repeat first | exact Fr.refl _ _ | exact Fr.drewN _ _ _ | apply Fr.drew | apply Fr.alloc | apply Fr.setAt | apply Fr.moreN)) (fun _ _ h => h)⟩
      case measure => simp [intOf]; omega
    · obtain rfl : j = own.length := by omega
      go_wp2
      go_ret
      exact ⟨rfl, HF.out⟩
end Go.Proofs.Ytdnohhlgaaihmaa

/- the blocks of a change's or a span's bytes; the cells of a block of three. -/
namespace Go.Proofs.Ytdnohhlgaaihmaa
open Go.RowKit
def BlC (x : SpV) (k : Nat) : Prop := x.F.ownBlock = some k ∨ x.T.ownBlock = some k
/-- The cells of a block of three. -/
theorem three_cells {w : World} {g : Nat} {x y z : Value} {T : TypeId} (h : w.heap[g]? = some (.cells #[x, y, z] T (0, 0))) :
    w.cell? ⟨g, 0, none⟩ = some x ∧ w.cell? ⟨g, 1, none⟩ = some y ∧ w.cell? ⟨g, 2, none⟩ = some z ∧ (∀ j, w.frozen? ⟨g, j, none⟩ = false) ∧ g < w.heap.size :=
  ⟨by rw [cell_of_row _ _ _ _ _ (0, 0) h]; rfl, by rw [cell_of_row _ _ _ _ _ (0, 0) h]; rfl, by rw [cell_of_row _ _ _ _ _ (0, 0) h]; rfl, fun j => by simp [World.frozen?, h], (Array.getElem?_eq_some_iff.1 h).1⟩

end Go.Proofs.Ytdnohhlgaaihmaa
