/- package buffer: own, copied. -/
import Derived.Test.YtdnohhlgaaihmaaCb
import Derived.Test.YtdnohhlgaaihmaaInsChg
import Derived.Laws.ResultCell
import Derived.Laws.Rows
namespace Go.Proofs.Ytdnohhlgaaihmaa
open Go.RowKit

set_option maxRecDepth 100000 in
set_option maxHeartbeats 400000 in
theorem bown_any (w : World) (x : Value) (l : List UInt8) (hx : Sl w 1 x l.length (bvs l)) (hl : l.length ≤ 140737488351232) :
    Calls Try.prog 121 #[x] w fun e w' => ∃ A, e = .returned (.slice A l.length l.length) ∧ Ow w' 5 1 (.slice A l.length l.length) l.length (bvs l) ∧ (∀ k, Value.ownBlock (.slice A l.length l.length) = some k → w.heap.size ≤ k) ∧ Fr no w w' := by
  have HX := Lib.hid hx; clear hx
  go_enter Try.func121, Try.ntmps121
  go_wp2_with fail
  refine (bclone_any _ _ l HX.out hl).mono ?_
  rintro e w1 ⟨A1, c1, rfl, ho, hfresh, hf⟩
  obtain ⟨A2, c2, h1, h2, h3⟩ := ho.form
  cases h1
  have HO := Lib.hid ho; have HFR := Lib.hid hfresh; have HF := Lib.hid hf; clear ho hfresh hf h3
  go_wp2_with fail
  refine (bclip_any _ _ _ _ h2).mono ?_
  rintro e w2 ⟨rfl, rfl⟩
  go_wp2
  go_ret
  exact ⟨A1, rfl, HO.out.clip, fun k hk => HFR.out k (by cases A1 <;> exact hk), HF.out⟩


/-- Three cells of a block set. -/
def set3 (w : World) (g : Nat) (a b c : Value) : World := ((w.setCell ⟨g, 0, none⟩ a).setCell ⟨g, 1, none⟩ b).setCell ⟨g, 2, none⟩ c
theorem set3_fr (w : World) (g : Nat) (a b c : Value) : Fr (fun k => k = g) w (set3 w g a b c) :=
  Fr.setCell (Fr.setCell (Fr.setCell (Fr.refl (fun k => k = g) w) ⟨g, 0, none⟩ a (fun _ => rfl)) ⟨g, 1, none⟩ b (fun _ => rfl)) ⟨g, 2, none⟩ c (fun _ => rfl)
theorem set3_row {w : World} {g : Nat} {a b c x y z : Value} {T : TypeId} (h : w.heap[g]? = some (.cells #[x, y, z] T (0, 0))) : (set3 w g a b c).heap[g]? = some (.cells #[a, b, c] T (0, 0)) :=
  hp_same (hp_same (hp_same h 0 a) 1 b) 2 c
/-- The cells of a block of three. -/
theorem three_cells {w : World} {g : Nat} {x y z : Value} {T : TypeId} (h : w.heap[g]? = some (.cells #[x, y, z] T (0, 0))) :
    w.cell? ⟨g, 0, none⟩ = some x ∧ w.cell? ⟨g, 1, none⟩ = some y ∧ w.cell? ⟨g, 2, none⟩ = some z ∧ (∀ j, w.frozen? ⟨g, j, none⟩ = false) ∧ g < w.heap.size :=
  ⟨by rw [cell_of_row _ _ _ _ _ (0, 0) h]; rfl, by rw [cell_of_row _ _ _ _ _ (0, 0) h]; rfl, by rw [cell_of_row _ _ _ _ _ (0, 0) h]; rfl, fun j => by simp [World.frozen?, h], (Array.getElem?_eq_some_iff.1 h).1⟩

/-- A change in memory of its own. -/
structure Cpd (w w' : World) (x : SpV) (F T : Value) : Prop where
  oF : Ow w' 5 1 F x.f.length (bvs x.f)
  oT : Ow w' 5 1 T x.t.length (bvs x.t)
  nF : ∀ k, F.ownBlock = some k → w.heap.size ≤ k
  nT : ∀ k, T.ownBlock = some k → w.heap.size ≤ k
  ne : ∀ k, F.ownBlock = some k → T.ownBlock ≠ some k
  fF : ∃ A, F = .slice A x.f.length x.f.length
  fT : ∃ A, T = .slice A x.t.length x.t.length
  fr : Fr no w w'

set_option maxRecDepth 100000 in
set_option maxHeartbeats 4000000 in
theorem copied_any (w : World) (x : SpV) (hx : x.Good w) :
    Calls Try.prog 55 #[.agg #[x.F, x.T, .bool x.o]] w fun e w' => ∃ F T, e = .returned (.agg #[F, T, .bool x.o]) ∧ Cpd w w' x F T := by
  obtain ⟨xF, xT, f, t, o⟩ := x
  obtain ⟨FA, fc, hF, _, _⟩ := hx.F.form
  obtain ⟨TA, tc, hT, _, _⟩ := hx.T.form
  simp only at hF hT
  subst hF; subst hT
  have HX := Lib.hid hx; clear hx
  go_enter Try.func55, Try.ntmps55
  go_wp2_with fail
  refine wp_region_ord [0, 1, 3, 4, 6, 7, 2, 5, 8, 9] (fun i => [Kd.p, Kd.l, Kd.g, Kd.p, Kd.l, Kd.g, Kd.p, Kd.l, Kd.e, Kd.e].getD i .e) (by kernel_rfl) (by kernel_rfl) ?_
  iterate 6
    first | refine wpX_pu rfl rfl rfl (by first | exact pu_move rfl | exact pu_assign rfl | exact pu_nilCheck rfl rfl | exact pu_binInt rfl rfl rfl | exact pu_conv rfl rfl (by kernel_rfl) | exact pu_fld rfl (by kernel_rfl) | exact pu_ix rfl rfl rfl (by kernel_rfl) | exact pu_unOp rfl | exact pu_binStr rfl rfl rfl | exact pu_len rfl rfl | exact pu_lens rfl rfl | exact pu_pick rfl | exact pu_slice rfl rfl) (fun K hK => ?_) | refine wpX_rd rfl rfl rfl (rd_load rfl) (fun K hK => ?_) | refine wpX_gr rfl rfl rfl (by first | exact gr_buildSlice rfl | exact gr_box rfl | exact gr_alloc rfl) (fun K hK => ?_) | refine wpX_ex rfl rfl rfl (fun K hK => ?_)
    try go_wp2
  have hr : ((w.alloc (.cells #[.slice FA f.length fc, .slice TA t.length tc, .bool o] 36)).alloc (.cells #[.slice none 0 0, .slice none 0 0, .bool false] 36)).drew.heap[w.heap.size + 1]? = some (.cells #[.slice none 0 0, .slice none 0 0, .bool false] 36 (0, 0)) := heap_alloc2_new _ _ _
  have hf : Fr no w ((w.alloc (.cells #[.slice FA f.length fc, .slice TA t.length tc, .bool o] 36)).alloc (.cells #[.slice none 0 0, .slice none 0 0, .bool false] 36)).drew := Fr.drew (((Fr.refl no w).alloc _).alloc _)
  generalize ((w.alloc (.cells #[.slice FA f.length fc, .slice TA t.length tc, .bool o] 36)).alloc (.cells #[.slice none 0 0, .slice none 0 0, .bool false] 36)).drew = W0 at hr hf ⊢
  have HR := Lib.hid hr; have HF := Lib.hid hf; clear hr hf
  refine wpX_ca rfl rfl rfl (fun K hK => ?_)
  go_wp2_with fail
  refine (bown_any _ _ f (HX.out.F.kept0 HF.out) HX.out.lf).mono ?_
  rintro e w1 ⟨A1, rfl, h1, h2, h3⟩
  have H1 := Lib.hid h1; have H2 := Lib.hid h2; have H3 := Lib.hid h3; clear h1 h2 h3
  go_wp2
  obtain ⟨⟨xa, xb⟩, hext⟩ := H3.out.ext
  refine ⟨⟨xa, xb, hext⟩, hK _ _ ?_⟩
  clear hK K hext xa xb
  refine wpX_ca rfl rfl rfl (fun K hK => ?_)
  go_wp2_with fail
  refine (bown_any _ _ t ((HX.out.T.kept0 HF.out).kept0 H3.out) HX.out.lt).mono ?_
  rintro e w2 ⟨A2, rfl, h1, h2, h3⟩
  have G1 := Lib.hid h1; have G2 := Lib.hid h2; have G3 := Lib.hid h3; clear h1 h2 h3
  go_wp2
  obtain ⟨⟨xa, xb⟩, hext⟩ := G3.out.ext
  refine ⟨⟨xa, xb, hext⟩, hK _ _ ?_⟩
  clear hK K hext xa xb
  have hr2 := G3.out.heap (H3.out.heap HR.out (fun h => h)) (fun h => h)
  have HR2 := Lib.hid hr2
  obtain ⟨c0, c1, c2, hz, hlt⟩ := three_cells hr2
  clear hr2
  iterate 2
    first | refine wpX_pu rfl rfl rfl (by first | exact pu_move rfl | exact pu_assign rfl | exact pu_nilCheck rfl rfl | exact pu_binInt rfl rfl rfl | exact pu_conv rfl rfl (by kernel_rfl) | exact pu_fld rfl (by kernel_rfl) | exact pu_ix rfl rfl rfl (by kernel_rfl) | exact pu_unOp rfl | exact pu_binStr rfl rfl rfl | exact pu_len rfl rfl | exact pu_lens rfl rfl | exact pu_pick rfl | exact pu_slice rfl rfl) (fun K hK => ?_) | refine wpX_rd rfl rfl rfl (rd_load rfl) (fun K hK => ?_) | refine wpX_gr rfl rfl rfl (by first | exact gr_buildSlice rfl | exact gr_box rfl | exact gr_alloc rfl) (fun K hK => ?_) | refine wpX_ex rfl rfl rfl (fun K hK => ?_)
    try go_wp2
  refine wpX_done ?_
  go_wp2
  have hg := set3_row (a := .slice A1 f.length f.length) (b := .slice A2 t.length t.length) (c := .bool o) HR2.out
  have fs := set3_fr w2 (w.heap.size + 1) (.slice A1 f.length f.length) (.slice A2 t.length t.length) (.bool o)
  rw [show ((w2.setCell ⟨w.heap.size + 1, 0, none⟩ (.slice A1 f.length f.length)).setCell ⟨w.heap.size + 1, 1, none⟩ (.slice A2 t.length t.length)).setCell ⟨w.heap.size + 1, 2, none⟩ (.bool o) = set3 w2 (w.heap.size + 1) (.slice A1 f.length f.length) (.slice A2 t.length t.length) (.bool o) from rfl]
  generalize set3 w2 (w.heap.size + 1) (.slice A1 f.length f.length) (.slice A2 t.length t.length) (.bool o) = w3 at hg fs ⊢
  refine bodyPost_ret (results_cell_row rfl _ _ (w.heap.size + 1) _ #[.slice A1 f.length f.length, .slice A2 t.length t.length, .bool o] (0, 0) _ rfl hg Try.underlying36 rfl (by kernel_rfl)) rfl ?_
  have sz0 := HF.out.size; have sz1 := H3.out.size; have sz2 := G3.out.size
  have hro := HR.out
  have hlt0 := (Array.getElem?_eq_some_iff.1 hro).1
  have n1 : ∀ k, (Value.slice A1 f.length f.length).ownBlock = some k → W0.heap.size ≤ k := fun k hk => H2.out k hk
  have n2 : ∀ k, (Value.slice A2 t.length t.length).ownBlock = some k → w1.heap.size ≤ k := fun k hk => G2.out k hk
  exact ⟨_, _, rfl, (H1.out.kept0 G3.out).kept fs (fun k hk e => by have := n1 k hk; omega), G1.out.kept fs (fun k hk e => by have := n2 k hk; omega),
    fun k hk => by have := n1 k hk; omega, fun k hk => by have := n2 k hk; omega, fun k hk e => by have := n2 k e; have := H1.out.lt k hk; omega, ⟨_, rfl⟩, ⟨_, rfl⟩,
    ((HF.out.trans H3.out (fun _ _ h => h)).trans G3.out (fun _ _ h => h)).trans fs (fun k hk e => by omega)⟩
end Go.Proofs.Ytdnohhlgaaihmaa
