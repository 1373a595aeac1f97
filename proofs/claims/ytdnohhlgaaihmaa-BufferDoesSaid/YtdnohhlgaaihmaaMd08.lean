import Derived.Test.YtdnohhlgaaihmaaMd07

/- package buffer: say. -/
namespace Go.Proofs.Ytdnohhlgaaihmaa
open Go.RowKit

/-- A call that turns nothing of what was there, within a region that keeps something. -/
theorem wpX_cg {P : Program} {ops : Array Oper} {Q : Exit → Act → World → Prop} {I : World → Prop} {kds : Nat → Kd} {i : Nat} {rest : List Nat} {a : Act} {w : World} {o : Oper} (hi : ops[i]? = some o) (hg : Region.wanted o (yielded ops a.tmps) = true) (hk : kds i = .g)
    (h : ∀ K : Act → World → Prop, (∀ a w, wpX P ops Q I kds rest a w → K a w) → o.wp P a w (fun a' w' => (∃ e, w' = w.ext e) ∧ I w' ∧ K a' w') (NoPanic Q)) : wpX P ops Q I kds (i :: rest) a w := by
  refine wpX_step hi hg fun K hK => ?_
  rw [hk]
  exact h K hK

/-- What say leaves. -/
def Said (w w' : World) (p : Nat) (lv uv : Value) (l : List SpV) (us : List Und) (x : SpV) (e : Ending) : Prop :=
  e = .returned (.tuple #[]) ∧ ∃ lv' uv' u F T, Bf w' p lv' (sayL l ⟨F, T, x.f, x.t, x.o⟩) uv' (u :: us) ∧ Fr (fun k => k = p ∨ lv.ownBlock = some k ∨ uv.ownBlock = some k) w w' ∧
    (∀ k, BfF p lv' (sayL l ⟨F, T, x.f, x.t, x.o⟩) uv' (u :: us) k → BfF p lv l uv us k ∨ (w.heap.size ≤ k ∧ k < w'.heap.size)) ∧ u.back (sayL l ⟨F, T, x.f, x.t, x.o⟩) = l

theorem ow_at {w : World} {e : TypeId} {sz g og n c : Nat} {xs : List Value} (h : Ow w e sz (.slice (some ⟨g, og, none⟩) n c) n xs) :
    og = 0 ∧ ∃ cur, w.heap[g]? = some (.cells cur e (0, 0)) ∧ n ≤ c ∧ c ≤ maxLen ∧ c * sz ≤ cur.size ∧ cur.toList.take (n * sz) = xs := by
  rcases h.2 with ⟨h1, _⟩ | ⟨g', cap, cur, h1, h2, h3, h4, h5, h6⟩
  · cases h1
  · cases h1; exact ⟨rfl, cur, h2, h3, h4, h5, h6⟩

/-- One element of three cells set, in a row of one's own. -/
theorem ow_set3 {w : World} {e : TypeId} {g n c i : Nat} {l : List SpV} (x : SpV) (h : Ow w e 3 (.slice (some ⟨g, 0, none⟩) n c) n (l.flatMap SpV.cells)) (hi : i < l.length) (hn : n = l.length) :
    Ow (((w.setCell ⟨g, i * 3, none⟩ x.F).setCell ⟨g, i * 3 + 1, none⟩ x.T).setCell ⟨g, i * 3 + 2, none⟩ (.bool x.o)) e 3 (.slice (some ⟨g, 0, none⟩) n c) n ((l.set i x).flatMap SpV.cells) ∧
    Fr (fun k => k = g) w (((w.setCell ⟨g, i * 3, none⟩ x.F).setCell ⟨g, i * 3 + 1, none⟩ x.T).setCell ⟨g, i * 3 + 2, none⟩ (.bool x.o)) := by
  obtain ⟨_, cur, h2, h3, h4, h5, h6⟩ := ow_at h
  refine ⟨⟨?_, .inr ⟨g, c, _, rfl, hp_same (hp_same (hp_same h2 (i * 3) x.F) (i * 3 + 1) x.T) (i * 3 + 2) (.bool x.o), h3, h4, by simpa using h5, ?_⟩⟩,
    Fr.setCell (Fr.setCell (Fr.setCell (Fr.refl (fun k => k = g) w) ⟨g, i * 3, none⟩ _ (fun _ => rfl)) ⟨g, i * 3 + 1, none⟩ _ (fun _ => rfl)) ⟨g, i * 3 + 2, none⟩ _ (fun _ => rfl)⟩
  · rw [cells3_len, List.length_set, hn]
  · simp only [Array.toList_setIfInBounds, List.take_set, h6]
    exact flat_set3 l i x hi

theorem tbFn : Tb Try.prog 110 1 .nilFunc 1 8 := ⟨by kernel_rfl, by kernel_rfl, rfl, by decide⟩

theorem say_fin {w w' : World} {p N5 N8 : Nat} {lv uv lv' uv' : Value} {l : List SpV} {us : List Und} {x : SpV} {F T : Value} {u : Und} (hb : Bf w p lv l uv us)
    (f : Fr (fun k => k = p ∨ lv.ownBlock = some k ∨ uv.ownBlock = some k) w w') (n5 : w.heap.size ≤ N5) (n8 : N5 ≤ N8) (n9 : N8 ≤ w'.heap.size)
    (at' : w'.heap[p]? = some (.cells #[lv', uv'] 112 (0, 0)))
    (row' : Ow w' 36 3 lv' (sayL l ⟨F, T, x.f, x.t, x.o⟩).length ((sayL l ⟨F, T, x.f, x.t, x.o⟩).flatMap SpV.cells))
    (undo' : Ow w' 1 1 uv' (us.length + 1) (us.reverse.map Und.val ++ [u.val]))
    (gx : SpV.Good w' ⟨F, T, x.f, x.t, x.o⟩) (uok : u.Ok w' p) (hi1 : u.fits (sayL l ⟨F, T, x.f, x.t, x.o⟩)) (hi2 : u.back (sayL l ⟨F, T, x.f, x.t, x.o⟩) = l)
    (mlv : lv'.ownBlock = lv.ownBlock ∨ ∀ k, lv'.ownBlock = some k → N5 ≤ k ∧ k < N8) (muv : uv'.ownBlock = uv.ownBlock ∨ ∀ k, uv'.ownBlock = some k → N8 ≤ k ∧ k < w'.heap.size)
    (nx : ∀ k, BlC ⟨F, T, x.f, x.t, x.o⟩ k → w.heap.size ≤ k ∧ k < N5) (nu : ∀ k, u.blk k → (∃ y ∈ l, BlC y k) ∨ (w.heap.size ≤ k ∧ k < N5)) :
    Said w w' p lv uv l us x (.returned (.tuple #[])) := by
  have hp := (Array.getElem?_eq_some_iff.1 hb.at_).1
  have hlv := hb.row.lt
  have huv := hb.undo.lt
  have hnl := hb.nl
  have hnu := hb.nu
  have hlu := hb.lu
  have hap := hb.apart
  -- blocks of the new state, beside p, lv', uv'
  have key : ∀ k, ((∃ y ∈ sayL l ⟨F, T, x.f, x.t, x.o⟩, BlC y k) ∨ ∃ v ∈ u :: us, v.blk k) → ((∃ y ∈ l, BlC y k) ∨ ∃ v ∈ us, v.blk k) ∨ (w.heap.size ≤ k ∧ k < N5) := by
    rintro k (⟨y, hy, hk⟩ | ⟨v, hv, hk⟩)
    · rcases (mem_say hb.ris).1 hy with rfl | ⟨hy, _⟩
      · exact .inr (nx k hk)
      · exact .inl (.inl ⟨y, hy, hk⟩)
    · rcases List.mem_cons.1 hv with rfl | hv
      · rcases nu k hk with h | h
        · exact .inl (.inl h)
        · exact .inr h
      · exact .inl (.inr ⟨v, hv, hk⟩)
  have apart' : ∀ k, ((∃ y ∈ sayL l ⟨F, T, x.f, x.t, x.o⟩, BlC y k) ∨ ∃ v ∈ u :: us, v.blk k) → k ≠ p ∧ lv'.ownBlock ≠ some k ∧ uv'.ownBlock ≠ some k ∧ k < w'.heap.size := by
    intro k hk
    rcases key k hk with h | ⟨h1, h2⟩
    · obtain ⟨a, b, c, d⟩ := hap k h
      refine ⟨a, fun e => ?_, fun e => ?_, by omega⟩
      · rcases mlv with m | m
        · exact b (m ▸ e)
        · have := m k e; omega
      · rcases muv with m | m
        · exact c (m ▸ e)
        · have := m k e; omega
    · refine ⟨by omega, fun e => ?_, fun e => ?_, by omega⟩
      · rcases mlv with m | m
        · have := hlv k (m ▸ e); omega
        · have := m k e; omega
      · rcases muv with m | m
        · have := huv k (m ▸ e); omega
        · have := m k e; omega
  refine ⟨rfl, lv', uv', u, F, T, ⟨at', row', fun y hy => ?_, ?_, fun v hv => ?_, ris_say hb.ris, ⟨hi1, by rw [hi2]; exact hb.ris, by rw [hi2]; exact hb.hist⟩, fun e => ?_, fun e => ?_, fun k e1 e2 => ?_, apart'⟩, f, fun k hk => ?_, hi2⟩
  · rcases (mem_say hb.ris).1 hy with rfl | ⟨hy, _⟩
    · exact gx
    · refine (hb.good y hy).kept f (fun k hk e => ?_) (fun k hk e => ?_)
      · obtain ⟨a, b, c, _⟩ := hap k (.inl ⟨y, hy, .inl hk⟩); rcases e with e | e | e; exact a e; exact b e; exact c e
      · obtain ⟨a, b, c, _⟩ := hap k (.inl ⟨y, hy, .inr hk⟩); rcases e with e | e | e; exact a e; exact b e; exact c e
  · rw [List.reverse_cons, List.map_append]; exact undo'
  · rcases List.mem_cons.1 hv with rfl | hv
    · exact uok
    · refine (hb.uok v hv).kept f (fun k hk e => ?_)
      obtain ⟨a, b, c, _⟩ := hap k (.inr ⟨v, hv, hk⟩); rcases e with e | e | e; exact a e; exact b e; exact c e
  · rcases mlv with m | m
    · exact hnl (m ▸ e)
    · have := m p e; omega
  · rcases muv with m | m
    · exact hnu (m ▸ e)
    · have := m p e; omega
  · rcases mlv with m | m
    · rcases muv with m2 | m2
      · exact hlu k (m ▸ e1) (m2 ▸ e2)
      · have := hlv k (m ▸ e1); have := m2 k e2; omega
    · have h1 := m k e1
      rcases muv with m2 | m2
      · have := huv k (m2 ▸ e2); omega
      · have := m2 k e2; omega
  · rcases hk with rfl | hk | hk | hk | hk
    · exact .inl (.inl rfl)
    · rcases mlv with m | m
      · exact .inl (.inr (.inl (m ▸ hk)))
      · have := m k hk; exact .inr (by omega)
    · rcases muv with m | m
      · exact .inl (.inr (.inr (.inl (m ▸ hk))))
      · have := m k hk; exact .inr (by omega)
    · rcases key k (.inl hk) with h | h
      · rcases h with h | h
        · exact .inl (.inr (.inr (.inr (.inl h))))
        · exact .inl (.inr (.inr (.inr (.inr h))))
      · exact .inr (by omega)
    · rcases key k (.inr hk) with h | h
      · rcases h with h | h
        · exact .inl (.inr (.inr (.inr (.inl h))))
        · exact .inl (.inr (.inr (.inr (.inr h))))
      · exact .inr (by omega)

set_option maxRecDepth 100000 in
set_option maxHeartbeats 8000000 in
theorem say_any (w : World) (p : Nat) (lv uv : Value) (l : List SpV) (us : List Und) (x : SpV) (hb : Bf w p lv l uv us) (hx : x.Good w) (hl : l.length ≤ 100000) (hu : us.length ≤ 100000) :
    Calls Try.prog 69 #[.pointer (some ⟨p, 0, none⟩), .agg #[x.F, x.T, .bool x.o]] w fun e w' => Said w w' p lv uv l us x e := by
  obtain ⟨xF, xT, f, t, o⟩ := x
  obtain ⟨FA, fc, hF, _, _⟩ := hx.F.form
  obtain ⟨TA, tc, hT, _, _⟩ := hx.T.form
  simp only at hF hT
  subst hF; subst hT
  obtain ⟨A, c, rfl, hA1, hA2⟩ := hb.row.form
  obtain ⟨B, d, rfl, hB1, hB2⟩ := hb.undo.form
  have HX := Lib.hid hx; have HB := Lib.hid hb; clear hx hb
  have hp := (Array.getElem?_eq_some_iff.1 HB.out.at_).1
  go_enter Try.func69, Try.ntmps69
  go_wp2_with fail
  have hr1 := heap_alloc2_new w (.cells #[.pointer (some ⟨p, 0, none⟩)] 25) (.cells #[.slice FA f.length fc, .slice TA t.length tc, .bool o] 36)
  have hr0 : ((w.alloc (.cells #[.pointer (some ⟨p, 0, none⟩)] 25)).alloc (.cells #[.slice FA f.length fc, .slice TA t.length tc, .bool o] 36)).heap[w.heap.size]? = some (.cells #[.pointer (some ⟨p, 0, none⟩)] 25 (0, 0)) := ((Fr.refl no (w.alloc (.cells #[.pointer (some ⟨p, 0, none⟩)] 25))).alloc (.cells #[.slice FA f.length fc, .slice TA t.length tc, .bool o] 36)).heap (heap_alloc_new _ _) (fun h => h)
  have hf := ((Fr.refl no w).alloc (.cells #[.pointer (some ⟨p, 0, none⟩)] 25)).alloc (.cells #[.slice FA f.length fc, .slice TA t.length tc, .bool o] 36)
  have hsz : ((w.alloc (.cells #[.pointer (some ⟨p, 0, none⟩)] 25)).alloc (.cells #[.slice FA f.length fc, .slice TA t.length tc, .bool o] 36)).heap.size = w.heap.size + 2 := by rw [World.size_alloc, World.size_alloc]
  generalize (w.alloc (.cells #[.pointer (some ⟨p, 0, none⟩)] 25)).alloc (.cells #[.slice FA f.length fc, .slice TA t.length tc, .bool o] 36) = W1 at hr1 hr0 hf hsz ⊢
  generalize hbx : w.heap.size = bx at hr1 hr0 hsz hp ⊢
  generalize hbc : bx + 1 = bc at hr1 ⊢
  have HBX := Lib.hid hbx; have HBC := Lib.hid hbc; have R0 := Lib.hid hr0; have R1 := Lib.hid hr1; have G1 := Lib.hid hf; have HSZ := Lib.hid hsz
  clear hr0 hr1 hf hsz hbx hbc
  refine (copied_any W1 ⟨.slice FA f.length fc, .slice TA t.length tc, f, t, o⟩ (HX.out.kept0 G1.out)).mono ?_
  rintro e w1 ⟨F, T, rfl, hc⟩
  have HC := Lib.hid hc
  obtain ⟨F1, hF1⟩ := hc.fF; obtain ⟨T1, hT1⟩ := hc.fT
  have hr0 := hc.fr.heap R0.out (fun h => h); have hr1 := hc.fr.heap R1.out (fun h => h)
  simp only at hF1 hT1
  subst hF1; subst hT1
  obtain ⟨c0, c1, c2, hz, hlt⟩ := three_cells hr1
  obtain ⟨d0, dz, dlt⟩ := one_cell hr0
  have hne : ¬ bx = bc := by have := HBC.out; omega
  have hne2 : ¬ bc = bx := by omega
  have R0 := Lib.hid hr0; have R1 := Lib.hid hr1; clear hc hr0 hr1
  go_wp2_with fail
  clear c0 c1 c2 hz hlt d0 dz dlt hne hne2
  have hg := set3_row (a := .slice F1 f.length f.length) (b := .slice T1 t.length t.length) (c := .bool o) R1.out
  have fs := set3_fr w1 bc (.slice F1 f.length f.length) (.slice T1 t.length t.length) (.bool o)
  rw [show ((w1.setCell ⟨bc, 0, none⟩ (.slice F1 f.length f.length)).setCell ⟨bc, 1, none⟩ (.slice T1 t.length t.length)).setCell ⟨bc, 2, none⟩ (.bool o) = set3 w1 bc (.slice F1 f.length f.length) (.slice T1 t.length t.length) (.bool o) from rfl]
  generalize set3 w1 bc (.slice F1 f.length f.length) (.slice T1 t.length t.length) (.bool o) = w2 at hg fs ⊢
  have hxn : w.heap.size = bx ∧ bx + 1 = bc := ⟨HBX.out, HBC.out⟩
  have hFl : ∀ k, (Value.slice F1 f.length f.length).ownBlock = some k → w.heap.size + 2 ≤ k := fun k hk => by have := HC.out.nF k hk; have := HSZ.out; have := HBX.out; omega
  have hTl : ∀ k, (Value.slice T1 t.length t.length).ownBlock = some k → w.heap.size + 2 ≤ k := fun k hk => by have := HC.out.nT k hk; have := HSZ.out; have := HBX.out; omega
  have hoF := HC.out.oF.kept fs (fun k hk e => by have := hFl k hk; omega)
  have hoT := HC.out.oT.kept fs (fun k hk e => by have := hTl k hk; omega)
  have hw2 : Fr no w w2 := ((G1.out.trans HC.out.fr (fun _ _ h => h)).trans fs (fun k hk e => by omega))
  have hr0 := fs.heap R0.out (fun e => by omega)
  have R0 := Lib.hid hr0; have R1 := Lib.hid hg; have G2 := Lib.hid hw2; have OF := Lib.hid hoF; have OT := Lib.hid hoT; have FL := Lib.hid hFl; have TL := Lib.hid hTl; have NE := Lib.hid HC.out.ne; have XN := Lib.hid hxn
  clear hg fs hw2 hoF hoT hFl hTl hr0 hxn HC
  refine (at_any w2 p _ _ _ l us f (HB.out.kept0 G2.out) OF.out.sl (by omega)).mono ?_
  rintro e w3 ⟨rfl, f3⟩
  have hr0 := f3.heap R0.out (fun h => h); have hr1 := f3.heap R1.out (fun h => h)
  have R0 := Lib.hid hr0; have R1 := Lib.hid hr1; have G3 := Lib.hid (G2.out.trans f3 (fun _ _ h => h)); have OF := Lib.hid (OF.out.kept0 f3); have OT := Lib.hid (OT.out.kept0 f3); clear f3 hr0 hr1
  obtain ⟨i, hi⟩ : ∃ i, i = posK l f := ⟨_, rfl⟩
  rw [← hi]
  have HI := Lib.hid hi; clear hi
  have hbl := HB.out.kept0 G3.out
  obtain ⟨b0, b1, bz, blt⟩ := two_cells hbl.at_
  have hi0 := heap_alloc_new w3 (.cells #[.int .i64 i] 3)
  have hf3 := (Fr.refl no w3).alloc (.cells #[.int .i64 i] 3)
  have HF3 := Lib.hid hf3; have HI0 := Lib.hid hi0; have HBL := Lib.hid hbl; clear hf3 hi0 hbl b0 b1 bz blt
  cases hs : saidK l f with
  | true =>
    have HSD := Lib.hid hs; clear hs
    go_wp2_with fail
    have G4 := Lib.hid (G3.out.trans HF3.out (fun _ _ h => h))
    have R0 := Lib.hid (HF3.out.heap R0.out (fun h => h)); have R1 := Lib.hid (HF3.out.heap R1.out (fun h => h)); have OF := Lib.hid (OF.out.kept0 HF3.out); have OT := Lib.hid (OT.out.kept0 HF3.out)
    have S3 := Lib.hid (Nat.le_refl w3.heap.size)
    generalize hbi : w3.heap.size = bi at HI0 S3 ⊢
    have hbi2 := Nat.le_of_eq hbi
    have HBI := Lib.hid hbi2; clear hbi hbi2
    generalize w3.alloc (.cells #[.int .i64 i] 3) = w4 at HF3 HI0 G4 R0 R1 OF OT ⊢
    obtain ⟨hil0, hke⟩ := said_at HSD.out
    have hil : i < l.length := by rw [HI.out]; exact hil0
    have hwf : l[i].f = f := by have := HI.out; subst this; exact hke
    have HWF := Lib.hid hwf; clear hke hwf hil0
    have hD := Lib.hid (Fr.drew (Fr.refl no w4))
    have hB4 := HB.out.kept0 (G4.out.trans hD.out (fun _ _ h => h))
    obtain ⟨g, og, hA, q0, q1, q2⟩ := Spans.at hB4.row.sl i hil
    obtain ⟨WF, wf, hWF, _, _⟩ := (hB4.good l[i] (List.getElem_mem _)).F.form
    obtain ⟨WT, wt, hWT, _, _⟩ := (hB4.good l[i] (List.getElem_mem _)).T.form
    rw [hWF] at q0; rw [hWT] at q1
    subst hA
    have HWA := Lib.hid (And.intro hWF hWT); clear hWF hWT
    have d0 := (one_cell (hD.out.heap R0.out (fun h => h))).1
    have i0 := (one_cell (hD.out.heap HI0.out (fun h => h))).1
    obtain ⟨b0, b1, bz, blt⟩ := two_cells hB4.at_
    have HB4 := Lib.hid hB4; clear hB4
    refine wp_region_ord (List.range 9) (fun i => [Kd.l, Kd.p, Kd.p, Kd.l, Kd.l, Kd.p, Kd.l, Kd.g, Kd.e].getD i .e) (by kernel_rfl) (by kernel_rfl) ?_
    iterate 8
      first | refine wpX_pu rfl rfl rfl (by first | exact pu_move rfl | exact pu_assign rfl | exact pu_nilCheck rfl rfl | exact pu_binInt rfl rfl rfl | exact pu_conv rfl rfl (by kernel_rfl) | exact pu_fld rfl (by kernel_rfl) | exact pu_ix rfl rfl rfl (by kernel_rfl) | exact pu_unOp rfl | exact pu_binStr rfl rfl rfl | exact pu_len rfl rfl | exact pu_lens rfl rfl | exact pu_pick rfl | exact pu_slice rfl rfl) (fun K hK => ?_) | refine wpX_rd rfl rfl rfl (rd_load rfl) (fun K hK => ?_) | refine wpX_gr rfl rfl rfl (by first | exact gr_buildSlice rfl | exact gr_box rfl | exact gr_alloc rfl) (fun K hK => ?_) | refine wpX_ex rfl rfl rfl (fun K hK => ?_)
      try go_wp2
    have hE : Fr no w4 (w4.alloc (.cells #[.slice none 0 0, .slice none 0 0, .bool false] 36)).drew := Fr.drew ((Fr.refl no w4).alloc _)
    have hN : (w4.alloc (.cells #[.slice none 0 0, .slice none 0 0, .bool false] 36)).drew.heap[w4.heap.size]? = some (.cells #[.slice none 0 0, .slice none 0 0, .bool false] 36 (0, 0)) := heap_alloc_new _ _
    generalize hbw : w4.heap.size = bw at hN ⊢
    generalize (w4.alloc (.cells #[.slice none 0 0, .slice none 0 0, .bool false] 36)).drew = w5 at hE hN ⊢
    clear d0 i0 b0 b1 bz blt q0 q1 q2
    obtain ⟨c0, c1, c2, hz, hlt⟩ := three_cells hN
    have hbw2 := Nat.le_of_eq hbw; have hbw3 := Nat.le_of_eq hbw.symm
    have HBW := Lib.hid hbw2; have HBW2 := Lib.hid hbw3; have HE4 := Lib.hid hE; have HN := Lib.hid hN; clear hbw hbw2 hbw3 hE hN
    iterate 1
      first | refine wpX_pu rfl rfl rfl (by first | exact pu_move rfl | exact pu_assign rfl | exact pu_nilCheck rfl rfl | exact pu_binInt rfl rfl rfl | exact pu_conv rfl rfl (by kernel_rfl) | exact pu_fld rfl (by kernel_rfl) | exact pu_ix rfl rfl rfl (by kernel_rfl) | exact pu_unOp rfl | exact pu_binStr rfl rfl rfl | exact pu_len rfl rfl | exact pu_lens rfl rfl | exact pu_pick rfl | exact pu_slice rfl rfl) (fun K hK => ?_) | refine wpX_rd rfl rfl rfl (rd_load rfl) (fun K hK => ?_) | refine wpX_gr rfl rfl rfl (by first | exact gr_buildSlice rfl | exact gr_box rfl | exact gr_alloc rfl) (fun K hK => ?_) | refine wpX_ex rfl rfl rfl (fun K hK => ?_)
      try go_wp2
    have hg := set3_row (a := .slice WF l[i].f.length wf) (b := .slice WT l[i].t.length wt) (c := .bool l[i].o) HN.out
    have fs := set3_fr w5 bw (.slice WF l[i].f.length wf) (.slice WT l[i].t.length wt) (.bool l[i].o)
    rw [show ((w5.setCell ⟨bw, 0, none⟩ (.slice WF l[i].f.length wf)).setCell ⟨bw, 1, none⟩ (.slice WT l[i].t.length wt)).setCell ⟨bw, 2, none⟩ (.bool l[i].o) = set3 w5 bw (.slice WF l[i].f.length wf) (.slice WT l[i].t.length wt) (.bool l[i].o) from rfl]
    generalize set3 w5 bw (.slice WF l[i].f.length wf) (.slice WT l[i].t.length wt) (.bool l[i].o) = w6 at hg fs ⊢
    clear c0 c1 c2 hz hlt
    have h46 : Fr no w4 w6 := HE4.out.trans fs (fun k hk e => by have := HBW.out; omega)
    have HE6 := Lib.hid h46; have RW := Lib.hid hg; clear hg fs h46
    have G6 := Lib.hid (G4.out.trans HE6.out (fun _ _ h => h))
    have R0 := Lib.hid (HE6.out.heap R0.out (fun h => h)); have R1 := Lib.hid (HE6.out.heap R1.out (fun h => h)); have HI0 := Lib.hid (HE6.out.heap HI0.out (fun h => h))
    refine wpX_done ?_
    go_wp2_with fail
    have hD6 := Lib.hid (Fr.drew (Fr.refl no w6))
    have hB6 := HB.out.kept0 (G6.out.trans hD6.out (fun _ _ h => h))
    obtain ⟨g2, og2, hA2, q0, q1, q2⟩ := Spans.at hB6.row.sl i hil
    obtain ⟨rfl, rfl⟩ : g = g2 ∧ og = og2 := by simpa using hA2
    have d0 := (one_cell (hD6.out.heap R0.out (fun h => h))).1
    have i0 := (one_cell (hD6.out.heap HI0.out (fun h => h))).1
    obtain ⟨b0, b1, bz, blt⟩ := two_cells hB6.at_
    obtain ⟨c0, c1, c2, _, _⟩ := three_cells (hD6.out.heap R1.out (fun h => h))
    obtain ⟨rfl, cur, hcur, _⟩ := ow_at hB6.row
    have hgz : ∀ j, w6.drew.frozen? ⟨g, j, none⟩ = false := fun j => by simp [World.frozen?, hcur]
    simp only [Nat.zero_add] at q0 q1 q2
    have q0' : w6.cell? ⟨g, i * 3, none⟩ = some l[i].F := q0
    have q1' : w6.cell? ⟨g, i * 3 + 1, none⟩ = some l[i].T := q1
    have q2' : w6.cell? ⟨g, i * 3 + 2, none⟩ = some (.bool l[i].o) := q2
    have hgz' : ∀ j, w6.frozen? ⟨g, j, none⟩ = false := hgz
    have hgl := World.block_lt_of_cell? w6.drew _ q0
    have HB6 := Lib.hid hB6; clear hB6 hA2 hcur
    refine wp_region_ord (List.range 8) (fun i => [Kd.l, Kd.p, Kd.p, Kd.l, Kd.l, Kd.l, Kd.p, Kd.e].getD i .e) (by kernel_rfl) (by kernel_rfl) ?_
    iterate 8
      first | refine wpX_pu rfl rfl rfl (by first | exact pu_move rfl | exact pu_assign rfl | exact pu_nilCheck rfl rfl | exact pu_binInt rfl rfl rfl | exact pu_conv rfl rfl (by kernel_rfl) | exact pu_fld rfl (by kernel_rfl) | exact pu_ix rfl rfl rfl (by kernel_rfl) | exact pu_unOp rfl | exact pu_binStr rfl rfl rfl | exact pu_len rfl rfl | exact pu_lens rfl rfl | exact pu_pick rfl | exact pu_slice rfl rfl) (fun K hK => ?_) | refine wpX_rd rfl rfl rfl (rd_load rfl) (fun K hK => ?_) | refine wpX_gr rfl rfl rfl (by first | exact gr_buildSlice rfl | exact gr_box rfl | exact gr_alloc rfl) (fun K hK => ?_) | refine wpX_ex rfl rfl rfl (fun K hK => ?_)
      try go_wp2
    obtain ⟨hrow7, hfr7⟩ := ow_set3 ⟨.slice F1 f.length f.length, .slice T1 t.length t.length, f, t, o⟩ (HB.out.kept0 G6.out).row hil rfl
    replace hrow7 := hrow7.kept0 (Fr.drew (Fr.refl no _))
    replace hfr7 := Fr.drew hfr7
    have hgx : g < bx := by have := HB.out.row.lt g rfl; have := HBX.out; omega
    have hgp : ¬ p = g := fun e => HB.out.nl (by rw [e]; rfl)
    have hp7 := hfr7.heap (HB.out.kept0 G6.out).at_ hgp
    have hr7 := hfr7.heap R0.out (fun e => by have e2 : bx = g := e; omega)
    clear c0 c1 c2 b0 b1 bz blt i0 d0 q0 q1 q2 q0' q1' q2' hgz hgz' hgl
    generalize (((w6.setCell ⟨g, i * 3, none⟩ (.slice F1 f.length f.length)).setCell ⟨g, i * 3 + 1, none⟩ (.slice T1 t.length t.length)).setCell ⟨g, i * 3 + 2, none⟩ (.bool o)).drew = w7 at hrow7 hfr7 hp7 hr7 ⊢
    have ROW7 := Lib.hid hrow7; have F7 := Lib.hid hfr7; have HP7 := Lib.hid hp7; have R0 := Lib.hid hr7; have HGX := Lib.hid hgx; have HGP := Lib.hid hgp
    clear hrow7 hfr7 hp7 hr7 hgx hgp
    have hpx : p < bx := hp
    refine wpX_done ?_
    go_wp2_with fail
    refine wp_region_inv (fun w' => w'.cell? ⟨bx, 0, none⟩ = some (.pointer (some ⟨p, 0, none⟩))) [0, 1, 2, 3, 4, 5, 6, 7, 8, 9, 10] (fun i => [Kd.m, Kd.l, Kd.p, Kd.p, Kd.l, Kd.g, Kd.g, Kd.e, Kd.p, Kd.p, Kd.e].getD i .e) (by kernel_rfl) (by kernel_rfl) ?_ ?_
    · exact (Fr.drew (Fr.refl no w7)).cell (one_cell R0.out).1 (fun h => h)
    have hD := Lib.hid (Fr.drew (Fr.refl no w7))
    refine wpX_md (.pointer (some ⟨p, 0, none⟩)) rfl rfl rfl (rd_load rfl) rfl (by simp) (fun w' hI => ?_) ?_
    · go_wp2
    go_simp
    have d0 := (one_cell (hD.out.heap R0.out (fun h => h))).1
    obtain ⟨b0, b1, bz, blt⟩ := two_cells (hD.out.heap HP7.out (fun h => h))
    iterate 4
      first | refine wpX_pu rfl rfl rfl (by first | exact pu_move rfl | exact pu_assign rfl | exact pu_nilCheck rfl rfl | exact pu_binInt rfl rfl rfl | exact pu_conv rfl rfl (by kernel_rfl) | exact pu_fld rfl (by kernel_rfl) | exact pu_ix rfl rfl rfl (by kernel_rfl) | exact pu_unOp rfl | exact pu_binStr rfl rfl rfl | exact pu_len rfl rfl | exact pu_lens rfl rfl | exact pu_pick rfl | exact pu_slice rfl rfl) (fun K hK => ?_) | refine wpX_rd rfl rfl rfl (rd_load rfl) (fun K hK => ?_) | refine wpX_gr rfl rfl rfl (by first | exact gr_buildSlice rfl | exact gr_box rfl | exact gr_alloc rfl) (fun K hK => ?_) | refine wpX_ex rfl rfl rfl (fun K hK => ?_)
      try go_wp2
    refine wpX_cg rfl rfl rfl (fun K hK => ?_)
    go_wp2
    refine ⟨?_, hK _ _ ?_⟩
    · obtain ⟨⟨xa, xb⟩, hext⟩ := hD.out.ext; exact ⟨xa, xb, hext⟩
    clear hK K
    refine wpX_cg rfl rfl rfl (fun K hK => ?_)
    go_wp2
    have hE : Fr no w7 (w7.alloc (.cells #[.func (.func 127) #[] #[.pointer (some ⟨bw, 0, none⟩), .pointer (some ⟨bx, 0, none⟩), .pointer (some ⟨bi, 0, none⟩)]] 1)).drew := Fr.drew ((Fr.refl no w7).alloc _)
    have hN : Sl (w7.alloc (.cells #[.func (.func 127) #[] #[.pointer (some ⟨bw, 0, none⟩), .pointer (some ⟨bx, 0, none⟩), .pointer (some ⟨bi, 0, none⟩)]] 1)).drew 1 (.slice (some ⟨w7.heap.size, 0, none⟩) 1 1) 1 [.func (.func 127) #[] #[.pointer (some ⟨bw, 0, none⟩), .pointer (some ⟨bx, 0, none⟩), .pointer (some ⟨bi, 0, none⟩)]] := Sl.built w7 _ _
    have HE := Lib.hid hE; have HN := Lib.hid hN; clear hE hN
    refine ⟨?_, HE.out.cell (one_cell R0.out).1 (fun h => h), hK _ _ ?_⟩
    · obtain ⟨⟨xa, xb⟩, hext⟩ := HE.out.ext; exact ⟨xa, xb, hext⟩
    clear hK K b0 b1 bz blt d0
    have s78 := Lib.hid HE.out.size
    generalize (w7.alloc (.cells #[.func (.func 127) #[] #[.pointer (some ⟨bw, 0, none⟩), .pointer (some ⟨bx, 0, none⟩), .pointer (some ⟨bi, 0, none⟩)]] 1)).drew = w8 at HE HN s78 ⊢
    have hun7 := (HB.out.kept0 G6.out).undo.kept F7.out (fun k hk e => HB.out.lu k (by have e2 : k = g := e; rw [e2]; rfl) hk)
    have HUN := Lib.hid (hun7.kept0 HE.out); clear hun7
    refine wpX_es rfl rfl rfl (fun K hK => ?_)
    refine wp_apo (.tmp 35) (.tmp 37) 110 rfl tbFn HUN.out HN.out rfl rfl ?s0 ?s1 ?s2 ?sgo
    case s0 => intro u hu; simp only [List.mem_singleton] at hu; subst hu; rfl
    case s1 => simp only [maxLen]; omega
    case s2 => omega
    case sgo =>
      intro B2 N d2 w9 hN2 ho2 _ hf9 hst
      subst hN2
      have H2 := Lib.hid ho2; have F9 := Lib.hid hf9; have ST := Lib.hid (stays_moved hst); clear ho2 hf9 hst
      have hux : ∀ k, (Value.slice B us.length d).ownBlock = some k → k < bx := fun k hk => by have := HB.out.undo.lt k hk; have := HBX.out; omega
      have hr9 := F9.out.heap (HE.out.heap R0.out (fun h => h)) (fun e => by have := hux bx e; omega)
      have hp9 := F9.out.heap (HE.out.heap HP7.out (fun h => h)) HB.out.nu
      obtain ⟨b0, b1, bz, blt⟩ := two_cells hp9
      have R0 := Lib.hid hr9; have HP9 := Lib.hid hp9; have UX := Lib.hid hux; clear hr9 hp9 hux
      go_simp
      refine hK _ _ (one_cell R0.out).1 ?_
      clear hK K
      iterate 2
        first | refine wpX_pu rfl rfl rfl (by first | exact pu_move rfl | exact pu_assign rfl | exact pu_nilCheck rfl rfl | exact pu_binInt rfl rfl rfl | exact pu_conv rfl rfl (by kernel_rfl) | exact pu_fld rfl (by kernel_rfl) | exact pu_ix rfl rfl rfl (by kernel_rfl) | exact pu_unOp rfl | exact pu_binStr rfl rfl rfl | exact pu_len rfl rfl | exact pu_lens rfl rfl | exact pu_pick rfl | exact pu_slice rfl rfl) (fun K hK => ?_) | refine wpX_rd rfl rfl rfl (rd_load rfl) (fun K hK => ?_) | refine wpX_gr rfl rfl rfl (by first | exact gr_buildSlice rfl | exact gr_box rfl | exact gr_alloc rfl) (fun K hK => ?_) | refine wpX_ex rfl rfl rfl (fun K hK => ?_)
        try go_wp2
      refine wpX_es rfl rfl rfl (fun K hK => ?_)
      go_wp2
      have hpa := hp_same HP9.out 1 (.slice B2 (us.length + 1) d2)
      have hfa : Fr (fun k => k = p) w9 (w9.setCell ⟨p, 1, none⟩ (.slice B2 (us.length + 1) d2)) := Fr.setCell (Fr.refl (fun k => k = p) w9) ⟨p, 1, none⟩ _ (fun _ => rfl)
      have hra := hfa.heap R0.out (fun e => by have e2 : bx = p := e; omega)
      have HPA := Lib.hid hpa; have FA1 := Lib.hid hfa; have R0 := Lib.hid hra; clear hpa hfa hra b0 b1 bz blt
      refine hK _ _ (one_cell R0.out).1 ?_
      clear hK K
      generalize w9.setCell ⟨p, 1, none⟩ (.slice B2 (us.length + 1) d2) = wa at HPA FA1 R0 ⊢
      refine wpX_done ?_
      go_wp2
      refine bodyPost_ret (results_none rfl _ _ _) rfl ?_
      have hsd := HSD.out
      have hii := HI.out
      have hbx := HBX.out
      have s6 := G6.out.size; have s7 := F7.out.size; have s8 := HE.out.size; have s9 := F9.out.size; have sa := FA1.out.size
      have s3 := G3.out.size; have sbi := HBI.out; have s46 := HE6.out.size; have sbw := HBW.out; have sbw2 := HBW2.out; have s34 := HF3.out.size
      have tot : Fr (fun k => k = p ∨ (Value.slice (some ⟨g, 0, none⟩) l.length c).ownBlock = some k ∨ (Value.slice B us.length d).ownBlock = some k) w6 wa :=
        ((((F7.out.mono (fun k _ h => .inr (.inl (by have h2 : k = g := h; rw [h2]; rfl)))).trans HE.out (fun _ _ h => h.elim)).trans F9.out (fun _ _ h => .inr (.inr h))).trans FA1.out (fun _ _ h => .inl h))
      have hlk : ∀ k, (Value.slice (some ⟨g, 0, none⟩) l.length c).ownBlock = some k → k < w.heap.size := HB.out.row.lt
      have hup : ∀ k, (Value.slice B2 (us.length + 1) d2).ownBlock = some k → k ≠ p := fun k hk => by
        rcases ST.out with m | m
        · have hk2 : (Value.slice B us.length d).ownBlock = some k := m ▸ hk
          exact fun e => HB.out.nu (e ▸ hk2)
        · have := m k hk; omega
      have ex : sayL l ⟨.slice F1 f.length f.length, .slice T1 t.length t.length, f, t, o⟩ = l.set i ⟨.slice F1 f.length f.length, .slice T1 t.length t.length, f, t, o⟩ := by
        unfold sayL; simp only [hsd, if_true]; rw [hii]
      have OF6 := OF.out.kept0 HE6.out; have OT6 := OT.out.kept0 HE6.out
      have av : ∀ k, w.heap.size ≤ k → ¬ (k = p ∨ (Value.slice (some ⟨g, 0, none⟩) l.length c).ownBlock = some k ∨ (Value.slice B us.length d).ownBlock = some k) := fun k hk e => by
        rcases e with e | e | e
        · omega
        · have := hlk k e; omega
        · have := UX.out k e; omega
      have hgx : SpV.Good wa ⟨.slice F1 f.length f.length, .slice T1 t.length t.length, f, t, o⟩ := ⟨(OF6.kept tot (fun k hk => av k (by have := FL.out k hk; omega))).sl, (OT6.kept tot (fun k hk => av k (by have := TL.out k hk; omega))).sl, HX.out.lf, HX.out.lt⟩
      have hb6 := HB.out.kept0 G6.out
      have hi6 := (Array.getElem?_eq_some_iff.1 HI0.out).1
      have hw6 := (Array.getElem?_eq_some_iff.1 RW.out).1
      have hap : ∀ k, BlC l[i] k → ¬ (k = p ∨ (Value.slice (some ⟨g, 0, none⟩) l.length c).ownBlock = some k ∨ (Value.slice B us.length d).ownBlock = some k) := fun k hk e => by
        obtain ⟨a1, a2, a3, _⟩ := HB.out.apart k (.inl ⟨l[i], List.getElem_mem _, hk⟩)
        rcases e with e | e | e
        · exact a1 e
        · exact a2 e
        · exact a3 e
      have hrw : wa.heap[bw]? = some (.cells #[l[i].F, l[i].T, .bool l[i].o] 36 (0, 0)) := by
        rw [HWA.out.1, HWA.out.2]
        exact tot.heap RW.out (av bw (by omega))
      refine say_fin (x := ⟨.slice FA f.length fc, .slice TA t.length tc, f, t, o⟩) (F := .slice F1 f.length f.length) (T := .slice T1 t.length t.length) (u := .set bw bx bi i l[i]) (N5 := w6.heap.size) (N8 := w8.heap.size) HB.out ((G6.out.mono (fun _ _ h => h.elim)).trans tot (fun _ _ h => h)) s6 (by omega) (by omega) HPA.out ?_ ?_ hgx ⟨hrw, R0.out, tot.heap HI0.out (av bi (by omega)), (hb6.good l[i] (List.getElem_mem _)).kept tot (fun k hk => hap k (.inl hk)) (fun k hk => hap k (.inr hk))⟩ ?_ ?_ (.inl rfl) ?_ ?_ ?_
      · rw [ex, List.length_set]
        exact ((ROW7.out.kept0 HE.out).kept F9.out (fun k hk e => HB.out.lu k hk e)).kept FA1.out (fun k hk e => HB.out.nl (by have e2 : k = p := e; rw [← e2]; exact hk))
      · exact H2.out.kept FA1.out (fun k hk e => hup k hk e)
      · show i < _
        rw [ex, List.length_set]; exact hil
      · show (sayL _ _).set i l[i] = l
        rw [ex]; exact set_back l i _ hil
      · rcases ST.out with m | m
        · exact .inl m
        · exact .inr fun k hk => by have := m k hk; omega
      · rintro k (hk | hk)
        · have := FL.out k hk; have := OF6.lt k hk; omega
        · have := TL.out k hk; have := OT6.lt k hk; omega
      · rintro k (rfl | rfl | rfl | hk)
        · exact .inr (by omega)
        · exact .inr (by omega)
        · exact .inr (by omega)
        · exact .inl ⟨l[i], List.getElem_mem _, hk⟩
  | false =>
    have HSD := Lib.hid hs; clear hs
    go_wp2_with fail
    have G4 := Lib.hid (G3.out.trans HF3.out (fun _ _ h => h))
    have R0 := Lib.hid (HF3.out.heap R0.out (fun h => h)); have R1 := Lib.hid (HF3.out.heap R1.out (fun h => h)); have OF := Lib.hid (OF.out.kept0 HF3.out); have OT := Lib.hid (OT.out.kept0 HF3.out)
    have S3 := Lib.hid (Nat.le_refl w3.heap.size)
    generalize hbi : w3.heap.size = bi at HI0 S3 ⊢
    have hbi2 := Nat.le_of_eq hbi
    have HBI := Lib.hid hbi2; clear hbi hbi2
    generalize w3.alloc (.cells #[.int .i64 i] 3) = w4 at HF3 HI0 G4 R0 R1 OF OT ⊢
    refine wp_region_inv (fun w' => w'.cell? ⟨bx, 0, none⟩ = some (.pointer (some ⟨p, 0, none⟩))) [0, 1, 2, 3, 4, 5, 6, 7, 8, 9, 10, 11] (fun i => [Kd.m, Kd.l, Kd.p, Kd.p, Kd.l, Kd.l, Kd.l, Kd.g, Kd.e, Kd.p, Kd.p, Kd.e].getD i .e) (by kernel_rfl) (by kernel_rfl) ?_ ?_
    · exact (Fr.drew (Fr.refl no w4)).cell (one_cell R0.out).1 (fun h => h)
    have hD := Lib.hid (Fr.drew (Fr.refl no w4))
    refine wpX_md (.pointer (some ⟨p, 0, none⟩)) rfl rfl rfl (rd_load rfl) rfl (by simp) (fun w' hI => ?_) ?_
    · go_wp2
    go_simp
    have d0 := (one_cell (hD.out.heap R0.out (fun h => h))).1
    have i0 := (one_cell (hD.out.heap HI0.out (fun h => h))).1
    obtain ⟨b0, b1, bz, blt⟩ := two_cells (HB.out.kept0 (G4.out.trans hD.out (fun _ _ h => h))).at_
    obtain ⟨c0, c1, c2, _, _⟩ := three_cells (hD.out.heap R1.out (fun h => h))
    iterate 6
      first | refine wpX_pu rfl rfl rfl (by first | exact pu_move rfl | exact pu_assign rfl | exact pu_nilCheck rfl rfl | exact pu_binInt rfl rfl rfl | exact pu_conv rfl rfl (by kernel_rfl) | exact pu_fld rfl (by kernel_rfl) | exact pu_ix rfl rfl rfl (by kernel_rfl) | exact pu_unOp rfl | exact pu_binStr rfl rfl rfl | exact pu_len rfl rfl | exact pu_lens rfl rfl | exact pu_pick rfl | exact pu_slice rfl rfl) (fun K hK => ?_) | refine wpX_rd rfl rfl rfl (rd_load rfl) (fun K hK => ?_) | refine wpX_gr rfl rfl rfl (by first | exact gr_buildSlice rfl | exact gr_box rfl | exact gr_alloc rfl) (fun K hK => ?_) | refine wpX_ex rfl rfl rfl (fun K hK => ?_)
      try go_wp2
    refine wpX_cg rfl rfl rfl (fun K hK => ?_)
    go_wp2
    have hE : Fr no w4 (w4.alloc (.cells #[.slice F1 f.length f.length, .slice T1 t.length t.length, .bool o] 36)).drew := Fr.drew ((Fr.refl no w4).alloc _)
    have hN : (w4.alloc (.cells #[.slice F1 f.length f.length, .slice T1 t.length t.length, .bool o] 36)).drew.heap[w4.heap.size]? = some (.cells #[.slice F1 f.length f.length, .slice T1 t.length t.length, .bool o] 36 (0, 0)) := heap_alloc_new _ _
    have HE4 := Lib.hid hE; have HN := Lib.hid hN; have hvs := Nat.le_refl w4.heap.size; clear hE hN
    refine ⟨?_, HE4.out.cell (one_cell R0.out).1 (fun h => h), hK _ _ ?_⟩
    · obtain ⟨⟨xa, xb⟩, hext⟩ := HE4.out.ext; exact ⟨xa, xb, hext⟩
    clear hK K c0 c1 c2 b0 b1 bz blt i0 d0
    generalize hvb : w4.heap.size = vb at HN ⊢
    have HVB := Lib.hid hvb; clear hvb hvs
    generalize (w4.alloc (.cells #[.slice F1 f.length f.length, .slice T1 t.length t.length, .bool o] 36)).drew = w5 at HE4 HN ⊢
    have G5 := Lib.hid (G4.out.trans HE4.out (fun _ _ h => h))
    refine wpX_es rfl rfl rfl (fun K hK => ?_)
    go_wp2_with fail
    have hil : i ≤ l.length := by rw [HI.out]; exact posK_le l f
    have hHB5 := HB.out.kept0 G5.out
    refine (insertChange w5 A l.length c i vb (l.flatMap SpV.cells) [.slice F1 f.length f.length, .slice T1 t.length t.length, .bool o] hHB5.row hil rfl HN.out (fun k hk => ?_) (cells3_one l hHB5.good) (by simp [Value.oneCell']) (by omega)).mono ?_
    · have := HB.out.row.lt k hk; have := HBX.out; have := HVB.out; have := G4.out.size; have := HBI.out; have := G3.out.size; omega
    rintro e w6 ⟨A', c', rfl, ho, hf, hm⟩
    have hlx : ∀ k, (Value.slice A l.length c).ownBlock = some k → k < bx := fun k hk => by have := HB.out.row.lt k hk; have := HBX.out; omega
    have hnp := HB.out.nl
    have hr0 := hf.heap (HE4.out.heap R0.out (fun h => h)) (fun e => by have := hlx bx e; omega)
    have hpp := hf.heap hHB5.at_ hnp
    obtain ⟨b0, b1, bz, blt⟩ := two_cells hpp
    have HO := Lib.hid ho; have HFI := Lib.hid hf; have HM := Lib.hid hm; have R0 := Lib.hid hr0; have HPP := Lib.hid hpp; have HLX := Lib.hid hlx; have HNP := Lib.hid hnp; have HB5 := Lib.hid hHB5
    clear ho hf hm hr0 hpp hlx hnp hHB5
    go_wp2
    refine hK _ _ (one_cell R0.out).1 ?_
    clear hK K
    iterate 2
      first | refine wpX_pu rfl rfl rfl (by first | exact pu_move rfl | exact pu_assign rfl | exact pu_nilCheck rfl rfl | exact pu_binInt rfl rfl rfl | exact pu_conv rfl rfl (by kernel_rfl) | exact pu_fld rfl (by kernel_rfl) | exact pu_ix rfl rfl rfl (by kernel_rfl) | exact pu_unOp rfl | exact pu_binStr rfl rfl rfl | exact pu_len rfl rfl | exact pu_lens rfl rfl | exact pu_pick rfl | exact pu_slice rfl rfl) (fun K hK => ?_) | refine wpX_rd rfl rfl rfl (rd_load rfl) (fun K hK => ?_) | refine wpX_gr rfl rfl rfl (by first | exact gr_buildSlice rfl | exact gr_box rfl | exact gr_alloc rfl) (fun K hK => ?_) | refine wpX_ex rfl rfl rfl (fun K hK => ?_)
      try go_wp2
    refine wpX_es rfl rfl rfl (fun K hK => ?_)
    go_wp2
    have hp7 := hp_same HPP.out 0 (.slice A' (l.length + 1) c')
    have hf7 : Fr (fun k => k = p) w6 (w6.setCell ⟨p, 0, none⟩ (.slice A' (l.length + 1) c')) := Fr.setCell (Fr.refl (fun k => k = p) w6) ⟨p, 0, none⟩ _ (fun _ => rfl)
    have hpx : p < bx := hp
    have hr7 := hf7.heap R0.out (fun e => by have : bx = p := e; omega)
    have HP7 := Lib.hid hp7; have F7 := Lib.hid hf7; have R0 := Lib.hid hr7; clear hp7 hf7 hr7 b0 b1 bz blt
    refine hK _ _ (one_cell R0.out).1 ?_
    clear hK K
    generalize w6.setCell ⟨p, 0, none⟩ (.slice A' (l.length + 1) c') = w7 at HP7 F7 R0 ⊢
    refine wpX_done ?_
    go_wp2_with fail
    refine wp_region_inv (fun w' => w'.cell? ⟨bx, 0, none⟩ = some (.pointer (some ⟨p, 0, none⟩))) [0, 1, 2, 3, 4, 5, 6, 7, 8, 9, 10] (fun i => [Kd.m, Kd.l, Kd.p, Kd.p, Kd.l, Kd.g, Kd.g, Kd.e, Kd.p, Kd.p, Kd.e].getD i .e) (by kernel_rfl) (by kernel_rfl) ?_ ?_
    · exact (Fr.drew (Fr.refl no w7)).cell (one_cell R0.out).1 (fun h => h)
    have hD := Lib.hid (Fr.drew (Fr.refl no w7))
    refine wpX_md (.pointer (some ⟨p, 0, none⟩)) rfl rfl rfl (rd_load rfl) rfl (by simp) (fun w' hI => ?_) ?_
    · go_wp2
    go_simp
    have d0 := (one_cell (hD.out.heap R0.out (fun h => h))).1
    obtain ⟨b0, b1, bz, blt⟩ := two_cells (hD.out.heap HP7.out (fun h => h))
    iterate 4
      first | refine wpX_pu rfl rfl rfl (by first | exact pu_move rfl | exact pu_assign rfl | exact pu_nilCheck rfl rfl | exact pu_binInt rfl rfl rfl | exact pu_conv rfl rfl (by kernel_rfl) | exact pu_fld rfl (by kernel_rfl) | exact pu_ix rfl rfl rfl (by kernel_rfl) | exact pu_unOp rfl | exact pu_binStr rfl rfl rfl | exact pu_len rfl rfl | exact pu_lens rfl rfl | exact pu_pick rfl | exact pu_slice rfl rfl) (fun K hK => ?_) | refine wpX_rd rfl rfl rfl (rd_load rfl) (fun K hK => ?_) | refine wpX_gr rfl rfl rfl (by first | exact gr_buildSlice rfl | exact gr_box rfl | exact gr_alloc rfl) (fun K hK => ?_) | refine wpX_ex rfl rfl rfl (fun K hK => ?_)
      try go_wp2
    refine wpX_cg rfl rfl rfl (fun K hK => ?_)
    go_wp2
    refine ⟨?_, hK _ _ ?_⟩
    · obtain ⟨⟨xa, xb⟩, hext⟩ := hD.out.ext; exact ⟨xa, xb, hext⟩
    clear hK K
    refine wpX_cg rfl rfl rfl (fun K hK => ?_)
    go_wp2
    have hE : Fr no w7 (w7.alloc (.cells #[.func (.func 129) #[] #[.pointer (some ⟨bx, 0, none⟩), .pointer (some ⟨bi, 0, none⟩)]] 1)).drew := Fr.drew ((Fr.refl no w7).alloc _)
    have hN : Sl (w7.alloc (.cells #[.func (.func 129) #[] #[.pointer (some ⟨bx, 0, none⟩), .pointer (some ⟨bi, 0, none⟩)]] 1)).drew 1 (.slice (some ⟨w7.heap.size, 0, none⟩) 1 1) 1 [.func (.func 129) #[] #[.pointer (some ⟨bx, 0, none⟩), .pointer (some ⟨bi, 0, none⟩)]] := Sl.built w7 _ _
    have HE := Lib.hid hE; have HN := Lib.hid hN; clear hE hN
    refine ⟨?_, HE.out.cell (one_cell R0.out).1 (fun h => h), hK _ _ ?_⟩
    · obtain ⟨⟨xa, xb⟩, hext⟩ := HE.out.ext; exact ⟨xa, xb, hext⟩
    clear hK K b0 b1 bz blt d0
    have s78 := Lib.hid HE.out.size
    generalize (w7.alloc (.cells #[.func (.func 129) #[] #[.pointer (some ⟨bx, 0, none⟩), .pointer (some ⟨bi, 0, none⟩)]] 1)).drew = w8 at HE HN s78 ⊢
    have hun6 := HB5.out.undo.kept HFI.out (fun k hk e => HB.out.lu k e hk)
    have hun7 := hun6.kept F7.out (fun k hk e => HB.out.nu (by have e2 : k = p := e; rw [← e2]; exact hk))
    have HUN := Lib.hid (hun7.kept0 HE.out); clear hun6 hun7
    refine wpX_es rfl rfl rfl (fun K hK => ?_)
    refine wp_apo (.tmp 56) (.tmp 58) 110 rfl tbFn HUN.out HN.out rfl rfl ?b0 ?b1 ?b2 ?go
    case b0 => intro u hu; simp only [List.mem_singleton] at hu; subst hu; rfl
    case b1 => simp only [maxLen]; omega
    case b2 => omega
    case go =>
      intro B2 N d2 w9 hN2 ho2 _ hf9 hst
      subst hN2
      have H2 := Lib.hid ho2; have F9 := Lib.hid hf9; have ST := Lib.hid (stays_moved hst); clear ho2 hf9 hst
      have hux : ∀ k, (Value.slice B us.length d).ownBlock = some k → k < bx := fun k hk => by have := HB.out.undo.lt k hk; have := HBX.out; omega
      have hr9 := F9.out.heap (HE.out.heap R0.out (fun h => h)) (fun e => by have := hux bx e; omega)
      have hp9 := F9.out.heap (HE.out.heap HP7.out (fun h => h)) HB.out.nu
      obtain ⟨b0, b1, bz, blt⟩ := two_cells hp9
      have R0 := Lib.hid hr9; have HP9 := Lib.hid hp9; have UX := Lib.hid hux; clear hr9 hp9 hux
      go_simp
      refine hK _ _ (one_cell R0.out).1 ?_
      clear hK K
      iterate 2
        first | refine wpX_pu rfl rfl rfl (by first | exact pu_move rfl | exact pu_assign rfl | exact pu_nilCheck rfl rfl | exact pu_binInt rfl rfl rfl | exact pu_conv rfl rfl (by kernel_rfl) | exact pu_fld rfl (by kernel_rfl) | exact pu_ix rfl rfl rfl (by kernel_rfl) | exact pu_unOp rfl | exact pu_binStr rfl rfl rfl | exact pu_len rfl rfl | exact pu_lens rfl rfl | exact pu_pick rfl | exact pu_slice rfl rfl) (fun K hK => ?_) | refine wpX_rd rfl rfl rfl (rd_load rfl) (fun K hK => ?_) | refine wpX_gr rfl rfl rfl (by first | exact gr_buildSlice rfl | exact gr_box rfl | exact gr_alloc rfl) (fun K hK => ?_) | refine wpX_ex rfl rfl rfl (fun K hK => ?_)
        try go_wp2
      refine wpX_es rfl rfl rfl (fun K hK => ?_)
      go_wp2
      have hpa := hp_same HP9.out 1 (.slice B2 (us.length + 1) d2)
      have hfa : Fr (fun k => k = p) w9 (w9.setCell ⟨p, 1, none⟩ (.slice B2 (us.length + 1) d2)) := Fr.setCell (Fr.refl (fun k => k = p) w9) ⟨p, 1, none⟩ _ (fun _ => rfl)
      have hra := hfa.heap R0.out (fun e => by have e2 : bx = p := e; omega)
      have HPA := Lib.hid hpa; have FA1 := Lib.hid hfa; have R0 := Lib.hid hra; clear hpa hfa hra b0 b1 bz blt
      refine hK _ _ (one_cell R0.out).1 ?_
      clear hK K
      generalize w9.setCell ⟨p, 1, none⟩ (.slice B2 (us.length + 1) d2) = wa at HPA FA1 R0 ⊢
      refine wpX_done ?_
      go_wp2
      refine bodyPost_end (results_none rfl _ _ _) rfl ?_
      have hsd := HSD.out
      have hii := HI.out
      have hbx := HBX.out
      have s5 := G5.out.size; have s6 := HFI.out.size; have s7 := F7.out.size; have s8 := HE.out.size; have s9 := F9.out.size; have sa := FA1.out.size
      have s3 := G3.out.size; have sbi := HBI.out; have s4 := HF3.out.size; have s45 := HE4.out.size
      have hil : i ≤ l.length := by rw [hii]; exact posK_le l f
      have tot : Fr (fun k => k = p ∨ (Value.slice A l.length c).ownBlock = some k ∨ (Value.slice B us.length d).ownBlock = some k) w5 wa :=
        ((((HFI.out.mono (fun _ _ h => .inr (.inl h))).trans F7.out (fun _ _ h => .inl h)).trans HE.out (fun _ _ h => h.elim)).trans F9.out (fun _ _ h => .inr (.inr h))).trans FA1.out (fun _ _ h => .inl h)
      have hl5 := HO.out.lt
      have hlp : ∀ k, (Value.slice A' (l.length + 1) c').ownBlock = some k → k ≠ p ∧ (Value.slice B us.length d).ownBlock ≠ some k := fun k hk => by
        rcases HM.out with m | m
        · have hk2 : (Value.slice A l.length c).ownBlock = some k := m ▸ hk
          exact ⟨fun e => HB.out.nl (e ▸ hk2), fun e => HB.out.lu k hk2 e⟩
        · have := m k hk
          exact ⟨by omega, fun e => by have := UX.out k e; omega⟩
      have hup : ∀ k, (Value.slice B2 (us.length + 1) d2).ownBlock = some k → k ≠ p := fun k hk => by
        rcases ST.out with m | m
        · have hk2 : (Value.slice B us.length d).ownBlock = some k := m ▸ hk
          exact fun e => HB.out.nu (e ▸ hk2)
        · have := m k hk; omega
      have ex : sayL l ⟨.slice F1 f.length f.length, .slice T1 t.length t.length, f, t, o⟩ = l.take i ++ ⟨.slice F1 f.length f.length, .slice T1 t.length t.length, f, t, o⟩ :: l.drop i := by
        unfold sayL; simp only [hsd, Bool.false_eq_true, if_false]; rw [hii]
      have OF5 := OF.out.kept0 HE4.out; have OT5 := OT.out.kept0 HE4.out
      have av : ∀ k, w.heap.size + 2 ≤ k → ¬ (k = p ∨ (Value.slice A l.length c).ownBlock = some k ∨ (Value.slice B us.length d).ownBlock = some k) := fun k hk e => by
        rcases e with e | e | e
        · omega
        · have := HLX.out k e; omega
        · have := UX.out k e; omega
      have hi5 := HE4.out.heap HI0.out (fun h => h)
      have hbi5 := (Array.getElem?_eq_some_iff.1 hi5).1
      have hgx : SpV.Good wa ⟨.slice F1 f.length f.length, .slice T1 t.length t.length, f, t, o⟩ := ⟨(OF5.kept tot (fun k hk => av k (FL.out k hk))).sl, (OT5.kept tot (fun k hk => av k (TL.out k hk))).sl, HX.out.lf, HX.out.lt⟩
      refine say_fin (x := ⟨.slice FA f.length fc, .slice TA t.length tc, f, t, o⟩) (F := .slice F1 f.length f.length) (T := .slice T1 t.length t.length) (u := .ins bx bi i) (N5 := w5.heap.size) (N8 := w8.heap.size) HB.out ((G5.out.mono (fun _ _ h => h.elim)).trans tot (fun _ _ h => h)) s5 (by omega) (by omega) HPA.out ?_ ?_ hgx ⟨R0.out, ?_⟩ ?_ ?_ ?_ ?_ ?_ ?_
      · rw [ex]
        have h6 := (((HO.out.kept F7.out (fun k hk e => (hlp k hk).1 e)).kept0 HE.out).kept F9.out (fun k hk e => (hlp k hk).2 e)).kept FA1.out (fun k hk e => (hlp k hk).1 e)
        have e1 : (l.take i ++ (⟨.slice F1 f.length f.length, .slice T1 t.length t.length, f, t, o⟩ : SpV) :: l.drop i).length = l.length + 1 := by simp; omega
        have e2 : (l.take i ++ (⟨.slice F1 f.length f.length, .slice T1 t.length t.length, f, t, o⟩ : SpV) :: l.drop i).flatMap SpV.cells = (l.flatMap SpV.cells).take (i * 3) ++ [.slice F1 f.length f.length, .slice T1 t.length t.length, .bool o] ++ (l.flatMap SpV.cells).drop (i * 3) := by
          rw [List.flatMap_append, List.flatMap_cons, flat_take3, flat_drop3]; simp [SpV.cells]
        rw [e1, e2]; exact h6
      · exact H2.out.kept FA1.out (fun k hk e => hup k hk e)
      · exact tot.heap hi5 (fun e => by rcases e with e | e | e; omega; (have := HLX.out _ e; omega); (have := UX.out _ e; omega))
      · show i < _
        rw [ex]; simp; omega
      · show (sayL _ _).eraseIdx i = l
        rw [ex]; exact ins_back l i _ hil
      · rcases HM.out with m | m
        · exact .inl m
        · exact .inr fun k hk => by have := m k hk; omega
      · rcases ST.out with m | m
        · exact .inl m
        · exact .inr fun k hk => by have := m k hk; omega
      · rintro k (hk | hk)
        · have := FL.out k hk; have := OF5.lt k hk; omega
        · have := TL.out k hk; have := OT5.lt k hk; omega
      · rintro k (rfl | rfl)
        · exact .inr (by omega)
        · exact .inr (by omega)
end Go.Proofs.Ytdnohhlgaaihmaa
