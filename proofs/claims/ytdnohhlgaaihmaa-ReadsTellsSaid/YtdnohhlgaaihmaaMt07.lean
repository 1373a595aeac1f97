import Derived.Test.YtdnohhlgaaihmaaMt06

/- reads.Set: the walk of Span. -/
namespace Go.Proofs.Ytdnohhlgaaihmaa
open Go.RowKit

/-- Midway: the set as it was, x in a variable px; its bytes lie in new rows, or in rows of the set. -/
structure Mid (w wr : World) (p px : Nat) (sv : Value) (l : List SpV) (x : SpV) : Prop where
  v : VarAt wr px x
  fr : Fr (At px) w wr
  good : x.Good wr
  new : ∀ k, x.F.ownBlock = some k ∨ x.T.ownBlock = some k → (px < k ∧ k < wr.heap.size) ∨ ∃ y ∈ l, y.F.ownBlock = some k ∨ y.T.ownBlock = some k
  set : Se wr p sv l
  px : px = w.heap.size

theorem Mid.kept0 {w wr w1 : World} {p px : Nat} {sv : Value} {l : List SpV} {x : SpV} (h : Mid w wr p px sv l x) (f : Fr no wr w1) : Mid w w1 p px sv l x :=
  ⟨h.v.kept f (fun h => h), h.fr.trans f (fun _ _ h => h.elim), h.good.kept0 f, fun k hk => by
    rcases h.new k hk with h1 | h1
    · have := f.size; exact .inl ⟨h1.1, by omega⟩
    · exact .inr h1, h.set.kept0 f, h.px⟩

theorem Mid.turn {w wr w1 : World} {p px : Nat} {sv : Value} {l : List SpV} {x x' : SpV} (h0 : Se w p sv l) (h : Mid w wr p px sv l x) (f : Fr (At px) wr w1) (hv : VarAt w1 px x')
    (hF : (x'.F = x.F ∧ x'.f = x.f) ∨ ∃ y ∈ l, x'.F = y.F ∧ x'.f = y.f) (hT : (x'.T = x.T ∧ x'.t = x.t) ∨ (x'.T = .slice none 0 0 ∧ x'.t = []) ∨ ∃ y ∈ l, x'.T = y.T ∧ x'.t = y.t) : Mid w w1 p px sv l x' := by
  have hpx := h.px
  have hold : ∀ y ∈ l, ∀ k, y.F.ownBlock = some k ∨ y.T.ownBlock = some k → ¬ At px k := fun y hy k hk e => by
    have := (h0.apart y hy k hk).2.2; have e2 : k = px := e; omega
  have hx : ∀ k, x.F.ownBlock = some k ∨ x.T.ownBlock = some k → ¬ At px k := fun k hk e => by
    have e2 : k = px := e
    rcases h.new k hk with h1 | ⟨y, hy, h1⟩
    · omega
    · exact hold y hy k h1 e
  have hs := f.size
  have hnew : ∀ k, x.F.ownBlock = some k ∨ x.T.ownBlock = some k → (px < k ∧ k < w1.heap.size) ∨ ∃ y ∈ l, y.F.ownBlock = some k ∨ y.T.ownBlock = some k := fun k hk => by
    rcases h.new k hk with h1 | h1
    · exact .inl ⟨h1.1, by omega⟩
    · exact .inr h1
  have hset : Se w1 p sv l := h.set.kept f (fun k hk e => by
    have e2 : k = px := e
    rcases hk with hk | hk | ⟨y, hy, hk⟩
    · have := (one_cells h0.at_).2.2; omega
    · have := h0.row.lt k hk; omega
    · exact hold y hy k hk e)
  refine ⟨hv, h.fr.trans f (fun _ _ h => h), ⟨?_, ?_, ?_, ?_⟩, fun k hk => ?_, hset, hpx⟩
  · rcases hF with ⟨e1, e2⟩ | ⟨y, hy, e1, e2⟩
    · rw [e1, e2]; exact h.good.F.kept f (fun k hk => hx k (.inl hk))
    · rw [e1, e2]; exact (hset.good y hy).F
  · rcases hT with ⟨e1, e2⟩ | ⟨e1, e2⟩ | ⟨y, hy, e1, e2⟩
    · rw [e1, e2]; exact h.good.T.kept f (fun k hk => hx k (.inr hk))
    · rw [e1, e2]; exact Sl.nil _ _
    · rw [e1, e2]; exact (hset.good y hy).T
  · rcases hF with ⟨_, e2⟩ | ⟨y, hy, _, e2⟩
    · rw [e2]; exact h.good.lf
    · rw [e2]; exact (hset.good y hy).lf
  · rcases hT with ⟨_, e2⟩ | ⟨_, e2⟩ | ⟨y, hy, _, e2⟩
    · rw [e2]; exact h.good.lt
    · rw [e2]; simp
    · rw [e2]; exact (hset.good y hy).lt
  · rcases hk with hk | hk
    · rcases hF with ⟨e1, _⟩ | ⟨y, hy, e1, _⟩
      · rw [e1] at hk; exact hnew k (.inl hk)
      · rw [e1] at hk; exact .inr ⟨y, hy, .inl hk⟩
    · rcases hT with ⟨e1, _⟩ | ⟨e1, _⟩ | ⟨y, hy, e1, _⟩
      · rw [e1] at hk; exact hnew k (.inr hk)
      · rw [e1] at hk; simp [Value.ownBlock] at hk
      · rw [e1] at hk; exact .inr ⟨y, hy, .inr hk⟩

theorem flat_take3 (l : List SpV) (i : Nat) : (l.flatMap SpV.cells).take (i * 3) = (l.take i).flatMap SpV.cells := by
  induction l generalizing i with
  | nil => simp
  | cons a l ih =>
    cases i with
    | zero => simp
    | succ i =>
      rw [List.take_succ_cons, List.flatMap_cons, List.flatMap_cons, ← ih, Nat.succ_mul, Nat.add_comm]
      show (a.cells ++ _).take (a.cells.length + i * 3) = _
      rw [List.take_length_add_append]

theorem flat_drop3 (l : List SpV) (i : Nat) : (l.flatMap SpV.cells).drop (i * 3) = (l.drop i).flatMap SpV.cells := by
  induction l generalizing i with
  | nil => simp
  | cons a l ih =>
    cases i with
    | zero => simp
    | succ i =>
      rw [List.drop_succ_cons, List.flatMap_cons, ← ih, Nat.succ_mul, Nat.add_comm]
      show (a.cells ++ _).drop (a.cells.length + i * 3) = _
      rw [List.drop_length_add_append]

/-- The row stored back. -/
theorem span_fin {w W W2 w10 : World} {p px : Nat} {sv : Value} {l : List SpV} {xk : SpV} {fi m N : Nat} {A' : Option Addr} {c' : Nat} (hs : Se w p sv l) (hm : Mid w W p px sv l xk) (f0 : Fr no W W2) (hfm : fi ≤ m) (hml : m ≤ l.length) (hN : N = l.length + 1 - (m - fi))
    (ho : Ow w10 100 3 (.slice A' N c') N ((l.flatMap SpV.cells).take (fi * 3) ++ xk.cells ++ (l.flatMap SpV.cells).drop (m * 3))) (f : Fr (fun k => sv.ownBlock = some k) W2 w10) (mv : Moved W2 w10 sv (.slice A' N c')) :
    Se (w10.setCell ⟨p, 0, none⟩ (.slice A' N c')) p (.slice A' N c') (l.take fi ++ [xk] ++ l.drop m) ∧ Fr (fun k => k = p ∨ sv.ownBlock = some k) w (w10.setCell ⟨p, 0, none⟩ (.slice A' N c')) ∧
      ∀ k, SeF p (.slice A' N c') (l.take fi ++ [xk] ++ l.drop m) k → SeF p sv l k ∨ (w.heap.size ≤ k ∧ k < (w10.setCell ⟨p, 0, none⟩ (.slice A' N c')).heap.size) := by
  have hM2 := hm.kept0 f0
  have hpx := hm.px
  have hpl := (one_cells hs.at_).2.2
  have hp2 : p < W2.heap.size := (one_cells hM2.set.at_).2.2
  have hsz0 := hM2.fr.size
  have hsz1 := f.size
  have hlen : (l.take fi ++ [xk] ++ l.drop m).length = N := by simp; omega
  have hne : (Value.slice A' N c').ownBlock ≠ some p := mv.not hp2 hs.ne
  have hmem : ∀ x ∈ l.take fi ++ [xk] ++ l.drop m, x ∈ l ∨ x = xk := fun x hx => by
    simp only [List.mem_append, List.mem_singleton] at hx
    rcases hx with (hx | hx) | hx
    · exact .inl (List.mem_of_mem_take hx)
    · exact .inr hx
    · exact .inl (List.mem_of_mem_drop hx)
  -- where the bytes of the spans lie
  have hbl : ∀ x ∈ l.take fi ++ [xk] ++ l.drop m, ∀ k, x.F.ownBlock = some k ∨ x.T.ownBlock = some k → k ≠ p ∧ sv.ownBlock ≠ some k ∧ k < W2.heap.size ∧ (SeF p sv l k ∨ w.heap.size ≤ k) := fun x hx k hk => by
    have old : ∀ y ∈ l, y.F.ownBlock = some k ∨ y.T.ownBlock = some k → k ≠ p ∧ sv.ownBlock ≠ some k ∧ k < W2.heap.size ∧ (SeF p sv l k ∨ w.heap.size ≤ k) := fun y hy h => by
      obtain ⟨h1, h2, h3⟩ := hs.apart y hy k h
      exact ⟨h1, h2, by omega, .inl (.inr (.inr ⟨y, hy, h⟩))⟩
    rcases hmem x hx with h | rfl
    · exact old x h hk
    · rcases hM2.new k hk with h1 | ⟨y, hy, h1⟩
      · refine ⟨by omega, fun h2 => ?_, h1.2, .inr (by omega)⟩
        have := hs.row.lt k h2; omega
      · exact old y hy h1
  have fs : Fr (fun k => k = p ∨ sv.ownBlock = some k) W2 (w10.setCell ⟨p, 0, none⟩ (.slice A' N c')) := (f.mono (fun _ _ h => .inr h)).setCell _ _ (fun _ => .inl rfl)
  refine ⟨⟨?_, ?_, fun x hx => ?_, hne, fun x hx k hk => ?_⟩, ?_, fun k hk => ?_⟩
  · rw [hp_same ((hM2.set.at_ |> fun h => f.heap h hs.ne))]; simp
  · rw [hlen]
    have e : (l.take fi ++ [xk] ++ l.drop m).flatMap SpV.cells = (l.flatMap SpV.cells).take (fi * 3) ++ xk.cells ++ (l.flatMap SpV.cells).drop (m * 3) := by
      rw [List.flatMap_append, List.flatMap_append, flat_take3, flat_drop3]; simp
    rw [e]
    exact ho.kept (S := At p) ((Fr.refl (At p) w10).setAt _ _) (fun k hk e => hne (by rw [hk]; exact congrArg some e))
  · have hg : x.Good W2 := by
      rcases hmem x hx with h | rfl
      · exact hM2.set.good x h
      · exact hM2.good
    exact hg.kept fs (fun k hk e => by obtain ⟨h1, h2, _⟩ := hbl x hx k (.inl hk); rcases e with e | e; exact h1 e; exact h2 e) (fun k hk e => by obtain ⟨h1, h2, _⟩ := hbl x hx k (.inr hk); rcases e with e | e; exact h1 e; exact h2 e)
  · obtain ⟨h1, h2, h3, _⟩ := hbl x hx k hk
    exact ⟨h1, mv.not h3 h2, by simp [World.setCell]; omega⟩
  · have f1 : Fr (fun k => k = p ∨ k = px ∨ sv.ownBlock = some k) w W2 := hM2.fr.mono (fun k _ h => .inr (.inl h))
    have h := f1.trans fs (fun k _ h => by rcases h with h | h; exact .inl h; exact .inr (.inr h))
    exact h.mono (fun k hk h => by rcases h with h | h | h; exact .inl h; omega; exact .inr h)
  · rcases hk with hk | hk | ⟨x, hx, hk⟩
    · exact .inl (.inl hk)
    · rcases mv.blk k hk with h | h
      · exact .inl (.inr (.inl h))
      · right; simp [World.setCell]; omega
    · obtain ⟨_, _, h3, h4⟩ := hbl x hx k hk
      rcases h4 with h4 | h4
      · exact .inl h4
      · right; simp [World.setCell]; omega

theorem mt_step {l : List SpV} {m : Nat} {x : SpV} (hm : m < l.length) (hr : reach x.o x.t l[m].f = true) : SpV.mt (l.drop m) x = ((SpV.mt (l.drop (m + 1)) (SpV.merge x l[m])).1 + 1, (SpV.mt (l.drop (m + 1)) (SpV.merge x l[m])).2) := by
  rw [List.drop_eq_getElem_cons hm]
  conv => lhs; unfold SpV.mt
  rw [if_pos hr]

theorem mt_stop {l : List SpV} {m : Nat} {x : SpV} (hm : m < l.length) (hr : reach x.o x.t l[m].f = false) : SpV.mt (l.drop m) x = (0, x) := by
  rw [List.drop_eq_getElem_cons hm]
  unfold SpV.mt
  rw [if_neg (by simp [hr])]

theorem add_is {l : List SpV} {x xk : SpV} {fi m cnt : Nat} (h : fi = SpV.fst_ l x.f) (hm : m = fi + cnt) (hmt : SpV.mt (l.drop fi) x = (cnt + (SpV.mt (l.drop m) xk).1, (SpV.mt (l.drop m) xk).2)) (hst : SpV.mt (l.drop m) xk = (0, xk)) : l.take fi ++ [xk] ++ l.drop m = SpV.add l x := by
  rw [hst] at hmt
  unfold SpV.add
  rw [← h, hmt, hm]
  simp

/-- What Span leaves: the row that it comes to. -/
def Spanned (w w' : World) (p : Nat) (sv : Value) (l : List SpV) (x : SpV) (e : Ending) : Prop :=
  e = .returned (.tuple #[]) ∧ ∃ sv' l' F T, Se w' p sv' l' ∧ (l' = l ∧ x.o = false ∧ cb x.t x.f ≤ 0 ∨ (x.o = true ∨ 0 < cb x.t x.f) ∧ l' = SpV.add l ⟨F, T, x.f, if x.o then [] else x.t, x.o⟩) ∧
    Fr (fun k => k = p ∨ sv.ownBlock = some k) w w' ∧ ∀ k, SeF p sv' l' k → SeF p sv l k ∨ (w.heap.size ≤ k ∧ k < w'.heap.size)

set_option maxRecDepth 100000 in
set_option maxHeartbeats 4000000 in
theorem span_none (w : World) (p : Nat) (sv : Value) (l : List SpV) (x : SpV) (hs : Se w p sv l) (hx : x.Good w) (ho : x.o = false) (hc : cb x.t x.f ≤ 0) :
    Calls Try.prog 43 #[.pointer (some ⟨p, 0, none⟩), .agg #[x.F, x.T, .bool x.o]] w fun e w' => Spanned w w' p sv l x e := by
  obtain ⟨F, T, f, t, o⟩ := x
  simp only at ho hc
  subst ho
  have HX := Lib.hid hx; have HS := Lib.hid hs; have HC := Lib.hid hc
  have hb : decide (cb t f ≤ 0) = true := by simpa using hc
  clear hx hs hc
  go_enter Try.func43, Try.ntmps43
  go_wp2
  go_step3
  go_wp2_with fail
  refine (cmp_any _ _ _ t f (HX.out.T.kept0 ((Fr.refl no w).alloc _)) (HX.out.F.kept0 ((Fr.refl no w).alloc _))).mono ?_
  rintro e w1 ⟨rfl, rfl⟩
  go_wp2
  rw [Exit.noGoto_ret]
  refine bodyPost_ret (results_none rfl _ _ _) rfl ?_
  exact ⟨rfl, sv, l, F, T, HS.out.kept0 ((Fr.refl no w).alloc _), .inl ⟨rfl, rfl, HC.out⟩, (Fr.refl _ w).alloc _, fun k hk => .inl hk⟩

end Go.Proofs.Ytdnohhlgaaihmaa

/- reads.Set: the walk of Span, x open. -/
namespace Go.Proofs.Ytdnohhlgaaihmaa
open Go.RowKit

set_option maxRecDepth 100000 in
set_option maxHeartbeats 8000000 in
theorem span_open (w : World) (p : Nat) (sv : Value) (l : List SpV) (x : SpV) (hs : Se w p sv l) (hx : x.Good w) (hc : x.o = true) (hl : l.length ≤ 100000) :
    Calls Try.prog 43 #[.pointer (some ⟨p, 0, none⟩), .agg #[x.F, x.T, .bool x.o]] w fun e w' => Spanned w w' p sv l x e := by
  obtain ⟨F, T, f, t, o⟩ := x
  simp only at hc
  subst hc
  obtain ⟨A, c, hsv, hnc, hcm⟩ := hs.row.form
  subst hsv
  have HX := Lib.hid hx; have HS := Lib.hid hs;
  have hc1 := one_cells hs.at_
  have hx1 := Lib.hid (cells3_one l hs.good)
  have HPL := Lib.hid hc1.2.2
  clear hx hs hc1
  go_enter Try.func43, Try.ntmps43
  go_wp2
  go_step3
  go_wp2_with fail
  refine wp_region_ord [0, 1, 3, 4, 6, 7, 2, 5, 8, 9] (fun i => [Kd.p, Kd.l, Kd.g, Kd.p, Kd.l, Kd.g, Kd.p, Kd.l, Kd.e, Kd.e].getD i .e) (by kernel_rfl) (by kernel_rfl) ?_
  iterate 6
    first | refine wpX_pu rfl rfl rfl (by first | exact pu_move rfl | exact pu_assign rfl | exact pu_nilCheck rfl rfl | exact pu_binInt rfl rfl rfl | exact pu_conv rfl rfl (by kernel_rfl) | exact pu_fld rfl (by kernel_rfl) | exact pu_ix rfl rfl rfl (by kernel_rfl) | exact pu_unOp rfl | exact pu_binStr rfl rfl rfl | exact pu_len rfl rfl | exact pu_lens rfl rfl | exact pu_pick rfl | exact pu_slice rfl rfl) (fun K hK => ?_) | refine wpX_rd rfl rfl rfl (rd_load rfl) (fun K hK => ?_) | refine wpX_gr rfl rfl rfl (by first | exact gr_buildSlice rfl | exact gr_box rfl | exact gr_alloc rfl) (fun K hK => ?_) | refine wpX_ex rfl rfl rfl (fun K hK => ?_)
    try go_wp2
  refine wpX_ca rfl rfl rfl (fun K hK => ?_)
  go_wp2_with fail
  refine (rown_any _ F f (HX.out.F.kept0 (by (repeat first | exact Fr.refl _ _ | exact Fr.drewN _ _ _ | apply Fr.drew | apply Fr.alloc | apply Fr.setAt | apply Fr.moreN))) HX.out.lf).mono ?_
  rintro e w1 ⟨A1, rfl, h1, h2, h3⟩
  have H1 := Lib.hid h1; have H2 := Lib.hid h2; have H3 := Lib.hid h3; clear h1 h2 h3
  go_wp2
  obtain ⟨⟨xa, xb⟩, hext⟩ := H3.out.ext
  refine ⟨⟨xa, xb, hext⟩, hK _ _ ?_⟩
  clear hK K hext xa xb
  refine wpX_ca rfl rfl rfl (fun K hK => ?_)
  go_wp2_with fail
  refine (rown_any _ T t ((HX.out.T.kept0 (by (repeat first | exact Fr.refl _ _ | exact Fr.drewN _ _ _ | apply Fr.drew | apply Fr.alloc | apply Fr.setAt | apply Fr.moreN))).kept0 H3.out) HX.out.lt).mono ?_
  rintro e w2 ⟨A2, rfl, h1, h2, h3⟩
  have G1 := Lib.hid h1; have G2 := Lib.hid h2; have G3 := Lib.hid h3; clear h1 h2 h3
  go_wp2
  obtain ⟨⟨xa, xb⟩, hext⟩ := G3.out.ext
  refine ⟨⟨xa, xb, hext⟩, hK _ _ ?_⟩
  clear hK K hext xa xb
  refine wpX_ex rfl rfl rfl (fun K hK => ?_)
  go_simp
  refine hK _ _ ?_
  clear hK K
  have hv2 : VarAt w2 w.heap.size ⟨F, T, f, t, true⟩ := VarAt.kept (VarAt.kept (heap_alloc_new w _) (fr_sooner (Fr.drew (Fr.refl no _)) H3.out) (fun h => h)) G3.out (fun h => h)
  obtain ⟨d0, d1, d2, d3, d4⟩ := hv2.cells
  refine wpX_ex rfl rfl rfl (fun K hK => ?_)
  go_simp
  refine hK _ _ ?_
  clear hK K
  refine wpX_done ?_
  generalize hW : World.setCell (World.setCell (World.setCell w2 _ _) _ _) _ _ = w3
  have hv3 : VarAt w3 w.heap.size ⟨.slice A1 f.length f.length, .slice A2 t.length t.length, f, t, true⟩ := by
    rw [← hW]; exact ((hv2.setF _ f).setT _ t).setO true
  have hf3 : Fr (At w.heap.size) w w3 := by
    rw [← hW]; exact ((((fr_sooner (((Fr.refl no w).alloc _).drew.trans H3.out (fun _ _ h => h)) (fr_sooner G3.out (Fr.refl (At w.heap.size) w2))).setAt _ _).setAt _ _).setAt _ _)
  have hk2 : Ow w3 5 1 (.slice A2 t.length t.length) t.length (bvs t) := G1.out.kept (S := At w.heap.size) (by rw [← hW]; exact (((Fr.refl (At w.heap.size) w2).setAt _ _).setAt _ _).setAt _ _) (fun k hk e => by have := G2.out k hk; have := H3.out.size; have : k = w.heap.size := e; simp at *; omega)
  have hk1 : Ow w3 5 1 (.slice A1 f.length f.length) f.length (bvs f) := (H1.out.kept0 G3.out).kept (S := At w.heap.size) (by rw [← hW]; exact (((Fr.refl (At w.heap.size) w2).setAt _ _).setAt _ _).setAt _ _) (fun k hk e => by have := H2.out k hk; have : k = w.heap.size := e; simp at *; omega)
  have hset3 : Se w3 p (.slice A l.length c) l := HS.out.kept hf3 (fun k hk e => by
    have hkk : k = w.heap.size := e
    have h1 := HPL.out
    rcases hk with hk | hk | ⟨y, hy, hk⟩
    · omega
    · have := HS.out.row.lt k hk; omega
    · have := (HS.out.apart y hy k hk).2.2; omega)
  have hsz : w.heap.size < w3.heap.size := by have := hv3.cells.2.2.2.2; omega
  have HM3 := Lib.hid (show Mid w w3 p w.heap.size (.slice A l.length c) l ⟨.slice A1 f.length f.length, .slice A2 t.length t.length, f, t, true⟩ from
    ⟨hv3, hf3, ⟨hk1.sl, hk2.sl, HX.out.lf, HX.out.lt⟩, fun k hk => by
      left
      rcases hk with hk | hk
      · have h1 := H2.out k hk; have h2 := hk1.lt k hk; simp at h1; omega
      · have h1 := G2.out k hk; have h2 := hk2.lt k hk; have h3 := H3.out.size; simp at h3; omega, hset3, rfl⟩)
  clear hW d0 d1 d2 d3 d4 hv2 hv3 hf3 hk1 hk2 hset3 hsz H1 H2 H3 G1 G2 G3
  obtain ⟨d0, d1, d2, d3, d4⟩ := HM3.out.v.cells
  obtain ⟨e0, e1, e2⟩ := one_cells HM3.out.set.at_
  have hpx : ¬ (w.heap.size = p) := by have := HPL.out; omega
  have hpx' : ¬ (p = w.heap.size) := by have := HPL.out; omega
  have HM5 := Lib.hid (show Mid w (w3.setCell ⟨w.heap.size, 1, none⟩ (.slice none 0 0)) p w.heap.size (.slice A l.length c) l ⟨.slice A1 f.length f.length, .slice none 0 0, f, [], true⟩ from
    ⟨HM3.out.v.setT _ [], HM3.out.fr.setAt _ _, ⟨HM3.out.good.F.kept (S := At w.heap.size) ((Fr.refl (At w.heap.size) w3).setAt _ _) (fun k hk e => by
        have hkk : k = w.heap.size := e
        rcases HM3.out.new k (.inl hk) with h | ⟨y, hy, h⟩
        · omega
        · have := (HS.out.apart y hy k h).2.2; omega), Sl.nil _ _, HX.out.lf, Nat.zero_le _⟩, fun k hk => by
      rcases hk with hk | hk
      · simpa using HM3.out.new k (.inl hk)
      · simp [Value.ownBlock] at hk, HM3.out.set.kept (S := At w.heap.size) ((Fr.refl (At w.heap.size) w3).setAt _ _) (fun k hk e => by
        have hkk : k = w.heap.size := e
        have h1 := HPL.out
        rcases hk with hk | hk | ⟨y, hy, hk⟩
        · omega
        · have := HS.out.row.lt k hk; omega
        · have := (HS.out.apart y hy k hk).2.2; omega), rfl⟩)
  clear HM3
  go_wp2_with fail
  obtain ⟨w5, hw5⟩ : ∃ w5, w5 = w3.setCell ⟨w.heap.size, 1, none⟩ (.slice none 0 0) := ⟨_, rfl⟩
  rw [← hw5] at HM5 ⊢
  clear hw5 d0 d1 d2 d3 d4 e0 e1 e2
  refine (index_span1 w5 w.heap.size A c l HM5.out.set.row.sl (by omega) (fun y => reach y.o y.t f) (fun w' hf' y hy => span1_any w' w.heap.size y.F y.T (.slice A1 f.length f.length) y.t f y.o (((HM5.out.set.good y hy).T).kept0 hf') (HM5.out.good.F.kept0 hf') ((HM5.out.v.kept hf' (fun h => h)).cells.1))).mono ?_
  rintro e w6 ⟨rfl, hf6⟩
  have HM6 := Lib.hid (HM5.out.kept0 hf6)
  clear hf6 HM5
  have hfl := SpV.fst_le l f
  have hdis : (fits (fun y => reach y.o y.t f) l = -1 ∧ SpV.fst_ l f = l.length) ∨ (fits (fun y => reach y.o y.t f) l = (SpV.fst_ l f : Int) ∧ SpV.fst_ l f < l.length) := SpV.fits_fst l f
  obtain ⟨fi, hfi⟩ : ∃ fi, fi = SpV.fst_ l f := ⟨_, rfl⟩
  rw [← hfi] at hfl hdis
  have HFI := Lib.hid hfi; clear hfi
  obtain ⟨d0, d1, d2, d3, d4⟩ := HM6.out.v.cells
  obtain ⟨e0, e1, e2⟩ := one_cells HM6.out.set.at_
  rcases hdis with ⟨h1, h2⟩ | ⟨h1, h2⟩
  all_goals
    rw [h1]
    have HFE := Lib.hid h2; clear h1 h2
    go_wp2
    go_step3
    go_wp2_with fail
    clear d0 d1 d2 d3 d4 e0 e1 e2
    try rw [show ((l.length : Nat) : Int) = ((fi : Nat) : Int) from congrArg Nat.cast (Eq.symm HFE.out)]
    go_loopw [5] (fun s wr => ∃ (cnt : Nat) (xk : SpV), fi + cnt ≤ l.length ∧ s = .int .i64 ((fi + cnt : Nat) : Int) ∧ Mid w wr p w.heap.size (.slice A l.length c) l xk ∧ SpV.mt (l.drop fi) ⟨(.slice A1 f.length f.length), (.slice none 0 0), f, [], true⟩ = (cnt + (SpV.mt (l.drop (fi + cnt)) xk).1, (SpV.mt (l.drop (fi + cnt)) xk).2)) (fun s _ => l.length - (intOf s).toNat)
    case atStart => exact ⟨0, _, by omega, by first | rfl | (have := HFE.out; rw [this]; rfl), HM6.out, by simp⟩
    case round =>
      obtain ⟨cnt, ⟨xF, xT, xf, xt, xo⟩, hcl, rfl, hm, hmt⟩ := hrel
      obtain ⟨xA, xc, hxA, _, _⟩ := hm.good.F.form
      obtain ⟨xB, xd, hxB, _, _⟩ := hm.good.T.form
      simp only at hxA hxB
      subst hxA; subst hxB
      have HM := Lib.hid hm; have HMT := Lib.hid hmt; clear hm hmt
      obtain ⟨m, hm⟩ : ∃ m, m = fi + cnt := ⟨_, rfl⟩
      rw [← hm] at hcl HMT ⊢
      have HMM := Lib.hid hm; clear hm
      obtain ⟨d0, d1, d2, d3, d4⟩ := HM.out.v.cells
      obtain ⟨e0, e1, e2⟩ := one_cells HM.out.set.at_
      by_cases hlt : m < l.length
      · obtain ⟨b, o, hA, q0, q1, q2⟩ := Spans.at HM.out.set.row.sl m hlt
        have HA := Lib.hid hA
        subst hA
        obtain ⟨yA, yc, hyA, _, _⟩ := (HM.out.set.good l[m] (List.getElem_mem _)).F.form
        obtain ⟨yB, yd, hyB, _, _⟩ := (HM.out.set.good l[m] (List.getElem_mem _)).T.form
        rw [hyA] at q0; rw [hyB] at q1
        have HYA := Lib.hid hyA; have HYB := Lib.hid hyB; clear hyA hyB
        go_wp2_with fail
        have hy4 : VarAt (wr.alloc (.cells #[.slice yA l[m].f.length yc, .slice yB l[m].t.length yd, .bool l[m].o] 100)) wr.heap.size ⟨.slice yA l[m].f.length yc, .slice yB l[m].t.length yd, l[m].f, l[m].t, l[m].o⟩ := heap_alloc_new _ _
        have hal := (Fr.refl no wr).alloc (.cells #[.slice yA l[m].f.length yc, .slice yB l[m].t.length yd, .bool l[m].o] 100)
        have hyF : Sl wr 1 (.slice yA l[m].f.length yc) l[m].f.length (bvs l[m].f) := by rw [← HYA.out]; exact (HM.out.set.good l[m] (List.getElem_mem _)).F
        refine (reaches_any _ (.slice xA xf.length xc) (.slice xB xt.length xd) (.slice yA l[m].f.length yc) xt l[m].f xo (HM.out.good.T.kept0 hal) (hyF.kept0 hal)).mono ?_
        rintro e w7 ⟨rfl, hf7⟩
        have HM7 := Lib.hid (HM.out.kept0 (hal.trans hf7 (fun _ _ h => h)))
        have HY7 := Lib.hid (hy4.kept hf7 (fun h => h))
        have hne : ¬ (wr.heap.size = w.heap.size) := by have := HM.out.v.cells.2.2.2.2; omega
        have hne' : ¬ (w.heap.size = wr.heap.size) := by omega
        clear hy4 hal hyF hf7 q0 q1 q2 d0 d1 d2 d3 d4 e0 e1 e2 HM
        obtain ⟨d0, d1, d2, d3, d4⟩ := HM7.out.v.cells
        obtain ⟨y0, y1, y2, y3, y4⟩ := HY7.out.cells
        obtain ⟨e0, e1, e2⟩ := one_cells HM7.out.set.at_
        have hyF : Sl w7 1 (.slice yA l[m].f.length yc) l[m].f.length (bvs l[m].f) := by rw [← HYA.out]; exact (HM7.out.set.good l[m] (List.getElem_mem _)).F
        have hyT : Sl w7 1 (.slice yB l[m].t.length yd) l[m].t.length (bvs l[m].t) := by rw [← HYB.out]; exact (HM7.out.set.good l[m] (List.getElem_mem _)).T
        have HYF := Lib.hid hyF; have HYT := Lib.hid hyT; clear hyF hyT
        have HMEM := Lib.hid (List.getElem_mem hlt : l[m] ∈ l)
        cases hr : reach xo xt l[m].f with
        | false =>
          have HR := Lib.hid hr; clear hr
          go_wp2_with fail
          refine wp_region_ord (List.range 13) (fun i => [Kd.p, Kd.p, Kd.p, Kd.p, Kd.l, Kd.p, Kd.p, Kd.l, Kd.g, Kd.e, Kd.e, Kd.e, Kd.e].getD i .e) (by kernel_rfl) (by kernel_rfl) ?_
          iterate 9
            first | refine wpX_pu rfl rfl rfl (by first | exact pu_move rfl | exact pu_assign rfl | exact pu_nilCheck rfl rfl | exact pu_binInt rfl rfl rfl | exact pu_conv rfl rfl (by kernel_rfl) | exact pu_fld rfl (by kernel_rfl) | exact pu_ix rfl rfl rfl (by kernel_rfl) | exact pu_unOp rfl | exact pu_binStr rfl rfl rfl | exact pu_len rfl rfl | exact pu_lens rfl rfl | exact pu_pick rfl | exact pu_slice rfl rfl) (fun K hK => ?_) | refine wpX_rd rfl rfl rfl (rd_load rfl) (fun K hK => ?_) | refine wpX_gr rfl rfl rfl (by first | exact gr_buildSlice rfl | exact gr_box rfl | exact gr_alloc rfl) (fun K hK => ?_) | refine wpX_ex rfl rfl rfl (fun K hK => ?_)
            try go_wp2
          refine wpX_ex rfl rfl rfl (fun K hK => ?_)
          go_wp2_with fail
          have HHAS := Lib.hid (show Has (w7.alloc (.cells #[.slice xA xf.length xc, .slice xB xt.length xd, .bool xo] 100)).drew w7.heap.size 100 [.slice xA xf.length xc, .slice xB xt.length xd, .bool xo] from heap_alloc_new w7 _)
          have HAL := Lib.hid (show Fr no w7 (w7.alloc (.cells #[.slice xA xf.length xc, .slice xB xt.length xd, .bool xo] 100)).drew from Fr.drew ((Fr.refl no w7).alloc _))
          with_reducible refine (replaceSpan _ _ l.length c fi m w7.heap.size (l.flatMap SpV.cells) [.slice xA xf.length xc, .slice xB xt.length xd, .bool xo] (HM7.out.kept0 HAL.out).set.row (by have := HMM.out; omega) (by omega) rfl HHAS.out (fun k hk => by have := HM7.out.set.row.lt k hk; omega) hx1.out (by simp [Value.oneCell']) (by omega)).mono ?_
          rintro e w10 ⟨A', c', rfl, ho, hf, hmv⟩
          have hfin := span_fin (xk := ⟨.slice xA xf.length xc, .slice xB xt.length xd, xf, xt, xo⟩) HS.out HM7.out HAL.out (by have := HMM.out; omega) (by omega) rfl ho hf hmv
          have hz := hf.cell ((HM7.out.kept0 HAL.out).set.at_ |> fun h => (one_cells h).1) (HS.out.ne)
          have hz2 := (hf.frozen (a := ⟨p, 0, none⟩) ((one_cells (HM7.out.kept0 HAL.out).set.at_).2.2) (HS.out.ne)).trans ((one_cells (HM7.out.kept0 HAL.out).set.at_).2.1 0)
          have HFIN := Lib.hid hfin
          clear ho hf hmv hfin
          go_simp
          refine hK _ _ ?_
          clear hK K
          iterate 3
            refine wpX_ex rfl rfl rfl (fun K hK => ?_)
            go_simp
            refine hK _ _ ?_
            clear hK K
          refine wpX_done ?_
          rw [Exit.noGoto_normal]
          refine bodyPost_end (results_none rfl _ _ _) rfl ?_
          exact ⟨rfl, _, _, (.slice A1 f.length f.length), (.slice none 0 0), HFIN.out.1, .inr ⟨by simp, add_is (x := ⟨(.slice A1 f.length f.length), (.slice none 0 0), f, [], true⟩) HFI.out HMM.out HMT.out (mt_stop hlt HR.out)⟩, HFIN.out.2.1, HFIN.out.2.2⟩
        | true =>
          have HR := Lib.hid hr; clear hr
          go_wp2_with fail
          refine (cmp_any w7 _ _ l[m].f xf HYF.out HM7.out.good.F).mono ?_
          rintro e w8 ⟨rfl, rfl⟩
          have hsF := ((Fr.refl (At w.heap.size) w8).setAt 0 (.slice yA l[m].f.length yc))
          have hbF : ∀ k, (Value.slice xB xt.length xd).ownBlock = some k → ¬ At w.heap.size k := fun k hk e => by
            have e2 : k = w.heap.size := e
            rcases HM7.out.new k (.inr hk) with h | ⟨y, hy, h⟩
            · omega
            · have := (HS.out.apart y hy k h).2.2; omega
          have hbY : ∀ k, (Value.slice yB l[m].t.length yd).ownBlock = some k → ¬ At w.heap.size k := fun k hk e => by
            have e2 : k = w.heap.size := e
            have := (HS.out.apart l[m] HMEM.out k (.inr (by rw [HYB.out]; exact hk))).2.2; omega
          have HTF := Lib.hid (HM7.out.good.T.kept hsF hbF); have HYTF := Lib.hid (HYT.out.kept hsF hbY); clear hsF hbF hbY
          by_cases h1 : cb l[m].f xf < 0
          · have H1 := Lib.hid h1
            cases xo with
            | true =>
              go_wp2_with fail
              go_roundw
              case rel =>
                have hmg : SpV.merge ⟨.slice xA xf.length xc, .slice xB xt.length xd, xf, xt, true⟩ l[m] = ⟨.slice yA l[m].f.length yc, .slice xB xt.length xd, l[m].f, xt, true⟩ := by simp [SpV.merge, H1.out, HYA.out]
                have hst := mt_step (x := ⟨.slice xA xf.length xc, .slice xB xt.length xd, xf, xt, true⟩) hlt HR.out
                rw [hmg] at hst
                refine ⟨cnt + 1, ⟨.slice yA l[m].f.length yc, .slice xB xt.length xd, l[m].f, xt, true⟩, by have := HMM.out; omega, by have := HMM.out; first | (rw [this]; rfl) | (congr 1; omega), HM7.out.turn HS.out ((Fr.refl (At w.heap.size) w8).setAt _ _) (HM7.out.v.setF _ l[m].f) (.inr ⟨l[m], HMEM.out, HYA.out.symm, rfl⟩) (.inl ⟨rfl, rfl⟩), ?_⟩
                rw [HMT.out, hst, show fi + (cnt + 1) = m + 1 by have := HMM.out; omega]
                simp; omega
              case measure => simp [intOf]; omega
            | false =>
              cases hyo : l[m].o with
              | true =>
                rw [hyo] at y2
                have HYO := Lib.hid hyo; clear hyo
                go_wp2_with fail
                go_roundw
                case rel =>
                  have hmg : SpV.merge ⟨.slice xA xf.length xc, .slice xB xt.length xd, xf, xt, false⟩ l[m] = ⟨.slice yA l[m].f.length yc, .slice none 0 0, l[m].f, [], true⟩ := by simp [SpV.merge, H1.out, HYA.out, HYO.out]
                  have hst := mt_step (x := ⟨.slice xA xf.length xc, .slice xB xt.length xd, xf, xt, false⟩) hlt HR.out
                  rw [hmg] at hst
                  refine ⟨cnt + 1, ⟨.slice yA l[m].f.length yc, .slice none 0 0, l[m].f, [], true⟩, by have := HMM.out; omega, by have := HMM.out; first | (rw [this]; rfl) | (congr 1; omega), HM7.out.turn HS.out ((((Fr.refl (At w.heap.size) w8).setAt _ _).setAt _ _).setAt _ _) (((HM7.out.v.setF _ l[m].f).setO true).setT _ []) (.inr ⟨l[m], HMEM.out, HYA.out.symm, rfl⟩) (.inr (.inl ⟨rfl, rfl⟩)), ?_⟩
                  rw [HMT.out, hst, show fi + (cnt + 1) = m + 1 by have := HMM.out; omega]
                  simp; omega
                case measure => simp [intOf]; omega
              | false =>
                rw [hyo] at y2
                have HYO := Lib.hid hyo; clear hyo
                go_wp2_with fail
                refine (cmp_any _ _ _ l[m].t xt HYTF.out HTF.out).mono ?_
                rintro e w9 ⟨rfl, rfl⟩
                by_cases h2 : 0 < cb l[m].t xt
                · have H2 := Lib.hid h2
                  go_wp2_with fail
                  go_roundw
                  case rel =>
                    have hmg : SpV.merge ⟨.slice xA xf.length xc, .slice xB xt.length xd, xf, xt, false⟩ l[m] = ⟨.slice yA l[m].f.length yc, .slice yB l[m].t.length yd, l[m].f, l[m].t, false⟩ := by simp [SpV.merge, H1.out, H2.out, HYA.out, HYB.out, HYO.out]
                    have hst := mt_step (x := ⟨.slice xA xf.length xc, .slice xB xt.length xd, xf, xt, false⟩) hlt HR.out
                    rw [hmg] at hst
                    refine ⟨cnt + 1, ⟨.slice yA l[m].f.length yc, .slice yB l[m].t.length yd, l[m].f, l[m].t, false⟩, by have := HMM.out; omega, by have := HMM.out; first | (rw [this]; rfl) | (congr 1; omega), HM7.out.turn HS.out (((Fr.refl (At w.heap.size) w8).setAt _ _).setAt _ _) ((HM7.out.v.setF _ l[m].f).setT _ l[m].t) (.inr ⟨l[m], HMEM.out, HYA.out.symm, rfl⟩) (.inr (.inr ⟨l[m], HMEM.out, HYB.out.symm, rfl⟩)), ?_⟩
                    rw [HMT.out, hst, show fi + (cnt + 1) = m + 1 by have := HMM.out; omega]
                    simp; omega
                  case measure => simp [intOf]; omega
                · have H2 := Lib.hid h2
                  go_wp2_with fail
                  go_roundw
                  case rel =>
                    have hmg : SpV.merge ⟨.slice xA xf.length xc, .slice xB xt.length xd, xf, xt, false⟩ l[m] = ⟨.slice yA l[m].f.length yc, .slice xB xt.length xd, l[m].f, xt, false⟩ := by simp [SpV.merge, H1.out, (show ¬ (0 < cb l[m].t xt) by have := H2.out; omega), HYA.out, HYO.out]
                    have hst := mt_step (x := ⟨.slice xA xf.length xc, .slice xB xt.length xd, xf, xt, false⟩) hlt HR.out
                    rw [hmg] at hst
                    refine ⟨cnt + 1, ⟨.slice yA l[m].f.length yc, .slice xB xt.length xd, l[m].f, xt, false⟩, by have := HMM.out; omega, by have := HMM.out; first | (rw [this]; rfl) | (congr 1; omega), HM7.out.turn HS.out ((Fr.refl (At w.heap.size) w8).setAt _ _) (HM7.out.v.setF _ l[m].f) (.inr ⟨l[m], HMEM.out, HYA.out.symm, rfl⟩) (.inl ⟨rfl, rfl⟩), ?_⟩
                    rw [HMT.out, hst, show fi + (cnt + 1) = m + 1 by have := HMM.out; omega]
                    simp; omega
                  case measure => simp [intOf]; omega
          · have H1 := Lib.hid h1
            cases xo with
            | true =>
              go_wp2_with fail
              go_roundw
              case rel =>
                have hmg : SpV.merge ⟨.slice xA xf.length xc, .slice xB xt.length xd, xf, xt, true⟩ l[m] = ⟨.slice xA xf.length xc, .slice xB xt.length xd, xf, xt, true⟩ := by simp [SpV.merge, (show ¬ (cb l[m].f xf < 0) by have := H1.out; omega)]
                have hst := mt_step (x := ⟨.slice xA xf.length xc, .slice xB xt.length xd, xf, xt, true⟩) hlt HR.out
                rw [hmg] at hst
                refine ⟨cnt + 1, ⟨.slice xA xf.length xc, .slice xB xt.length xd, xf, xt, true⟩, by have := HMM.out; omega, by have := HMM.out; first | (rw [this]; rfl) | (congr 1; omega), HM7.out.turn HS.out (Fr.refl _ _) HM7.out.v (.inl ⟨rfl, rfl⟩) (.inl ⟨rfl, rfl⟩), ?_⟩
                rw [HMT.out, hst, show fi + (cnt + 1) = m + 1 by have := HMM.out; omega]
                simp; omega
              case measure => simp [intOf]; omega
            | false =>
              cases hyo : l[m].o with
              | true =>
                rw [hyo] at y2
                have HYO := Lib.hid hyo; clear hyo
                go_wp2_with fail
                go_roundw
                case rel =>
                  have hmg : SpV.merge ⟨.slice xA xf.length xc, .slice xB xt.length xd, xf, xt, false⟩ l[m] = ⟨.slice xA xf.length xc, .slice none 0 0, xf, [], true⟩ := by simp [SpV.merge, (show ¬ (cb l[m].f xf < 0) by have := H1.out; omega), HYO.out]
                  have hst := mt_step (x := ⟨.slice xA xf.length xc, .slice xB xt.length xd, xf, xt, false⟩) hlt HR.out
                  rw [hmg] at hst
                  refine ⟨cnt + 1, ⟨.slice xA xf.length xc, .slice none 0 0, xf, [], true⟩, by have := HMM.out; omega, by have := HMM.out; first | (rw [this]; rfl) | (congr 1; omega), HM7.out.turn HS.out (((Fr.refl (At w.heap.size) w8).setAt _ _).setAt _ _) ((HM7.out.v.setO true).setT _ []) (.inl ⟨rfl, rfl⟩) (.inr (.inl ⟨rfl, rfl⟩)), ?_⟩
                  rw [HMT.out, hst, show fi + (cnt + 1) = m + 1 by have := HMM.out; omega]
                  simp; omega
                case measure => simp [intOf]; omega
              | false =>
                rw [hyo] at y2
                have HYO := Lib.hid hyo; clear hyo
                go_wp2_with fail
                refine (cmp_any _ _ _ l[m].t xt HYT.out HM7.out.good.T).mono ?_
                rintro e w9 ⟨rfl, rfl⟩
                by_cases h2 : 0 < cb l[m].t xt
                · have H2 := Lib.hid h2
                  go_wp2_with fail
                  go_roundw
                  case rel =>
                    have hmg : SpV.merge ⟨.slice xA xf.length xc, .slice xB xt.length xd, xf, xt, false⟩ l[m] = ⟨.slice xA xf.length xc, .slice yB l[m].t.length yd, xf, l[m].t, false⟩ := by simp [SpV.merge, (show ¬ (cb l[m].f xf < 0) by have := H1.out; omega), H2.out, HYB.out, HYO.out]
                    have hst := mt_step (x := ⟨.slice xA xf.length xc, .slice xB xt.length xd, xf, xt, false⟩) hlt HR.out
                    rw [hmg] at hst
                    refine ⟨cnt + 1, ⟨.slice xA xf.length xc, .slice yB l[m].t.length yd, xf, l[m].t, false⟩, by have := HMM.out; omega, by have := HMM.out; first | (rw [this]; rfl) | (congr 1; omega), HM7.out.turn HS.out ((Fr.refl (At w.heap.size) w9).setAt _ _) (HM7.out.v.setT _ l[m].t) (.inl ⟨rfl, rfl⟩) (.inr (.inr ⟨l[m], HMEM.out, HYB.out.symm, rfl⟩)), ?_⟩
                    rw [HMT.out, hst, show fi + (cnt + 1) = m + 1 by have := HMM.out; omega]
                    simp; omega
                  case measure => simp [intOf]; omega
                · have H2 := Lib.hid h2
                  go_wp2_with fail
                  go_roundw
                  case rel =>
                    have hmg : SpV.merge ⟨.slice xA xf.length xc, .slice xB xt.length xd, xf, xt, false⟩ l[m] = ⟨.slice xA xf.length xc, .slice xB xt.length xd, xf, xt, false⟩ := by simp [SpV.merge, (show ¬ (cb l[m].f xf < 0) by have := H1.out; omega), (show ¬ (0 < cb l[m].t xt) by have := H2.out; omega), HYO.out]
                    have hst := mt_step (x := ⟨.slice xA xf.length xc, .slice xB xt.length xd, xf, xt, false⟩) hlt HR.out
                    rw [hmg] at hst
                    refine ⟨cnt + 1, ⟨.slice xA xf.length xc, .slice xB xt.length xd, xf, xt, false⟩, by have := HMM.out; omega, by have := HMM.out; first | (rw [this]; rfl) | (congr 1; omega), HM7.out.turn HS.out (Fr.refl _ _) HM7.out.v (.inl ⟨rfl, rfl⟩) (.inl ⟨rfl, rfl⟩), ?_⟩
                    rw [HMT.out, hst, show fi + (cnt + 1) = m + 1 by have := HMM.out; omega]
                    simp; omega
                  case measure => simp [intOf]; omega
      · obtain rfl : m = l.length := by omega
        obtain ⟨b, hA⟩ : ∃ b, b = A := ⟨_, rfl⟩
        clear hA b
        go_wp2_with fail
        refine wp_region_ord (List.range 13) (fun i => [Kd.p, Kd.p, Kd.p, Kd.p, Kd.l, Kd.p, Kd.p, Kd.l, Kd.g, Kd.e, Kd.e, Kd.e, Kd.e].getD i .e) (by kernel_rfl) (by kernel_rfl) ?_
        iterate 9
          first | refine wpX_pu rfl rfl rfl (by first | exact pu_move rfl | exact pu_assign rfl | exact pu_nilCheck rfl rfl | exact pu_binInt rfl rfl rfl | exact pu_conv rfl rfl (by kernel_rfl) | exact pu_fld rfl (by kernel_rfl) | exact pu_ix rfl rfl rfl (by kernel_rfl) | exact pu_unOp rfl | exact pu_binStr rfl rfl rfl | exact pu_len rfl rfl | exact pu_lens rfl rfl | exact pu_pick rfl | exact pu_slice rfl rfl) (fun K hK => ?_) | refine wpX_rd rfl rfl rfl (rd_load rfl) (fun K hK => ?_) | refine wpX_gr rfl rfl rfl (by first | exact gr_buildSlice rfl | exact gr_box rfl | exact gr_alloc rfl) (fun K hK => ?_) | refine wpX_ex rfl rfl rfl (fun K hK => ?_)
          try go_wp2
        refine wpX_ex rfl rfl rfl (fun K hK => ?_)
        go_wp2_with fail
        have HHAS := Lib.hid (show Has (wr.alloc (.cells #[.slice xA xf.length xc, .slice xB xt.length xd, .bool xo] 100)).drew wr.heap.size 100 [.slice xA xf.length xc, .slice xB xt.length xd, .bool xo] from heap_alloc_new wr _)
        have HAL := Lib.hid (show Fr no wr (wr.alloc (.cells #[.slice xA xf.length xc, .slice xB xt.length xd, .bool xo] 100)).drew from Fr.drew ((Fr.refl no wr).alloc _))
        with_reducible refine (replaceSpan _ _ l.length c fi l.length wr.heap.size (l.flatMap SpV.cells) [.slice xA xf.length xc, .slice xB xt.length xd, .bool xo] (HM.out.kept0 HAL.out).set.row (by have := HMM.out; omega) (by omega) rfl HHAS.out (fun k hk => by have := HM.out.set.row.lt k hk; omega) hx1.out (by simp [Value.oneCell']) (by omega)).mono ?_
        rintro e w10 ⟨A', c', rfl, ho, hf, hmv⟩
        have hfin := span_fin (xk := ⟨.slice xA xf.length xc, .slice xB xt.length xd, xf, xt, xo⟩) HS.out HM.out HAL.out (by have := HMM.out; omega) (by omega) rfl ho hf hmv
        have hz := hf.cell ((HM.out.kept0 HAL.out).set.at_ |> fun h => (one_cells h).1) (HS.out.ne)
        have hz2 := (hf.frozen (a := ⟨p, 0, none⟩) ((one_cells (HM.out.kept0 HAL.out).set.at_).2.2) (HS.out.ne)).trans ((one_cells (HM.out.kept0 HAL.out).set.at_).2.1 0)
        have HFIN := Lib.hid hfin
        clear ho hf hmv hfin
        go_simp
        refine hK _ _ ?_
        clear hK K
        iterate 3
          refine wpX_ex rfl rfl rfl (fun K hK => ?_)
          go_simp
          refine hK _ _ ?_
          clear hK K
        refine wpX_done ?_
        rw [Exit.noGoto_normal]
        refine bodyPost_end (results_none rfl _ _ _) rfl ?_
        exact ⟨rfl, _, _, (.slice A1 f.length f.length), (.slice none 0 0), HFIN.out.1, .inr ⟨by simp, add_is (x := ⟨(.slice A1 f.length f.length), (.slice none 0 0), f, [], true⟩) HFI.out HMM.out HMT.out (by simp [SpV.mt])⟩, HFIN.out.2.1, HFIN.out.2.2⟩
end Go.Proofs.Ytdnohhlgaaihmaa
