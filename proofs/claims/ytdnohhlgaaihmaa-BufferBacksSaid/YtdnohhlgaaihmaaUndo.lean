/- package buffer: what undoes a change. -/
import Derived.Test.YtdnohhlgaaihmaaDelChg
import Derived.Test.YtdnohhlgaaihmaaBuf4
import Derived.Test.YtdnohhlgaaihmaaBuf8
namespace Go.Proofs.Ytdnohhlgaaihmaa
open Go.RowKit

/-- The buffer while it goes back: its undo list still has all of us0; us is what is left to undo. -/
structure Bb (w : World) (p : Nat) (lv : Value) (l : List SpV) (uv : Value) (us0 us : List Und) : Prop where
  at_ : w.heap[p]? = some (.cells #[lv, uv] 112 (0, 0))
  row : Ow w 36 3 lv l.length (l.flatMap SpV.cells)
  good : ∀ x ∈ l, x.Good w
  undo : Ow w 1 1 uv us0.length (us0.reverse.map Und.val)
  uok : ∀ u ∈ us, u.Ok w p
  ris : Ris l
  hist : Hist us l
  nl : lv.ownBlock ≠ some p
  nu : uv.ownBlock ≠ some p
  lu : ∀ k, lv.ownBlock = some k → uv.ownBlock ≠ some k
  apart : ∀ k, ((∃ x ∈ l, BlC x k) ∨ ∃ u ∈ us, u.blk k) → k ≠ p ∧ lv.ownBlock ≠ some k ∧ uv.ownBlock ≠ some k ∧ k < w.heap.size

theorem Bf.bb {w : World} {p : Nat} {lv uv : Value} {l : List SpV} {us : List Und} (h : Bf w p lv l uv us) : Bb w p lv l uv us us :=
  ⟨h.at_, h.row, h.good, h.undo, h.uok, h.ris, h.hist, h.nl, h.nu, h.lu, h.apart⟩
theorem Bb.bf {w : World} {p : Nat} {lv uv : Value} {l : List SpV} {us : List Und} (h : Bb w p lv l uv us us) : Bf w p lv l uv us :=
  ⟨h.at_, h.row, h.good, h.undo, h.uok, h.ris, h.hist, h.nl, h.nu, h.lu, h.apart⟩
theorem Bb.kept0 {w w1 : World} {p : Nat} {lv uv : Value} {l : List SpV} {us0 us : List Und} (h : Bb w p lv l uv us0 us) (f : Fr no w w1) : Bb w1 p lv l uv us0 us :=
  ⟨f.heap h.at_ (fun h => h), h.row.kept0 f, fun x hx => (h.good x hx).kept0 f, h.undo.kept0 f, fun u hu => (h.uok u hu).kept f (fun _ _ h => h), h.ris, h.hist, h.nl, h.nu, h.lu, fun k hk => ⟨(h.apart k hk).1, (h.apart k hk).2.1, (h.apart k hk).2.2.1, Nat.lt_of_lt_of_le (h.apart k hk).2.2.2 f.size⟩⟩

/-- One is undone: the row of the changes alone is written, in its block; and the buffer's first cell. -/
theorem Bb.step {w w1 : World} {p : Nat} {lv lv1 uv : Value} {l l1 : List SpV} {us0 us : List Und} {u : Und} (h : Bb w p lv l uv us0 (u :: us)) (hl1 : l1 = u.back l) (hsub : ∀ x ∈ l1, x ∈ l ∨ ∀ k, BlC x k → u.blk k) (hg1 : ∀ x ∈ l1, x ∈ l ∨ x.Good w)
    (f : Fr (fun k => k = p ∨ lv.ownBlock = some k) w w1) (ha : w1.heap[p]? = some (.cells #[lv1, uv] 112 (0, 0))) (hr : Ow w1 36 3 lv1 l1.length (l1.flatMap SpV.cells)) (hb : lv1.ownBlock = lv.ownBlock) : Bb w1 p lv1 l1 uv us0 us := by
  have hap : ∀ k, ((∃ x ∈ l1, BlC x k) ∨ ∃ v ∈ us, v.blk k) → k ≠ p ∧ lv.ownBlock ≠ some k ∧ uv.ownBlock ≠ some k ∧ k < w.heap.size := fun k hk => by
    refine h.apart k ?_
    rcases hk with ⟨x, hx, hk⟩ | ⟨v, hv, hk⟩
    · rcases hsub x hx with h2 | h2
      · exact .inl ⟨x, h2, hk⟩
      · exact .inr ⟨u, List.mem_cons_self .., h2 k hk⟩
    · exact .inr ⟨v, List.mem_cons_of_mem _ hv, hk⟩
  have hn : ∀ k, ((∃ x ∈ l1, BlC x k) ∨ ∃ v ∈ us, v.blk k) → ¬ (k = p ∨ lv.ownBlock = some k) := fun k hk e => by
    have := hap k hk
    rcases e with e | e
    · exact this.1 e
    · exact this.2.1 e
  refine ⟨ha, hr, fun x hx => ?_, h.undo.kept f (fun k hk e => ?_), fun v hv => (h.uok v (List.mem_cons_of_mem _ hv)).kept f (fun k hk => hn k (.inr ⟨v, hv, hk⟩)), ?_, ?_, by rw [hb]; exact h.nl, h.nu, fun k hk => h.lu k (by rw [← hb]; exact hk), fun k hk => ?_⟩
  · have hgx : x.Good w := by rcases hg1 x hx with h2 | h2; exact h.good x h2; exact h2
    exact ⟨hgx.F.kept f (fun k hk => hn k (.inl ⟨x, hx, .inl hk⟩)), hgx.T.kept f (fun k hk => hn k (.inl ⟨x, hx, .inr hk⟩)), hgx.lf, hgx.lt⟩
  · rcases e with e | e
    · exact h.nu (by rw [← e]; exact hk)
    · exact h.lu k e hk
  · rw [hl1]; exact h.hist.2.1
  · rw [hl1]; exact h.hist.2.2
  · have := hap k hk
    exact ⟨this.1, by rw [hb]; exact this.2.1, this.2.2.1, Nat.lt_of_lt_of_le this.2.2.2 f.size⟩

/-- What undoing one leaves. -/
def Undone (w w' : World) (p : Nat) (lv : Value) (l : List SpV) (uv : Value) (us0 us : List Und) (u : Und) (e : Ending) : Prop :=
  e = .returned (.tuple #[]) ∧ ∃ lv1 : Value, lv1.ownBlock = lv.ownBlock ∧ Bb w' p lv1 (u.back l) uv us0 us ∧ Fr (fun k => k = p ∨ lv.ownBlock = some k) w w'

set_option maxRecDepth 100000 in
set_option maxHeartbeats 4000000 in
theorem undo_set (w : World) (p : Nat) (lv uv : Value) (l : List SpV) (us0 us : List Und) (bw bx bi i : Nat) (was : SpV) (hb : Bb w p lv l uv us0 (.set bw bx bi i was :: us)) :
    Calls Try.prog 127 #[.pointer (some ⟨bw, 0, none⟩), .pointer (some ⟨bx, 0, none⟩), .pointer (some ⟨bi, 0, none⟩)] w fun e w' => Undone w w' p lv l uv us0 us (.set bw bx bi i was) e := by
  obtain ⟨u1, u2, u3, u4⟩ := hb.uok _ (List.mem_cons_self ..)
  have hil : i < l.length := hb.hist.1
  obtain ⟨A, c, rfl, hnc, hcm⟩ := hb.row.sl.form
  have hsl := hb.row.sl
  obtain ⟨g, og, rfl, q0, q1, q2⟩ := Spans.at hsl i hil
  obtain ⟨rfl, cur, hcur, _⟩ := ow_at hb.row
  obtain ⟨WF, wf, hWF, _, _⟩ := u4.F.form
  obtain ⟨WT, wt, hWT, _, _⟩ := u4.T.form
  rw [hWF, hWT] at u1
  obtain ⟨a0, a1, a2, _, _⟩ := three_cells u1
  obtain ⟨d0, _, _⟩ := one_cell u2
  obtain ⟨i0, _, _⟩ := one_cell u3
  obtain ⟨b0, b1, bz, blt⟩ := two_cells hb.at_
  have hgz : ∀ j, w.frozen? ⟨g, j, none⟩ = false := fun j => by simp [World.frozen?, hcur]
  have hgl := World.block_lt_of_cell? w _ q0
  simp only [Nat.zero_add] at q0 q1 q2
  obtain ⟨hrow, hfr⟩ := ow_set3 was hb.row hil rfl
  have hgp : ¬ p = g := fun e => hb.nl (by rw [e]; rfl)
  have hp := hfr.heap hb.at_ hgp
  have hst := Bb.step (l1 := l.set i was) hb rfl (fun x hx => by
    rcases List.mem_or_eq_of_mem_set hx with h | rfl
    · exact .inl h
    · exact .inr fun k hk => .inr (.inr (.inr hk))) (fun x hx => by
    rcases List.mem_or_eq_of_mem_set hx with h | rfl
    · exact .inl h
    · exact .inr u4) (hfr.mono (fun k _ e => .inr (by rw [e]; rfl))) hp (by rw [List.length_set]; exact hrow) rfl
  have hff : Fr (fun k => k = p ∨ (Value.slice (some ⟨g, 0, none⟩) l.length c).ownBlock = some k) w (((w.setCell ⟨g, i * 3, none⟩ was.F).setCell ⟨g, i * 3 + 1, none⟩ was.T).setCell ⟨g, i * 3 + 2, none⟩ (.bool was.o)) := hfr.mono (fun k _ e => .inr (by rw [e]; rfl))
  rw [hWF, hWT] at hst hff
  have HST := Lib.hid hst; have HFF := Lib.hid hff
  clear hst hff hrow hfr hp u1 u2 u3 u4 hcur hsl hWF hWT hb
  go_enter Try.func127, Try.ntmps127
  refine wp_region_ord (List.range 8) (fun i => [Kd.l, Kd.p, Kd.p, Kd.l, Kd.l, Kd.l, Kd.p, Kd.e].getD i .e) (by kernel_rfl) (by kernel_rfl) ?_
  iterate 8
    first | refine wpX_pu rfl rfl rfl (by first | exact pu_move rfl | exact pu_assign rfl | exact pu_nilCheck rfl rfl | exact pu_binInt rfl rfl rfl | exact pu_conv rfl rfl (by kernel_rfl) | exact pu_fld rfl (by kernel_rfl) | exact pu_ix rfl rfl rfl (by kernel_rfl) | exact pu_unOp rfl | exact pu_binStr rfl rfl rfl | exact pu_len rfl rfl | exact pu_lens rfl rfl | exact pu_pick rfl | exact pu_slice rfl rfl) (fun K hK => ?_) | refine wpX_rd rfl rfl rfl (rd_load rfl) (fun K hK => ?_) | refine wpX_gr rfl rfl rfl (by first | exact gr_buildSlice rfl | exact gr_box rfl | exact gr_alloc rfl) (fun K hK => ?_) | refine wpX_ex rfl rfl rfl (fun K hK => ?_)
    try go_wp2
  refine wpX_done ?_
  exact bodyPost_end (results_none rfl _ _ _) rfl ⟨rfl, _, rfl, HST.out.kept0 (Fr.drew (Fr.refl no _)), Fr.drew HFF.out⟩

set_option maxRecDepth 100000 in
set_option maxHeartbeats 4000000 in
theorem undo_ins (w : World) (p : Nat) (lv uv : Value) (l : List SpV) (us0 us : List Und) (bx bi i : Nat) (hb : Bb w p lv l uv us0 (.ins bx bi i :: us)) (hl : l.length ≤ 100000) :
    Calls Try.prog 129 #[.pointer (some ⟨bx, 0, none⟩), .pointer (some ⟨bi, 0, none⟩)] w fun e w' => Undone w w' p lv l uv us0 us (.ins bx bi i) e := by
  obtain ⟨u1, u2⟩ := hb.uok _ (List.mem_cons_self ..)
  have hil : i < l.length := hb.hist.1
  obtain ⟨A, c, hlv, hnc, hcm⟩ := hb.row.sl.form
  obtain ⟨m, hm⟩ : ∃ m, l.length = m + 1 := ⟨l.length - 1, by omega⟩
  rw [hm] at hlv hnc
  subst hlv
  have hrow := hb.row
  rw [hm] at hrow
  obtain ⟨g, og, rfl, q0, -, -⟩ := Spans.at (show Sl w 3 (.slice A (m + 1) c) l.length (l.flatMap SpV.cells) from by rw [hm]; exact hrow.sl) i hil
  obtain ⟨rfl, cur, hcur, _⟩ := ow_at hrow
  have hgl : g < w.heap.size := (Array.getElem?_eq_some_iff.1 hcur).1
  have hgp : ¬ p = g := fun e => hb.nl (by rw [e]; rfl)
  have hxg : ¬ bx = g := fun e => (hb.apart bx (.inr ⟨_, List.mem_cons_self .., .inl rfl⟩)).2.1 (by rw [e]; rfl)
  have hxp : ¬ bx = p := fun e => (hb.apart bx (.inr ⟨_, List.mem_cons_self .., .inl rfl⟩)).1 e
  have hx1 : ∀ u ∈ l.flatMap SpV.cells, u.oneCell' = true := fun u hu => by
    obtain ⟨x, hx, hu⟩ := List.mem_flatMap.1 hu
    obtain ⟨A1, c1, h1, _, _⟩ := (hb.good x hx).F.form
    obtain ⟨A2, c2, h2, _, _⟩ := (hb.good x hx).T.form
    simp only [SpV.cells, h1, h2, List.mem_cons, List.not_mem_nil, or_false] at hu
    rcases hu with rfl | rfl | rfl <;> rfl
  have HB := Lib.hid hb; have ROW := Lib.hid hrow; have HX1 := Lib.hid hx1; have U1 := Lib.hid u1; have U2 := Lib.hid u2; have HM := Lib.hid hm
  clear hb hrow hx1 u1 u2 hcur q0
  have him : i ≤ m := by omega
  have hml : m ≤ 100000 := by omega
  clear hil hm hl
  go_enter Try.func129, Try.ntmps129
  refine wp_region_inv (fun w' => w'.cell? ⟨bx, 0, none⟩ = some (.pointer (some ⟨p, 0, none⟩))) [0, 1, 2, 3, 4, 5, 6, 7, 8, 9, 10, 11] (fun i => [Kd.m, Kd.l, Kd.p, Kd.p, Kd.l, Kd.l, Kd.l, Kd.p, Kd.e, Kd.p, Kd.p, Kd.e].getD i .e) (by kernel_rfl) (by kernel_rfl) ?_ ?_
  · exact (Fr.drew (Fr.refl no w)).cell (one_cell U1.out).1 (fun h => h)
  have hD := Lib.hid (Fr.drew (Fr.refl no w))
  refine wpX_md (.pointer (some ⟨p, 0, none⟩)) rfl rfl rfl (rd_load rfl) rfl (by simp) (fun w' hI => ?_) ?_
  · go_wp2
  go_simp
  have d0 := (one_cell (hD.out.heap U1.out (fun h => h))).1
  have i0 := (one_cell (hD.out.heap U2.out (fun h => h))).1
  obtain ⟨b0, b1, bz, blt⟩ := two_cells (hD.out.heap HB.out.at_ (fun h => h))
  iterate 7
    first | refine wpX_pu rfl rfl rfl (by first | exact pu_move rfl | exact pu_assign rfl | exact pu_nilCheck rfl rfl | exact pu_binInt rfl rfl rfl | exact pu_conv rfl rfl (by kernel_rfl) | exact pu_fld rfl (by kernel_rfl) | exact pu_ix rfl rfl rfl (by kernel_rfl) | exact pu_unOp rfl | exact pu_binStr rfl rfl rfl | exact pu_len rfl rfl | exact pu_lens rfl rfl | exact pu_pick rfl | exact pu_slice rfl rfl) (fun K hK => ?_) | refine wpX_rd rfl rfl rfl (rd_load rfl) (fun K hK => ?_) | refine wpX_gr rfl rfl rfl (by first | exact gr_buildSlice rfl | exact gr_box rfl | exact gr_alloc rfl) (fun K hK => ?_) | refine wpX_ex rfl rfl rfl (fun K hK => ?_)
    try go_wp2
  refine wpX_es rfl rfl rfl (fun K hK => ?_)
  go_wp2_with fail
  refine (deleteChange _ g m c i (l.flatMap SpV.cells) (ROW.out.kept0 (Fr.drew (Fr.refl no w))) him HX1.out (by omega)).mono ?_
  rintro e w2 ⟨rfl, ho, hf⟩
  have hf2 : Fr (fun k => k = g) w w2 := hD.out.mono (fun _ _ h => h.elim) |>.trans hf (fun _ _ h => h)
  have HO := Lib.hid ho; have F2 := Lib.hid hf2; clear ho hf hf2 d0 i0 b0 b1 bz blt
  have x2 := (one_cell (F2.out.heap U1.out hxg)).1
  obtain ⟨b0, b1, bz, blt⟩ := two_cells (F2.out.heap HB.out.at_ hgp)
  have X2 := Lib.hid x2; clear x2
  go_wp2_with fail
  refine hK _ _ X2.out ?_
  clear hK K
  iterate 2
    first | refine wpX_pu rfl rfl rfl (by first | exact pu_move rfl | exact pu_assign rfl | exact pu_nilCheck rfl rfl | exact pu_binInt rfl rfl rfl | exact pu_conv rfl rfl (by kernel_rfl) | exact pu_fld rfl (by kernel_rfl) | exact pu_ix rfl rfl rfl (by kernel_rfl) | exact pu_unOp rfl | exact pu_binStr rfl rfl rfl | exact pu_len rfl rfl | exact pu_lens rfl rfl | exact pu_pick rfl | exact pu_slice rfl rfl) (fun K hK => ?_) | refine wpX_rd rfl rfl rfl (rd_load rfl) (fun K hK => ?_) | refine wpX_gr rfl rfl rfl (by first | exact gr_buildSlice rfl | exact gr_box rfl | exact gr_alloc rfl) (fun K hK => ?_) | refine wpX_ex rfl rfl rfl (fun K hK => ?_)
    try go_wp2
  refine wpX_es rfl rfl rfl (fun K hK => ?_)
  go_wp2
  have hpa := hp_same (F2.out.heap HB.out.at_ hgp) 0 (.slice (some ⟨g, 0, none⟩) m c)
  have hfa : Fr (fun k => k = p) w2 (w2.setCell ⟨p, 0, none⟩ (.slice (some ⟨g, 0, none⟩) m c)) := Fr.setCell (Fr.refl (fun k => k = p) w2) ⟨p, 0, none⟩ _ (fun _ => rfl)
  have hxa := hfa.cell X2.out hxp
  refine hK _ _ hxa ?_
  clear hK K b0 b1 bz blt
  refine wpX_done ?_
  have hl := HM.out
  have hel : (l.eraseIdx i).length = m := by rw [List.length_eraseIdx]; split <;> omega
  have hro : Ow (w2.setCell ⟨p, 0, none⟩ (.slice (some ⟨g, 0, none⟩) m c)) 36 3 (.slice (some ⟨g, 0, none⟩) m c) (l.eraseIdx i).length ((l.eraseIdx i).flatMap SpV.cells) := by
    have h1 := HO.out.kept hfa (fun k hk e => hgp (((by simpa [Value.ownBlock] using hk : g = k).trans e).symm))
    rw [hel, List.eraseIdx_eq_take_drop_succ, List.flatMap_append, ← flat_take3, ← flat_drop3]
    exact h1
  have hff : Fr (fun k => k = p ∨ (Value.slice (some ⟨g, 0, none⟩) (m + 1) c).ownBlock = some k) w (w2.setCell ⟨p, 0, none⟩ (.slice (some ⟨g, 0, none⟩) m c)) := (F2.out.mono (fun k _ e => .inr (by rw [e]; rfl))).trans hfa (fun k _ e => .inl e)
  have hst := Bb.step (l1 := l.eraseIdx i) (lv1 := .slice (some ⟨g, 0, none⟩) m c) HB.out rfl (fun x hx => .inl (List.mem_of_mem_eraseIdx hx)) (fun x hx => .inl (List.mem_of_mem_eraseIdx hx)) hff hpa hro rfl
  exact bodyPost_end (results_none rfl _ _ _) rfl ⟨rfl, .slice (some ⟨g, 0, none⟩) m c, rfl, hst, hff⟩

/-- What undoes a change, called. -/
theorem undo_any (w : World) (p : Nat) (lv uv : Value) (l : List SpV) (us0 us : List Und) (u : Und) (hb : Bb w p lv l uv us0 (u :: us)) (hl : l.length ≤ 100000) :
    ∃ f lb, u.val = .func (.func f) #[] lb ∧ (f = 127 ∨ f = 129) ∧ Calls Try.prog f lb w fun e w' => Undone w w' p lv l uv us0 us u e := by
  cases u with
  | set bw bx bi i was => exact ⟨_, _, rfl, .inl rfl, undo_set w p lv uv l us0 us bw bx bi i was hb⟩
  | ins bx bi i => exact ⟨_, _, rfl, .inr rfl, undo_ins w p lv uv l us0 us bx bi i hb hl⟩
end Go.Proofs.Ytdnohhlgaaihmaa
