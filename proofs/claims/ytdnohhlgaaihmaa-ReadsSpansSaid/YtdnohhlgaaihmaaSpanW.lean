/- reads.Set: the walk of Span. -/
import Derived.Test.YtdnohhlgaaihmaaSetSpan
namespace Go.Proofs.Ytdnohhlgaaihmaa
open Go.RowKit

/-- Midway: the set as it was, x in a variable px; its bytes lie in new rows, or in rows of the set. -/
structure Mid (w wr : World) (p px : Nat) (sv : Value) (l : List SpV) (x : SpV) : Prop where
  v : VarAt wr px x
  fr : Fr (At px) w wr
  good : x.Good wr
  new : ∀ k, x.F.ownBlock = some k ∨ x.T.ownBlock = some k → (px < k ∧ k < wr.heap.size) ∨ ∃ y ∈ l, y.F.ownBlock = some k ∨ y.T.ownBlock = some k
  set : Se wr p sv l
  px : px = w.heap.size

theorem Mid.kept0 {w wr w1 : World} {p px : Nat} {sv : Value} {l : List SpV} {x : SpV} (h : Mid w wr p px sv l x) (f : Fr no wr w1) : Mid w w1 p px sv l x :=
  ⟨h.v.kept f (fun h => h), h.fr.trans f (fun _ _ h => h.elim), h.good.kept0 f, fun k hk => by
    rcases h.new k hk with h1 | h1
    · have := f.size; exact .inl ⟨h1.1, by omega⟩
    · exact .inr h1, h.set.kept0 f, h.px⟩

theorem Mid.turn {w wr w1 : World} {p px : Nat} {sv : Value} {l : List SpV} {x x' : SpV} (h0 : Se w p sv l) (h : Mid w wr p px sv l x) (f : Fr (At px) wr w1) (hv : VarAt w1 px x')
    (hF : (x'.F = x.F ∧ x'.f = x.f) ∨ ∃ y ∈ l, x'.F = y.F ∧ x'.f = y.f) (hT : (x'.T = x.T ∧ x'.t = x.t) ∨ (x'.T = .slice none 0 0 ∧ x'.t = []) ∨ ∃ y ∈ l, x'.T = y.T ∧ x'.t = y.t) : Mid w w1 p px sv l x' := by
  have hpx := h.px
  have hold : ∀ y ∈ l, ∀ k, y.F.ownBlock = some k ∨ y.T.ownBlock = some k → ¬ At px k := fun y hy k hk e => by
    have := (h0.apart y hy k hk).2.2; have e2 : k = px := e; omega
  have hx : ∀ k, x.F.ownBlock = some k ∨ x.T.ownBlock = some k → ¬ At px k := fun k hk e => by
    have e2 : k = px := e
    rcases h.new k hk with h1 | ⟨y, hy, h1⟩
    · omega
    · exact hold y hy k h1 e
  have hs := f.size
  have hnew : ∀ k, x.F.ownBlock = some k ∨ x.T.ownBlock = some k → (px < k ∧ k < w1.heap.size) ∨ ∃ y ∈ l, y.F.ownBlock = some k ∨ y.T.ownBlock = some k := fun k hk => by
    rcases h.new k hk with h1 | h1
    · exact .inl ⟨h1.1, by omega⟩
    · exact .inr h1
  have hset : Se w1 p sv l := h.set.kept f (fun k hk e => by
    have e2 : k = px := e
    rcases hk with hk | hk | ⟨y, hy, hk⟩
    · have := (one_cells h0.at_).2.2; omega
    · have := h0.row.lt k hk; omega
    · exact hold y hy k hk e)
  refine ⟨hv, h.fr.trans f (fun _ _ h => h), ⟨?_, ?_, ?_, ?_⟩, fun k hk => ?_, hset, hpx⟩
  · rcases hF with ⟨e1, e2⟩ | ⟨y, hy, e1, e2⟩
    · rw [e1, e2]; exact h.good.F.kept f (fun k hk => hx k (.inl hk))
    · rw [e1, e2]; exact (hset.good y hy).F
  · rcases hT with ⟨e1, e2⟩ | ⟨e1, e2⟩ | ⟨y, hy, e1, e2⟩
    · rw [e1, e2]; exact h.good.T.kept f (fun k hk => hx k (.inr hk))
    · rw [e1, e2]; exact Sl.nil _ _
    · rw [e1, e2]; exact (hset.good y hy).T
  · rcases hF with ⟨_, e2⟩ | ⟨y, hy, _, e2⟩
    · rw [e2]; exact h.good.lf
    · rw [e2]; exact (hset.good y hy).lf
  · rcases hT with ⟨_, e2⟩ | ⟨_, e2⟩ | ⟨y, hy, _, e2⟩
    · rw [e2]; exact h.good.lt
    · rw [e2]; simp
    · rw [e2]; exact (hset.good y hy).lt
  · rcases hk with hk | hk
    · rcases hF with ⟨e1, _⟩ | ⟨y, hy, e1, _⟩
      · rw [e1] at hk; exact hnew k (.inl hk)
      · rw [e1] at hk; exact .inr ⟨y, hy, .inl hk⟩
    · rcases hT with ⟨e1, _⟩ | ⟨e1, _⟩ | ⟨y, hy, e1, _⟩
      · rw [e1] at hk; exact hnew k (.inr hk)
      · rw [e1] at hk; simp [Value.ownBlock] at hk
      · rw [e1] at hk; exact .inr ⟨y, hy, .inr hk⟩

theorem flat_take3 (l : List SpV) (i : Nat) : (l.flatMap SpV.cells).take (i * 3) = (l.take i).flatMap SpV.cells := by
  induction l generalizing i with
  | nil => simp
  | cons a l ih =>
    cases i with
    | zero => simp
    | succ i =>
      rw [List.take_succ_cons, List.flatMap_cons, List.flatMap_cons, ← ih, Nat.succ_mul, Nat.add_comm]
      show (a.cells ++ _).take (a.cells.length + i * 3) = _
      rw [List.take_length_add_append]

theorem flat_drop3 (l : List SpV) (i : Nat) : (l.flatMap SpV.cells).drop (i * 3) = (l.drop i).flatMap SpV.cells := by
  induction l generalizing i with
  | nil => simp
  | cons a l ih =>
    cases i with
    | zero => simp
    | succ i =>
      rw [List.drop_succ_cons, List.flatMap_cons, ← ih, Nat.succ_mul, Nat.add_comm]
      show (a.cells ++ _).drop (a.cells.length + i * 3) = _
      rw [List.drop_length_add_append]

/-- The row stored back. -/
theorem span_fin {w W W2 w10 : World} {p px : Nat} {sv : Value} {l : List SpV} {xk : SpV} {fi m N : Nat} {A' : Option Addr} {c' : Nat} (hs : Se w p sv l) (hm : Mid w W p px sv l xk) (f0 : Fr no W W2) (hfm : fi ≤ m) (hml : m ≤ l.length) (hN : N = l.length + 1 - (m - fi))
    (ho : Ow w10 100 3 (.slice A' N c') N ((l.flatMap SpV.cells).take (fi * 3) ++ xk.cells ++ (l.flatMap SpV.cells).drop (m * 3))) (f : Fr (fun k => sv.ownBlock = some k) W2 w10) (mv : Moved W2 w10 sv (.slice A' N c')) :
    Se (w10.setCell ⟨p, 0, none⟩ (.slice A' N c')) p (.slice A' N c') (l.take fi ++ [xk] ++ l.drop m) ∧ Fr (fun k => k = p ∨ sv.ownBlock = some k) w (w10.setCell ⟨p, 0, none⟩ (.slice A' N c')) ∧
      ∀ k, SeF p (.slice A' N c') (l.take fi ++ [xk] ++ l.drop m) k → SeF p sv l k ∨ (w.heap.size ≤ k ∧ k < (w10.setCell ⟨p, 0, none⟩ (.slice A' N c')).heap.size) := by
  have hM2 := hm.kept0 f0
  have hpx := hm.px
  have hpl := (one_cells hs.at_).2.2
  have hp2 : p < W2.heap.size := (one_cells hM2.set.at_).2.2
  have hsz0 := hM2.fr.size
  have hsz1 := f.size
  have hlen : (l.take fi ++ [xk] ++ l.drop m).length = N := by simp; omega
  have hne : (Value.slice A' N c').ownBlock ≠ some p := mv.not hp2 hs.ne
  have hmem : ∀ x ∈ l.take fi ++ [xk] ++ l.drop m, x ∈ l ∨ x = xk := fun x hx => by
    simp only [List.mem_append, List.mem_singleton] at hx
    rcases hx with (hx | hx) | hx
    · exact .inl (List.mem_of_mem_take hx)
    · exact .inr hx
    · exact .inl (List.mem_of_mem_drop hx)
  -- where the bytes of the spans lie
  have hbl : ∀ x ∈ l.take fi ++ [xk] ++ l.drop m, ∀ k, x.F.ownBlock = some k ∨ x.T.ownBlock = some k → k ≠ p ∧ sv.ownBlock ≠ some k ∧ k < W2.heap.size ∧ (SeF p sv l k ∨ w.heap.size ≤ k) := fun x hx k hk => by
    have old : ∀ y ∈ l, y.F.ownBlock = some k ∨ y.T.ownBlock = some k → k ≠ p ∧ sv.ownBlock ≠ some k ∧ k < W2.heap.size ∧ (SeF p sv l k ∨ w.heap.size ≤ k) := fun y hy h => by
      obtain ⟨h1, h2, h3⟩ := hs.apart y hy k h
      exact ⟨h1, h2, by omega, .inl (.inr (.inr ⟨y, hy, h⟩))⟩
    rcases hmem x hx with h | rfl
    · exact old x h hk
    · rcases hM2.new k hk with h1 | ⟨y, hy, h1⟩
      · refine ⟨by omega, fun h2 => ?_, h1.2, .inr (by omega)⟩
        have := hs.row.lt k h2; omega
      · exact old y hy h1
  have fs : Fr (fun k => k = p ∨ sv.ownBlock = some k) W2 (w10.setCell ⟨p, 0, none⟩ (.slice A' N c')) := (f.mono (fun _ _ h => .inr h)).setCell _ _ (fun _ => .inl rfl)
  refine ⟨⟨?_, ?_, fun x hx => ?_, hne, fun x hx k hk => ?_⟩, ?_, fun k hk => ?_⟩
  · rw [hp_same ((hM2.set.at_ |> fun h => f.heap h hs.ne))]; simp
  · rw [hlen]
    have e : (l.take fi ++ [xk] ++ l.drop m).flatMap SpV.cells = (l.flatMap SpV.cells).take (fi * 3) ++ xk.cells ++ (l.flatMap SpV.cells).drop (m * 3) := by
      rw [List.flatMap_append, List.flatMap_append, flat_take3, flat_drop3]; simp
    rw [e]
    exact ho.kept (S := At p) ((Fr.refl (At p) w10).setAt _ _) (fun k hk e => hne (by rw [hk]; exact congrArg some e))
  · have hg : x.Good W2 := by
      rcases hmem x hx with h | rfl
      · exact hM2.set.good x h
      · exact hM2.good
    exact hg.kept fs (fun k hk e => by obtain ⟨h1, h2, _⟩ := hbl x hx k (.inl hk); rcases e with e | e; exact h1 e; exact h2 e) (fun k hk e => by obtain ⟨h1, h2, _⟩ := hbl x hx k (.inr hk); rcases e with e | e; exact h1 e; exact h2 e)
  · obtain ⟨h1, h2, h3, _⟩ := hbl x hx k hk
    exact ⟨h1, mv.not h3 h2, by simp [World.setCell]; omega⟩
  · have f1 : Fr (fun k => k = p ∨ k = px ∨ sv.ownBlock = some k) w W2 := hM2.fr.mono (fun k _ h => .inr (.inl h))
    have h := f1.trans fs (fun k _ h => by rcases h with h | h; exact .inl h; exact .inr (.inr h))
    exact h.mono (fun k hk h => by rcases h with h | h | h; exact .inl h; omega; exact .inr h)
  · rcases hk with hk | hk | ⟨x, hx, hk⟩
    · exact .inl (.inl hk)
    · rcases mv.blk k hk with h | h
      · exact .inl (.inr (.inl h))
      · right; simp [World.setCell]; omega
    · obtain ⟨_, _, h3, h4⟩ := hbl x hx k hk
      rcases h4 with h4 | h4
      · exact .inl h4
      · right; simp [World.setCell]; omega

theorem mt_step {l : List SpV} {m : Nat} {x : SpV} (hm : m < l.length) (hr : reach x.o x.t l[m].f = true) : SpV.mt (l.drop m) x = ((SpV.mt (l.drop (m + 1)) (SpV.merge x l[m])).1 + 1, (SpV.mt (l.drop (m + 1)) (SpV.merge x l[m])).2) := by
  rw [List.drop_eq_getElem_cons hm]
  conv => lhs; unfold SpV.mt
  rw [if_pos hr]

theorem mt_stop {l : List SpV} {m : Nat} {x : SpV} (hm : m < l.length) (hr : reach x.o x.t l[m].f = false) : SpV.mt (l.drop m) x = (0, x) := by
  rw [List.drop_eq_getElem_cons hm]
  unfold SpV.mt
  rw [if_neg (by simp [hr])]

theorem add_is {l : List SpV} {x xk : SpV} {fi m cnt : Nat} (h : fi = SpV.fst_ l x.f) (hm : m = fi + cnt) (hmt : SpV.mt (l.drop fi) x = (cnt + (SpV.mt (l.drop m) xk).1, (SpV.mt (l.drop m) xk).2)) (hst : SpV.mt (l.drop m) xk = (0, xk)) : l.take fi ++ [xk] ++ l.drop m = SpV.add l x := by
  rw [hst] at hmt
  unfold SpV.add
  rw [← h, hmt, hm]
  simp

/-- What Span leaves: the row that it comes to. -/
def Spanned (w w' : World) (p : Nat) (sv : Value) (l : List SpV) (x : SpV) (e : Ending) : Prop :=
  e = .returned (.tuple #[]) ∧ ∃ sv' l' F T, Se w' p sv' l' ∧ (l' = l ∧ x.o = false ∧ cb x.t x.f ≤ 0 ∨ (x.o = true ∨ 0 < cb x.t x.f) ∧ l' = SpV.add l ⟨F, T, x.f, if x.o then [] else x.t, x.o⟩) ∧
    Fr (fun k => k = p ∨ sv.ownBlock = some k) w w' ∧ ∀ k, SeF p sv' l' k → SeF p sv l k ∨ (w.heap.size ≤ k ∧ k < w'.heap.size)

set_option maxRecDepth 100000 in
set_option maxHeartbeats 4000000 in
theorem span_none (w : World) (p : Nat) (sv : Value) (l : List SpV) (x : SpV) (hs : Se w p sv l) (hx : x.Good w) (ho : x.o = false) (hc : cb x.t x.f ≤ 0) :
    Calls Try.prog 43 #[.pointer (some ⟨p, 0, none⟩), .agg #[x.F, x.T, .bool x.o]] w fun e w' => Spanned w w' p sv l x e := by
  obtain ⟨F, T, f, t, o⟩ := x
  simp only at ho hc
  subst ho
  have HX := Lib.hid hx; have HS := Lib.hid hs; have HC := Lib.hid hc
  have hb : decide (cb t f ≤ 0) = true := by simpa using hc
  clear hx hs hc
  go_enter Try.func43, Try.ntmps43
  go_wp2
  go_step3
  go_wp2_with fail
  refine (cmp_any _ _ _ t f (HX.out.T.kept0 ((Fr.refl no w).alloc _)) (HX.out.F.kept0 ((Fr.refl no w).alloc _))).mono ?_
  rintro e w1 ⟨rfl, rfl⟩
  go_wp2
  rw [Exit.noGoto_ret]
  refine bodyPost_ret (results_none rfl _ _ _) rfl ?_
  exact ⟨rfl, sv, l, F, T, HS.out.kept0 ((Fr.refl no w).alloc _), .inl ⟨rfl, rfl, HC.out⟩, (Fr.refl _ w).alloc _, fun k hk => .inl hk⟩

end Go.Proofs.Ytdnohhlgaaihmaa
