import Derived.Test.YtdnohhlgaaihmaaMd06

/- package buffer: a buffer, and how its changes are undone. -/
namespace Go.Proofs.Ytdnohhlgaaihmaa
open Go.RowKit

/-- What a value of a change or span takes up. -/
def BlC (x : SpV) (k : Nat) : Prop := x.F.ownBlock = some k ∨ x.T.ownBlock = some k

/-- An undoing: its boxes, the place, and what was there. -/
inductive Und where
  | set (bw bx bi i : Nat) (was : SpV)
  | ins (bx bi i : Nat)

namespace Und
def val : Und → Value
  | .set bw bx bi _ _ => .func (.func 127) #[] #[.pointer (some ⟨bw, 0, none⟩), .pointer (some ⟨bx, 0, none⟩), .pointer (some ⟨bi, 0, none⟩)]
  | .ins bx bi _ => .func (.func 129) #[] #[.pointer (some ⟨bx, 0, none⟩), .pointer (some ⟨bi, 0, none⟩)]
/-- Its boxes. -/
def Ok (w : World) (p : Nat) : Und → Prop
  | .set bw bx bi i was => w.heap[bw]? = some (.cells #[was.F, was.T, .bool was.o] 36 (0, 0)) ∧ w.heap[bx]? = some (.cells #[.pointer (some ⟨p, 0, none⟩)] 25 (0, 0)) ∧ w.heap[bi]? = some (.cells #[.int .i64 i] 3 (0, 0)) ∧ was.Good w
  | .ins bx bi i => w.heap[bx]? = some (.cells #[.pointer (some ⟨p, 0, none⟩)] 25 (0, 0)) ∧ w.heap[bi]? = some (.cells #[.int .i64 i] 3 (0, 0))
/-- What it takes up. -/
def blk : Und → Nat → Prop
  | .set bw bx bi _ was, k => k = bw ∨ k = bx ∨ k = bi ∨ BlC was k
  | .ins bx bi _, k => k = bx ∨ k = bi
/-- What it does. -/
def back : Und → List SpV → List SpV
  | .set _ _ _ i was, l => l.set i was
  | .ins _ _ i, l => l.eraseIdx i
def fits : Und → List SpV → Prop
  | .set _ _ _ i _, l => i < l.length
  | .ins _ _ i, l => i < l.length
theorem Ok.kept {w w1 : World} {p : Nat} {u : Und} {S : Nat → Prop} (h : u.Ok w p) (f : Fr S w w1) (hn : ∀ k, u.blk k → ¬ S k) : u.Ok w1 p := by
  cases u with
  | set bw bx bi i was => exact ⟨f.heap h.1 (hn _ (.inl rfl)), f.heap h.2.1 (hn _ (.inr (.inl rfl))), f.heap h.2.2.1 (hn _ (.inr (.inr (.inl rfl)))), h.2.2.2.kept f (fun k hk => hn k (.inr (.inr (.inr (.inl hk))))) (fun k hk => hn k (.inr (.inr (.inr (.inr hk)))))⟩
  | ins bx bi i => exact ⟨f.heap h.1 (hn _ (.inl rfl)), f.heap h.2 (hn _ (.inr rfl))⟩
end Und

/-- How a list of changes came: the newest first. -/
def Hist : List Und → List SpV → Prop
  | [], l => l = []
  | u :: us, l => u.fits l ∧ Ris (u.back l) ∧ Hist us (u.back l)

/-- A buffer at block p. -/
structure Bf (w : World) (p : Nat) (lv : Value) (l : List SpV) (uv : Value) (us : List Und) : Prop where
  at_ : w.heap[p]? = some (.cells #[lv, uv] 112 (0, 0))
  row : Ow w 36 3 lv l.length (l.flatMap SpV.cells)
  good : ∀ x ∈ l, x.Good w
  undo : Ow w 1 1 uv us.length (us.reverse.map Und.val)
  uok : ∀ u ∈ us, u.Ok w p
  ris : Ris l
  hist : Hist us l
  nl : lv.ownBlock ≠ some p
  nu : uv.ownBlock ≠ some p
  lu : ∀ k, lv.ownBlock = some k → uv.ownBlock ≠ some k
  apart : ∀ k, ((∃ x ∈ l, BlC x k) ∨ ∃ u ∈ us, u.blk k) → k ≠ p ∧ lv.ownBlock ≠ some k ∧ uv.ownBlock ≠ some k ∧ k < w.heap.size

/-- What it takes up. -/
def BfF (p : Nat) (lv : Value) (l : List SpV) (uv : Value) (us : List Und) : Nat → Prop := fun k => k = p ∨ lv.ownBlock = some k ∨ uv.ownBlock = some k ∨ (∃ x ∈ l, BlC x k) ∨ ∃ u ∈ us, u.blk k

theorem Bf.kept {w w1 : World} {p : Nat} {lv uv : Value} {l : List SpV} {us : List Und} {S : Nat → Prop} (h : Bf w p lv l uv us) (f : Fr S w w1) (hn : ∀ k, BfF p lv l uv us k → ¬ S k) : Bf w1 p lv l uv us :=
  ⟨f.heap h.at_ (hn p (.inl rfl)), h.row.kept f (fun k hk => hn k (.inr (.inl hk))), fun x hx => (h.good x hx).kept f (fun k hk => hn k (.inr (.inr (.inr (.inl ⟨x, hx, .inl hk⟩))))) (fun k hk => hn k (.inr (.inr (.inr (.inl ⟨x, hx, .inr hk⟩))))),
    h.undo.kept f (fun k hk => hn k (.inr (.inr (.inl hk)))), fun u hu => (h.uok u hu).kept f (fun k hk => hn k (.inr (.inr (.inr (.inr ⟨u, hu, hk⟩))))), h.ris, h.hist, h.nl, h.nu, h.lu, fun k hk => by
      obtain ⟨a, b, c, d⟩ := h.apart k hk; exact ⟨a, b, c, Nat.lt_of_lt_of_le d f.size⟩⟩
theorem Bf.kept0 {w w1 : World} {p : Nat} {lv uv : Value} {l : List SpV} {us : List Und} (h : Bf w p lv l uv us) (f : Fr no w w1) : Bf w1 p lv l uv us := h.kept f (fun _ _ h => h)
theorem Bf.lt {w : World} {p : Nat} {lv uv : Value} {l : List SpV} {us : List Und} (h : Bf w p lv l uv us) : ∀ k, BfF p lv l uv us k → k < w.heap.size := by
  rintro k (rfl | hk | hk | hk)
  · exact (Array.getElem?_eq_some_iff.1 h.at_).1
  · exact h.row.lt k hk
  · exact h.undo.lt k hk
  · exact (h.apart k hk).2.2.2

theorem two_cells {w : World} {g : Nat} {x y : Value} {T : TypeId} (h : w.heap[g]? = some (.cells #[x, y] T (0, 0))) :
    w.cell? ⟨g, 0, none⟩ = some x ∧ w.cell? ⟨g, 1, none⟩ = some y ∧ (∀ j, w.frozen? ⟨g, j, none⟩ = false) ∧ g < w.heap.size :=
  ⟨by rw [cell_of_row _ _ _ _ _ (0, 0) h]; rfl, by rw [cell_of_row _ _ _ _ _ (0, 0) h]; rfl, fun j => by simp [World.frozen?, h], (Array.getElem?_eq_some_iff.1 h).1⟩
theorem one_cell {w : World} {g : Nat} {x : Value} {T : TypeId} (h : w.heap[g]? = some (.cells #[x] T (0, 0))) :
    w.cell? ⟨g, 0, none⟩ = some x ∧ (∀ j, w.frozen? ⟨g, j, none⟩ = false) ∧ g < w.heap.size :=
  ⟨by rw [cell_of_row _ _ _ _ _ (0, 0) h]; rfl, fun j => by simp [World.frozen?, h], (Array.getElem?_eq_some_iff.1 h).1⟩

set_option maxRecDepth 100000 in
set_option maxHeartbeats 400000 in
theorem bnew_any (w : World) :
    Calls Try.prog 33 #[] w fun e w' => ∃ p, e = .returned (.pointer (some ⟨p, 0, none⟩)) ∧ w.heap.size ≤ p ∧ Bf w' p (.slice none 0 0) [] (.slice none 0 0) [] ∧ Fr no w w' := by
  go_enter Try.func33, Try.ntmps33
  go_wp2
  go_ret
  refine ⟨_, rfl, Nat.le_refl _, ⟨heap_alloc_new _ _, ⟨rfl, .inl ⟨rfl, rfl⟩⟩, (fun x hx => nomatch hx), ⟨rfl, .inl ⟨rfl, rfl⟩⟩, (fun x hx => nomatch hx), List.Pairwise.nil, rfl, by simp [Value.ownBlock], by simp [Value.ownBlock], fun k hk => by simp [Value.ownBlock] at hk, ?_⟩, (Fr.refl no w).alloc _⟩
  rintro k (⟨x, hx, _⟩ | ⟨x, hx, _⟩) <;> cases hx

set_option maxRecDepth 100000 in
set_option maxHeartbeats 400000 in
theorem blen_any (w : World) (p : Nat) (lv uv : Value) (l : List SpV) (us : List Und) (h : Bf w p lv l uv us) :
    Calls Try.prog 28 #[.pointer (some ⟨p, 0, none⟩)] w fun e w' => e = .returned (.int .i64 l.length) ∧ w' = w := by
  obtain ⟨A, c, rfl, _, _⟩ := h.row.form
  obtain ⟨c0, _, _, _⟩ := two_cells h.at_
  clear h
  go_enter Try.func28, Try.ntmps28
  go_wp2
  go_ret
  exact ⟨rfl, rfl⟩
set_option maxRecDepth 100000 in
set_option maxHeartbeats 400000 in
theorem bmark_any (w : World) (p : Nat) (lv uv : Value) (l : List SpV) (us : List Und) (h : Bf w p lv l uv us) :
    Calls Try.prog 29 #[.pointer (some ⟨p, 0, none⟩)] w fun e w' => e = .returned (.int .i64 us.length) ∧ w' = w := by
  obtain ⟨A, c, rfl, _, _⟩ := h.undo.form
  obtain ⟨_, c0, _, _⟩ := two_cells h.at_
  clear h
  go_enter Try.func29, Try.ntmps29
  go_wp2
  go_ret
  exact ⟨rfl, rfl⟩

set_option maxRecDepth 100000 in
set_option maxHeartbeats 400000 in
theorem at_any (w : World) (p : Nat) (lv uv K : Value) (l : List SpV) (us : List Und) (k : List UInt8) (h : Bf w p lv l uv us) (hK : Sl w 1 K k.length (bvs k)) (hl : l.length ≤ 1000000) :
    Calls Try.prog 68 #[.pointer (some ⟨p, 0, none⟩), K] w fun e w' => e = .returned (.tuple #[.int .i64 (posK l k), .bool (saidK l k)]) ∧ Fr no w w' := by
  obtain ⟨A, c, rfl, _, _⟩ := h.row.form
  obtain ⟨c0, _, _, _⟩ := two_cells h.at_
  have HB := Lib.hid h; have HK := Lib.hid hK; clear h hK
  go_enter Try.func68, Try.ntmps68
  go_wp2_with fail
  refine (search_any w _ K l k HB.out.row.sl HB.out.good HK.out HB.out.ris hl).mono ?_
  rintro e w1 ⟨rfl, f1⟩
  have F1 := Lib.hid f1; clear f1
  go_wp2
  refine bodyPost_ret (results_tmp2 rfl _ _ _) rfl ?_
  exact ⟨rfl, F1.out⟩
end Go.Proofs.Ytdnohhlgaaihmaa

/- package buffer: what say does, plainly. -/
namespace Go.Proofs.Ytdnohhlgaaihmaa
open Go.RowKit

theorem flat_take3 (l : List SpV) (i : Nat) : (l.flatMap SpV.cells).take (i * 3) = (l.take i).flatMap SpV.cells := by
  induction l generalizing i with
  | nil => simp
  | cons a l ih =>
    cases i with
    | zero => simp
    | succ i =>
      rw [List.take_succ_cons, List.flatMap_cons, List.flatMap_cons, ← ih, Nat.succ_mul, Nat.add_comm]
      show (a.cells ++ _).take (a.cells.length + i * 3) = _
      rw [List.take_length_add_append]

theorem flat_drop3 (l : List SpV) (i : Nat) : (l.flatMap SpV.cells).drop (i * 3) = (l.drop i).flatMap SpV.cells := by
  induction l generalizing i with
  | nil => simp
  | cons a l ih =>
    cases i with
    | zero => simp
    | succ i =>
      rw [List.drop_succ_cons, List.flatMap_cons, ← ih, Nat.succ_mul, Nat.add_comm]
      show (a.cells ++ _).drop (a.cells.length + i * 3) = _
      rw [List.drop_length_add_append]

theorem flat_set3 (l : List SpV) (i : Nat) (x : SpV) (h : i < l.length) : (((l.flatMap SpV.cells).set (i * 3) x.F).set (i * 3 + 1) x.T).set (i * 3 + 2) (.bool x.o) = (l.set i x).flatMap SpV.cells := by
  induction l generalizing i with
  | nil => simp at h
  | cons a l ih =>
    cases i with
    | zero => simp [SpV.cells]
    | succ i =>
      have := ih i (by simpa using h)
      rw [List.set_cons_succ, List.flatMap_cons, List.flatMap_cons, ← this]
      rw [show (i + 1) * 3 = i * 3 + 3 by omega]
      simp [SpV.cells, Nat.add_right_comm]

/-- A change kept. -/
def sayL (l : List SpV) (x : SpV) : List SpV := if saidK l x.f then l.set (posK l x.f) x else l.take (posK l x.f) ++ x :: l.drop (posK l x.f)

theorem said_at {l : List SpV} {k : List UInt8} (h : saidK l k = true) : ∃ h : posK l k < l.length, l[posK l k].f = k := by
  unfold saidK at h
  cases e : l[posK l k]? with
  | none => rw [e] at h; cases h
  | some y =>
    rw [e] at h
    obtain ⟨h1, rfl⟩ := List.getElem?_eq_some_iff.1 e
    exact ⟨h1, cb_eq (by simpa using h)⟩
theorem said_not {l : List SpV} {k : List UInt8} (h : saidK l k = false) (hl : posK l k < l.length) : lt k l[posK l k].f := by
  unfold saidK at h
  rw [List.getElem?_eq_getElem hl] at h
  have h1 : ¬ cb l[posK l k].f k = 0 := by simpa using h
  have h2 := posK_ge hl
  unfold lt
  have := cb_swap l[posK l k].f k
  omega

theorem ris_set {l : List SpV} {i : Nat} {x : SpV} (h : Ris l) (hi : i < l.length) (he : l[i].f = x.f) : Ris (l.set i x) := by
  unfold Ris at *
  rw [List.pairwise_iff_getElem] at *
  intro a b ha hb hab
  simp only [List.length_set] at ha hb
  simp only [List.getElem_set]
  by_cases h1 : i = a
  · subst h1
    rw [if_pos rfl, if_neg (by omega), ← he]
    exact h _ _ ha hb hab
  · by_cases h2 : i = b
    · subst h2
      rw [if_pos rfl, if_neg h1, ← he]
      exact h _ _ ha hb hab
    · rw [if_neg h1, if_neg h2]
      exact h _ _ ha hb hab

theorem ris_ins {l : List SpV} {x : SpV} (h : Ris l) (hs : saidK l x.f = false) : Ris (l.take (posK l x.f) ++ x :: l.drop (posK l x.f)) := by
  unfold Ris at *
  have h1 : ∀ y ∈ l.take (posK l x.f), lt y.f x.f := by
    intro y hy
    obtain ⟨i, hi, rfl⟩ := List.getElem_of_mem hy
    rw [List.getElem_take]
    exact posK_lt i (by simp at hi; omega) (by simp at hi; omega)
  have h2 : ∀ y ∈ l.drop (posK l x.f), lt x.f y.f := by
    intro y hy
    obtain ⟨i, hi, rfl⟩ := List.getElem_of_mem hy
    rw [List.getElem_drop]
    simp only [List.length_drop] at hi
    have h3 := said_not hs (by omega)
    rcases Nat.eq_zero_or_pos i with rfl | h0
    · exact h3
    · exact lt_trans h3 (List.pairwise_iff_getElem.1 h _ _ (by omega) (by omega) (by omega))
  rw [List.pairwise_append]
  refine ⟨h.sublist (List.take_sublist _ _), List.pairwise_cons.2 ⟨h2, h.sublist (List.drop_sublist _ _)⟩, fun a ha b hb => ?_⟩
  rcases List.mem_cons.1 hb with rfl | hb
  · exact h1 a ha
  · exact lt_trans (h1 a ha) (h2 b hb)

theorem ris_say {l : List SpV} {x : SpV} (h : Ris l) : Ris (sayL l x) := by
  unfold sayL
  cases hs : saidK l x.f with
  | true => obtain ⟨h1, h2⟩ := said_at hs; exact ris_set h h1 h2
  | false => exact ris_ins h hs

theorem set_back (l : List SpV) (i : Nat) (x : SpV) (hi : i < l.length) : (l.set i x).set i l[i] = l := by
  rw [List.set_set]; exact List.set_getElem_self hi
theorem ins_back (l : List SpV) (i : Nat) (x : SpV) (hi : i ≤ l.length) : (l.take i ++ x :: l.drop i).eraseIdx i = l := by
  have e : (l.take i).length = i := by simp; omega
  rw [List.eraseIdx_append_of_length_le (by omega), e, Nat.sub_self]
  simp

/-- What is said of k. -/
def getK (l : List SpV) (k : List UInt8) : Option SpV := l.find? fun y => y.f == k

theorem ris_find {l : List SpV} (h : Ris l) {y : SpV} (hy : y ∈ l) : getK l y.f = some y := by
  unfold getK Ris at *
  induction l with
  | nil => cases hy
  | cons a l ih =>
    rw [List.find?_cons]
    rcases List.mem_cons.1 hy with rfl | hy
    · simp
    · obtain ⟨h1, h2⟩ := List.pairwise_cons.1 h
      have : ¬ a.f = y.f := fun e => by have := h1 y hy; rw [e] at this; exact lt_irrefl this
      simp only [show (a.f == y.f) = false by simpa using this]
      exact ih h2 hy
theorem find_none {l : List SpV} {k : List UInt8} (h : ∀ y ∈ l, y.f ≠ k) : getK l k = none := by
  unfold getK
  rw [List.find?_eq_none]
  intro y hy
  simpa using h y hy
theorem mem_say {l : List SpV} {x y : SpV} (h : Ris l) : y ∈ sayL l x ↔ y = x ∨ (y ∈ l ∧ y.f ≠ x.f) := by
  unfold sayL
  cases hs : saidK l x.f with
  | true =>
    obtain ⟨h1, h2⟩ := said_at hs
    simp only [if_true]
    constructor
    · intro hy
      obtain ⟨i, hi, rfl⟩ := List.getElem_of_mem hy
      simp only [List.length_set] at hi
      rw [List.getElem_set]
      split
      · exact .inl rfl
      · rename_i hne
        refine .inr ⟨List.getElem_mem _, fun e => ?_⟩
        rcases Nat.lt_or_gt_of_ne hne with h3 | h3
        · have := List.pairwise_iff_getElem.1 h _ _ h1 hi h3
          rw [h2, e] at this; exact lt_irrefl this
        · have := List.pairwise_iff_getElem.1 h _ _ hi h1 h3
          rw [h2, e] at this; exact lt_irrefl this
    · rintro (rfl | ⟨hy, hne⟩)
      · exact List.mem_set h1 _
      · obtain ⟨i, hi, rfl⟩ := List.getElem_of_mem hy
        have : posK l x.f ≠ i := fun e => hne (by subst e; exact h2)
        have e : (l.set (posK l x.f) x)[i]'(by simpa using hi) = l[i] := by rw [List.getElem_set_ne this]
        rw [← e]; exact List.getElem_mem _
  | false =>
    have hne : ∀ z ∈ l, z.f ≠ x.f := by
      intro z hz e
      have hr := ris_ins h hs
      obtain ⟨i, hi, rfl⟩ := List.getElem_of_mem hz
      by_cases h3 : i < posK l x.f
      · have := posK_lt i hi h3
        rw [e, cb_self] at this; omega
      · have h4 := said_not hs (by omega)
        rcases Nat.eq_or_lt_of_le (Nat.le_of_not_lt h3) with h5 | h5
        · subst h5; rw [e] at h4; exact lt_irrefl h4
        · have := lt_trans h4 (List.pairwise_iff_getElem.1 h _ _ (by omega) hi h5)
          rw [e] at this; exact lt_irrefl this
    simp only [Bool.false_eq_true, if_false, List.mem_append, List.mem_cons]
    constructor
    · rintro (hy | rfl | hy)
      · exact .inr ⟨List.mem_of_mem_take hy, hne y (List.mem_of_mem_take hy)⟩
      · exact .inl rfl
      · exact .inr ⟨List.mem_of_mem_drop hy, hne y (List.mem_of_mem_drop hy)⟩
    · rintro (rfl | ⟨hy, _⟩)
      · exact .inr (.inl rfl)
      · rw [← List.take_append_drop (posK l x.f) l] at hy
        rcases List.mem_append.1 hy with hy | hy
        · exact .inl hy
        · exact .inr (.inr hy)
theorem get_say {l : List SpV} (x : SpV) (h : Ris l) (k : List UInt8) : getK (sayL l x) k = if x.f = k then some x else getK l k := by
  by_cases hk : x.f = k
  · subst hk
    rw [if_pos rfl]
    exact ris_find (ris_say h) ((mem_say h).2 (.inl rfl))
  · rw [if_neg hk]
    cases hg : getK l k with
    | none =>
      refine find_none fun y hy e => ?_
      rcases (mem_say h).1 hy with rfl | ⟨h1, _⟩
      · exact hk e
      · have := ris_find h h1
        rw [e, hg] at this; cases this
    | some y =>
      have hy : y ∈ l := List.mem_of_find?_eq_some hg
      have hf : y.f = k := by have := List.find?_some hg; simpa using this
      have := ris_find (ris_say (x := x) h) ((mem_say h).2 (.inr ⟨hy, by rw [hf]; exact fun e => hk e.symm⟩))
      rw [hf] at this; exact this
end Go.Proofs.Ytdnohhlgaaihmaa
