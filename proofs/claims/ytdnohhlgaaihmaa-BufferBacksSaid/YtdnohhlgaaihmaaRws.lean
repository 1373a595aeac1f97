/- Rws of one kind, each of its own. General. -/
import Derived.Test.YtdnohhlgaaihmaaApo
namespace Go
open Go.RowKit

namespace Ow
variable {w w1 : World} {e sz n : Nat} {v : Value} {xs : List Value} {S : Nat → Prop}
theorem form (h : Ow w e sz v n xs) : ∃ A c, v = .slice A n c ∧ n ≤ c ∧ c ≤ maxLen := h.sl.form
theorem head {A : Option Addr} {c : Nat} (h : Ow w e sz (.slice A n c) n xs) (m : Nat) (hm : m ≤ n) : Ow w e sz (.slice A m c) m (xs.take (m * sz)) := by
  have hl := h.1
  have hmul : m * sz ≤ n * sz := Nat.mul_le_mul_right _ hm
  refine ⟨by rw [List.length_take]; omega, ?_⟩
  rcases h.2 with ⟨h1, h2⟩ | ⟨g, cap, cur, h1, hg, h2, h3, h4, h5⟩
  · cases h1
    obtain rfl : m = 0 := by omega
    exact .inl ⟨rfl, rfl⟩
  · cases h1
    exact .inr ⟨g, c, cur, rfl, hg, by omega, h3, h4, by rw [← h5, List.take_take, Nat.min_eq_left hmul]⟩
/-- The cells of element k. -/
theorem cells (h : Ow w e sz v n xs) (k : Nat) (hk : k < n) : ∃ g c, v = .slice (some ⟨g, 0, none⟩) n c ∧ n ≤ c ∧ c ≤ maxLen ∧ g < w.heap.size ∧ (∀ o, w.frozen? ⟨g, o, none⟩ = false) ∧
    (∀ (j : Nat) u, xs[j]? = some u → w.cell? ⟨g, j, none⟩ = some u) := by
  rcases h.2 with ⟨h1, h2⟩ | ⟨g, cap, cur, h1, hg, h2, h3, h4, h5⟩
  · omega
  · refine ⟨g, cap, h1, h2, h3, (Array.getElem?_eq_some_iff.1 hg).1, fun o => by simp [World.frozen?, hg], fun j u hu => ?_⟩
    rw [cell_of_row w g j cur e (0, 0) hg]
    rw [← h5, List.getElem?_take] at hu
    split at hu
    · simpa using hu
    · cases hu
/-- One cell of it written. -/
theorem set {g c j : Nat} (h : Ow w e sz (.slice (some ⟨g, 0, none⟩) n c) n xs) (hj : j < xs.length) (u : Value) : Ow (w.setCell ⟨g, j, none⟩ u) e sz (.slice (some ⟨g, 0, none⟩) n c) n (xs.set j u) := by
  refine ⟨by rw [List.length_set]; exact h.1, ?_⟩
  rcases h.2 with ⟨h1, h2⟩ | ⟨g', cap, cur, h1, hg, h2, h3, h4, h5⟩
  · cases h1
  · cases h1
    refine .inr ⟨g, c, cur.setIfInBounds j u, rfl, hp_same hg j u, h2, h3, by simpa using h4, ?_⟩
    rw [Array.toList_setIfInBounds, List.take_set, h5]
end Ow

/-- The rows vs: the j-th has C j, in a block of its own. -/
structure Rws (w : World) (e : TypeId) (sz : Nat) (vs : List Value) (ns : Nat → Nat) (C : Nat → List Value) : Prop where
  row : ∀ j (h : j < vs.length), Ow w e sz vs[j] (ns j) (C j)
  apart : ∀ i j (hi : i < vs.length) (hj : j < vs.length) b, i ≠ j → vs[i].ownBlock = some b → vs[j].ownBlock ≠ some b

def InRows (vs : List Value) : Nat → Prop := fun b => ∃ v ∈ vs, v.ownBlock = some b

namespace Rws
variable {w w1 : World} {e sz : Nat} {vs : List Value} {ns : Nat → Nat} {C : Nat → List Value} {S : Nat → Prop}
theorem kept (h : Rws w e sz vs ns C) (f : Fr S w w1) (hn : ∀ b, InRows vs b → ¬ S b) : Rws w1 e sz vs ns C :=
  ⟨fun j hj => (h.row j hj).kept f (fun k hk => hn k ⟨_, List.getElem_mem hj, hk⟩), h.apart⟩
/-- One row turned. -/
theorem one (h : Rws w e sz vs ns C) (i : Nat) (hi : i < vs.length) (f : Fr (fun b => vs[i].ownBlock = some b) w w1) (c : List Value) (hr : Ow w1 e sz vs[i] (ns i) c) : Rws w1 e sz vs ns (fun j => if j = i then c else C j) := by
  refine ⟨fun j hj => ?_, h.apart⟩
  by_cases hji : j = i
  · subst hji; simpa using hr
  · simp only [hji, if_false]
    exact (h.row j hj).kept f (fun k hk => fun hk2 => h.apart i j hi hj k (fun e => hji e.symm) hk2 hk)
theorem congr {C' : Nat → List Value} (h : Rws w e sz vs ns C) (hc : ∀ j, j < vs.length → C j = C' j) : Rws w e sz vs ns C' :=
  ⟨fun j hj => by rw [← hc j hj]; exact h.row j hj, h.apart⟩
theorem lt (h : Rws w e sz vs ns C) : ∀ b, InRows vs b → b < w.heap.size := by
  rintro b ⟨v, hv, hb⟩
  obtain ⟨j, hj, rfl⟩ := List.getElem_of_mem hv
  exact (h.row j hj).lt b hb
end Rws

/-- Marks: of row i, place k. -/
def mks (m : Int → Nat → List Value) (i : Int) (n : Nat) : List Value := (List.range n).flatMap (m i)

theorem mks_succ (m : Int → Nat → List Value) (i : Int) (n : Nat) : mks m i (n + 1) = mks m i n ++ m i n := by simp [mks, List.range_succ]
theorem mks_len {m : Int → Nat → List Value} {sz : Nat} (hm : ∀ i k, (m i k).length = sz) (i : Int) (n : Nat) : (mks m i n).length = n * sz := by
  induction n with
  | zero => simp [mks]
  | succ n ih => rw [mks_succ, List.length_append, ih, hm, Nat.succ_mul]
theorem mks_take {m : Int → Nat → List Value} {sz : Nat} (hm : ∀ i k, (m i k).length = sz) (i : Int) (k n : Nat) (h : k ≤ n) : (mks m i n).take (k * sz) = mks m i k := by
  induction n with
  | zero =>
    obtain rfl : k = 0 := by omega
    simp [mks]
  | succ n ih =>
    by_cases hk : k = n + 1
    · subst hk
      exact List.take_of_length_le (by rw [mks_len hm]; exact Nat.le_refl _)
    · rw [mks_succ, List.take_append_of_le_length (by rw [mks_len hm]; exact Nat.mul_le_mul_right _ (by omega)), ih (by omega)]
theorem mks_get {m : Int → Nat → List Value} {sz : Nat} (hm : ∀ i k, (m i k).length = sz) (i : Int) (k n : Nat) (h : k < n) (j : Nat) (hj : j < sz) : (mks m i n)[k * sz + j]? = (m i k)[j]? := by
  have h1 := mks_take hm i (k + 1) n h
  have h2 : (mks m i n)[k * sz + j]? = ((mks m i n).take ((k + 1) * sz))[k * sz + j]? := by
    rw [List.getElem?_take, if_pos (by rw [Nat.succ_mul]; omega)]
  rw [h2, h1, mks_succ, List.getElem?_append_right (by rw [mks_len hm]; omega), mks_len hm]
  congr 1
  omega

end Go
