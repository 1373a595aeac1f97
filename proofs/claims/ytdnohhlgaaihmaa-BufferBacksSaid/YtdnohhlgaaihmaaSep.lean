/- What things of a call's own take up in memory: each its own blocks. General. -/
import Derived.Test.YtdnohhlgaaihmaaRws
namespace Go
open Go.RowKit

def Dj (S T : Nat → Prop) : Prop := ∀ k, S k → ¬ T k

theorem Dj.symm {S T : Nat → Prop} (h : Dj S T) : Dj T S := fun k h1 h2 => h k h2 h1

/-- The blocks of a slice's row. -/
def ob (v : Value) : Nat → Prop := fun k => v.ownBlock = some k

/-- One block. -/
def at1 (g : Nat) : Nat → Prop := fun k => k = g

/-- Footprints, apart from each other, of blocks from lo on, below hi. -/
structure Sep (lo hi : Nat) (F : List (Nat → Prop)) : Prop where
  dj : F.Pairwise Dj
  bd : ∀ S ∈ F, ∀ k, S k → lo ≤ k ∧ k < hi

namespace Sep
variable {lo hi hi' : Nat} {F : List (Nat → Prop)}
theorem nil (lo hi : Nat) : Sep lo hi [] := ⟨.nil, by simp⟩
theorem later (h : Sep lo hi F) (hh : hi ≤ hi') : Sep lo hi' F := ⟨h.dj, fun S hS k hk => ⟨(h.bd S hS k hk).1, Nat.lt_of_lt_of_le (h.bd S hS k hk).2 hh⟩⟩
theorem ne (h : Sep lo hi F) (i j : Nat) (hij : i ≠ j) {S T : Nat → Prop} (hi : F[i]? = some S) (hj : F[j]? = some T) : Dj S T := by
  obtain ⟨hi1, rfl⟩ := List.getElem?_eq_some_iff.1 hi
  obtain ⟨hj1, rfl⟩ := List.getElem?_eq_some_iff.1 hj
  rcases Nat.lt_or_gt_of_ne hij with h1 | h1
  · exact List.pairwise_iff_getElem.1 h.dj i j hi1 hj1 h1
  · exact (List.pairwise_iff_getElem.1 h.dj j i hj1 hi1 h1).symm
theorem lo_of (h : Sep lo hi F) (i : Nat) {S : Nat → Prop} (hS : F[i]? = some S) (k : Nat) (hk : S k) : lo ≤ k ∧ k < hi := h.bd S (List.mem_of_getElem? hS) k hk
/-- One of them goes on: in its own blocks, and in new ones. -/
theorem upd (h : Sep lo hi F) (i : Nat) {S : Nat → Prop} (S' : Nat → Prop) (hS : F[i]? = some S) (hh : hi ≤ hi') (hl : lo ≤ hi) (h' : ∀ k, S' k → S k ∨ (hi ≤ k ∧ k < hi')) : Sep lo hi' (F.set i S') := by
  have key : ∀ k, S' k → lo ≤ k ∧ k < hi' := fun k hk => by
    rcases h' k hk with h1 | h1
    · have := h.lo_of i hS k h1; omega
    · omega
  refine ⟨List.pairwise_iff_getElem.2 fun a b ha hb hab => ?_, fun T hT k hk => ?_⟩
  · simp only [List.length_set] at ha hb
    have other : ∀ c (hc : c < F.length), i ≠ c → Dj S' F[c] := fun c hc hne k hk hk2 => by
      rcases h' k hk with h1 | h1
      · exact h.ne i c hne hS (List.getElem?_eq_getElem hc) k h1 hk2
      · have := (h.lo_of c (List.getElem?_eq_getElem hc) k hk2).2; omega
    by_cases h1 : i = a
    · subst h1
      rw [List.getElem_set_self, List.getElem_set_ne (by omega)]
      exact other b hb (by omega)
    · rw [List.getElem_set_ne h1]
      by_cases h2 : i = b
      · subst h2
        rw [List.getElem_set_self]
        exact (other a ha (by omega)).symm
      · rw [List.getElem_set_ne h2]
        exact List.pairwise_iff_getElem.1 h.dj a b ha hb hab
  · rcases List.mem_or_eq_of_mem_set hT with h1 | rfl
    · have := h.bd T h1 k hk; omega
    · exact key k hk
/-- A new one. -/
theorem cons (h : Sep lo hi F) {S : Nat → Prop} (hh : hi ≤ hi') (hl : lo ≤ hi) (h' : ∀ k, S k → hi ≤ k ∧ k < hi') : Sep lo hi' (S :: F) := by
  refine ⟨List.pairwise_cons.2 ⟨fun T hT k hk hk2 => ?_, h.dj⟩, fun T hT k hk => ?_⟩
  · have := (h.bd T hT k hk2).2; have := (h' k hk).1; omega
  · rcases List.mem_cons.1 hT with rfl | h1
    · have := h' k hk; omega
    · have := h.bd T h1 k hk; omega
theorem tail {S : Nat → Prop} (h : Sep lo hi (S :: F)) : Sep lo hi F := ⟨(List.pairwise_cons.1 h.dj).2, fun T hT => h.bd T (List.mem_cons_of_mem _ hT)⟩
/-- Less of one of them. -/
theorem less (h : Sep lo hi F) (i : Nat) {S : Nat → Prop} (S' : Nat → Prop) (hS : F[i]? = some S) (hl : lo ≤ hi) (h' : ∀ k, S' k → S k) : Sep lo hi (F.set i S') := h.upd i S' hS (Nat.le_refl _) hl (fun k hk => .inl (h' k hk))
end Sep

theorem Moved.blk {w w' : World} {v v' : Value} (m : Moved w w' v v') (k : Nat) (h : ob v' k) : ob v k ∨ (w.heap.size ≤ k ∧ k < w'.heap.size) := by
  rcases m with m | m
  · exact .inl (m.symm.trans h)
  · exact .inr (m k h)
end Go
