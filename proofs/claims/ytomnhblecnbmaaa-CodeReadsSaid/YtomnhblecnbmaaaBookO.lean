/- A book of byte rows, as a thing with footprints. -/
import Derived.Test.YtomnhblecnbmaaaOwnBy
import Derived.Test.YtomnhblecnbmaaaOwnN
import Derived.Test.YtomnhblecnbmaaaOwnB
import Derived.Test.YtomnhblecnbmaaaOwnAll
import Derived.Test.YtomnhblecnbmaaaSep
namespace Go.Proofs.Ytomnhblecnbmaaa
open Go.RowKit

/-- What a book takes up. -/
def BkF (b : Nat) (bv : Value) : Nat → Prop := fun k => k = b ∨ bv.ownBlock = some k

theorem InRows.ob {vs : List Value} {j : Nat} (h : j < vs.length) {k : Nat} (hk : vs[j].ownBlock = some k) : InRows vs k := ⟨_, List.getElem_mem h, hk⟩

theorem Bk.kept {w w1 : World} {b : Nat} {v : Value} {rs : List Value} {S : Nat → Prop} (h : Bk w b v rs) (f : Fr S w w1) (hn : Dj (BkF b v) S) : Bk w1 b v rs :=
  ⟨f.heap h.1 (hn b (.inl rfl)), own_kept h.2.1 f (fun k hk => hn k (.inr hk)), h.2.2⟩

set_option maxRecDepth 100000 in
/-- A book of lists of bytes: it finds each its owner's. -/
theorem book_own (b : Nat) (w : World) (v : Value) (rs : List Value) (ns : Nat → Nat) (C : Nat → List Value) (hb : Bk w b v rs) (hr : Rws w 5 1 rs ns C) (ha : Dj (BkF b v) (InRows rs)) (hl : rs.length ≤ 1000000) (hns : ∀ j, ns j ≤ 1000000000) :
    Calls Try.prog 24 #[.pointer (some ⟨b, 0, none⟩)] w fun e w' => e = .returned (.bool true) ∧ Fr (InRows rs) w w' := by
  have hnil : ∀ f : FuncId, (∀ w' : World, Calls Try.prog f #[.slice none 0 0] w' fun e w'' => e = .returned (.bool true) ∧ w'' = w') → ∀ i, 1 ≤ i → ∀ w', (fun (i : Nat) (w' : World) => if i = 0 then w' = w else Fr (InRows rs) w w') i w' →
      Calls Try.prog f #[(fun i => if i = 0 then v else Value.slice none 0 0) i] w' fun e w'' => e = .returned (.bool true) ∧ (fun (i : Nat) (w' : World) => if i = 0 then w' = w else Fr (InRows rs) w w') (i + 1) w'' := by
    intro f h i hi w' hw
    have hi0 : ¬ i = 0 := by omega
    simp only [hi0, if_false] at hw ⊢
    exact (h w').mono fun e w'' ⟨h1, h2⟩ => ⟨h1, by simp only [Nat.add_eq_zero_iff, hi0, false_and, if_false]; rw [h2]; exact hw⟩
  have hcell : ∀ i w', i < 23 → (fun (i : Nat) (w' : World) => if i = 0 then w' = w else Fr (InRows rs) w w') i w' → w'.cell? ⟨b, i, none⟩ = some ((fun i => if i = 0 then v else Value.slice none 0 0) i) := by
    intro i w' hi hw
    have hf : Fr (InRows rs) w w' := by
      by_cases h0 : i = 0
      · simp only [h0, if_true] at hw; rw [hw]; exact Fr.refl _ _
      · simpa only [h0, if_false] using hw
    have hk := (hb.kept hf ha).cells
    by_cases h0 : i = 0
    · subst h0; exact hk.1
    · obtain ⟨j, rfl⟩ : ∃ j, i = j + 1 := ⟨i - 1, by omega⟩
      simpa using hk.2.1 j (by omega)
  refine (own_all b w (fun i => if i = 0 then v else .slice none 0 0) (fun i w' => if i = 0 then w' = w else Fr (InRows rs) w w') rfl hcell ?_ (hnil _ ownTexts_nil 1 (by omega)) (hnil _ ownInts_nil 2 (by omega)) (hnil _ ownLongs_nil 3 (by omega)) (hnil _ ownNumbers_nil 4 (by omega)) (hnil _ ownWords_nil 5 (by omega)) (hnil _ ownSteps_nil 6 (by omega)) (hnil _ ownParts_nil 7 (by omega)) (hnil _ ownDones_nil 8 (by omega))
    (hnil _ ownRows_nil 9 (by omega)) (hnil _ ownLists_nil 10 (by omega)) (hnil _ ownIntLists_nil 11 (by omega)) (hnil _ ownPaths_nil 12 (by omega)) (hnil _ ownPairs_nil 13 (by omega)) (hnil _ ownChanges_nil 14 (by omega)) (hnil _ ownSpans_nil 15 (by omega)) (hnil _ ownEntries_nil 16 (by omega)) ?_ (hnil _ ownValues_nil 18 (by omega)) (hnil _ ownFields_nil 19 (by omega)) (hnil _ ownIndexes_nil 20 (by omega)) (hnil _ ownEvents_nil 21 (by omega)) (hnil _ ownCommits_nil 22 (by omega))).mono ?_
  · intro w' hw
    simp only [if_true] at hw
    subst hw
    obtain ⟨A, c, rfl⟩ := own_form hb.2.1
    refine (own_bytes w' A c rs ns C ⟨Sl.of_own hb.2.1, fun k hk => ha k (.inr hk), hr⟩ (fun k hk => own_lt hb.2.1 k hk) hl hns).mono fun e w'' ⟨h1, h2⟩ => ⟨h1, by simpa using h2⟩
  · intro w' hw
    replace hw : Fr (InRows rs) w w' := hw
    exact (ownBools_nil w').mono fun e w'' ⟨h1, h2⟩ => ⟨h1, hw.trans h2 (fun _ _ h => h.elim)⟩
  · intro e w' ⟨h1, h2⟩
    exact ⟨h1, h2⟩

/-- A book b of rows rs. -/
structure Bo (w : World) (b : Nat) (bv : Value) (rs : List Value) (ns : Nat → Nat) (C : Nat → List Value) : Prop where
  bk : Bk w b bv rs
  rows : Rws w 5 1 rs ns C
  short : ∀ j, ns j ≤ 1000000000

namespace Bo
variable {w w1 : World} {b : Nat} {bv : Value} {rs : List Value} {ns : Nat → Nat} {C : Nat → List Value} {S : Nat → Prop}
theorem kept (h : Bo w b bv rs ns C) (f : Fr S w w1) (h1 : Dj (BkF b bv) S) (h2 : Dj (InRows rs) S) : Bo w1 b bv rs ns C :=
  ⟨h.bk.kept f h1, h.rows.kept f h2, h.short⟩
theorem kept0 (h : Bo w b bv rs ns C) (f : Fr no w w1) : Bo w1 b bv rs ns C := h.kept f (fun _ _ h => h) (fun _ _ h => h)

theorem in_snoc {r : Value} (k : Nat) : InRows (rs ++ [r]) k ↔ InRows rs k ∨ r.ownBlock = some k := by
  constructor
  · rintro ⟨v, hv, hk⟩
    rcases List.mem_append.1 hv with hv | hv
    · exact .inl ⟨v, hv, hk⟩
    · simp at hv; subst hv; exact .inr hk
  · rintro (⟨v, hv, hk⟩ | hk)
    · exact ⟨v, List.mem_append_left _ hv, hk⟩
    · exact ⟨r, by simp, hk⟩

/-- A row of one's own put into it. -/
theorem booked (h : Bo w b bv rs ns C) (hd : Dj (BkF b bv) (InRows rs)) (hb1 : ∀ k, BkF b bv k → k < w.heap.size) {wm : World} {r bv' : Value} {n : Nat} {xs : List Value} (fm : Fr no w wm) (hn : n ≤ 1000000000) (ho : Ow wm 5 1 r n xs) (hf : ∀ k, r.ownBlock = some k → w.heap.size ≤ k) (hb : Bk w1 b bv' (rs ++ [r])) (f : Fr (fun k => k = b ∨ bv.ownBlock = some k) wm w1) :
    ∃ ns C, Bo w1 b bv' (rs ++ [r]) ns C := by
  have h1 := h.kept0 fm
  have hrb : ∀ k, r.ownBlock = some k → ¬ BkF b bv k := fun k hk hk2 => by
    have := hf k hk; have := hb1 k hk2; omega
  refine ⟨fun j => if j = rs.length then n else ns j, fun j => if j = rs.length then xs else C j, hb, ⟨fun j hj => ?_, fun i j hi hj k hij hk => ?_⟩, fun j => ?_⟩
  · by_cases hj2 : j < rs.length
    · simp only [List.getElem_append_left hj2, show ¬ j = rs.length by omega, if_false]
      exact (h1.rows.row j hj2).kept f (fun k hk hk2 => hd k hk2 (InRows.ob hj2 hk))
    · obtain rfl : j = rs.length := by simp at hj; omega
      simp only [List.getElem_concat_length, if_true]
      exact ho.kept f (fun k hk hk2 => hrb k hk hk2)
  · by_cases hi2 : i < rs.length
    · rw [List.getElem_append_left hi2] at hk
      by_cases hj2 : j < rs.length
      · rw [List.getElem_append_left hj2]
        exact h.rows.apart i j hi2 hj2 k hij hk
      · obtain rfl : j = rs.length := by simp at hj; omega
        simp only [List.getElem_concat_length]
        intro hk2
        have := hf k hk2; have := h.rows.lt k (InRows.ob hi2 hk); omega
    · obtain rfl : i = rs.length := by simp at hi; omega
      simp only [List.getElem_concat_length] at hk
      have hj2 : j < rs.length := by simp at hj; omega
      rw [List.getElem_append_left hj2]
      intro hk2
      have := hf k hk; have := h.rows.lt k (InRows.ob hj2 hk2); omega
  · split
    · exact hn
    · exact h.short j
end Bo

/-- What the book and its rows take up behind it. -/
theorem Sep.booked {lo : Nat} {F : List (Nat → Prop)} {w wm w1 : World} {b : Nat} {bv bv' r : Value} {rs : List Value} (h : Sep lo w.heap.size F) (hl : lo ≤ w.heap.size) (i j : Nat) (hij : i ≠ j) (hi : F[i]? = some (BkF b bv)) (hj : F[j]? = some (InRows rs)) (fm : Fr no w wm) (hf : ∀ k, r.ownBlock = some k → w.heap.size ≤ k ∧ k < wm.heap.size) {S : Nat → Prop} (f : Fr S wm w1) (m : Moved wm w1 bv bv') :
    Sep lo w1.heap.size ((F.set j (InRows (rs ++ [r]))).set i (BkF b bv')) := by
  have s1 := h.upd j (InRows (rs ++ [r])) hj fm.size hl (fun k hk => by
    rcases (Bo.in_snoc k).1 hk with h1 | h1
    · exact .inl h1
    · exact .inr (hf k h1))
  refine s1.upd i (BkF b bv') (by rw [List.getElem?_set_ne (fun e => hij e.symm)]; exact hi) f.size (Nat.le_trans hl fm.size) (fun k hk => ?_)
  rcases hk with hk | hk
  · exact .inl (.inl hk)
  · rcases m.blk k hk with h2 | h2
    · exact .inl (.inr h2)
    · exact .inr h2
end Go.Proofs.Ytomnhblecnbmaaa
