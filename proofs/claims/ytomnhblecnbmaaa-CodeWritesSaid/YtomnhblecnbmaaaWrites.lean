/- The walk of the law CodeWrites. -/
import Derived.Test.YtomnhblecnbmaaaJoins
import Derived.Test.YtomnhblecnbmaaaLent
import Derived.Test.YtomnhblecnbmaaaOwnBy
import Derived.Test.YtomnhblecnbmaaaOwnN
import Derived.Test.YtomnhblecnbmaaaOwnB
import Derived.Test.YtomnhblecnbmaaaOwnAll
import Derived.Test.YtomnhblecnbmaaaSep
namespace Go.Proofs.Ytomnhblecnbmaaa
open Go.RowKit

/-- What a book takes up. -/
def BkF (b : Nat) (bv : Value) : Nat → Prop := fun k => k = b ∨ bv.ownBlock = some k

theorem InRows.ob {vs : List Value} {j : Nat} (h : j < vs.length) {k : Nat} (hk : vs[j].ownBlock = some k) : InRows vs k := ⟨_, List.getElem_mem h, hk⟩

theorem Bk.kept {w w1 : World} {b : Nat} {v : Value} {rs : List Value} {S : Nat → Prop} (h : Bk w b v rs) (f : Fr S w w1) (hn : Dj (BkF b v) S) : Bk w1 b v rs :=
  ⟨f.heap h.1 (hn b (.inl rfl)), own_kept h.2.1 f (fun k hk => hn k (.inr hk)), h.2.2⟩

set_option maxRecDepth 100000 in
/-- A book of lists of bytes: it finds each its owner's. -/
theorem book_own (b : Nat) (w : World) (v : Value) (rs : List Value) (ns : Nat → Nat) (C : Nat → List Value) (hb : Bk w b v rs) (hr : Rws w 5 1 rs ns C) (ha : Dj (BkF b v) (InRows rs)) (hl : rs.length ≤ 1000000) (hns : ∀ j, ns j ≤ 1000000000) :
    Calls Try.prog 24 #[.pointer (some ⟨b, 0, none⟩)] w fun e w' => e = .returned (.bool true) ∧ Fr (InRows rs) w w' := by
  have hnil : ∀ f : FuncId, (∀ w' : World, Calls Try.prog f #[.slice none 0 0] w' fun e w'' => e = .returned (.bool true) ∧ w'' = w') → ∀ i, 1 ≤ i → ∀ w', (fun (i : Nat) (w' : World) => if i = 0 then w' = w else Fr (InRows rs) w w') i w' →
      Calls Try.prog f #[(fun i => if i = 0 then v else Value.slice none 0 0) i] w' fun e w'' => e = .returned (.bool true) ∧ (fun (i : Nat) (w' : World) => if i = 0 then w' = w else Fr (InRows rs) w w') (i + 1) w'' := by
    intro f h i hi w' hw
    have hi0 : ¬ i = 0 := by omega
    simp only [hi0, if_false] at hw ⊢
    exact (h w').mono fun e w'' ⟨h1, h2⟩ => ⟨h1, by simp only [Nat.add_eq_zero_iff, hi0, false_and, if_false]; rw [h2]; exact hw⟩
  have hcell : ∀ i w', i < 23 → (fun (i : Nat) (w' : World) => if i = 0 then w' = w else Fr (InRows rs) w w') i w' → w'.cell? ⟨b, i, none⟩ = some ((fun i => if i = 0 then v else Value.slice none 0 0) i) := by
    intro i w' hi hw
    have hf : Fr (InRows rs) w w' := by
      by_cases h0 : i = 0
      · simp only [h0, if_true] at hw; rw [hw]; exact Fr.refl _ _
      · simpa only [h0, if_false] using hw
    have hk := (hb.kept hf ha).cells
    by_cases h0 : i = 0
    · subst h0; exact hk.1
    · obtain ⟨j, rfl⟩ : ∃ j, i = j + 1 := ⟨i - 1, by omega⟩
      simpa using hk.2.1 j (by omega)
  refine (own_all b w (fun i => if i = 0 then v else .slice none 0 0) (fun i w' => if i = 0 then w' = w else Fr (InRows rs) w w') rfl hcell ?_ (hnil _ ownTexts_nil 1 (by omega)) (hnil _ ownInts_nil 2 (by omega)) (hnil _ ownLongs_nil 3 (by omega)) (hnil _ ownNumbers_nil 4 (by omega)) (hnil _ ownWords_nil 5 (by omega)) (hnil _ ownSteps_nil 6 (by omega)) (hnil _ ownParts_nil 7 (by omega)) (hnil _ ownDones_nil 8 (by omega))
    (hnil _ ownRows_nil 9 (by omega)) (hnil _ ownLists_nil 10 (by omega)) (hnil _ ownIntLists_nil 11 (by omega)) (hnil _ ownPaths_nil 12 (by omega)) (hnil _ ownPairs_nil 13 (by omega)) (hnil _ ownChanges_nil 14 (by omega)) (hnil _ ownSpans_nil 15 (by omega)) (hnil _ ownEntries_nil 16 (by omega)) ?_ (hnil _ ownValues_nil 18 (by omega)) (hnil _ ownFields_nil 19 (by omega)) (hnil _ ownIndexes_nil 20 (by omega)) (hnil _ ownEvents_nil 21 (by omega)) (hnil _ ownCommits_nil 22 (by omega))).mono ?_
  · intro w' hw
    simp only [if_true] at hw
    subst hw
    obtain ⟨A, c, rfl⟩ := own_form hb.2.1
    refine (own_bytes w' A c rs ns C ⟨Sl.of_own hb.2.1, fun k hk => ha k (.inr hk), hr⟩ (fun k hk => own_lt hb.2.1 k hk) hl hns).mono fun e w'' ⟨h1, h2⟩ => ⟨h1, by simpa using h2⟩
  · intro w' hw
    replace hw : Fr (InRows rs) w w' := hw
    exact (ownBools_nil w').mono fun e w'' ⟨h1, h2⟩ => ⟨h1, hw.trans h2 (fun _ _ h => h.elim)⟩
  · intro e w' ⟨h1, h2⟩
    exact ⟨h1, h2⟩

/-- The law's things: a writer that has written L1, what was wanted, L2, a book of rows rs; besides what E tells. -/
structure St (w0 w : World) (p b : Nat) (sv wv bv : Value) (rs : List Value) (ns : Nat → Nat) (C : Nat → List Value) (L1 L2 : List UInt8) (E : List (Nat → Prop)) : Prop where
  bel : Below w0.heap.size w0 w
  wr : Wr w p sv L1
  want : w.ownsRow 0 5 1 wv L2.length (bvs L2)
  bk : Bk w b bv rs
  rows : Rws w 5 1 rs ns C
  sep : Sep w0.heap.size w.heap.size (Own p sv :: ob wv :: BkF b bv :: InRows rs :: E)
  short : ∀ j, ns j ≤ 1000000000

namespace St
variable {w0 w w1 : World} {p b : Nat} {sv wv bv : Value} {rs : List Value} {ns : Nat → Nat} {C : Nat → List Value} {L1 L2 : List UInt8} {E : List (Nat → Prop)} {S : Nat → Prop}

theorem below_of {w0 w w1 : World} {S : Nat → Prop} (h : Below w0.heap.size w0 w) (f : Fr S w w1) (hS : ∀ k, S k → w0.heap.size ≤ k) : Below w0.heap.size w0 w1 := by
  have s := h.size
  exact ⟨f.os.trans h.os, f.tape.trans h.tape, f.output.trans h.output, Nat.le_trans s f.size, fun k hk => (f.block k (by omega) (fun h2 => by have := hS k h2; omega)).trans (h.block k hk)⟩

theorem kept0 (h : St w0 w p b sv wv bv rs ns C L1 L2 E) (f : Fr no w w1) : St w0 w1 p b sv wv bv rs ns C L1 L2 E :=
  ⟨below_of h.bel f (fun _ h => h.elim), h.wr.kept f (fun _ _ h => h), own_kept0 h.want f, h.bk.kept f (fun _ _ h => h), h.rows.kept f (fun _ _ h => h), h.sep.later f.size, h.short⟩

theorem lent (h : St w0 w p b sv wv bv rs ns C L1 L2 []) (f : Fr no w w1) {g : Nat} (hg : w.heap.size ≤ g) (hg1 : g < w1.heap.size) : St w0 w1 p b sv wv bv rs ns C L1 L2 [at1 g] := by
  have hs := h.bel.size
  have h1 := h.kept0 f
  refine { h1 with sep := ?_ }
  have h2 := (h.sep).cons (S := at1 g) f.size hs (fun k hk => by subst hk; omega)
  refine ⟨?_, fun T hT k hk => ?_⟩
  · have h3 := h2.dj
    rw [List.pairwise_cons] at h3
    refine (List.pairwise_append (l₁ := [Own p sv, ob wv, BkF b bv, InRows rs]) (l₂ := [at1 g])).2 ⟨h3.2, by simp, fun a ha c hc => ?_⟩
    simp only [List.mem_singleton] at hc
    subst hc
    exact (h3.1 a ha).symm
  · refine h2.bd T ?_ k hk
    simp only [List.mem_cons, List.not_mem_nil, or_false] at hT ⊢
    rcases hT with h | h | h | h | h <;> simp [h]

theorem drop (h : St w0 w p b sv wv bv rs ns C L1 L2 E) : St w0 w p b sv wv bv rs ns C L1 L2 [] := by
  refine { h with sep := ⟨?_, fun T hT k hk => h.sep.bd T ?_ k hk⟩ }
  · exact (List.pairwise_append (l₁ := [Own p sv, ob wv, BkF b bv, InRows rs]) (l₂ := E)).1 h.sep.dj |>.1
  · simp only [List.mem_cons, List.not_mem_nil, or_false] at hT ⊢
    rcases hT with h | h | h | h <;> simp [h]

theorem wrote (h : St w0 w p b sv wv bv rs ns C L1 L2 E) {bs : List UInt8} (hw : Wrote w w1 p sv L1 bs) : ∃ sv', St w0 w1 p b sv' wv bv rs ns C (L1 ++ bs) L2 E := by
  obtain ⟨A, n, c, h1, f, m⟩ := hw
  have hs := h.bel.size
  refine ⟨.slice A n c, below_of h.bel f (fun k hk => (h.sep.lo_of 0 rfl k hk).1), h1, own_kept h.want f (fun k hk => h.sep.ne 1 0 (by decide) rfl rfl k hk), h.bk.kept f (h.sep.ne 2 0 (by decide) rfl rfl), h.rows.kept f (h.sep.ne 3 0 (by decide) rfl rfl), ?_, h.short⟩
  refine h.sep.upd 0 (Own p (.slice A n c)) rfl f.size hs fun k hk => ?_
  rcases hk with hk | hk
  · exact .inl (.inl hk)
  · rcases m.blk k hk with h2 | h2
    · exact .inl (.inr h2)
    · exact .inr h2

theorem wants (h : St w0 w p b sv wv bv rs ns C L1 L2 E) {bs : List UInt8} {wv' : Value} (ho : w1.ownsRow 0 5 1 wv' (L2 ++ bs).length (bvs (L2 ++ bs))) (f : Fr (fun k => wv.ownBlock = some k) w w1) (m : Moved w w1 wv wv') : St w0 w1 p b sv wv' bv rs ns C L1 (L2 ++ bs) E := by
  have hs := h.bel.size
  refine ⟨below_of h.bel f (fun k hk => (h.sep.lo_of 1 rfl k hk).1), h.wr.kept f (h.sep.ne 0 1 (by decide) rfl rfl), ho, h.bk.kept f (h.sep.ne 2 1 (by decide) rfl rfl), h.rows.kept f (h.sep.ne 3 1 (by decide) rfl rfl), ?_, h.short⟩
  exact h.sep.upd 1 (ob wv') rfl f.size hs fun k hk => m.blk k hk

theorem spoilt (h : St w0 w p b sv wv bv rs ns C L1 L2 [S]) (f : Fr S w w1) : St w0 w1 p b sv wv bv rs ns C L1 L2 [] := by
  have h2 : St w0 w1 p b sv wv bv rs ns C L1 L2 [S] :=
    ⟨below_of h.bel f (fun k hk => (h.sep.lo_of 4 rfl k hk).1), h.wr.kept f (h.sep.ne 0 4 (by decide) rfl rfl), own_kept h.want f (h.sep.ne 1 4 (by decide) rfl rfl), h.bk.kept f (h.sep.ne 2 4 (by decide) rfl rfl), h.rows.kept f (h.sep.ne 3 4 (by decide) rfl rfl), h.sep.later f.size, h.short⟩
  exact h2.drop

/-- A row of one's own put into the book. -/
theorem booked (h : St w0 w p b sv wv bv rs ns C L1 L2 []) {wm : World} {r bv' : Value} {n : Nat} {xs : List Value} (fm : Fr no w wm) (hn : n ≤ 1000000000) (ho : Ow wm 5 1 r n xs) (hf : ∀ k, r.ownBlock = some k → w.heap.size ≤ k) (hb : Bk w1 b bv' (rs ++ [r])) (f : Fr (fun k => k = b ∨ bv.ownBlock = some k) wm w1) (m : Moved wm w1 bv bv') :
    ∃ ns C, St w0 w1 p b sv wv bv' (rs ++ [r]) ns C L1 L2 [] := by
  have hs := h.bel.size
  have h1 := h.kept0 fm
  have hs1 := h1.bel.size
  have hrk := ho.lt
  have hdj : Dj (BkF b bv) (InRows rs) := h1.sep.ne 2 3 (by decide) rfl rfl
  have hrb : ∀ k, r.ownBlock = some k → ¬ BkF b bv k := fun k hk hk2 => by
    have := hf k hk; have := (h.sep.lo_of 2 rfl k hk2).2; omega
  have s3 := h1.sep.upd 2 (BkF b bv') rfl f.size hs1 (fun k hk => by
    rcases hk with hk | hk
    · exact .inl (.inl hk)
    · rcases m.blk k hk with h2 | h2
      · exact .inl (.inr h2)
      · exact .inr h2)
  refine ⟨fun j => if j = rs.length then n else ns j, fun j => if j = rs.length then xs else C j, below_of h1.bel f (fun k hk => (h1.sep.lo_of 2 rfl k hk).1), h1.wr.kept f (h1.sep.ne 0 2 (by decide) rfl rfl), own_kept h1.want f (h1.sep.ne 1 2 (by decide) rfl rfl), hb, ⟨fun j hj => ?_, fun i j hi hj k hij hk => ?_⟩, ?_, fun j => ?_⟩
  · by_cases hj2 : j < rs.length
    · simp only [List.getElem_append_left hj2, show ¬ j = rs.length by omega, if_false]
      exact (h1.rows.row j hj2).kept f (fun k hk hk2 => hdj k hk2 (InRows.ob hj2 hk))
    · obtain rfl : j = rs.length := by simp at hj; omega
      simp only [List.getElem_concat_length, if_true]
      exact ho.kept f (fun k hk hk2 => hrb k hk hk2)
  · by_cases hi2 : i < rs.length
    · rw [List.getElem_append_left hi2] at hk
      by_cases hj2 : j < rs.length
      · rw [List.getElem_append_left hj2]
        exact h.rows.apart i j hi2 hj2 k hij hk
      · obtain rfl : j = rs.length := by simp at hj; omega
        simp only [List.getElem_concat_length]
        intro hk2
        have := hf k hk2; have := h.rows.lt k (InRows.ob hi2 hk); omega
    · obtain rfl : i = rs.length := by simp at hi; omega
      simp only [List.getElem_concat_length] at hk
      have hj2 : j < rs.length := by simp at hj; omega
      rw [List.getElem_append_left hj2]
      intro hk2
      have := hf k hk; have := h.rows.lt k (InRows.ob hj2 hk2); omega
  · have key : ∀ k, r.ownBlock = some k → w.heap.size ≤ k ∧ k < wm.heap.size := fun k hk => ⟨hf k hk, hrk k hk⟩
    have s4 : Sep w0.heap.size wm.heap.size ((fun k => r.ownBlock = some k) :: Own p sv :: ob wv :: BkF b bv :: InRows rs :: []) := h.sep.cons fm.size hs key
    have s5 := s4.upd 3 (BkF b bv') rfl f.size hs1 (fun k hk => by
      rcases hk with hk | hk
      · exact .inl (.inl hk)
      · rcases m.blk k hk with h2 | h2
        · exact .inl (.inr h2)
        · exact .inr h2)
    have e : ∀ k, InRows (rs ++ [r]) k ↔ InRows rs k ∨ r.ownBlock = some k := by
      intro k
      constructor
      · rintro ⟨v, hv, hk⟩
        rcases List.mem_append.1 hv with hv | hv
        · exact .inl ⟨v, hv, hk⟩
        · simp at hv; subst hv; exact .inr hk
      · rintro (⟨v, hv, hk⟩ | hk)
        · exact ⟨v, List.mem_append_left _ hv, hk⟩
        · exact ⟨r, by simp, hk⟩
    have d0 := fun i j hij {S T} hS hT => s5.ne i j hij (S := S) (T := T) hS hT
    refine ⟨?_, ?_⟩
    · have hin : ∀ T, (Dj T (InRows rs)) → (Dj T (fun k => r.ownBlock = some k)) → Dj T (InRows (rs ++ [r])) := fun T h1 h2 k hk hk2 => by
        rcases (e k).1 hk2 with h | h
        · exact h1 k hk h
        · exact h2 k hk h
      refine List.pairwise_cons.2 ⟨?_, List.pairwise_cons.2 ⟨?_, List.pairwise_cons.2 ⟨?_, by simp⟩⟩⟩
      · intro T hT
        simp only [List.mem_cons, List.not_mem_nil, or_false] at hT
        rcases hT with rfl | rfl | rfl
        · exact d0 1 2 (by decide) rfl rfl
        · exact d0 1 3 (by decide) rfl rfl
        · exact hin _ (d0 1 4 (by decide) rfl rfl) (d0 1 0 (by decide) rfl rfl)
      · intro T hT
        simp only [List.mem_cons, List.not_mem_nil, or_false] at hT
        rcases hT with rfl | rfl
        · exact d0 2 3 (by decide) rfl rfl
        · exact hin _ (d0 2 4 (by decide) rfl rfl) (d0 2 0 (by decide) rfl rfl)
      · intro T hT
        simp only [List.mem_cons, List.not_mem_nil, or_false] at hT
        subst hT
        exact hin _ (d0 3 4 (by decide) rfl rfl) (d0 3 0 (by decide) rfl rfl)
    · intro T hT k hk
      simp only [List.mem_cons, List.not_mem_nil, or_false] at hT
      rcases hT with rfl | rfl | rfl | rfl
      · exact s5.lo_of 1 rfl k hk
      · exact s5.lo_of 2 rfl k hk
      · exact s5.lo_of 3 rfl k hk
      · rcases (e k).1 hk with h | h
        · exact s5.lo_of 4 rfl k h
        · exact s5.lo_of 0 rfl k h
  · split
    · exact hn
    · exact h.short j
end St

/-- Behind j calls. -/
def Lp (w0 wr : World) (p b : Nat) (wv : Value) (os : List OpV) (j : Nat) : Prop :=
  ∃ sv bv rs ns C, rs.length ≤ j ∧ St w0 wr p b sv wv bv rs ns C (allB (os.take j)) (allB (os.take j)) []

set_option maxRecDepth 100000 in
set_option maxHeartbeats 8000000 in
theorem writes_walk (w : World) (x : Value) (os : List OpV) (hx : Ops w x os) (h1 : total os ≤ 20000) :
    Calls Try.prog 4 #[x] w fun e w' => e = .returned (.bool true) ∧ Below w.heap.size w w' := by
  obtain ⟨A, c, hA, hc1, hc2⟩ := hx.1.form
  subst hA
  have HX := Lib.hid hx; clear hx hc2
  go_enter Try.func4, Try.ntmps4
  go_wp2_with fail
  refine (much_any _ _ os HX.out).mono ?_
  rintro e w1 ⟨rfl, n1, rfl⟩
  rw [decide_eq_false (by omega)]
  go_wp2_with fail
  refine (new_any _).mono ?_
  rintro e w2 ⟨p2, rfl, hp2, hp2', hw2, hf2⟩
  go_wp2_with fail
  refine (known_any _).mono ?_
  rintro e w5 ⟨rfl, hf5⟩
  have s5 := hf5.size
  have s2 := hf2.size
  replace s2 : w.heap.size ≤ w2.heap.size := s2
  have hst : St w (w5.alloc (.cells #[.slice none 0 0, .slice none 0 0, .slice none 0 0, .slice none 0 0, .slice none 0 0, .slice none 0 0, .slice none 0 0, .slice none 0 0, .slice none 0 0, .slice none 0 0, .slice none 0 0, .slice none 0 0, .slice none 0 0, .slice none 0 0, .slice none 0 0, .slice none 0 0, .slice none 0 0, .slice none 0 0, .slice none 0 0, .slice none 0 0, .slice none 0 0, .slice none 0 0, .slice none 0 0] 66)) p2 w5.heap.size (.slice none 0 0) (.slice none 0 0) (.slice none 0 0) [] (fun _ => 0) (fun _ => []) [] [] [] := by
    refine ⟨((((Fr.drewN no w _).trans hf2 (fun _ _ h => h)).trans hf5 (fun _ _ h => h)).alloc _).below (fun _ _ h => h), hw2.kept (hf5.alloc _) (fun _ _ h => h), ⟨rfl, .inl ⟨rfl, rfl⟩⟩, ⟨heap_alloc_new _ _, ⟨rfl, .inl ⟨rfl, rfl⟩⟩, by simp [Value.ownBlock]⟩, ⟨fun j hj => by simp at hj, fun i j hi => by simp at hi⟩, ⟨?_, ?_⟩, fun _ => Nat.zero_le _⟩
    · refine List.pairwise_cons.2 ⟨?_, List.pairwise_cons.2 ⟨?_, List.pairwise_cons.2 ⟨?_, by simp⟩⟩⟩
      · intro T hT k hk
        obtain rfl : k = p2 := by rcases hk with hk | hk; exact hk; simp [Value.ownBlock] at hk
        simp only [List.mem_cons, List.not_mem_nil, or_false] at hT
        rcases hT with rfl | rfl | rfl
        · simp [ob, Value.ownBlock]
        · simp only [BkF, Value.ownBlock]; simp; omega
        · simp [InRows]
      · intro T hT k hk
        simp [ob, Value.ownBlock] at hk
      · intro T hT k hk
        simp only [List.mem_cons, List.not_mem_nil, or_false] at hT
        subst hT
        simp [InRows]
    · intro T hT k hk
      simp only [List.mem_cons, List.not_mem_nil, or_false] at hT
      rcases hT with rfl | rfl | rfl | rfl
      · obtain rfl : k = p2 := by rcases hk with hk | hk; exact hk; simp [Value.ownBlock] at hk
        simp; exact ⟨hp2, by omega⟩
      · simp [ob, Value.ownBlock] at hk
      · obtain rfl : k = w5.heap.size := by rcases hk with hk | hk; exact hk; simp [Value.ownBlock] at hk
        simp; omega
      · simp [InRows] at hk
  have HST := Lib.hid hst
  clear hst hp2 hp2' hw2 hf2 hf5 s5 s2
  go_wp2_with fail
  go_loopw [4, 6] (fun wv i wr => ∃ j : Nat, j ≤ os.length ∧ i = .int .i64 j ∧ Lp w wr p2 w5.heap.size wv os j) (fun _ i _ => os.length - (intOf i).toNat)
  case atStart => exact ⟨0, Nat.zero_le _, rfl, _, _, _, _, _, Nat.le_refl _, HST.out⟩
  case round =>
    obtain ⟨j, hj, rfl, sv, bv, rs, ns, C, hrl, hst⟩ := hrel
    obtain ⟨Aw, cw, hw4⟩ := own_form hst.want
    subst hw4
    have HS := Lib.hid hst; clear hst
    have HL := Lib.hid (show (allB (os.take j)).length ≤ 200000 by
      have := allB_len w (os.take j) (fun o ho => ⟨(HX.out.2.1 o (List.mem_of_mem_take ho)).1, short_of h1 o (List.mem_of_mem_take ho)⟩)
      have := total_take_le os j
      omega)
    have hjl : os.length ≤ 20000 := by unfold total at h1; omega
    by_cases hlt : j < os.length
    · obtain ⟨b, o, hA, q0, q1, q2, q3⟩ := Ops.at HX.out.1 j hlt
      subst hA
      obtain ⟨B2, d2, hB2, hB3, hB4⟩ := (HX.out.2.1 os[j] (List.getElem_mem _)).1.B.form
      rw [hB2] at q3
      have hbs : os[j].bs.length ≤ 20000 := short_of h1 _ (List.getElem_mem _)
      have hbw := World.block_lt_of_cell? w _ q3
      have HG := Lib.hid ((HX.out.2.1 os[j] (List.getElem_mem _)).1); have HB2 := Lib.hid hB2
      have HT := Lib.hid (allB_take os j hlt)
      have hbl := bytes_short os[j] HG.out.v hbs
      clear hB2 hB3 hB4
      have HQ := Lib.hid (And.intro q0 (And.intro q1 (And.intro q2 q3)))
      have keep : ∀ w', Below w.heap.size w w' → w'.cell? ⟨b, o + j * 4, none⟩ = some (.int .u8 os[j].k) ∧ w'.cell? ⟨b, o + j * 4 + 1, none⟩ = some (.int .u64 os[j].v) ∧ w'.cell? ⟨b, o + j * 4 + 2, none⟩ = some (.int .i64 os[j].n) ∧ w'.cell? ⟨b, o + j * 4 + 3, none⟩ = some (.slice B2 os[j].bs.length d2) := fun w' hb =>
        ⟨(hb.cell (p := ⟨b, o + j * 4, none⟩) hbw).trans HQ.out.1, (hb.cell (p := ⟨b, o + j * 4 + 1, none⟩) hbw).trans HQ.out.2.1, (hb.cell (p := ⟨b, o + j * 4 + 2, none⟩) hbw).trans HQ.out.2.2.1, (hb.cell (p := ⟨b, o + j * 4 + 3, none⟩) hbw).trans HQ.out.2.2.2⟩
      have KEEP := Lib.hid keep
      clear keep q0 q1 q2 q3 hbw
      obtain ⟨q0, q1, q2, q3⟩ := KEEP.out _ HS.out.bel
      go_wp2_with fail
      rw [← HB2.out]
      refine (lent_any _ os[j].B os[j].bs (HG.out.B.below HS.out.bel) (by omega)).mono ?_
      rintro e w6 ⟨g, rfl, hg6, hl6, hf6⟩
      have hg6' : g < w6.heap.size := (Array.getElem?_eq_some_iff.1 hl6).1
      have HS6 := Lib.hid (HS.out.lent hf6 hg6 hg6')
      have HL6 := Lib.hid hl6
      clear q0 q1 q2 q3 hg6 hg6' hf6 hl6 HS
      obtain ⟨q0, q1, q2, q3⟩ := KEEP.out _ HS6.out.bel
      go_wp2_with fail
      rw [← HB2.out]
      refine (puts_any w w6 HS6.out.bel p2 sv _ os[j] HG.out hbs _ (HL6.out.sl (by omega)) HS6.out.wr (fun k hk => (HS6.out.sep.lo_of 0 rfl k hk).1) (by have := HL.out; omega)).mono ?_
      rintro e w7 ⟨A6, c6, rfl, hs7, hw7⟩
      obtain ⟨sv7, hst7⟩ := HS6.out.wrote hw7
      have hl7 : Lent w7 g os[j].bs := by
        obtain ⟨_, _, _, _, f7, _⟩ := hw7
        exact HL6.out.kept f7 (HS6.out.sep.ne 4 0 (by decide) rfl rfl g rfl)
      have HS7 := Lib.hid hst7; have HL7 := Lib.hid hl7; have HSL := Lib.hid hs7
      clear hst7 hl7 hs7 hw7 HS6 HL6 q0 q1 q2 q3
      go_wp2_with (at_builtin; refine wpList_ap rfl (.tmp 33) (.tmp 40) 22 rfl tbB HS7.out.want (Fr.refl _ _) HSL.out rfl rfl (bvs_one _) ?b1 ?b2 ?go)
      case b1 => have := HL.out; simp only [maxLen]; omega
      case b2 => have := HL.out; omega
      case go =>
        intro A' N c' w8 ho hf8 hm8
        rw [← bvs_append] at ho
        obtain rfl : N = (allB (os.take j) ++ os[j].bytes).length := by have := ho.1; rw [bvs_length, Nat.mul_one] at this; exact this.symm
        have HS8 := Lib.hid (HS7.out.wants ho hf8 hm8)
        have HL8 := Lib.hid (HL7.out.kept hf8 (HS7.out.sep.ne 4 1 (by decide) rfl rfl g rfl))
        clear ho hf8 hm8 HS7 HL7 HSL
        obtain ⟨q0, q1, q2, q3⟩ := KEEP.out _ HS8.out.bel
        rw [← HT.out] at HS8 ⊢
        go_wp2_with fail
        rw [← HB2.out]
        refine (whole_lent w8 g _ os[j].bs os[j].bs HL8.out (HG.out.B.below HS8.out.bel) (by omega) (by omega)).mono ?_
        rintro e w9 ⟨rfl, n9, rfl⟩
        rw [decide_eq_true (rfl : os[j].bs = os[j].bs)]
        clear q0 q1 q2 q3
        go_wp2_with fail
        refine (spoil_lent _ g os[j].bs (HL8.out.kept (Fr.drewN no _ _) (fun h => h)) (by omega)).mono ?_
        rintro e w10 ⟨rfl, hf10⟩
        have HS10 := Lib.hid ((HS8.out.kept0 (Fr.drewN no _ _)).spoilt hf10)
        clear hf10 HS8 HL8
        go_wp2_with fail
        refine (len_any p2 _ _ _ HS10.out.wr).mono ?_
        rintro e w11 ⟨rfl, rfl⟩
        by_cases h16 : (j : Int) % 16 = 0
        · have hb16 : ((j : Int) % 16 == 0) = true := by rw [beq_iff_eq]; exact h16
          clear h16
          go_wp2_with fail
          refine (bytes_any p2 _ _ _ HS10.out.wr (by rw [HT.out, List.length_append]; have := HL.out; omega)).mono ?_
          rintro e w12 ⟨A8, rfl, ho8, hk8, hf8⟩
          have HO8 := Lib.hid ho8; have HK8 := Lib.hid hk8; have HF8 := Lib.hid hf8; clear ho8 hk8 hf8
          go_wp2_with fail
          refine (book_bytes _ w12 bv rs A8 _ _ (HS10.out.bk.kept HF8.out (fun _ _ h => h)) (by omega)).mono ?_
          rintro e w13 ⟨rfl, bv', hb', f', m'⟩
          have HS13 := Lib.hid (HS10.out.booked HF8.out (by rw [HT.out, List.length_append]; have := HL.out; omega) HO8.out HK8.out hb' f' m')
          clear hb' f' m'
          go_wp2
          go_roundw
          case rel =>
            obtain ⟨ns', C', h⟩ := HS13.out
            exact ⟨j + 1, hlt, by go_num, _, _, _, _, _, by simp; omega, h⟩
          case measure => simp [intOf]; omega
        · have hb16 : ((j : Int) % 16 == 0) = false := by rw [beq_eq_false_iff_ne]; exact h16
          clear h16
          go_wp2
          go_roundw
          case rel => exact ⟨j + 1, hlt, by go_num, _, _, _, _, _, by omega, HS10.out⟩
          case measure => simp [intOf]; omega
    · obtain rfl : j = os.length := by omega
      rw [List.take_of_length_le (Nat.le_refl _)] at HS HL ⊢
      clear hlt hj
      go_wp2_with fail
      refine (bytes_any p2 _ _ _ HS.out.wr (by have := HL.out; omega)).mono ?_
      rintro e w12 ⟨A8, rfl, ho8, hk8, hf8⟩
      have HO8 := Lib.hid ho8; have HK8 := Lib.hid hk8; have HF8 := Lib.hid hf8; clear ho8 hk8 hf8
      go_wp2_with fail
      refine (book_bytes _ w12 bv rs A8 _ _ (HS.out.bk.kept HF8.out (fun _ _ h => h)) (by omega)).mono ?_
      rintro e w13 ⟨rfl, bv', hb', f', m'⟩
      have HS13 := Lib.hid (HS.out.booked HF8.out (by have := HL.out; omega) HO8.out HK8.out hb' f' m')
      have HO13 := Lib.hid (HO8.out.kept f' (fun k hk hk2 => by have := HK8.out k hk; have := (HS.out.sep.lo_of 2 rfl k hk2).2; omega))
      clear hb' f' m'
      obtain ⟨ns', C', hst⟩ := HS13.out
      have HS13 := Lib.hid hst; clear hst
      go_wp2_with fail
      refine (same_any w13 _ _ (allB os) (allB os) HO13.out.sl (Sl.of_own HS13.out.want) (by have := HL.out; omega) (by have := HL.out; omega)).mono ?_
      rintro e w14 ⟨rfl, n14, rfl⟩
      rw [decide_eq_true (rfl : allB os = allB os)]
      go_wp2_with fail
      refine (book_own _ _ bv' _ ns' C' (HS13.out.bk.kept (Fr.drewN no _ _) (fun _ _ h => h)) (HS13.out.rows.kept (Fr.drewN no _ _) (fun _ _ h => h)) (HS13.out.sep.ne 2 3 (by decide) rfl rfl) (by simp; omega) HS13.out.short).mono ?_
      rintro e w15 ⟨rfl, hf15⟩
      go_wp2
      go_ret
      exact ⟨rfl, St.below_of ((Fr.drewN no _ _).below (fun _ _ h => h) |> fun h => St.below_of HS13.out.bel (Fr.of_below h no) (fun _ h => h.elim)) hf15 (fun k hk => (HS13.out.sep.lo_of 3 rfl k hk).1)⟩

set_option maxHeartbeats 400000 in
theorem writes_much (w : World) (x : Value) (os : List OpV) (hx : Ops w x os) (h1 : 20000 < total os) :
    Calls Try.prog 4 #[x] w fun e w' => e = .returned (.bool true) ∧ Below w.heap.size w w' := by
  have HX := Lib.hid hx; clear hx
  go_enter Try.func4, Try.ntmps4
  go_wp2_with fail
  refine (much_any _ _ os HX.out).mono ?_
  rintro e w1 ⟨rfl, n1, rfl⟩
  rw [decide_eq_true (by omega)]
  go_wp2
  go_ret
  exact ⟨rfl, (Fr.drewN no w n1).below (fun _ _ h => h)⟩
end Go.Proofs.Ytomnhblecnbmaaa
