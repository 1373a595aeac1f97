import Derived.Test.YtdnohhlgaaihmaaMd29
import Derived.Test.YtdnohhlgaaihmaaMd21

/- The book finds what it has its owner's. -/
namespace Go.Proofs.Ytdnohhlgaaihmaa
open Go.RowKit

theorem Bc.two {w w' : World} {b i : Nat} {V : Nat → Value} {R : Nat → List Value} (h : Bc w b V R) (hk : kept4 i) (f : Fr (fun k => ∃ j, j < i ∧ InRows (R j) k) w w') :
    ∃ (ns : Nat → Nat) (C : Nat → List Value) (A : Option Addr) (c : Nat), (∀ j, ns j ≤ rL i) ∧ V i = .slice A (R i).length c ∧ Two w' (rT i) (rS i) (.slice A (R i).length c) (R i) ns C := by
  have hex : ∀ j, ∃ nc : Nat × List Value, nc.1 ≤ rL i ∧ ∀ h2 : j < (R i).length, Ow w (rT i) (rS i) (R i)[j] nc.1 nc.2 := fun j => by
    by_cases h2 : j < (R i).length
    · obtain ⟨n, xs, h3, h4⟩ := h.ok i _ (List.getElem_mem h2)
      exact ⟨(n, xs), h3, fun _ => h4⟩
    · exact ⟨(0, []), Nat.zero_le _, fun h3 => absurd h3 h2⟩
  obtain ⟨A, c, hv, _, _⟩ := (h.bq.row i hk).form
  have hr : ∀ v ∈ R i, ∀ k, v.ownBlock = some k → ¬ ∃ j, j < i ∧ InRows (R j) k := fun v hv k hk2 ⟨j, hj, v', hv', e⟩ => h.px j i (by omega) v' hv' v hv k e hk2
  refine ⟨fun j => (Classical.choose (hex j)).1, fun j => (Classical.choose (hex j)).2, A, c, fun j => (Classical.choose_spec (hex j)).1, hv, ?_, ?_, fun j hj => ?_, fun j j' hj hj' k hne e e2 => ?_⟩
  · rw [← hv]
    exact ((h.bq.row i hk).kept f (fun k hk2 ⟨j, _, v', hv', e⟩ => (h.away j v' hv' k e).2 i hk2)).sl
  · rintro k hk2 ⟨v, hv2, e⟩
    rw [← hv] at hk2
    exact (h.away i v hv2 k e).2 i hk2
  · exact ((Classical.choose_spec (hex j)).2 hj).kept f (fun k hk2 => hr _ (List.getElem_mem hj) k hk2)
  · have := h.pi i
    rw [List.pairwise_iff_getElem] at this
    rcases Nat.lt_or_gt_of_ne hne with h1 | h1
    · exact this j j' hj hj' h1 k e e2
    · exact this j' j hj' hj h1 k e2 e

/-- The book's rows ahead of the i-th list. -/
def RowsTo (R : Nat → List Value) (i : Nat) : Nat → Prop := fun k => ∃ j, j < i ∧ InRows (R j) k

set_option maxRecDepth 100000 in
theorem bc_own (w : World) (b : Nat) (V : Nat → Value) (R : Nat → List Value) (h : Bc w b V R) (hl : ∀ i, (R i).length ≤ 1000000) :
    Calls Try.prog 37 #[.pointer (some ⟨b, 0, none⟩)] w fun e w' => e = .returned (.bool true) ∧ Fr (RowsTo R 23) w w' := by
  have hstep : ∀ i w' w'', Fr (RowsTo R i) w w' → Fr (InRows (R i)) w' w'' → Fr (RowsTo R (i + 1)) w w'' := fun i w' w'' h1 h2 =>
    (h1.mono (fun k _ ⟨j, hj, e⟩ => ⟨j, by omega, e⟩)).trans h2 (fun k _ e => ⟨i, by omega, e⟩)
  have hmore : ∀ i w', Fr (RowsTo R i) w w' → Fr (RowsTo R (i + 1)) w w' := fun i w' h1 => h1.mono (fun k _ ⟨j, hj, e⟩ => ⟨j, by omega, e⟩)
  have hnil : ∀ f : FuncId, (∀ w' : World, Calls Try.prog f #[.slice none 0 0] w' fun e w'' => e = .returned (.bool true) ∧ w'' = w') → ∀ i, ¬ kept4 i → ∀ w', Fr (RowsTo R i) w w' →
      Calls Try.prog f #[V i] w' fun e w'' => e = .returned (.bool true) ∧ Fr (RowsTo R (i + 1)) w w'' := by
    intro f hf i hi w' hw
    rw [(h.bq.none_ i hi).1]
    exact (hf w').mono fun e w'' ⟨h1, h2⟩ => ⟨h1, by rw [h2]; exact hmore i w' hw⟩
  have hcell : ∀ i w', i < 23 → Fr (RowsTo R i) w w' → w'.cell? ⟨b, i, none⟩ = some (V i) := fun i w' hi hw => by
    refine hw.cell (h.bq.cell i hi) ?_
    rintro ⟨j, _, v, hv, e⟩
    exact (h.away j v hv b e).1 rfl
  have hVl : ∀ i, kept4 i → ∀ w', Fr (RowsTo R i) w w' → ∀ k, (V i).ownBlock = some k → k < w'.heap.size := fun i hi w' hw k hk => Nat.lt_of_lt_of_le ((h.bq.row i hi).lt k hk) hw.size
  refine (own_all b w V (fun i w' => Fr (RowsTo R i) w w') (Fr.refl _ _) hcell ?q0 (hnil _ ownTexts_nil 1 (by unfold kept4; omega)) (hnil _ ownInts_nil 2 (by unfold kept4; omega)) (hnil _ ownLongs_nil 3 (by unfold kept4; omega)) (hnil _ ownNumbers_nil 4 (by unfold kept4; omega)) (hnil _ ownWords_nil 5 (by unfold kept4; omega)) (hnil _ ownSteps_nil 6 (by unfold kept4; omega)) (hnil _ ownParts_nil 7 (by unfold kept4; omega)) (hnil _ ownDones_nil 8 (by unfold kept4; omega)) (hnil _ ownRows_nil 9 (by unfold kept4; omega)) (hnil _ ownLists_nil 10 (by unfold kept4; omega)) (hnil _ ownIntLists_nil 11 (by unfold kept4; omega)) (hnil _ ownPaths_nil 12 (by unfold kept4; omega)) ?q13 ?q14 ?q15 (hnil _ ownEntries_nil 16 (by unfold kept4; omega)) ?q17 (hnil _ ownValues_nil 18 (by unfold kept4; omega)) (hnil _ ownFields_nil 19 (by unfold kept4; omega)) (hnil _ ownIndexes_nil 20 (by unfold kept4; omega)) (hnil _ ownEvents_nil 21 (by unfold kept4; omega)) (hnil _ ownCommits_nil 22 (by unfold kept4; omega))).mono (fun e w' h => h)
  case q0 =>
    intro w' hw
    obtain ⟨ns, C, A, c, h1, h2, h3⟩ := h.two (i := 0) (by unfold kept4; omega) hw
    have h4 := hVl 0 (by unfold kept4; omega) w' hw
    rw [h2] at h4 ⊢
    exact (own_bytes w' A c (R 0) ns C h3 h4 (hl 0) h1).mono fun e w'' ⟨h5, h6⟩ => ⟨h5, hstep 0 w' w'' hw h6⟩
  case q13 =>
    intro w' hw
    obtain ⟨ns, C, A, c, h1, h2, h3⟩ := h.two (i := 13) (by unfold kept4; omega) hw
    have h4 := hVl 13 (by unfold kept4; omega) w' hw
    rw [h2] at h4 ⊢
    exact (own_Pairs w' A c (R 13) ns C h3 h4 (hl 13) h1).mono fun e w'' ⟨h5, h6⟩ => ⟨h5, hstep 13 w' w'' hw h6⟩
  case q14 =>
    intro w' hw
    obtain ⟨ns, C, A, c, h1, h2, h3⟩ := h.two (i := 14) (by unfold kept4; omega) hw
    have h4 := hVl 14 (by unfold kept4; omega) w' hw
    rw [h2] at h4 ⊢
    exact (own_Changes w' A c (R 14) ns C h3 h4 (hl 14) h1).mono fun e w'' ⟨h5, h6⟩ => ⟨h5, hstep 14 w' w'' hw h6⟩
  case q15 =>
    intro w' hw
    obtain ⟨ns, C, A, c, h1, h2, h3⟩ := h.two (i := 15) (by unfold kept4; omega) hw
    have h4 := hVl 15 (by unfold kept4; omega) w' hw
    rw [h2] at h4 ⊢
    exact (own_Spans w' A c (R 15) ns C h3 h4 (hl 15) h1).mono fun e w'' ⟨h5, h6⟩ => ⟨h5, hstep 15 w' w'' hw h6⟩
  case q17 =>
    intro w' hw
    rw [(h.bq.none_ 17 (by unfold kept4; omega)).1]
    exact (ownBools_nil w').mono fun e w'' ⟨h1, h2⟩ => ⟨h1, hmore 17 w'' (hw.trans h2 (fun _ _ h => h.elim))⟩
end Go.Proofs.Ytdnohhlgaaihmaa

/- What one sees through a buffer from the beginning on, and from the end: the pairs one by one. Plain. -/
namespace Go.Proofs.Ytdnohhlgaaihmaa
open Go.RowKit

theorem find_at {α : Type} (p : α → Bool) (l : List α) (j : Nat) (h0 : ∀ i (h : i < l.length), i < j → p l[i] = false) (h1 : ∀ h : j < l.length, p l[j] = true) : l.find? p = l[j]? := by
  induction l generalizing j with
  | nil => simp
  | cons a l ih =>
    rcases j with _ | j
    · have := h1 (by simp)
      rw [List.find?_cons_of_pos (by simpa using this)]; rfl
    · have := h0 0 (by simp) (by omega)
      rw [List.find?_cons_of_neg (by simpa using this), ih j (fun i h hi => by have := h0 (i + 1) (by simpa using h) (by omega); simpa using this) (fun h => by have := h1 (by simpa using h); simpa using this)]
      rfl

theorem walkN {S : List PrV} (hS : RisP S) (j : Nat) (f : List UInt8) (b : Bool) (h : (j = 0 ∧ f = [] ∧ b = true) ∨ ∃ i, j = i + 1 ∧ b = false ∧ ∃ hi : i < S.length, f = S[i].k) : (S.find? fun y => abv y.k f b) = S[j]? := by
  rcases h with ⟨rfl, rfl, rfl⟩ | ⟨i, rfl, rfl, hi, rfl⟩
  · refine find_at _ S 0 (fun i _ h => by omega) (fun h => ?_)
    unfold abv
    rcases h0 : S[0].k with _ | ⟨a, k⟩
    · simp
    · simp [cb, Lib.compareBytes]
  · refine find_at _ S (i + 1) (fun m hm h => ?_) (fun h => ?_)
    · unfold abv
      have hle : ¬ 0 < cb S[m].k S[i].k := by
        rcases Nat.lt_or_ge m i with h1 | h1
        · have := List.pairwise_iff_getElem.1 hS m i hm hi h1
          unfold lt at this; omega
        · obtain rfl : m = i := by omega
          rw [cb_self]; omega
      simp [hle]
    · unfold abv
      have := List.pairwise_iff_getElem.1 hS i (i + 1) hi h (by omega)
      unfold lt at this
      have h2 := cb_swap S[i].k S[i + 1].k
      simp; omega

theorem walkP {S : List PrV} (hS : RisP S) (j : Nat) (hj : j ≤ S.length) (f : List UInt8) (b : Bool) (h : (j = S.length ∧ f = [] ∧ b = true) ∨ (b = false ∧ ∃ hi : j < S.length, f = S[j].k)) : (S.reverse.find? fun y => bel y.k f b) = if j = 0 then none else S[j - 1]? := by
  have e : (S.reverse.find? fun y => bel y.k f b) = S.reverse[S.length - j]? := by
    rcases h with ⟨rfl, rfl, rfl⟩ | ⟨rfl, hi, rfl⟩
    · refine find_at _ _ _ (fun i _ h => by omega) (fun h => ?_)
      unfold bel; simp
    · refine find_at _ _ _ (fun i hi' h => ?_) (fun h => ?_)
      · rw [List.getElem_reverse]
        simp only [List.length_reverse] at hi'
        unfold bel
        have hle : ¬ cb S[S.length - 1 - i].k S[j].k < 0 := by
          rcases Nat.lt_or_ge j (S.length - 1 - i) with h1 | h1
          · have := List.pairwise_iff_getElem.1 hS j (S.length - 1 - i) hi (by omega) h1
            unfold lt at this
            have := cb_swap S[S.length - 1 - i].k S[j].k
            omega
          · have e : S.length - 1 - i = j := by omega
            simp only [e, cb_self]; omega
        simp [hle]
      · rw [List.getElem_reverse]
        simp only [List.length_reverse] at h
        unfold bel
        have := List.pairwise_iff_getElem.1 hS (S.length - 1 - (S.length - j)) j (by omega) hi (by omega)
        unfold lt at this
        simp; omega
  rw [e]
  split
  · rename_i h0
    rw [List.getElem?_eq_none (by simp; omega)]
  · rename_i h0
    rw [List.getElem?_reverse (by omega)]
    congr 1
    omega

theorem chg_ris {l : List SpV} (h : Ris l) : chgL l = l := by
  have key : ∀ j, j ≤ l.length → chgL (l.take j) = l.take j := by
    intro j
    induction j with
    | zero => intro _; rfl
    | succ j ih =>
      intro hj
      rw [chgL_succ l j (by omega), ih (by omega)]
      have hlt : ∀ m (h : m < (l.take j).length), cb (l.take j)[m].f l[j].f < 0 := fun m hm => by
        rw [List.getElem_take]
        exact List.pairwise_iff_getElem.1 h m j (by simp at hm; omega) (by omega) (by simp at hm; omega)
      have hp : posK (l.take j) l[j].f = (l.take j).length := posK_of (Nat.le_refl _) (fun m h1 _ => hlt m h1) (fun h => by omega)
      have hs : saidK (l.take j) l[j].f = false := by
        unfold saidK; rw [hp, List.getElem?_eq_none (Nat.le_refl _)]
      unfold sayL
      rw [hs, hp, if_neg (by simp), List.take_of_length_le (Nat.le_refl _), List.drop_of_length_le (Nat.le_refl _)]
      rw [List.take_succ_eq_append_getElem (by omega)]
  have := key l.length (Nat.le_refl _)
  rwa [List.take_of_length_le (Nat.le_refl _)] at this

/-- What counts of a change: of one that takes a key away its value does not. -/
def SpV.cnt (x : SpV) : List UInt8 × List UInt8 × Bool := (x.f, if x.o then [] else x.t, x.o)
theorem seen_cnt : ∀ (c c' : List SpV) (l : List PrV), c.map SpV.cnt = c'.map SpV.cnt → (seenL c l).map PrV.kv = (seenL c' l).map PrV.kv
  | [], [], _, _ => rfl
  | [], _ :: _, _, h => by simp at h
  | _ :: _, [], _, h => by simp at h
  | x :: c, x' :: c', l, h => by
    simp only [List.map_cons, List.cons.injEq, SpV.cnt, Prod.mk.injEq] at h
    obtain ⟨⟨h1, h2, h3⟩, h4⟩ := h
    have ih := fun l => seen_cnt c c' l h4
    show (l.takeWhile (fun y => decide (cb y.k x.f < 0)) ++ (putL x ++ seenL c (dropEq x.f (l.dropWhile (fun y => decide (cb y.k x.f < 0)))))).map PrV.kv = (l.takeWhile (fun y => decide (cb y.k x'.f < 0)) ++ (putL x' ++ seenL c' (dropEq x'.f (l.dropWhile (fun y => decide (cb y.k x'.f < 0)))))).map PrV.kv
    rw [h1, List.map_append, List.map_append, List.map_append, List.map_append, ih]
    congr 2
    unfold putL
    rw [h3] at h2 ⊢
    rcases ho : x'.o with _ | _
    · rw [ho] at h2
      have h2 : x.t = x'.t := h2
      simp [PrV.kv, PrV.of, h1, h2]
    · rfl
theorem ris_cnt {c c' : List SpV} (h : c.map SpV.cnt = c'.map SpV.cnt) (hr : Ris c) : Ris c' := by
  have e : c.map (fun x => x.f) = c'.map (fun x => x.f) := by
    have := congrArg (List.map (fun y : List UInt8 × List UInt8 × Bool => y.1)) h
    simpa [List.map_map, Function.comp_def, SpV.cnt] using this
  have h1 : (c.map fun x => x.f).Pairwise lt := List.pairwise_map.2 hr
  rw [e] at h1
  exact List.pairwise_map.1 h1
end Go.Proofs.Ytdnohhlgaaihmaa
