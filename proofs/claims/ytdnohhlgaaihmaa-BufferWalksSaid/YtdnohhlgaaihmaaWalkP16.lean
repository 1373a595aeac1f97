/- What one sees through a buffer from the beginning on, and from the end: the pairs one by one. Plain. -/
import Derived.Test.YtdnohhlgaaihmaaSeeP
namespace Go.Proofs.Ytdnohhlgaaihmaa
open Go.RowKit

theorem find_at {α : Type} (p : α → Bool) (l : List α) (j : Nat) (h0 : ∀ i (h : i < l.length), i < j → p l[i] = false) (h1 : ∀ h : j < l.length, p l[j] = true) : l.find? p = l[j]? := by
  induction l generalizing j with
  | nil => simp
  | cons a l ih =>
    rcases j with _ | j
    · have := h1 (by simp)
      rw [List.find?_cons_of_pos (by simpa using this)]; rfl
    · have := h0 0 (by simp) (by omega)
      rw [List.find?_cons_of_neg (by simpa using this), ih j (fun i h hi => by have := h0 (i + 1) (by simpa using h) (by omega); simpa using this) (fun h => by have := h1 (by simpa using h); simpa using this)]
      rfl

theorem walkN {S : List PrV} (hS : RisP S) (j : Nat) (f : List UInt8) (b : Bool) (h : (j = 0 ∧ f = [] ∧ b = true) ∨ ∃ i, j = i + 1 ∧ b = false ∧ ∃ hi : i < S.length, f = S[i].k) : (S.find? fun y => abv y.k f b) = S[j]? := by
  rcases h with ⟨rfl, rfl, rfl⟩ | ⟨i, rfl, rfl, hi, rfl⟩
  · refine find_at _ S 0 (fun i _ h => by omega) (fun h => ?_)
    unfold abv
    rcases h0 : S[0].k with _ | ⟨a, k⟩
    · simp
    · simp [cb, Lib.compareBytes]
  · refine find_at _ S (i + 1) (fun m hm h => ?_) (fun h => ?_)
    · unfold abv
      have hle : ¬ 0 < cb S[m].k S[i].k := by
        rcases Nat.lt_or_ge m i with h1 | h1
        · have := List.pairwise_iff_getElem.1 hS m i hm hi h1
          unfold lt at this; omega
        · obtain rfl : m = i := by omega
          rw [cb_self]; omega
      simp [hle]
    · unfold abv
      have := List.pairwise_iff_getElem.1 hS i (i + 1) hi h (by omega)
      unfold lt at this
      have h2 := cb_swap S[i].k S[i + 1].k
      simp; omega

theorem walkP {S : List PrV} (hS : RisP S) (j : Nat) (hj : j ≤ S.length) (f : List UInt8) (b : Bool) (h : (j = S.length ∧ f = [] ∧ b = true) ∨ (b = false ∧ ∃ hi : j < S.length, f = S[j].k)) : (S.reverse.find? fun y => bel y.k f b) = if j = 0 then none else S[j - 1]? := by
  have e : (S.reverse.find? fun y => bel y.k f b) = S.reverse[S.length - j]? := by
    rcases h with ⟨rfl, rfl, rfl⟩ | ⟨rfl, hi, rfl⟩
    · refine find_at _ _ _ (fun i _ h => by omega) (fun h => ?_)
      unfold bel; simp
    · refine find_at _ _ _ (fun i hi' h => ?_) (fun h => ?_)
      · rw [List.getElem_reverse]
        simp only [List.length_reverse] at hi'
        unfold bel
        have hle : ¬ cb S[S.length - 1 - i].k S[j].k < 0 := by
          rcases Nat.lt_or_ge j (S.length - 1 - i) with h1 | h1
          · have := List.pairwise_iff_getElem.1 hS j (S.length - 1 - i) hi (by omega) h1
            unfold lt at this
            have := cb_swap S[S.length - 1 - i].k S[j].k
            omega
          · have e : S.length - 1 - i = j := by omega
            simp only [e, cb_self]; omega
        simp [hle]
      · rw [List.getElem_reverse]
        simp only [List.length_reverse] at h
        unfold bel
        have := List.pairwise_iff_getElem.1 hS (S.length - 1 - (S.length - j)) j (by omega) hi (by omega)
        unfold lt at this
        simp; omega
  rw [e]
  split
  · rename_i h0
    rw [List.getElem?_eq_none (by simp; omega)]
  · rename_i h0
    rw [List.getElem?_reverse (by omega)]
    congr 1
    omega

theorem chg_ris {l : List SpV} (h : Ris l) : chgL l = l := by
  have key : ∀ j, j ≤ l.length → chgL (l.take j) = l.take j := by
    intro j
    induction j with
    | zero => intro _; rfl
    | succ j ih =>
      intro hj
      rw [chgL_succ l j (by omega), ih (by omega)]
      have hlt : ∀ m (h : m < (l.take j).length), cb (l.take j)[m].f l[j].f < 0 := fun m hm => by
        rw [List.getElem_take]
        exact List.pairwise_iff_getElem.1 h m j (by simp at hm; omega) (by omega) (by simp at hm; omega)
      have hp : posK (l.take j) l[j].f = (l.take j).length := posK_of (Nat.le_refl _) (fun m h1 _ => hlt m h1) (fun h => by omega)
      have hs : saidK (l.take j) l[j].f = false := by
        unfold saidK; rw [hp, List.getElem?_eq_none (Nat.le_refl _)]
      unfold sayL
      rw [hs, hp, if_neg (by simp), List.take_of_length_le (Nat.le_refl _), List.drop_of_length_le (Nat.le_refl _)]
      rw [List.take_succ_eq_append_getElem (by omega)]
  have := key l.length (Nat.le_refl _)
  rwa [List.take_of_length_le (Nat.le_refl _)] at this

/-- What counts of a change: of one that takes a key away its value does not. -/
def SpV.cnt (x : SpV) : List UInt8 × List UInt8 × Bool := (x.f, if x.o then [] else x.t, x.o)
theorem seen_cnt : ∀ (c c' : List SpV) (l : List PrV), c.map SpV.cnt = c'.map SpV.cnt → (seenL c l).map PrV.kv = (seenL c' l).map PrV.kv
  | [], [], _, _ => rfl
  | [], _ :: _, _, h => by simp at h
  | _ :: _, [], _, h => by simp at h
  | x :: c, x' :: c', l, h => by
    simp only [List.map_cons, List.cons.injEq, SpV.cnt, Prod.mk.injEq] at h
    obtain ⟨⟨h1, h2, h3⟩, h4⟩ := h
    have ih := fun l => seen_cnt c c' l h4
    show (l.takeWhile (fun y => decide (cb y.k x.f < 0)) ++ (putL x ++ seenL c (dropEq x.f (l.dropWhile (fun y => decide (cb y.k x.f < 0)))))).map PrV.kv = (l.takeWhile (fun y => decide (cb y.k x'.f < 0)) ++ (putL x' ++ seenL c' (dropEq x'.f (l.dropWhile (fun y => decide (cb y.k x'.f < 0)))))).map PrV.kv
    rw [h1, List.map_append, List.map_append, List.map_append, List.map_append, ih]
    congr 2
    unfold putL
    rw [h3] at h2 ⊢
    rcases ho : x'.o with _ | _
    · rw [ho] at h2
      have h2 : x.t = x'.t := h2
      simp [PrV.kv, PrV.of, h1, h2]
    · rfl
theorem ris_cnt {c c' : List SpV} (h : c.map SpV.cnt = c'.map SpV.cnt) (hr : Ris c) : Ris c' := by
  have e : c.map (fun x => x.f) = c'.map (fun x => x.f) := by
    have := congrArg (List.map (fun y : List UInt8 × List UInt8 × Bool => y.1)) h
    simpa [List.map_map, Function.comp_def, SpV.cnt] using this
  have h1 : (c.map fun x => x.f).Pairwise lt := List.pairwise_map.2 hr
  rw [e] at h1
  exact List.pairwise_map.1 h1
end Go.Proofs.Ytdnohhlgaaihmaa
