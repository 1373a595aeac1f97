/- What is seen through a buffer: how many questions it takes. Plain. -/
import Derived.Test.YtdnohhlgaaihmaaBuf13
namespace Go.Proofs.Ytdnohhlgaaihmaa
open Go.RowKit

theorem thr_succ (l : List SpV) (c : Option (List UInt8 × List UInt8)) (ah : List UInt8 → List UInt8 → Bool) (ask : List UInt8 → Bool → Option (List UInt8 × List UInt8)) (n : Nat) (f : List UInt8) (i : Bool) {kv : List UInt8 × List UInt8} (ha : ask f i = some kv) :
    thr l c ah ask (n + 1) f i = if c.elim false (fun ck => !ah kv.1 ck.1) then (n, some c) else if saidK l kv.1 then thr l c ah ask n kv.1 false else (n, some (some kv)) := by
  cases c <;> simp [thr, ha]

/-- What is asked is asked whatever number of questions is left. -/
theorem thr_ask (l : List SpV) (c : Option (List UInt8 × List UInt8)) (ah : List UInt8 → List UInt8 → Bool) (ask : List UInt8 → Bool → Option (List UInt8 × List UInt8)) : ∀ (N : Nat) (f : List UInt8) (i : Bool), (thr l c ah ask N f i).2 ≠ none →
    (thr l c ah ask N f i).1 < N ∧ (∀ n, n < N - (thr l c ah ask N f i).1 → thr l c ah ask n f i = (0, none)) ∧ ∀ n, N - (thr l c ah ask N f i).1 ≤ n → thr l c ah ask n f i = (n - (N - (thr l c ah ask N f i).1), (thr l c ah ask N f i).2)
  | 0, f, i, h => absurd rfl h
  | N + 1, f, i, h => by
    have one : ∀ x, thr l c ah ask (N + 1) f i = (N, some x) → (∀ n, thr l c ah ask (n + 1) f i = (n, some x)) → (thr l c ah ask (N + 1) f i).1 < N + 1 ∧ (∀ n, n < N + 1 - (thr l c ah ask (N + 1) f i).1 → thr l c ah ask n f i = (0, none)) ∧ ∀ n, N + 1 - (thr l c ah ask (N + 1) f i).1 ≤ n → thr l c ah ask n f i = (n - (N + 1 - (thr l c ah ask (N + 1) f i).1), (thr l c ah ask (N + 1) f i).2) := by
      intro x h1 h2
      rw [h1]
      refine ⟨Nat.lt_succ_self _, fun n hn => ?_, fun n hn => ?_⟩
      · obtain rfl : n = 0 := by simp only [] at hn; omega
        rfl
      · simp only [] at hn ⊢
        obtain ⟨m, rfl⟩ : ∃ m, n = m + 1 := ⟨n - 1, by omega⟩
        rw [h2 m, show m + 1 - (N + 1 - N) = m by omega]
    rcases ha : ask f i with _ | kv
    · exact one c (by simp [thr, ha]) (fun n => by simp [thr, ha])
    · by_cases hc : c.elim false (fun ck => !ah kv.1 ck.1) = true
      · exact one c (by rw [thr_succ _ _ _ _ _ _ _ ha, if_pos hc]) (fun n => by rw [thr_succ _ _ _ _ _ _ _ ha, if_pos hc])
      · by_cases hs : saidK l kv.1 = true
        · have hstep : ∀ n, thr l c ah ask (n + 1) f i = thr l c ah ask n kv.1 false := fun n => by rw [thr_succ _ _ _ _ _ _ _ ha, if_neg hc, if_pos hs]
          rw [hstep N] at h ⊢
          obtain ⟨h1, h2, h3⟩ := thr_ask l c ah ask N kv.1 false h
          refine ⟨by omega, fun n hn => ?_, fun n hn => ?_⟩
          · rcases n with _ | n
            · rfl
            · rw [hstep n]; exact h2 n (by omega)
          · obtain ⟨m, rfl⟩ : ∃ m, n = m + 1 := ⟨n - 1, by omega⟩
            rw [hstep m, h3 m (by omega)]
            rw [show m + 1 - (N + 1 - (thr l c ah ask N kv.1 false).1) = m - (N - (thr l c ah ask N kv.1 false).1) by omega]
        · exact one (some kv) (by rw [thr_succ _ _ _ _ _ _ _ ha, if_neg hc, if_neg hs]) (fun n => by rw [thr_succ _ _ _ _ _ _ _ ha, if_neg hc, if_neg hs])

theorem thr_some (l : List SpV) (c : Option (List UInt8 × List UInt8)) (ah : List UInt8 → List UInt8 → Bool) (ask : List UInt8 → Bool → Option (List UInt8 × List UInt8)) (m : List UInt8 → Nat) (hm : ∀ f kv, ask f false = some kv → m kv.1 < m f) :
    ∀ (N : Nat) (f : List UInt8), m f < N → (thr l c ah ask N f false).2 ≠ none
  | 0, f, h => absurd h (Nat.not_lt_zero _)
  | N + 1, f, h => by
    rcases ha : ask f false with _ | kv
    · simp [thr, ha]
    · have ih := thr_some l c ah ask m hm N kv.1 (by have := hm f kv ha; omega)
      rw [thr_succ _ _ _ _ _ _ _ ha]
      split
      · simp
      · split
        · exact ih
        · simp
theorem thr_some' (l : List SpV) (c : Option (List UInt8 × List UInt8)) (ah : List UInt8 → List UInt8 → Bool) (ask : List UInt8 → Bool → Option (List UInt8 × List UInt8)) (m : List UInt8 → Nat) (hm : ∀ f kv, ask f false = some kv → m kv.1 < m f) (N : Nat) (hN : ∀ k, m k < N) (f : List UInt8) (i : Bool) :
    (thr l c ah ask (N + 1) f i).2 ≠ none := by
  rcases ha : ask f i with _ | kv
  · simp [thr, ha]
  · have ih := thr_some l c ah ask m hm N kv.1 (hN _)
    rw [thr_succ _ _ _ _ _ _ _ ha]
    split
    · simp
    · split
      · exact ih
      · simp

theorem count_lt {α : Type} (p q : α → Bool) (l : List α) (h : ∀ y ∈ l, p y = true → q y = true) (z : α) (hz : z ∈ l) (hp : p z = false) (hq : q z = true) : l.countP p < l.countP q := by
  induction l with
  | nil => cases hz
  | cons a l ih =>
    have hle : ∀ l : List α, (∀ y ∈ l, p y = true → q y = true) → l.countP p ≤ l.countP q := fun l h => List.countP_mono_left h
    rcases List.mem_cons.1 hz with rfl | hz
    · rw [List.countP_cons, List.countP_cons, hp, hq]
      have := hle l (fun y hy => h y (List.mem_cons_of_mem _ hy))
      simp; omega
    · have := ih (fun y hy => h y (List.mem_cons_of_mem _ hy)) hz
      rw [List.countP_cons, List.countP_cons]
      have h1 := h a (List.mem_cons_self ..)
      split
      · rename_i hpa; rw [if_pos (h1 hpa)]; omega
      · split <;> omega

theorem askN_less (bl : List PrV) (f : List UInt8) (kv : List UInt8 × List UInt8) (h : askN bl f false = some kv) : (bl.countP fun y => decide (0 < cb y.k kv.1)) < bl.countP fun y => decide (0 < cb y.k f) := by
  unfold askN at h
  obtain ⟨z, hz, rfl⟩ := Option.map_eq_some_iff.1 h
  have hm := List.mem_of_find?_eq_some hz
  have ha := List.find?_some hz
  have hf : 0 < cb z.k f := by unfold abv at ha; simpa using ha
  refine count_lt _ _ _ (fun y _ hy => ?_) z hm (by simp [cb_self]) (by simpa using hf)
  have h1 : 0 < cb y.k z.k := by simpa using hy
  have h2 := cb_swap y.k z.k; have h3 := cb_swap z.k f; have h5 := cb_swap y.k f
  have h4 := (cb_trans (a := f) (b := z.k) (c := y.k) (by omega) (by omega)).2 (.inl (by omega))
  simp; omega
theorem askP_less (bl : List PrV) (f : List UInt8) (kv : List UInt8 × List UInt8) (h : askP bl f false = some kv) : (bl.countP fun y => decide (cb y.k kv.1 < 0)) < bl.countP fun y => decide (cb y.k f < 0) := by
  unfold askP at h
  obtain ⟨z, hz, rfl⟩ := Option.map_eq_some_iff.1 h
  have hm := List.mem_reverse.1 (List.mem_of_find?_eq_some hz)
  have ha := List.find?_some hz
  have hf : cb z.k f < 0 := by unfold bel at ha; simpa using ha
  refine count_lt _ _ _ (fun y _ hy => ?_) z hm (by simp [cb_self]) (by simpa using hf)
  have h1 : cb y.k z.k < 0 := by simpa using hy
  have h4 := (cb_trans (a := y.k) (b := z.k) (c := f) (by omega) (by omega)).2 (.inl (by omega))
  simpa using h4

theorem seeN_some (l : List SpV) (bl : List PrV) (N : Nat) (hN : bl.length + 2 ≤ N) (f : List UInt8) (i : Bool) : (seeN l bl N f i).2 ≠ none := by
  obtain ⟨M, rfl⟩ : ∃ M, N = M + 1 := ⟨N - 1, by omega⟩
  exact thr_some' _ _ _ _ (fun k => bl.countP fun y => decide (0 < cb y.k k)) (fun f kv h => askN_less bl f kv h) M (fun k => by have := List.countP_le_length (p := fun y : PrV => decide (0 < cb y.k k)) (l := bl); omega) f i
theorem seeP_some (l : List SpV) (bl : List PrV) (N : Nat) (hN : bl.length + 2 ≤ N) (f : List UInt8) (i : Bool) : (seeP l bl N f i).2 ≠ none := by
  obtain ⟨M, rfl⟩ : ∃ M, N = M + 1 := ⟨N - 1, by omega⟩
  exact thr_some' _ _ _ _ (fun k => bl.countP fun y => decide (cb y.k k < 0)) (fun f kv h => askP_less bl f kv h) M (fun k => by have := List.countP_le_length (p := fun y : PrV => decide (cb y.k k < 0)) (l := bl); omega) f i
end Go.Proofs.Ytdnohhlgaaihmaa
