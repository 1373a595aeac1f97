import Derived.Test.YtdnohhlgaaihmaaMd24
import Derived.Test.YtdnohhlgaaihmaaMd25
import Derived.Test.YtdnohhlgaaihmaaMd26
import Derived.Test.YtdnohhlgaaihmaaMd27
import Derived.Test.YtdnohhlgaaihmaaMd07

/- The book of all lists: bytes, and rows of pairs, changes and spans. -/
namespace Go.Proofs.Ytdnohhlgaaihmaa
open Go.RowKit

/-- The type of a list's elements. -/
def eT (i : Nat) : TypeId := if i = 0 then 34 else if i = 13 then 22 else if i = 14 then 30 else 90
/-- What a row of a list is of, its size, how long it may be. -/
def rT (i : Nat) : TypeId := if i = 0 then 5 else if i = 13 then 40 else if i = 14 then 36 else 100
def rS (i : Nat) : Nat := if i = 0 then 1 else if i = 13 then 2 else 3
def rL (i : Nat) : Nat := if i = 0 then 140737488351232 else 1000000
def kept4 (i : Nat) : Prop := i = 0 ∨ i = 13 ∨ i = 14 ∨ i = 15
instance (i : Nat) : Decidable (kept4 i) := by unfold kept4; infer_instance

def cells23 (V : Nat → Value) : Array Value := ((List.range 23).map V).toArray
def upd {α : Type} (V : Nat → α) (i : Nat) (v : α) : Nat → α := fun j => if j = i then v else V j
theorem upd_same {α : Type} (V : Nat → α) (i : Nat) (v : α) : upd V i v i = v := by simp [upd]
theorem upd_other {α : Type} {V : Nat → α} {i j : Nat} {v : α} (h : j ≠ i) : upd V i v j = V j := by simp [upd, h]
theorem cells23_set (V : Nat → Value) (i : Nat) (_ : i < 23) (v : Value) : (cells23 V).setIfInBounds i v = cells23 (upd V i v) := by
  unfold cells23
  rw [List.setIfInBounds_toArray]
  congr 1
  apply List.ext_getElem
  · simp
  · intro j h1 h2
    rw [List.getElem_set]
    simp only [List.getElem_map, List.getElem_range, upd]
    by_cases h : i = j
    · subst h; simp
    · simp [h, Ne.symm h]

structure Bq (w : World) (b : Nat) (V : Nat → Value) (R : Nat → List Value) : Prop where
  at_ : w.heap[b]? = some (.cells (cells23 V) 87 (0, 0))
  row : ∀ i, kept4 i → Ow w (eT i) 1 (V i) (R i).length (R i)
  none_ : ∀ i, ¬ kept4 i → V i = .slice none 0 0 ∧ R i = []
  ne : ∀ i, (V i).ownBlock ≠ some b
  dj : ∀ i j, i ≠ j → ∀ k, (V i).ownBlock = some k → (V j).ownBlock ≠ some k
theorem Bq.cell {w : World} {b : Nat} {V : Nat → Value} {R : Nat → List Value} (h : Bq w b V R) (i : Nat) (hi : i < 23) : w.cell? ⟨b, i, none⟩ = some (V i) := by
  simp [World.cell?, h.at_, cells23, hi]
theorem Bq.frozen {w : World} {b : Nat} {V : Nat → Value} {R : Nat → List Value} (h : Bq w b V R) (i : Nat) : w.frozen? ⟨b, i, none⟩ = false := by
  simp [World.frozen?, h.at_]
theorem Bq.lt {w : World} {b : Nat} {V : Nat → Value} {R : Nat → List Value} (h : Bq w b V R) : b < w.heap.size := (Array.getElem?_eq_some_iff.1 h.at_).1
theorem Bq.kept {w w1 : World} {b : Nat} {V : Nat → Value} {R : Nat → List Value} {S : Nat → Prop} (h : Bq w b V R) (f : Fr S w w1) (h1 : ¬ S b) (h2 : ∀ i k, (V i).ownBlock = some k → ¬ S k) : Bq w1 b V R :=
  ⟨f.heap h.at_ h1, fun i hi => (h.row i hi).kept f (fun k hk => h2 i k hk), h.none_, h.ne, h.dj⟩
theorem Bq.put {w w2 : World} {b : Nat} {V : Nat → Value} {R : Nat → List Value} {i N : Nat} {r v' : Value} (h : Bq w b V R) (hk : kept4 i) (f : Fr (fun k => (V i).ownBlock = some k) w w2) (hN : N = (R i).length + 1)
    (ho : Ow w2 (eT i) 1 v' N (R i ++ [r])) (st : Stays w w2 (V i) v' (R i).length N) :
    Bq (w2.setCell ⟨b, i, none⟩ v') b (upd V i v') (upd R i (R i ++ [r])) ∧ Fr (fun k => k = b ∨ (V i).ownBlock = some k) w (w2.setCell ⟨b, i, none⟩ v') ∧ (∀ k, v'.ownBlock = some k → (V i).ownBlock = some k ∨ (w.heap.size ≤ k ∧ k < w2.heap.size)) := by
  have hi : i < 23 := by rcases hk with h | h | h | h <;> omega
  have hnb : ¬ (V i).ownBlock = some b := h.ne i
  have mv : ∀ k, v'.ownBlock = some k → (V i).ownBlock = some k ∨ (w.heap.size ≤ k ∧ k < w2.heap.size) := fun k hk => by
    rcases st with ⟨A, c, h1, h2⟩ | st
    · left; rw [h1]; rw [h2] at hk; cases A <;> exact hk
    · exact .inr (st k hk)
  have hbl := h.lt
  have hv'b : v'.ownBlock ≠ some b := fun e => by rcases mv b e with h1 | h1; exact hnb h1; omega
  have f1 : Fr (fun k => k = b) w2 (w2.setCell ⟨b, i, none⟩ v') := Fr.setCell (Fr.refl (fun k => k = b) w2) ⟨b, i, none⟩ v' (fun _ => rfl)
  have hlt : ∀ j k, (V j).ownBlock = some k → k < w.heap.size := fun j k hk => by
    by_cases hj : kept4 j
    · exact (h.row j hj).lt k hk
    · rw [(h.none_ j hj).1] at hk; simp [Value.ownBlock] at hk
  refine ⟨⟨?_, fun j hj => ?_, fun j hj => ?_, fun j => ?_, fun j j' hjj k e => ?_⟩, (f.mono (fun _ _ e => .inr e)).trans f1 (fun _ _ e => .inl e), mv⟩
  · rw [← cells23_set V i hi]; exact hp_same (f.heap h.at_ hnb) i v'
  · by_cases hji : j = i
    · subst hji
      rw [upd_same, upd_same, List.length_append]
      rw [hN] at ho
      exact ho.kept f1 (fun k hk e => hv'b (by rw [← e]; exact hk))
    · rw [upd_other hji, upd_other hji]
      exact ((h.row j hj).kept f (fun k hk e => h.dj j i hji k hk e)).kept f1 (fun k hk e => h.ne j (by rw [← e]; exact hk))
  · have hji : j ≠ i := fun e => hj (by rw [e]; exact hk)
    rw [upd_other hji, upd_other hji]; exact h.none_ j hj
  · by_cases hji : j = i
    · subst hji; rw [upd_same]; exact hv'b
    · rw [upd_other hji]; exact h.ne j
  · by_cases hji : j = i
    · subst hji
      rw [upd_same] at e
      rw [upd_other (Ne.symm hjj)]
      rcases mv k e with h1 | h1
      · exact h.dj j j' hjj k h1
      · intro e2; have := hlt j' k e2; omega
    · rw [upd_other hji] at e
      by_cases hji' : j' = i
      · subst hji'
        rw [upd_same]
        intro e2
        rcases mv k e2 with h1 | h1
        · exact h.dj j j' hjj k e h1
        · have := hlt j k e; omega
      · rw [upd_other hji']; exact h.dj j j' hjj k e

def Apart (x y : Value) : Prop := ∀ k, x.ownBlock = some k → y.ownBlock ≠ some k
theorem Apart.symm {x y : Value} (h : Apart x y) : Apart y x := fun k h1 h2 => h k h2 h1
def RowOk (w : World) (i : Nat) (v : Value) : Prop := ∃ n xs, n ≤ rL i ∧ Ow w (rT i) (rS i) v n xs
/-- The blocks of a book and of what it has. -/
def BcF (b : Nat) (V : Nat → Value) (R : Nat → List Value) : Nat → Prop := fun k => k = b ∨ (∃ i, (V i).ownBlock = some k) ∨ ∃ i, InRows (R i) k

/-- A book and what it has: rows of their own, apart. -/
structure Bc (w : World) (b : Nat) (V : Nat → Value) (R : Nat → List Value) : Prop where
  bq : Bq w b V R
  ok : ∀ i, ∀ v ∈ R i, RowOk w i v
  pi : ∀ i, (R i).Pairwise Apart
  px : ∀ i j, i ≠ j → ∀ v ∈ R i, ∀ v' ∈ R j, Apart v v'
  away : ∀ i, ∀ v ∈ R i, ∀ k, v.ownBlock = some k → k ≠ b ∧ ∀ j, (V j).ownBlock ≠ some k
theorem Bc.lt {w : World} {b : Nat} {V : Nat → Value} {R : Nat → List Value} (h : Bc w b V R) : ∀ k, BcF b V R k → k < w.heap.size := by
  rintro k (rfl | ⟨i, hk⟩ | ⟨i, v, hv, hk⟩)
  · exact h.bq.lt
  · by_cases hj : kept4 i
    · exact (h.bq.row i hj).lt k hk
    · rw [(h.bq.none_ i hj).1] at hk; simp [Value.ownBlock] at hk
  · obtain ⟨n, xs, _, ho⟩ := h.ok i v hv
    exact ho.lt k hk
theorem Bc.kept {w w1 : World} {b : Nat} {V : Nat → Value} {R : Nat → List Value} {S : Nat → Prop} (h : Bc w b V R) (f : Fr S w w1) (hn : ∀ k, BcF b V R k → ¬ S k) : Bc w1 b V R :=
  ⟨h.bq.kept f (hn b (.inl rfl)) (fun i k hk => hn k (.inr (.inl ⟨i, hk⟩))), fun i v hv => by
    obtain ⟨n, xs, h1, h2⟩ := h.ok i v hv
    exact ⟨n, xs, h1, h2.kept f (fun k hk => hn k (.inr (.inr ⟨i, v, hv, hk⟩)))⟩, h.pi, h.px, h.away⟩
theorem Bc.kept0 {w w1 : World} {b : Nat} {V : Nat → Value} {R : Nat → List Value} (h : Bc w b V R) (f : Fr no w w1) : Bc w1 b V R := h.kept f (fun _ _ h => h)

/-- One row more in a list. -/
theorem Bc.add {w w1 : World} {b i : Nat} {V : Nat → Value} {R : Nat → List Value} {r v' : Value} (h : Bc w b V R) (hq : Bq w1 b (upd V i v') (upd R i (R i ++ [r]))) (f : Fr (fun k => k = b ∨ (V i).ownBlock = some k) w w1)
    (mv : ∀ k, v'.ownBlock = some k → (V i).ownBlock = some k ∨ w.heap.size ≤ k) (hr : RowOk w i r) (hd : ∀ k, r.ownBlock = some k → ¬ BcF b V R k) :
    Bc w1 b (upd V i v') (upd R i (R i ++ [r])) ∧ ∀ k, BcF b (upd V i v') (upd R i (R i ++ [r])) k → BcF b V R k ∨ r.ownBlock = some k ∨ w.heap.size ≤ k := by
  have hrow : ∀ j v, v ∈ upd R i (R i ++ [r]) j → v ∈ R j ∨ (j = i ∧ v = r) := fun j v hv => by
    by_cases hji : j = i
    · subst hji
      rw [upd_same] at hv
      rcases List.mem_append.1 hv with h1 | h1
      · exact .inl h1
      · exact .inr ⟨rfl, List.mem_singleton.1 h1⟩
    · rw [upd_other hji] at hv; exact .inl hv
  have hrl : ∀ k, r.ownBlock = some k → k < w.heap.size := fun k hk => by obtain ⟨n, xs, _, ho⟩ := hr; exact ho.lt k hk
  have hapr : ∀ j v, v ∈ R j → Apart v r := fun j v hv k h1 h2 => hd k h2 (.inr (.inr ⟨j, v, hv, h1⟩))
  have hok : ∀ j v, RowOk w j v → (∀ k, v.ownBlock = some k → ¬ (k = b ∨ (V i).ownBlock = some k)) → RowOk w1 j v := fun j v ⟨n, xs, h1, h2⟩ hn => ⟨n, xs, h1, h2.kept f hn⟩
  have hVV : ∀ j k, (upd V i v' j).ownBlock = some k → (∃ j, (V j).ownBlock = some k) ∨ w.heap.size ≤ k := fun j k hk => by
    by_cases hji : j = i
    · subst hji; rw [upd_same] at hk
      rcases mv k hk with h1 | h1
      · exact .inl ⟨_, h1⟩
      · exact .inr h1
    · rw [upd_other hji] at hk; exact .inl ⟨j, hk⟩
  refine ⟨⟨hq, fun j v hv => ?_, fun j => ?_, fun j j' hjj v hv v' hv' => ?_, fun j v hv k hk => ?_⟩, fun k hk => ?_⟩
  · rcases hrow j v hv with h1 | ⟨rfl, rfl⟩
    · exact hok j v (h.ok j v h1) (fun k hk e => by have := h.away j v h1 k hk; rcases e with e | e; exact this.1 e; exact this.2 i e)
    · exact hok _ _ hr (fun k hk e => hd k hk (by rcases e with e | e; exact .inl e; exact .inr (.inl ⟨_, e⟩)))
  · by_cases hji : j = i
    · subst hji
      rw [upd_same, List.pairwise_append]
      exact ⟨h.pi j, List.pairwise_singleton _ _, fun x hx y hy => by rw [List.mem_singleton.1 hy]; exact hapr j x hx⟩
    · rw [upd_other hji]; exact h.pi j
  · rcases hrow j v hv with h1 | ⟨rfl, rfl⟩
    · rcases hrow j' v' hv' with h2 | ⟨rfl, rfl⟩
      · exact h.px j j' hjj v h1 v' h2
      · exact hapr j v h1
    · rcases hrow j' v' hv' with h2 | ⟨h2, _⟩
      · exact (hapr j' v' h2).symm
      · exact absurd h2.symm hjj
  · have hlow : k ≠ b ∧ (∀ j, (V j).ownBlock ≠ some k) ∧ k < w.heap.size := by
      rcases hrow j v hv with h1 | ⟨rfl, rfl⟩
      · exact ⟨(h.away j v h1 k hk).1, (h.away j v h1 k hk).2, by obtain ⟨n, xs, _, ho⟩ := h.ok j v h1; exact ho.lt k hk⟩
      · exact ⟨fun e => hd k hk (.inl e), fun j e => hd k hk (.inr (.inl ⟨j, e⟩)), hrl k hk⟩
    refine ⟨hlow.1, fun j' e => ?_⟩
    rcases hVV j' k e with ⟨j2, h1⟩ | h1
    · exact hlow.2.1 j2 h1
    · have := hlow.2.2; omega
  · rcases hk with h1 | ⟨j, h1⟩ | ⟨j, v, h1, h2⟩
    · exact .inl (.inl h1)
    · rcases hVV j k h1 with h2 | h2
      · exact .inl (.inr (.inl h2))
      · exact .inr (.inr h2)
    · rcases hrow j v h1 with h3 | ⟨_, rfl⟩
      · exact .inl (.inr (.inr ⟨j, v, h3, h2⟩))
      · exact .inr (.inl h2)
end Go.Proofs.Ytdnohhlgaaihmaa
