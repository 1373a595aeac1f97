/- law17: a set and the document's, as they are filled: what is added, and whose blocks they are. -/
import Derived.Test.YtdnohhlgaaihmaaSpanK
namespace Go.Proofs.Ytdnohhlgaaihmaa
open Go.RowKit

/-- A key, as a span. -/
def keySp (b : List UInt8) : SpV := ⟨.slice none 0 0, .slice none 0 0, b, b ++ [0], false⟩

theorem keySp_lt (b : List UInt8) : lt b (b ++ [0]) := by
  unfold lt
  have := cb_swap (b ++ [0]) b
  rw [cb_zero] at this; omega
theorem keySp_ok (b : List UInt8) : (keySp b).Ok := ⟨fun h => by simp [keySp] at h, fun _ => keySp_lt b⟩

theorem lt_next {k b : List UInt8} (h : lt k (b ++ [0])) : le k b := by
  unfold lt cb at h; unfold le cb
  induction b generalizing k with
  | nil =>
    cases k with
    | nil => simp [Lib.compareBytes]
    | cons a k =>
      exfalso
      simp only [List.nil_append, Lib.compareBytes] at h
      by_cases h0 : a = 0
      · subst h0; cases k <;> simp [Lib.compareBytes] at h
      · have e1 : (0 : UInt8) < a := by
          rw [UInt8.lt_iff_toNat_lt]
          have : a.toNat ≠ 0 := fun e => h0 (UInt8.toNat_inj.1 (by simpa using e))
          simp; omega
        have e2 : ¬ a < 0 := by rw [UInt8.lt_iff_toNat_lt]; simp
        simp [e1, e2] at h
  | cons c b ih =>
    cases k with
    | nil => simp [Lib.compareBytes]
    | cons a k =>
      simp only [List.cons_append, Lib.compareBytes] at h ⊢
      by_cases h1 : a < c
      · simp [h1]
      · by_cases h2 : c < a
        · simp [h1, h2] at h
        · simp only [h1, h2, if_false] at h ⊢
          exact ih h

theorem keySp_mem (b k : List UInt8) : (keySp b).mem k ↔ k = b := by
  constructor
  · rintro ⟨h1, h2⟩
    rcases h2 with h2 | h2
    · cases h2
    · exact le_antisymm (lt_next h2) h1
  · rintro rfl
    exact ⟨le_rfl _, .inr (keySp_lt _)⟩

theorem key_mem (F T : Value) (b k : List UInt8) : SpV.mem ⟨F, T, b, b ++ [0], false⟩ k ↔ b = k := (SpV.mem_pr (x := ⟨F, T, b, b ++ [0], false⟩) (y := keySp b) rfl k).trans ((keySp_mem b k).trans eq_comm)

/-- What keys and spans, up to the j-th of each, cover. -/
def Added (ks : List Kv) (l : List SpV) (j : Nat) (k : List UInt8) : Prop := (∃ i x, i < j ∧ ks[i]? = some x ∧ x.b = k) ∨ ∃ i x, i < j ∧ l[i]? = some x ∧ SpV.mem x k

theorem Added.zero (ks : List Kv) (l : List SpV) (k : List UInt8) : ¬ Added ks l 0 k := by
  rintro (⟨i, x, h, _⟩ | ⟨i, x, h, _⟩) <;> omega
theorem Added.succ (ks : List Kv) (l : List SpV) (j : Nat) (k : List UInt8) : Added ks l (j + 1) k ↔ (∃ x, l[j]? = some x ∧ SpV.mem x k) ∨ (∃ x, ks[j]? = some x ∧ x.b = k) ∨ Added ks l j k := by
  constructor
  · rintro (⟨i, x, h, h1⟩ | ⟨i, x, h, h1⟩)
    · rcases Nat.lt_succ_iff_lt_or_eq.1 h with h | rfl
      · exact .inr (.inr (.inl ⟨i, x, h, h1⟩))
      · exact .inr (.inl ⟨x, h1⟩)
    · rcases Nat.lt_succ_iff_lt_or_eq.1 h with h | rfl
      · exact .inr (.inr (.inr ⟨i, x, h, h1⟩))
      · exact .inl ⟨x, h1⟩
  · rintro (⟨x, h⟩ | ⟨x, h⟩ | ⟨i, x, h, h1⟩ | ⟨i, x, h, h1⟩)
    · exact .inr ⟨j, x, by omega, h⟩
    · exact .inl ⟨j, x, by omega, h⟩
    · exact .inl ⟨i, x, by omega, h1⟩
    · exact .inr ⟨i, x, by omega, h1⟩
/-- All that keys and spans cover. -/
def AllIn (ks : List Kv) (l : List SpV) (k : List UInt8) : Prop := (∃ x ∈ ks, x.b = k) ∨ SpV.Mem l k
theorem Added.all {ks : List Kv} {l : List SpV} {j : Nat} (h1 : ks.length ≤ j) (h2 : l.length ≤ j) (k : List UInt8) : Added ks l j k ↔ AllIn ks l k := by
  constructor
  · rintro (⟨i, x, h, h3, h4⟩ | ⟨i, x, h, h3, h4⟩)
    · exact .inl ⟨x, List.mem_of_getElem? h3, h4⟩
    · exact .inr ⟨x, List.mem_of_getElem? h3, h4⟩
  · rintro (⟨x, h3, h4⟩ | ⟨x, h3, h4⟩)
    · obtain ⟨i, hi, rfl⟩ := List.getElem_of_mem h3
      exact .inl ⟨i, _, by omega, List.getElem?_eq_getElem hi, h4⟩
    · obtain ⟨i, hi, rfl⟩ := List.getElem_of_mem h3
      exact .inr ⟨i, _, by omega, List.getElem?_eq_getElem hi, h4⟩

namespace SpV
theorem add_len (l : List SpV) (x : SpV) : (add l x).length ≤ l.length + 1 := by
  unfold add
  have := fst_le l x.f
  simp only [List.length_append, List.length_take, List.length_drop, List.length_cons, List.length_nil]; omega
theorem mem_none {x : SpV} (h1 : x.o = false) (h2 : cb x.t x.f ≤ 0) (k : List UInt8) : ¬ x.mem k := by
  rintro ⟨h3, h4 | h4⟩
  · rw [h1] at h4; cases h4
  · exact lt_not_le (le_lt_trans h3 h4) h2
theorem mem_add (x : SpV) (F T : Value) (k : List UInt8) : SpV.mem ⟨F, T, x.f, if x.o then [] else x.t, x.o⟩ k ↔ x.mem k := by
  unfold mem upto
  cases x.o <;> simp
theorem ok_add {x : SpV} (F T : Value) (h : x.o = true ∨ 0 < cb x.t x.f) : SpV.Ok ⟨F, T, x.f, if x.o then [] else x.t, x.o⟩ := by
  refine ⟨fun h1 => ?_, fun h1 => ?_⟩
  · simp only at h1; simp [h1]
  · simp only at h1
    rcases h with h | h
    · rw [h1] at h; cases h
    · simp only [h1]
      unfold lt
      have := cb_swap x.t x.f
      simp only [Bool.false_eq_true, if_false]; omega
end SpV

theorem Se.lt {w : World} {p : Nat} {sv : Value} {l : List SpV} (h : Se w p sv l) : ∀ k, SeF p sv l k → k < w.heap.size := by
  rintro k (rfl | hk | ⟨x, hx, hk⟩)
  · exact (Array.getElem?_eq_some_iff.1 h.at_).1
  · exact h.row.lt k hk
  · exact (h.apart x hx k hk).2.2
theorem Rf.lt {w : World} {p : Nat} {sv : Value} {l : List SpV} (h : Rf w p sv l) : ∀ k, SeF p sv l k → k < w.heap.size := by
  rintro k (rfl | hk | ⟨x, hx, hk⟩)
  · exact (Array.getElem?_eq_some_iff.1 h.at_).1
  · exact h.row.lt k hk
  · exact (h.apart x hx k hk).2.2

/-- A set that covers M; since w it was made. G: blocks that are none of its. -/
structure One (w wr : World) (p : Nat) (sv : Value) (l : List SpV) (M : List UInt8 → Prop) (n : Nat) (G : Nat → Prop) : Prop where
  fr : Fr no w wr
  se : Se wr p sv l
  norm : SpV.Norm l
  mem : ∀ k, SpV.Mem l k ↔ M k
  len : l.length ≤ n
  new : ∀ k, SeF p sv l k → w.heap.size ≤ k
  av : ∀ k, G k → ¬ SeF p sv l k ∧ w.heap.size ≤ k ∧ k < wr.heap.size

/-- The document's. -/
structure Doc (w wr : World) (p : Nat) (sv : Value) (l : List SpV) (M : List UInt8 → Prop) (n : Nat) (G : Nat → Prop) : Prop where
  fr : Fr no w wr
  rf : Rf wr p sv l
  ok : ∀ x ∈ l, x.Ok
  mem : ∀ k, SpV.Mem l k ↔ M k
  len : l.length ≤ n
  new : ∀ k, SeF p sv l k → w.heap.size ≤ k
  av : ∀ k, G k → ¬ SeF p sv l k ∧ w.heap.size ≤ k ∧ k < wr.heap.size

section
variable {w wr w1 : World} {p q : Nat} {sv rv : Value} {l rl : List SpV} {M M' : List UInt8 → Prop} {n : Nat} {G G' S : Nat → Prop} {x : SpV} {e : Ending}

theorem One.kept (h : One w wr p sv l M n G) (f : Fr S wr w1) (hS : ∀ k, S k → w.heap.size ≤ k) (hn : ∀ k, SeF p sv l k → ¬ S k) : One w w1 p sv l M n G :=
  ⟨h.fr.trans f (fun k hk e => by have := hS k e; omega), h.se.kept f hn, h.norm, h.mem, h.len, h.new, fun k hk => by obtain ⟨a, b, c⟩ := h.av k hk; exact ⟨a, b, Nat.lt_of_lt_of_le c f.size⟩⟩
theorem One.kept0 (h : One w wr p sv l M n G) (f : Fr no wr w1) : One w w1 p sv l M n G := h.kept f (fun _ h => h.elim) (fun _ _ h => h)
theorem One.turn (h : One w wr p sv l M n G) (hm : ∀ k, M k ↔ M' k) : One w wr p sv l M' n G := { h with mem := fun k => (h.mem k).trans (hm k) }
theorem One.gets (h : One w wr p sv l M n G) (hg : ∀ k, G' k → ¬ SeF p sv l k ∧ w.heap.size ≤ k ∧ k < wr.heap.size) : One w wr p sv l M n G' := { h with av := hg }
theorem Doc.kept (h : Doc w wr p sv l M n G) (f : Fr S wr w1) (hS : ∀ k, S k → w.heap.size ≤ k) (hn : ∀ k, SeF p sv l k → ¬ S k) : Doc w w1 p sv l M n G :=
  ⟨h.fr.trans f (fun k hk e => by have := hS k e; omega), h.rf.kept f hn, h.ok, h.mem, h.len, h.new, fun k hk => by obtain ⟨a, b, c⟩ := h.av k hk; exact ⟨a, b, Nat.lt_of_lt_of_le c f.size⟩⟩
theorem Doc.kept0 (h : Doc w wr p sv l M n G) (f : Fr no wr w1) : Doc w w1 p sv l M n G := h.kept f (fun _ h => h.elim) (fun _ _ h => h)
theorem Doc.turn (h : Doc w wr p sv l M n G) (hm : ∀ k, M k ↔ M' k) : Doc w wr p sv l M' n G := { h with mem := fun k => (h.mem k).trans (hm k) }
theorem Doc.gets (h : Doc w wr p sv l M n G) (hg : ∀ k, G' k → ¬ SeF p sv l k ∧ w.heap.size ≤ k ∧ k < wr.heap.size) : Doc w wr p sv l M n G' := { h with av := hg }

/-- A span (a key) added. -/
theorem One.spanned (h : One w wr p sv l M n G) (hs : Spanned wr w1 p sv l x e) :
    e = .returned (.tuple #[]) ∧ ∃ sv' l', One w w1 p sv' l' (fun k => x.mem k ∨ M k) (n + 1) G ∧ Fr (fun k => k = p ∨ sv.ownBlock = some k) wr w1 := by
  obtain ⟨h0, sv', l', F, T, h1, h2, h3, h4⟩ := hs
  refine ⟨h0, sv', l', ⟨h.fr.trans h3 (fun k hk e => ?_), h1, ?_, fun k => ?_, ?_, fun k hk => ?_, fun k hk => ?_⟩, h3⟩
  · have := h.new k (by rcases e with e | e; exact .inl e; exact .inr (.inl e)); omega
  · rcases h2 with ⟨rfl, _, _⟩ | ⟨hx, rfl⟩
    · exact h.norm
    · exact SpV.add_norm h.norm (SpV.ok_add F T hx)
  · rcases h2 with ⟨rfl, h5, h6⟩ | ⟨hx, rfl⟩
    · rw [h.mem]; exact ⟨.inr, fun e => e.elim (fun e => (SpV.mem_none h5 h6 k e).elim) id⟩
    · rw [SpV.add_mem h.norm (SpV.ok_add F T hx), SpV.mem_add, h.mem]
  · rcases h2 with ⟨rfl, _, _⟩ | ⟨hx, rfl⟩
    · have := h.len; omega
    · have := h.len
      have := SpV.add_len l ⟨F, T, x.f, if x.o then [] else x.t, x.o⟩; omega
  · rcases h4 k hk with e | e
    · exact h.new k e
    · have := h.fr.size; omega
  · obtain ⟨a, b, c⟩ := h.av k hk
    refine ⟨fun e => ?_, b, Nat.lt_of_lt_of_le c h3.size⟩
    rcases h4 k e with e | e
    · exact a e
    · omega

theorem Doc.refd (h : Doc w wr p sv l M n G) (hs : Refd wr w1 p sv l x e) :
    e = .returned (.tuple #[]) ∧ ∃ sv' l', Doc w w1 p sv' l' (fun k => x.mem k ∨ M k) (n + 1) G ∧ Fr (fun k => k = p ∨ sv.ownBlock = some k) wr w1 := by
  obtain ⟨h0, sv', l', F, T, h1, h2, h3, h4⟩ := hs
  refine ⟨h0, sv', l', ⟨h.fr.trans h3 (fun k hk e => ?_), h1, ?_, fun k => ?_, ?_, fun k hk => ?_, fun k hk => ?_⟩, h3⟩
  · have := h.new k (by rcases e with e | e; exact .inl e; exact .inr (.inl e)); omega
  · rcases h2 with ⟨rfl, _, _⟩ | ⟨hx, rfl⟩
    · exact h.ok
    · intro y hy
      rcases List.mem_append.1 hy with hy | hy
      · exact h.ok y hy
      · cases List.mem_singleton.1 hy
        exact SpV.ok_add F T hx
  · rcases h2 with ⟨rfl, h5, h6⟩ | ⟨hx, rfl⟩
    · rw [h.mem]; exact ⟨.inr, fun e => e.elim (fun e => (SpV.mem_none h5 h6 k e).elim) id⟩
    · have : SpV.Mem (l ++ [⟨F, T, x.f, if x.o then [] else x.t, x.o⟩]) k ↔ SpV.Mem l k ∨ x.mem k := by
        unfold SpV.Mem
        constructor
        · rintro ⟨y, hy, h5⟩
          rcases List.mem_append.1 hy with hy | hy
          · exact .inl ⟨y, hy, h5⟩
          · cases List.mem_singleton.1 hy
            exact .inr ((SpV.mem_add x F T k).1 h5)
        · rintro (⟨y, hy, h5⟩ | h5)
          · exact ⟨y, List.mem_append_left _ hy, h5⟩
          · exact ⟨_, List.mem_append_right _ (List.mem_singleton.2 rfl), (SpV.mem_add x F T k).2 h5⟩
      rw [this, h.mem, Or.comm]
  · rcases h2 with ⟨rfl, _, _⟩ | ⟨hx, rfl⟩
    · have := h.len; omega
    · have := h.len
      simp; omega
  · rcases h4 k hk with e | e
    · exact h.new k e
    · have := h.fr.size; omega
  · obtain ⟨a, b, c⟩ := h.av k hk
    refine ⟨fun e => ?_, b, Nat.lt_of_lt_of_le c h3.size⟩
    rcases h4 k e with e | e
    · exact a e
    · omega
end

/-- A set and the document's, apart; and apart from G. -/
def Both (w wr : World) (p q : Nat) (M1 M2 : List UInt8 → Prop) (n : Nat) (G : Nat → Prop) : Prop :=
  ∃ sv l rv rl, One w wr p sv l M1 n (fun k => G k ∨ SeF q rv rl k) ∧ Doc w wr q rv rl M2 n (fun k => G k ∨ SeF p sv l k)

section
variable {w wr w1 : World} {p q : Nat} {M1 M2 M1' M2' : List UInt8 → Prop} {n : Nat} {G G' S : Nat → Prop}
theorem Both.fr (h : Both w wr p q M1 M2 n G) : Fr no w wr := by obtain ⟨_, _, _, _, h, _⟩ := h; exact h.fr
theorem Both.kept0 (h : Both w wr p q M1 M2 n G) (f : Fr no wr w1) : Both w w1 p q M1 M2 n G := by
  obtain ⟨sv, l, rv, rl, h1, h2⟩ := h
  exact ⟨sv, l, rv, rl, h1.kept0 f, h2.kept0 f⟩
theorem Both.turn (h : Both w wr p q M1 M2 n G) (h1 : ∀ k, M1 k ↔ M1' k) (h2 : ∀ k, M2 k ↔ M2' k) : Both w wr p q M1' M2' n G := by
  obtain ⟨sv, l, rv, rl, h3, h4⟩ := h
  exact ⟨sv, l, rv, rl, h3.turn h1, h4.turn h2⟩
theorem Both.more (h : Both w wr p q M1 M2 n G) {m : Nat} (hm : n ≤ m) : Both w wr p q M1 M2 m G := by
  obtain ⟨sv, l, rv, rl, h3, h4⟩ := h
  exact ⟨sv, l, rv, rl, { h3 with len := Nat.le_trans h3.len hm }, { h4 with len := Nat.le_trans h4.len hm }⟩
/-- Blocks that came later. -/
theorem Both.gets (h : Both w wr p q M1 M2 n no) (f : Fr no wr w1) (hg : ∀ k, G k → wr.heap.size ≤ k ∧ k < w1.heap.size) : Both w w1 p q M1 M2 n G := by
  obtain ⟨sv, l, rv, rl, h1, h2⟩ := h
  have := h1.fr.size
  refine ⟨sv, l, rv, rl, (h1.kept0 f).gets fun k hk => ?_, (h2.kept0 f).gets fun k hk => ?_⟩
  · rcases hk with hk | hk
    · have := hg k hk; exact ⟨fun e => by have := h1.se.lt k e; omega, by omega, this.2⟩
    · exact (h1.kept0 f).av k (.inr hk)
  · rcases hk with hk | hk
    · have := hg k hk; exact ⟨fun e => by have := h2.rf.lt k e; omega, by omega, this.2⟩
    · exact (h2.kept0 f).av k (.inr hk)
/-- What is done to these. -/
theorem Both.spoil (h : Both w wr p q M1 M2 n G) (f : Fr G wr w1) : Both w w1 p q M1 M2 n no := by
  obtain ⟨sv, l, rv, rl, h1, h2⟩ := h
  have a1 := h1.kept f (fun k hk => (h1.av k (.inl hk)).2.1) (fun k hk hg => (h1.av k (.inl hg)).1 hk)
  have a2 := h2.kept f (fun k hk => (h2.av k (.inl hk)).2.1) (fun k hk hg => (h2.av k (.inl hg)).1 hk)
  exact ⟨sv, l, rv, rl, a1.gets fun k hk => hk.elim (fun h => h.elim) fun hk => a1.av k (.inr hk), a2.gets fun k hk => hk.elim (fun h => h.elim) fun hk => a2.av k (.inr hk)⟩

/-- What the two calls may change. -/
def Ch (w : World) (G : Nat → Prop) : Nat → Prop := fun k => w.heap.size ≤ k ∧ ¬ G k

theorem Both.one {sv rv : Value} {l rl : List SpV} {x : SpV} {e : Ending} (h1 : One w wr p sv l M1 n (fun k => G k ∨ SeF q rv rl k)) (h2 : Doc w wr q rv rl M2 n (fun k => G k ∨ SeF p sv l k)) (hs : Spanned wr w1 p sv l x e) :
    e = .returned (.tuple #[]) ∧ Both w w1 p q (fun k => x.mem k ∨ M1 k) M2 (n + 1) G ∧ Fr (Ch w G) wr w1 := by
  obtain ⟨h0, sv', l', h3, h4⟩ := h1.spanned hs
  have hp : ∀ k, (k = p ∨ sv.ownBlock = some k) → SeF p sv l k := fun k e => by rcases e with e | e; exact .inl e; exact .inr (.inl e)
  have a2 := h2.kept h4 (fun k hk => h1.new k (hp k hk)) (fun k hk hg => (h1.av k (.inr hk)).1 (hp k hg))
  refine ⟨h0, ⟨sv', l', rv, rl, h3, { a2 with len := by have := a2.len; omega, av := fun k hk => ?_ }⟩, h4.mono fun k _ hk => ⟨h1.new k (hp k hk), fun hg => (h1.av k (.inl hg)).1 (hp k hk)⟩⟩
  rcases hk with hk | hk
  · exact a2.av k (.inl hk)
  · exact ⟨fun e => (h3.av k (.inr e)).1 hk, h3.new k hk, h3.se.lt k hk⟩
theorem Both.two {sv rv : Value} {l rl : List SpV} {x : SpV} {e : Ending} (h1 : One w wr p sv l M1 n (fun k => G k ∨ SeF q rv rl k)) (h2 : Doc w wr q rv rl M2 n (fun k => G k ∨ SeF p sv l k)) (hs : Refd wr w1 q rv rl x e) :
    e = .returned (.tuple #[]) ∧ Both w w1 p q M1 (fun k => x.mem k ∨ M2 k) (n + 1) G ∧ Fr (Ch w G) wr w1 := by
  obtain ⟨h0, rv', rl', h3, h4⟩ := h2.refd hs
  have hp : ∀ k, (k = q ∨ rv.ownBlock = some k) → SeF q rv rl k := fun k e => by rcases e with e | e; exact .inl e; exact .inr (.inl e)
  have a1 := h1.kept h4 (fun k hk => h2.new k (hp k hk)) (fun k hk hg => (h2.av k (.inr hk)).1 (hp k hg))
  refine ⟨h0, ⟨sv, l, rv', rl', { a1 with len := by have := a1.len; omega, av := fun k hk => ?_ }, h3⟩, h4.mono fun k _ hk => ⟨h2.new k (hp k hk), fun hg => (h2.av k (.inl hg)).1 (hp k hk)⟩⟩
  rcases hk with hk | hk
  · exact a1.av k (.inl hk)
  · exact ⟨fun e => (h3.av k (.inr e)).1 hk, h3.new k hk, h3.rf.lt k hk⟩
end

theorem both_span (w wr : World) (p q : Nat) (M1 M2 : List UInt8 → Prop) (n : Nat) (G : Nat → Prop) (x : SpV) (h : Both w wr p q M1 M2 n G) (hx : x.Good wr) (hn : n ≤ 100000) :
    Calls Try.prog 43 #[.pointer (some ⟨p, 0, none⟩), .agg #[x.F, x.T, .bool x.o]] wr fun e w' => e = .returned (.tuple #[]) ∧ Both w w' p q (fun k => x.mem k ∨ M1 k) M2 (n + 1) G ∧ Fr (Ch w G) wr w' := by
  obtain ⟨sv, l, rv, rl, h1, h2⟩ := h
  exact (span_any wr p sv l x h1.se hx (Nat.le_trans h1.len hn)).mono fun e w' hs => Both.one h1 h2 hs
theorem both_rspan (w wr : World) (p q : Nat) (M1 M2 : List UInt8 → Prop) (n : Nat) (G : Nat → Prop) (x : SpV) (h : Both w wr p q M1 M2 n G) (hx : x.Good wr) (hn : n ≤ 100000) :
    Calls Try.prog 108 #[.pointer (some ⟨q, 0, none⟩), .agg #[x.F, x.T, .bool x.o]] wr fun e w' => e = .returned (.tuple #[]) ∧ Both w w' p q M1 (fun k => x.mem k ∨ M2 k) (n + 1) G ∧ Fr (Ch w G) wr w' := by
  obtain ⟨sv, l, rv, rl, h1, h2⟩ := h
  exact (rspan_any wr q rv rl x h2.rf hx (Nat.le_trans h2.len hn)).mono fun e w' hs => Both.two h1 h2 hs
theorem both_key (w wr : World) (p q : Nat) (M1 M2 : List UInt8 → Prop) (n : Nat) (G : Nat → Prop) (K : Value) (b : List UInt8) (h : Both w wr p q M1 M2 n G) (hK : Sl wr 1 K b.length (bvs b)) (hb : b.length ≤ 100000000) (hn : n ≤ 100000) :
    Calls Try.prog 44 #[.pointer (some ⟨p, 0, none⟩), K] wr fun e w' => e = .returned (.tuple #[]) ∧ Both w w' p q (fun k => b = k ∨ M1 k) M2 (n + 1) G ∧ Fr (Ch w G) wr w' := by
  obtain ⟨sv, l, rv, rl, h1, h2⟩ := h
  refine (key_any wr p sv K l b h1.se hK hb (Nat.le_trans h1.len hn)).mono fun e w' hs => ?_
  obtain ⟨h3, h4, h5⟩ := Both.one h1 h2 hs
  exact ⟨h3, h4.turn (fun k => or_congr (key_mem K K b k) Iff.rfl) (fun k => Iff.rfl), h5⟩
theorem both_rkey (w wr : World) (p q : Nat) (M1 M2 : List UInt8 → Prop) (n : Nat) (G : Nat → Prop) (K : Value) (b : List UInt8) (h : Both w wr p q M1 M2 n G) (hK : Sl wr 1 K b.length (bvs b)) (hb : b.length ≤ 100000000) (hn : n ≤ 100000) :
    Calls Try.prog 106 #[.pointer (some ⟨q, 0, none⟩), K] wr fun e w' => e = .returned (.tuple #[]) ∧ Both w w' p q M1 (fun k => b = k ∨ M2 k) (n + 1) G ∧ Fr (Ch w G) wr w' := by
  obtain ⟨sv, l, rv, rl, h1, h2⟩ := h
  refine (rkey_any wr q rv K rl b h2.rf hK hb (Nat.le_trans h2.len hn)).mono fun e w' hs => ?_
  obtain ⟨h3, h4, h5⟩ := Both.two h1 h2 hs
  exact ⟨h3, h4.turn (fun k => Iff.rfl) (fun k => or_congr (key_mem K K b k) Iff.rfl), h5⟩
end Go.Proofs.Ytdnohhlgaaihmaa
