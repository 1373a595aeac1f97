import Derived.Test.YtdnohhlgaaihmaaMt14

/- law17: a set and the document's, as they are filled: what is added, and whose blocks they are. -/
namespace Go.Proofs.Ytdnohhlgaaihmaa
open Go.RowKit

/-- A key, as a span. -/
def keySp (b : List UInt8) : SpV := ⟨.slice none 0 0, .slice none 0 0, b, b ++ [0], false⟩

theorem keySp_lt (b : List UInt8) : lt b (b ++ [0]) := by
  unfold lt
  have := cb_swap (b ++ [0]) b
  rw [cb_zero] at this; omega
theorem keySp_ok (b : List UInt8) : (keySp b).Ok := ⟨fun h => by simp [keySp] at h, fun _ => keySp_lt b⟩

theorem lt_next {k b : List UInt8} (h : lt k (b ++ [0])) : le k b := by
  unfold lt cb at h; unfold le cb
  induction b generalizing k with
  | nil =>
    cases k with
    | nil => simp [Lib.compareBytes]
    | cons a k =>
      exfalso
      simp only [List.nil_append, Lib.compareBytes] at h
      by_cases h0 : a = 0
      · subst h0; cases k <;> simp [Lib.compareBytes] at h
      · have e1 : (0 : UInt8) < a := by
          rw [UInt8.lt_iff_toNat_lt]
          have : a.toNat ≠ 0 := fun e => h0 (UInt8.toNat_inj.1 (by simpa using e))
          simp; omega
        have e2 : ¬ a < 0 := by rw [UInt8.lt_iff_toNat_lt]; simp
        simp [e1, e2] at h
  | cons c b ih =>
    cases k with
    | nil => simp [Lib.compareBytes]
    | cons a k =>
      simp only [List.cons_append, Lib.compareBytes] at h ⊢
      by_cases h1 : a < c
      · simp [h1]
      · by_cases h2 : c < a
        · simp [h1, h2] at h
        · simp only [h1, h2, if_false] at h ⊢
          exact ih h

theorem keySp_mem (b k : List UInt8) : (keySp b).mem k ↔ k = b := by
  constructor
  · rintro ⟨h1, h2⟩
    rcases h2 with h2 | h2
    · cases h2
    · exact le_antisymm (lt_next h2) h1
  · rintro rfl
    exact ⟨le_rfl _, .inr (keySp_lt _)⟩

theorem key_mem (F T : Value) (b k : List UInt8) : SpV.mem ⟨F, T, b, b ++ [0], false⟩ k ↔ b = k := (SpV.mem_pr (x := ⟨F, T, b, b ++ [0], false⟩) (y := keySp b) rfl k).trans ((keySp_mem b k).trans eq_comm)

/-- What keys and spans, up to the j-th of each, cover. -/
def Added (ks : List Kv) (l : List SpV) (j : Nat) (k : List UInt8) : Prop := (∃ i x, i < j ∧ ks[i]? = some x ∧ x.b = k) ∨ ∃ i x, i < j ∧ l[i]? = some x ∧ SpV.mem x k

theorem Added.zero (ks : List Kv) (l : List SpV) (k : List UInt8) : ¬ Added ks l 0 k := by
  rintro (⟨i, x, h, _⟩ | ⟨i, x, h, _⟩) <;> omega
theorem Added.succ (ks : List Kv) (l : List SpV) (j : Nat) (k : List UInt8) : Added ks l (j + 1) k ↔ (∃ x, l[j]? = some x ∧ SpV.mem x k) ∨ (∃ x, ks[j]? = some x ∧ x.b = k) ∨ Added ks l j k := by
  constructor
  · rintro (⟨i, x, h, h1⟩ | ⟨i, x, h, h1⟩)
    · rcases Nat.lt_succ_iff_lt_or_eq.1 h with h | rfl
      · exact .inr (.inr (.inl ⟨i, x, h, h1⟩))
      · exact .inr (.inl ⟨x, h1⟩)
    · rcases Nat.lt_succ_iff_lt_or_eq.1 h with h | rfl
      · exact .inr (.inr (.inr ⟨i, x, h, h1⟩))
      · exact .inl ⟨x, h1⟩
  · rintro (⟨x, h⟩ | ⟨x, h⟩ | ⟨i, x, h, h1⟩ | ⟨i, x, h, h1⟩)
    · exact .inr ⟨j, x, by omega, h⟩
    · exact .inl ⟨j, x, by omega, h⟩
    · exact .inl ⟨i, x, by omega, h1⟩
    · exact .inr ⟨i, x, by omega, h1⟩
/-- All that keys and spans cover. -/
def AllIn (ks : List Kv) (l : List SpV) (k : List UInt8) : Prop := (∃ x ∈ ks, x.b = k) ∨ SpV.Mem l k
theorem Added.all {ks : List Kv} {l : List SpV} {j : Nat} (h1 : ks.length ≤ j) (h2 : l.length ≤ j) (k : List UInt8) : Added ks l j k ↔ AllIn ks l k := by
  constructor
  · rintro (⟨i, x, h, h3, h4⟩ | ⟨i, x, h, h3, h4⟩)
    · exact .inl ⟨x, List.mem_of_getElem? h3, h4⟩
    · exact .inr ⟨x, List.mem_of_getElem? h3, h4⟩
  · rintro (⟨x, h3, h4⟩ | ⟨x, h3, h4⟩)
    · obtain ⟨i, hi, rfl⟩ := List.getElem_of_mem h3
      exact .inl ⟨i, _, by omega, List.getElem?_eq_getElem hi, h4⟩
    · obtain ⟨i, hi, rfl⟩ := List.getElem_of_mem h3
      exact .inr ⟨i, _, by omega, List.getElem?_eq_getElem hi, h4⟩

namespace SpV
theorem add_len (l : List SpV) (x : SpV) : (add l x).length ≤ l.length + 1 := by
  unfold add
  have := fst_le l x.f
  simp only [List.length_append, List.length_take, List.length_drop, List.length_cons, List.length_nil]; omega
theorem mem_none {x : SpV} (h1 : x.o = false) (h2 : cb x.t x.f ≤ 0) (k : List UInt8) : ¬ x.mem k := by
  rintro ⟨h3, h4 | h4⟩
  · rw [h1] at h4; cases h4
  · exact lt_not_le (le_lt_trans h3 h4) h2
theorem mem_add (x : SpV) (F T : Value) (k : List UInt8) : SpV.mem ⟨F, T, x.f, if x.o then [] else x.t, x.o⟩ k ↔ x.mem k := by
  unfold mem upto
  cases x.o <;> simp
theorem ok_add {x : SpV} (F T : Value) (h : x.o = true ∨ 0 < cb x.t x.f) : SpV.Ok ⟨F, T, x.f, if x.o then [] else x.t, x.o⟩ := by
  refine ⟨fun h1 => ?_, fun h1 => ?_⟩
  · simp only at h1; simp [h1]
  · simp only at h1
    rcases h with h | h
    · rw [h1] at h; cases h
    · simp only [h1]
      unfold lt
      have := cb_swap x.t x.f
      simp only [Bool.false_eq_true, if_false]; omega
end SpV

theorem Se.lt {w : World} {p : Nat} {sv : Value} {l : List SpV} (h : Se w p sv l) : ∀ k, SeF p sv l k → k < w.heap.size := by
  rintro k (rfl | hk | ⟨x, hx, hk⟩)
  · exact (Array.getElem?_eq_some_iff.1 h.at_).1
  · exact h.row.lt k hk
  · exact (h.apart x hx k hk).2.2
theorem Rf.lt {w : World} {p : Nat} {sv : Value} {l : List SpV} (h : Rf w p sv l) : ∀ k, SeF p sv l k → k < w.heap.size := by
  rintro k (rfl | hk | ⟨x, hx, hk⟩)
  · exact (Array.getElem?_eq_some_iff.1 h.at_).1
  · exact h.row.lt k hk
  · exact (h.apart x hx k hk).2.2

/-- A set that covers M; since w it was made. G: blocks that are none of its. -/
structure One (w wr : World) (p : Nat) (sv : Value) (l : List SpV) (M : List UInt8 → Prop) (n : Nat) (G : Nat → Prop) : Prop where
  fr : Fr no w wr
  se : Se wr p sv l
  norm : SpV.Norm l
  mem : ∀ k, SpV.Mem l k ↔ M k
  len : l.length ≤ n
  new : ∀ k, SeF p sv l k → w.heap.size ≤ k
  av : ∀ k, G k → ¬ SeF p sv l k ∧ w.heap.size ≤ k ∧ k < wr.heap.size

/-- The document's. -/
structure Doc (w wr : World) (p : Nat) (sv : Value) (l : List SpV) (M : List UInt8 → Prop) (n : Nat) (G : Nat → Prop) : Prop where
  fr : Fr no w wr
  rf : Rf wr p sv l
  ok : ∀ x ∈ l, x.Ok
  mem : ∀ k, SpV.Mem l k ↔ M k
  len : l.length ≤ n
  new : ∀ k, SeF p sv l k → w.heap.size ≤ k
  av : ∀ k, G k → ¬ SeF p sv l k ∧ w.heap.size ≤ k ∧ k < wr.heap.size

section
variable {w wr w1 : World} {p q : Nat} {sv rv : Value} {l rl : List SpV} {M M' : List UInt8 → Prop} {n : Nat} {G G' S : Nat → Prop} {x : SpV} {e : Ending}

theorem One.kept (h : One w wr p sv l M n G) (f : Fr S wr w1) (hS : ∀ k, S k → w.heap.size ≤ k) (hn : ∀ k, SeF p sv l k → ¬ S k) : One w w1 p sv l M n G :=
  ⟨h.fr.trans f (fun k hk e => by have := hS k e; omega), h.se.kept f hn, h.norm, h.mem, h.len, h.new, fun k hk => by obtain ⟨a, b, c⟩ := h.av k hk; exact ⟨a, b, Nat.lt_of_lt_of_le c f.size⟩⟩
theorem One.kept0 (h : One w wr p sv l M n G) (f : Fr no wr w1) : One w w1 p sv l M n G := h.kept f (fun _ h => h.elim) (fun _ _ h => h)
theorem One.turn (h : One w wr p sv l M n G) (hm : ∀ k, M k ↔ M' k) : One w wr p sv l M' n G := { h with mem := fun k => (h.mem k).trans (hm k) }
theorem One.gets (h : One w wr p sv l M n G) (hg : ∀ k, G' k → ¬ SeF p sv l k ∧ w.heap.size ≤ k ∧ k < wr.heap.size) : One w wr p sv l M n G' := { h with av := hg }
theorem Doc.kept (h : Doc w wr p sv l M n G) (f : Fr S wr w1) (hS : ∀ k, S k → w.heap.size ≤ k) (hn : ∀ k, SeF p sv l k → ¬ S k) : Doc w w1 p sv l M n G :=
  ⟨h.fr.trans f (fun k hk e => by have := hS k e; omega), h.rf.kept f hn, h.ok, h.mem, h.len, h.new, fun k hk => by obtain ⟨a, b, c⟩ := h.av k hk; exact ⟨a, b, Nat.lt_of_lt_of_le c f.size⟩⟩
theorem Doc.kept0 (h : Doc w wr p sv l M n G) (f : Fr no wr w1) : Doc w w1 p sv l M n G := h.kept f (fun _ h => h.elim) (fun _ _ h => h)
theorem Doc.turn (h : Doc w wr p sv l M n G) (hm : ∀ k, M k ↔ M' k) : Doc w wr p sv l M' n G := { h with mem := fun k => (h.mem k).trans (hm k) }
theorem Doc.gets (h : Doc w wr p sv l M n G) (hg : ∀ k, G' k → ¬ SeF p sv l k ∧ w.heap.size ≤ k ∧ k < wr.heap.size) : Doc w wr p sv l M n G' := { h with av := hg }

/-- A span (a key) added. -/
theorem One.spanned (h : One w wr p sv l M n G) (hs : Spanned wr w1 p sv l x e) :
    e = .returned (.tuple #[]) ∧ ∃ sv' l', One w w1 p sv' l' (fun k => x.mem k ∨ M k) (n + 1) G ∧ Fr (fun k => k = p ∨ sv.ownBlock = some k) wr w1 := by
  obtain ⟨h0, sv', l', F, T, h1, h2, h3, h4⟩ := hs
  refine ⟨h0, sv', l', ⟨h.fr.trans h3 (fun k hk e => ?_), h1, ?_, fun k => ?_, ?_, fun k hk => ?_, fun k hk => ?_⟩, h3⟩
  · have := h.new k (by rcases e with e | e; exact .inl e; exact .inr (.inl e)); omega
  · rcases h2 with ⟨rfl, _, _⟩ | ⟨hx, rfl⟩
    · exact h.norm
    · exact SpV.add_norm h.norm (SpV.ok_add F T hx)
  · rcases h2 with ⟨rfl, h5, h6⟩ | ⟨hx, rfl⟩
    · rw [h.mem]; exact ⟨.inr, fun e => e.elim (fun e => (SpV.mem_none h5 h6 k e).elim) id⟩
    · rw [SpV.add_mem h.norm (SpV.ok_add F T hx), SpV.mem_add, h.mem]
  · rcases h2 with ⟨rfl, _, _⟩ | ⟨hx, rfl⟩
    · have := h.len; omega
    · have := h.len
      have := SpV.add_len l ⟨F, T, x.f, if x.o then [] else x.t, x.o⟩; omega
  · rcases h4 k hk with e | e
    · exact h.new k e
    · have := h.fr.size; omega
  · obtain ⟨a, b, c⟩ := h.av k hk
    refine ⟨fun e => ?_, b, Nat.lt_of_lt_of_le c h3.size⟩
    rcases h4 k e with e | e
    · exact a e
    · omega

theorem Doc.refd (h : Doc w wr p sv l M n G) (hs : Refd wr w1 p sv l x e) :
    e = .returned (.tuple #[]) ∧ ∃ sv' l', Doc w w1 p sv' l' (fun k => x.mem k ∨ M k) (n + 1) G ∧ Fr (fun k => k = p ∨ sv.ownBlock = some k) wr w1 := by
  obtain ⟨h0, sv', l', F, T, h1, h2, h3, h4⟩ := hs
  refine ⟨h0, sv', l', ⟨h.fr.trans h3 (fun k hk e => ?_), h1, ?_, fun k => ?_, ?_, fun k hk => ?_, fun k hk => ?_⟩, h3⟩
  · have := h.new k (by rcases e with e | e; exact .inl e; exact .inr (.inl e)); omega
  · rcases h2 with ⟨rfl, _, _⟩ | ⟨hx, rfl⟩
    · exact h.ok
    · intro y hy
      rcases List.mem_append.1 hy with hy | hy
      · exact h.ok y hy
      · cases List.mem_singleton.1 hy
        exact SpV.ok_add F T hx
  · rcases h2 with ⟨rfl, h5, h6⟩ | ⟨hx, rfl⟩
    · rw [h.mem]; exact ⟨.inr, fun e => e.elim (fun e => (SpV.mem_none h5 h6 k e).elim) id⟩
    · have : SpV.Mem (l ++ [⟨F, T, x.f, if x.o then [] else x.t, x.o⟩]) k ↔ SpV.Mem l k ∨ x.mem k := by
        unfold SpV.Mem
        constructor
        · rintro ⟨y, hy, h5⟩
          rcases List.mem_append.1 hy with hy | hy
          · exact .inl ⟨y, hy, h5⟩
          · cases List.mem_singleton.1 hy
            exact .inr ((SpV.mem_add x F T k).1 h5)
        · rintro (⟨y, hy, h5⟩ | h5)
          · exact ⟨y, List.mem_append_left _ hy, h5⟩
          · exact ⟨_, List.mem_append_right _ (List.mem_singleton.2 rfl), (SpV.mem_add x F T k).2 h5⟩
      rw [this, h.mem, Or.comm]
  · rcases h2 with ⟨rfl, _, _⟩ | ⟨hx, rfl⟩
    · have := h.len; omega
    · have := h.len
      simp; omega
  · rcases h4 k hk with e | e
    · exact h.new k e
    · have := h.fr.size; omega
  · obtain ⟨a, b, c⟩ := h.av k hk
    refine ⟨fun e => ?_, b, Nat.lt_of_lt_of_le c h3.size⟩
    rcases h4 k e with e | e
    · exact a e
    · omega
end

/-- A set and the document's, apart; and apart from G. -/
def Both (w wr : World) (p q : Nat) (M1 M2 : List UInt8 → Prop) (n : Nat) (G : Nat → Prop) : Prop :=
  ∃ sv l rv rl, One w wr p sv l M1 n (fun k => G k ∨ SeF q rv rl k) ∧ Doc w wr q rv rl M2 n (fun k => G k ∨ SeF p sv l k)

section
variable {w wr w1 : World} {p q : Nat} {M1 M2 M1' M2' : List UInt8 → Prop} {n : Nat} {G G' S : Nat → Prop}
theorem Both.fr (h : Both w wr p q M1 M2 n G) : Fr no w wr := by obtain ⟨_, _, _, _, h, _⟩ := h; exact h.fr
theorem Both.kept0 (h : Both w wr p q M1 M2 n G) (f : Fr no wr w1) : Both w w1 p q M1 M2 n G := by
  obtain ⟨sv, l, rv, rl, h1, h2⟩ := h
  exact ⟨sv, l, rv, rl, h1.kept0 f, h2.kept0 f⟩
theorem Both.turn (h : Both w wr p q M1 M2 n G) (h1 : ∀ k, M1 k ↔ M1' k) (h2 : ∀ k, M2 k ↔ M2' k) : Both w wr p q M1' M2' n G := by
  obtain ⟨sv, l, rv, rl, h3, h4⟩ := h
  exact ⟨sv, l, rv, rl, h3.turn h1, h4.turn h2⟩
theorem Both.more (h : Both w wr p q M1 M2 n G) {m : Nat} (hm : n ≤ m) : Both w wr p q M1 M2 m G := by
  obtain ⟨sv, l, rv, rl, h3, h4⟩ := h
  exact ⟨sv, l, rv, rl, { h3 with len := Nat.le_trans h3.len hm }, { h4 with len := Nat.le_trans h4.len hm }⟩
/-- Blocks that came later. -/
theorem Both.gets (h : Both w wr p q M1 M2 n no) (f : Fr no wr w1) (hg : ∀ k, G k → wr.heap.size ≤ k ∧ k < w1.heap.size) : Both w w1 p q M1 M2 n G := by
  obtain ⟨sv, l, rv, rl, h1, h2⟩ := h
  have := h1.fr.size
  refine ⟨sv, l, rv, rl, (h1.kept0 f).gets fun k hk => ?_, (h2.kept0 f).gets fun k hk => ?_⟩
  · rcases hk with hk | hk
    · have := hg k hk; exact ⟨fun e => by have := h1.se.lt k e; omega, by omega, this.2⟩
    · exact (h1.kept0 f).av k (.inr hk)
  · rcases hk with hk | hk
    · have := hg k hk; exact ⟨fun e => by have := h2.rf.lt k e; omega, by omega, this.2⟩
    · exact (h2.kept0 f).av k (.inr hk)
/-- What is done to these. -/
theorem Both.spoil (h : Both w wr p q M1 M2 n G) (f : Fr G wr w1) : Both w w1 p q M1 M2 n no := by
  obtain ⟨sv, l, rv, rl, h1, h2⟩ := h
  have a1 := h1.kept f (fun k hk => (h1.av k (.inl hk)).2.1) (fun k hk hg => (h1.av k (.inl hg)).1 hk)
  have a2 := h2.kept f (fun k hk => (h2.av k (.inl hk)).2.1) (fun k hk hg => (h2.av k (.inl hg)).1 hk)
  exact ⟨sv, l, rv, rl, a1.gets fun k hk => hk.elim (fun h => h.elim) fun hk => a1.av k (.inr hk), a2.gets fun k hk => hk.elim (fun h => h.elim) fun hk => a2.av k (.inr hk)⟩

/-- What the two calls may change. -/
def Ch (w : World) (G : Nat → Prop) : Nat → Prop := fun k => w.heap.size ≤ k ∧ ¬ G k

theorem Both.one {sv rv : Value} {l rl : List SpV} {x : SpV} {e : Ending} (h1 : One w wr p sv l M1 n (fun k => G k ∨ SeF q rv rl k)) (h2 : Doc w wr q rv rl M2 n (fun k => G k ∨ SeF p sv l k)) (hs : Spanned wr w1 p sv l x e) :
    e = .returned (.tuple #[]) ∧ Both w w1 p q (fun k => x.mem k ∨ M1 k) M2 (n + 1) G ∧ Fr (Ch w G) wr w1 := by
  obtain ⟨h0, sv', l', h3, h4⟩ := h1.spanned hs
  have hp : ∀ k, (k = p ∨ sv.ownBlock = some k) → SeF p sv l k := fun k e => by rcases e with e | e; exact .inl e; exact .inr (.inl e)
  have a2 := h2.kept h4 (fun k hk => h1.new k (hp k hk)) (fun k hk hg => (h1.av k (.inr hk)).1 (hp k hg))
  refine ⟨h0, ⟨sv', l', rv, rl, h3, { a2 with len := by have := a2.len; omega, av := fun k hk => ?_ }⟩, h4.mono fun k _ hk => ⟨h1.new k (hp k hk), fun hg => (h1.av k (.inl hg)).1 (hp k hk)⟩⟩
  rcases hk with hk | hk
  · exact a2.av k (.inl hk)
  · exact ⟨fun e => (h3.av k (.inr e)).1 hk, h3.new k hk, h3.se.lt k hk⟩
theorem Both.two {sv rv : Value} {l rl : List SpV} {x : SpV} {e : Ending} (h1 : One w wr p sv l M1 n (fun k => G k ∨ SeF q rv rl k)) (h2 : Doc w wr q rv rl M2 n (fun k => G k ∨ SeF p sv l k)) (hs : Refd wr w1 q rv rl x e) :
    e = .returned (.tuple #[]) ∧ Both w w1 p q M1 (fun k => x.mem k ∨ M2 k) (n + 1) G ∧ Fr (Ch w G) wr w1 := by
  obtain ⟨h0, rv', rl', h3, h4⟩ := h2.refd hs
  have hp : ∀ k, (k = q ∨ rv.ownBlock = some k) → SeF q rv rl k := fun k e => by rcases e with e | e; exact .inl e; exact .inr (.inl e)
  have a1 := h1.kept h4 (fun k hk => h2.new k (hp k hk)) (fun k hk hg => (h2.av k (.inr hk)).1 (hp k hg))
  refine ⟨h0, ⟨sv, l, rv', rl', { a1 with len := by have := a1.len; omega, av := fun k hk => ?_ }, h3⟩, h4.mono fun k _ hk => ⟨h2.new k (hp k hk), fun hg => (h2.av k (.inl hg)).1 (hp k hk)⟩⟩
  rcases hk with hk | hk
  · exact a1.av k (.inl hk)
  · exact ⟨fun e => (h3.av k (.inr e)).1 hk, h3.new k hk, h3.rf.lt k hk⟩
end

theorem both_span (w wr : World) (p q : Nat) (M1 M2 : List UInt8 → Prop) (n : Nat) (G : Nat → Prop) (x : SpV) (h : Both w wr p q M1 M2 n G) (hx : x.Good wr) (hn : n ≤ 100000) :
    Calls Try.prog 43 #[.pointer (some ⟨p, 0, none⟩), .agg #[x.F, x.T, .bool x.o]] wr fun e w' => e = .returned (.tuple #[]) ∧ Both w w' p q (fun k => x.mem k ∨ M1 k) M2 (n + 1) G ∧ Fr (Ch w G) wr w' := by
  obtain ⟨sv, l, rv, rl, h1, h2⟩ := h
  exact (span_any wr p sv l x h1.se hx (Nat.le_trans h1.len hn)).mono fun e w' hs => Both.one h1 h2 hs
theorem both_rspan (w wr : World) (p q : Nat) (M1 M2 : List UInt8 → Prop) (n : Nat) (G : Nat → Prop) (x : SpV) (h : Both w wr p q M1 M2 n G) (hx : x.Good wr) (hn : n ≤ 100000) :
    Calls Try.prog 108 #[.pointer (some ⟨q, 0, none⟩), .agg #[x.F, x.T, .bool x.o]] wr fun e w' => e = .returned (.tuple #[]) ∧ Both w w' p q M1 (fun k => x.mem k ∨ M2 k) (n + 1) G ∧ Fr (Ch w G) wr w' := by
  obtain ⟨sv, l, rv, rl, h1, h2⟩ := h
  exact (rspan_any wr q rv rl x h2.rf hx (Nat.le_trans h2.len hn)).mono fun e w' hs => Both.two h1 h2 hs
theorem both_key (w wr : World) (p q : Nat) (M1 M2 : List UInt8 → Prop) (n : Nat) (G : Nat → Prop) (K : Value) (b : List UInt8) (h : Both w wr p q M1 M2 n G) (hK : Sl wr 1 K b.length (bvs b)) (hb : b.length ≤ 100000000) (hn : n ≤ 100000) :
    Calls Try.prog 44 #[.pointer (some ⟨p, 0, none⟩), K] wr fun e w' => e = .returned (.tuple #[]) ∧ Both w w' p q (fun k => b = k ∨ M1 k) M2 (n + 1) G ∧ Fr (Ch w G) wr w' := by
  obtain ⟨sv, l, rv, rl, h1, h2⟩ := h
  refine (key_any wr p sv K l b h1.se hK hb (Nat.le_trans h1.len hn)).mono fun e w' hs => ?_
  obtain ⟨h3, h4, h5⟩ := Both.one h1 h2 hs
  exact ⟨h3, h4.turn (fun k => or_congr (key_mem K K b k) Iff.rfl) (fun k => Iff.rfl), h5⟩
theorem both_rkey (w wr : World) (p q : Nat) (M1 M2 : List UInt8 → Prop) (n : Nat) (G : Nat → Prop) (K : Value) (b : List UInt8) (h : Both w wr p q M1 M2 n G) (hK : Sl wr 1 K b.length (bvs b)) (hb : b.length ≤ 100000000) (hn : n ≤ 100000) :
    Calls Try.prog 106 #[.pointer (some ⟨q, 0, none⟩), K] wr fun e w' => e = .returned (.tuple #[]) ∧ Both w w' p q M1 (fun k => b = k ∨ M2 k) (n + 1) G ∧ Fr (Ch w G) wr w' := by
  obtain ⟨sv, l, rv, rl, h1, h2⟩ := h
  refine (rkey_any wr q rv K rl b h2.rf hK hb (Nat.le_trans h2.len hn)).mono fun e w' hs => ?_
  obtain ⟨h3, h4, h5⟩ := Both.two h1 h2 hs
  exact ⟨h3, h4.turn (fun k => Iff.rfl) (fun k => or_congr (key_mem K K b k) Iff.rfl), h5⟩
end Go.Proofs.Ytdnohhlgaaihmaa

/- law17: filled. -/
namespace Go.Proofs.Ytdnohhlgaaihmaa
open Go.RowKit

theorem Spans.one {w : World} {A : Option Addr} {n c : Nat} {l : List SpV} (h : Sl w 3 (.slice A n c) l.length (l.flatMap SpV.cells)) (j : Nat) (hj : j < l.length) :
    ∃ b o, A = some ⟨b, o, none⟩ ∧ n = l.length ∧ n ≤ c ∧ c ≤ maxLen ∧ Sl w 3 (.slice (some ⟨b, o + j * 3, none⟩) 1 (c - j)) 1 l[j].cells := by
  obtain ⟨b, o, hA, q0, q1, q2⟩ := Spans.at h j hj
  rcases h.2 with ⟨_, h1⟩ | ⟨b', o', cap, h1, h2, h3, _⟩
  · omega
  · cases h1
    cases hA
    refine ⟨b, o, rfl, rfl, h2, h3, rfl, .inr ⟨b, o + j * 3, c - j, rfl, by omega, by omega, fun i u hu => ?_⟩⟩
    rcases i with _ | _ | _ | i
    · cases hu; exact q0
    · cases hu; exact q1
    · cases hu; exact q2
    · simp [SpV.cells] at hu

theorem both_new {w w1 w2 : World} {p : Nat} {ks : List Kv} {l : List SpV} (hp : w.heap.size ≤ p) (hs : Se w1 p (.slice none 0 0) []) (f : Fr no w w1) (h2 : w2 = w1.alloc (.cells #[.slice none 0 0] 156)) :
    Both w w2 p w1.heap.size (Added ks l 0) (Added ks l 0) 0 no := by
  subst h2
  have hpl : p < w1.heap.size := hs.lt p (.inl rfl)
  have e1 : ∀ k, SeF p (.slice none 0 0) [] k → k = p := by
    rintro k (h | h | ⟨x, hx, _⟩)
    · exact h
    · simp [Value.ownBlock] at h
    · cases hx
  have e2 : ∀ k, SeF w1.heap.size (.slice none 0 0) [] k → k = w1.heap.size := by
    rintro k (h | h | ⟨x, hx, _⟩)
    · exact h
    · simp [Value.ownBlock] at h
    · cases hx
  have hz := f.size
  refine ⟨_, _, .slice none 0 0, [], ⟨f.trans ((Fr.refl no w1).alloc _) (fun _ _ h => h), hs.kept0 ((Fr.refl no w1).alloc _), trivial, fun k => ⟨fun h => (SpV.Mem.nil h).elim, fun h => (Added.zero ks l k h).elim⟩, Nat.le_refl _, fun k hk => by rw [e1 k hk]; exact hp, fun k hk => ?_⟩,
    ⟨f.trans ((Fr.refl no w1).alloc _) (fun _ _ h => h), ⟨heap_alloc_new _ _, ow_nil _ _ _, (fun x hx => nomatch hx), by simp [Value.ownBlock], (fun x hx => nomatch hx)⟩, (fun x hx => nomatch hx), fun k => ⟨fun h => (SpV.Mem.nil h).elim, fun h => (Added.zero ks l k h).elim⟩, Nat.le_refl _, fun k hk => by rw [e2 k hk]; exact hz, fun k hk => ?_⟩⟩
  · rcases hk with hk | hk
    · exact hk.elim
    · rw [e2 k hk]
      exact ⟨fun h => by have := e1 _ h; omega, hz, by rw [World.size_alloc]; omega⟩
  · rcases hk with hk | hk
    · exact hk.elim
    · rw [e1 k hk]
      exact ⟨fun h => by have := e2 _ h; omega, hp, by rw [World.size_alloc]; omega⟩

set_option maxRecDepth 100000 in
set_option maxHeartbeats 4000000 in
theorem filled_any (w : World) (X Y : Value) (ks : List Kv) (l : List SpV) (hx : Keys w X ks) (hy : SpIn w Y l) (hk1 : ks.length ≤ 300) (hl1 : l.length ≤ 300) (hk2 : ∀ x ∈ ks, x.b.length ≤ 20000) (hl2 : ∀ x ∈ l, x.f.length ≤ 20000 ∧ x.t.length ≤ 20000) :
    Calls Try.prog 40 #[X, Y] w fun e w' => ∃ p q, e = .returned (.tuple #[.pointer (some ⟨p, 0, none⟩), .pointer (some ⟨q, 0, none⟩), .bool true]) ∧ Both w w' p q (AllIn ks l) (AllIn ks l) 1200 no := by
  obtain ⟨A, c, rfl, hc1, hc2⟩ := hx.sl.form
  obtain ⟨B, d, rfl, hd1, hd2⟩ := hy.sl.form
  have HX := Lib.hid hx; have HY := Lib.hid hy; have HK2 := Lib.hid hk2; have HL2 := Lib.hid hl2; clear hx hy hk2 hl2 hc2 hd2
  go_enter Try.func40, Try.ntmps40
  go_wp2_with fail
  refine (rnew_any _).mono ?_
  rintro e w1 ⟨p, rfl, hp, hs, hf⟩
  have HB0 := Lib.hid (both_new (ks := ks) (l := l) hp hs hf rfl)
  clear hp hs hf
  go_wp2_with fail
  generalize w1.heap.size = q at HB0 ⊢
  go_loopw [9, 10, 11, 12] (fun v i _ _ wr => ∃ j : Nat, v = .bool true ∧ i = .int .i64 j ∧ j ≤ 300 ∧ Both w wr p q (Added ks l j) (Added ks l j) (4 * j) no) (fun _ i _ _ _ => 300 - (intOf i).toNat)
  case atStart => exact ⟨0, rfl, rfl, by omega, HB0.out⟩
  case round =>
    obtain ⟨j, rfl, rfl, hj, hb⟩ := hrel
    have HB := Lib.hid hb; clear hb
    by_cases h1 : j < ks.length
    · by_cases h2 : j < l.length
      · obtain ⟨kb, ko, hA, q0⟩ := Keys.at HX.out j h1
        obtain ⟨VA, vc, hV, _, _⟩ := (HX.out.good ks[j] (List.getElem_mem _)).1.form
        have hkl := HK2.out ks[j] (List.getElem_mem _)
        have hkv := (HX.out.good ks[j] (List.getElem_mem _)).1
        rw [hV] at q0 hkv
        subst hA
        have Q0 := Lib.hid q0; have HKV := Lib.hid hkv; have HKL := Lib.hid hkl; clear q0 hkv hV hkl
        have q1 := HB.out.fr.cell Q0.out (fun h => h)
        go_wp2_with fail
        refine (lent_any _ _ ks[j].b (HKV.out.kept0 HB.out.fr) (by have := HKL.out; omega)).mono ?_
        rintro e w2 ⟨g, rfl, h3, h4, h5⟩
        have hbg := HB.out.gets (G := fun k => k = g) h5 (fun k hk => by subst hk; exact ⟨h3, (Array.getElem?_eq_some_iff.1 h4).1⟩)
        have HB2 := Lib.hid hbg; have HG := Lib.hid h4; clear h3 h4 h5 hbg q1
        go_wp2_with fail
        refine (both_key w w2 p q _ _ _ _ _ ks[j].b HB2.out (HG.out.sl (by have := HKL.out; omega)) (by have := HKL.out; omega) (by omega)).mono ?_
        rintro e w3 ⟨rfl, h3, h4⟩
        have HB3 := Lib.hid h3; have HG3 := Lib.hid (HG.out.kept h4 (fun h => h.2 rfl)); clear h3 h4
        have q1 := HB3.out.fr.cell Q0.out (fun h => h)
        go_wp2_with fail
        refine (both_rkey w w3 p q _ _ _ _ _ ks[j].b HB3.out (HKV.out.kept0 HB3.out.fr) (by have := HKL.out; omega) (by omega)).mono ?_
        rintro e w4 ⟨rfl, h3, h4⟩
        have HB4 := Lib.hid h3; have HG4 := Lib.hid (HG3.out.kept h4 (fun h => h.2 rfl)); clear h3 h4 q1
        have q1 := HB4.out.fr.cell Q0.out (fun h => h)
        go_wp2_with fail
        refine (whole_lent _ g _ ks[j].b ks[j].b HG4.out (HKV.out.kept0 HB4.out.fr) (by have := HKL.out; omega) (by have := HKL.out; omega)).mono ?_
        rintro e w5 ⟨rfl, n1, rfl⟩
        rw [decide_eq_true rfl]
        have HB5 := Lib.hid (HB4.out.kept0 (Fr.drewN no w4 n1)); have HG5 := Lib.hid (HG4.out.kept (Fr.drewN no w4 n1) (fun h => h)); clear q1
        go_wp2_with fail
        refine (spoil_lent _ g ks[j].b HG5.out (by have := HKL.out; omega)).mono ?_
        rintro e w6 ⟨rfl, f6⟩
        have HB6 := Lib.hid (HB5.out.spoil f6); clear f6
        obtain ⟨sb, so, hB, q0, q1, q2⟩ := Spans.at HY.out.sl j h2
        obtain ⟨sb', so', hB', hdn, hdl, hdm, hone⟩ := Spans.one HY.out.sl j h2
        subst hB
        obtain ⟨rfl, rfl⟩ : sb = sb' ∧ so = so' := by simpa using hB'
        clear hB' hdn
        obtain ⟨hl3, hl4⟩ := HL2.out l[j] (List.getElem_mem _)
        have hgo : l[j].Good w := ⟨(HY.out.raw l[j] (List.getElem_mem _)).F, (HY.out.raw l[j] (List.getElem_mem _)).T, by omega, by omega⟩
        obtain ⟨FA, fc, hF, _, _⟩ := hgo.F.form
        obtain ⟨TA, tc, hT, _, _⟩ := hgo.T.form
        have hgo2 : SpV.Good w ⟨.slice FA l[j].f.length fc, .slice TA l[j].t.length tc, l[j].f, l[j].t, l[j].o⟩ := ⟨hF ▸ hgo.F, hT ▸ hgo.T, hgo.lf, hgo.lt⟩
        rw [hF] at q0; rw [hT] at q1
        have Q0 := Lib.hid q0; have Q1 := Lib.hid q1; have Q2 := Lib.hid q2; have HGO := Lib.hid hgo; have HG2 := Lib.hid hgo2; have HONE := Lib.hid hone; have HLL := Lib.hid (And.intro hl3 hl4)
        clear q0 q1 q2 hgo hgo2 hone hF hT hl3 hl4
        have hne : ¬ d = j := by omega
        go_wp2_with fail
        refine (lentsp_any _ _ l[j] (HONE.out.kept0 HB6.out.fr) (HGO.out.kept0 HB6.out.fr)).mono ?_
        rintro e w7 ⟨g, gF, gT, gM, rfl, hl, a1, a2, a3, a4, a5, f7⟩
        have hbg := HB6.out.gets (G := fun k => k = g ∨ k = gF ∨ k = gT ∨ k = gM) f7 (fun k hk => by rcases hk with rfl | rfl | rfl | rfl <;> omega)
        obtain ⟨c0, c1, c2, _, _⟩ := hl.cells
        have HB7 := Lib.hid hbg; have HL := Lib.hid hl; have HN := Lib.hid (And.intro a2 a3); clear hbg hl a1 a2 a3 a4 a5 f7
        go_wp2_with fail
        refine (both_span w w7 p q _ _ _ _ ⟨.slice (some ⟨gF, 0, none⟩) l[j].f.length (l[j].f.length + 2), .slice (some ⟨gT, 0, none⟩) l[j].t.length (l[j].t.length + 2), l[j].f, l[j].t, l[j].o⟩ HB7.out ⟨HL.out.F.sl (by have := HLL.out; omega), HL.out.T.sl (by have := HLL.out; omega), by have := HLL.out; simp only []; omega, by have := HLL.out; simp only []; omega⟩ (by omega)).mono ?_
        rintro e w8 ⟨rfl, h3, h4⟩
        have HB8 := Lib.hid h3; have HL8 := Lib.hid (HL.out.kept h4 (fun k hk h => h.2 hk)); clear h3 h4 c0 c1 c2
        have q0 := HB8.out.fr.cell Q0.out (fun h => h); have q1 := HB8.out.fr.cell Q1.out (fun h => h); have q2 := HB8.out.fr.cell Q2.out (fun h => h)
        go_wp2_with fail
        refine (both_rspan w w8 p q _ _ _ _ ⟨.slice FA l[j].f.length fc, .slice TA l[j].t.length tc, l[j].f, l[j].t, l[j].o⟩ HB8.out (HG2.out.kept0 HB8.out.fr) (by omega)).mono ?_
        rintro e w9 ⟨rfl, h3, h4⟩
        have HB9 := Lib.hid h3; have HL9 := Lib.hid (HL8.out.kept h4 (fun k hk h => h.2 hk)); clear h3 h4 q0 q1 q2
        go_wp2_with fail
        refine (wholesp_any _ g gF gT gM _ l[j] HL9.out (HONE.out.kept0 HB9.out.fr) (HGO.out.kept0 HB9.out.fr)).mono ?_
        rintro e w10 ⟨rfl, f10⟩
        have HB10 := Lib.hid (HB9.out.kept0 f10); have HL10 := Lib.hid (HL9.out.kept0 f10); clear f10
        go_wp2_with fail
        refine (spoilsp_any _ g gF gT gM l[j] HL10.out (by have := HLL.out; omega) (by have := HLL.out; omega) HN.out.1 HN.out.2).mono ?_
        rintro e w11 ⟨rfl, f11⟩
        have HB11 := Lib.hid (HB10.out.spoil (f11.mono fun k _ hk => by rcases hk with e | e | e; exact .inl e; exact .inr (.inl e); exact .inr (.inr (.inl e)))); clear f11
        go_wp2
        go_roundw
        case rel => exact ⟨j + 1, rfl, by first | rfl | go_num, by omega, (HB11.out.turn (fun k => by rw [Added.succ]; simp [List.getElem?_eq_getElem h1, List.getElem?_eq_getElem h2, SpV.mem, SpV.upto]; try exact or_left_comm) (fun k => by rw [Added.succ]; simp [List.getElem?_eq_getElem h1, List.getElem?_eq_getElem h2, SpV.mem, SpV.upto]; try exact or_left_comm)).more (by omega)⟩
        case measure => simp [intOf]; omega
      · have h2n : l.length ≤ j := by omega
        obtain ⟨kb, ko, hA, q0⟩ := Keys.at HX.out j h1
        obtain ⟨VA, vc, hV, _, _⟩ := (HX.out.good ks[j] (List.getElem_mem _)).1.form
        have hkl := HK2.out ks[j] (List.getElem_mem _)
        have hkv := (HX.out.good ks[j] (List.getElem_mem _)).1
        rw [hV] at q0 hkv
        subst hA
        have Q0 := Lib.hid q0; have HKV := Lib.hid hkv; have HKL := Lib.hid hkl; clear q0 hkv hV hkl
        have q1 := HB.out.fr.cell Q0.out (fun h => h)
        go_wp2_with fail
        refine (lent_any _ _ ks[j].b (HKV.out.kept0 HB.out.fr) (by have := HKL.out; omega)).mono ?_
        rintro e w2 ⟨g, rfl, h3, h4, h5⟩
        have hbg := HB.out.gets (G := fun k => k = g) h5 (fun k hk => by subst hk; exact ⟨h3, (Array.getElem?_eq_some_iff.1 h4).1⟩)
        have HB2 := Lib.hid hbg; have HG := Lib.hid h4; clear h3 h4 h5 hbg q1
        go_wp2_with fail
        refine (both_key w w2 p q _ _ _ _ _ ks[j].b HB2.out (HG.out.sl (by have := HKL.out; omega)) (by have := HKL.out; omega) (by omega)).mono ?_
        rintro e w3 ⟨rfl, h3, h4⟩
        have HB3 := Lib.hid h3; have HG3 := Lib.hid (HG.out.kept h4 (fun h => h.2 rfl)); clear h3 h4
        have q1 := HB3.out.fr.cell Q0.out (fun h => h)
        go_wp2_with fail
        refine (both_rkey w w3 p q _ _ _ _ _ ks[j].b HB3.out (HKV.out.kept0 HB3.out.fr) (by have := HKL.out; omega) (by omega)).mono ?_
        rintro e w4 ⟨rfl, h3, h4⟩
        have HB4 := Lib.hid h3; have HG4 := Lib.hid (HG3.out.kept h4 (fun h => h.2 rfl)); clear h3 h4 q1
        have q1 := HB4.out.fr.cell Q0.out (fun h => h)
        go_wp2_with fail
        refine (whole_lent _ g _ ks[j].b ks[j].b HG4.out (HKV.out.kept0 HB4.out.fr) (by have := HKL.out; omega) (by have := HKL.out; omega)).mono ?_
        rintro e w5 ⟨rfl, n1, rfl⟩
        rw [decide_eq_true rfl]
        have HB5 := Lib.hid (HB4.out.kept0 (Fr.drewN no w4 n1)); have HG5 := Lib.hid (HG4.out.kept (Fr.drewN no w4 n1) (fun h => h)); clear q1
        go_wp2_with fail
        refine (spoil_lent _ g ks[j].b HG5.out (by have := HKL.out; omega)).mono ?_
        rintro e w6 ⟨rfl, f6⟩
        have HB6 := Lib.hid (HB5.out.spoil f6); clear f6
        go_wp2
        go_roundw
        case rel => exact ⟨j + 1, rfl, by first | rfl | go_num, by omega, (HB6.out.turn (fun k => by rw [Added.succ]; simp [List.getElem?_eq_getElem h1, List.getElem?_eq_none h2n, SpV.mem, SpV.upto]; try exact or_left_comm) (fun k => by rw [Added.succ]; simp [List.getElem?_eq_getElem h1, List.getElem?_eq_none h2n, SpV.mem, SpV.upto]; try exact or_left_comm)).more (by omega)⟩
        case measure => simp [intOf]; omega
    · by_cases h2 : j < l.length
      · have h1n : ks.length ≤ j := by omega
        obtain ⟨sb, so, hB, q0, q1, q2⟩ := Spans.at HY.out.sl j h2
        obtain ⟨sb', so', hB', hdn, hdl, hdm, hone⟩ := Spans.one HY.out.sl j h2
        subst hB
        obtain ⟨rfl, rfl⟩ : sb = sb' ∧ so = so' := by simpa using hB'
        clear hB' hdn
        obtain ⟨hl3, hl4⟩ := HL2.out l[j] (List.getElem_mem _)
        have hgo : l[j].Good w := ⟨(HY.out.raw l[j] (List.getElem_mem _)).F, (HY.out.raw l[j] (List.getElem_mem _)).T, by omega, by omega⟩
        obtain ⟨FA, fc, hF, _, _⟩ := hgo.F.form
        obtain ⟨TA, tc, hT, _, _⟩ := hgo.T.form
        have hgo2 : SpV.Good w ⟨.slice FA l[j].f.length fc, .slice TA l[j].t.length tc, l[j].f, l[j].t, l[j].o⟩ := ⟨hF ▸ hgo.F, hT ▸ hgo.T, hgo.lf, hgo.lt⟩
        rw [hF] at q0; rw [hT] at q1
        have Q0 := Lib.hid q0; have Q1 := Lib.hid q1; have Q2 := Lib.hid q2; have HGO := Lib.hid hgo; have HG2 := Lib.hid hgo2; have HONE := Lib.hid hone; have HLL := Lib.hid (And.intro hl3 hl4)
        clear q0 q1 q2 hgo hgo2 hone hF hT hl3 hl4
        have hne : ¬ d = j := by omega
        go_wp2_with fail
        refine (lentsp_any _ _ l[j] (HONE.out.kept0 HB.out.fr) (HGO.out.kept0 HB.out.fr)).mono ?_
        rintro e w7 ⟨g, gF, gT, gM, rfl, hl, a1, a2, a3, a4, a5, f7⟩
        have hbg := HB.out.gets (G := fun k => k = g ∨ k = gF ∨ k = gT ∨ k = gM) f7 (fun k hk => by rcases hk with rfl | rfl | rfl | rfl <;> omega)
        obtain ⟨c0, c1, c2, _, _⟩ := hl.cells
        have HB7 := Lib.hid hbg; have HL := Lib.hid hl; have HN := Lib.hid (And.intro a2 a3); clear hbg hl a1 a2 a3 a4 a5 f7
        go_wp2_with fail
        refine (both_span w w7 p q _ _ _ _ ⟨.slice (some ⟨gF, 0, none⟩) l[j].f.length (l[j].f.length + 2), .slice (some ⟨gT, 0, none⟩) l[j].t.length (l[j].t.length + 2), l[j].f, l[j].t, l[j].o⟩ HB7.out ⟨HL.out.F.sl (by have := HLL.out; omega), HL.out.T.sl (by have := HLL.out; omega), by have := HLL.out; simp only []; omega, by have := HLL.out; simp only []; omega⟩ (by omega)).mono ?_
        rintro e w8 ⟨rfl, h3, h4⟩
        have HB8 := Lib.hid h3; have HL8 := Lib.hid (HL.out.kept h4 (fun k hk h => h.2 hk)); clear h3 h4 c0 c1 c2
        have q0 := HB8.out.fr.cell Q0.out (fun h => h); have q1 := HB8.out.fr.cell Q1.out (fun h => h); have q2 := HB8.out.fr.cell Q2.out (fun h => h)
        go_wp2_with fail
        refine (both_rspan w w8 p q _ _ _ _ ⟨.slice FA l[j].f.length fc, .slice TA l[j].t.length tc, l[j].f, l[j].t, l[j].o⟩ HB8.out (HG2.out.kept0 HB8.out.fr) (by omega)).mono ?_
        rintro e w9 ⟨rfl, h3, h4⟩
        have HB9 := Lib.hid h3; have HL9 := Lib.hid (HL8.out.kept h4 (fun k hk h => h.2 hk)); clear h3 h4 q0 q1 q2
        go_wp2_with fail
        refine (wholesp_any _ g gF gT gM _ l[j] HL9.out (HONE.out.kept0 HB9.out.fr) (HGO.out.kept0 HB9.out.fr)).mono ?_
        rintro e w10 ⟨rfl, f10⟩
        have HB10 := Lib.hid (HB9.out.kept0 f10); have HL10 := Lib.hid (HL9.out.kept0 f10); clear f10
        go_wp2_with fail
        refine (spoilsp_any _ g gF gT gM l[j] HL10.out (by have := HLL.out; omega) (by have := HLL.out; omega) HN.out.1 HN.out.2).mono ?_
        rintro e w11 ⟨rfl, f11⟩
        have HB11 := Lib.hid (HB10.out.spoil (f11.mono fun k _ hk => by rcases hk with e | e | e; exact .inl e; exact .inr (.inl e); exact .inr (.inr (.inl e)))); clear f11
        go_wp2
        go_roundw
        case rel => exact ⟨j + 1, rfl, by first | rfl | go_num, by omega, (HB11.out.turn (fun k => by rw [Added.succ]; simp [List.getElem?_eq_none h1n, List.getElem?_eq_getElem h2, SpV.mem, SpV.upto]; try exact or_left_comm) (fun k => by rw [Added.succ]; simp [List.getElem?_eq_none h1n, List.getElem?_eq_getElem h2, SpV.mem, SpV.upto]; try exact or_left_comm)).more (by omega)⟩
        case measure => simp [intOf]; omega
      · go_wp2
        refine bodyPost_ret (results_tmp3 rfl _ _ _) rfl ?_
        exact ⟨p, q, rfl, (HB.out.turn (fun k => Added.all (by omega) (by omega) k) (fun k => Added.all (by omega) (by omega) k)).more (by omega)⟩
end Go.Proofs.Ytdnohhlgaaihmaa
