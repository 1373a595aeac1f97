import Derived.Test.YtijcleiekafoiaaGreatDoorMb01
import Derived.Deep.Draws
import Derived.Lib.AppendStr
import Derived.Lib.ConvBytes
import Derived.Test.YtijcleiekafoiaaGreatDoorProg
import Derived.KernelRfl
import Derived.Lib.Hide
import Derived.WalkKit
import Derived.Laws.DeepNot64

/- Words on memory for walks: what a call may turn ('Fr'), a slice that reads as a list ('Sl'), append in one law. General; the conditions stand in each law. -/
namespace Go
open Go.RowKit

/-- Blocks of S alone may have turned, and there may be new ones. -/
structure Fr (S : Nat → Prop) (w w' : World) : Prop where
  os : w'.os = w.os
  tape : w'.tape = w.tape
  output : w'.output = w.output
  size : w.heap.size ≤ w'.heap.size
  block : ∀ k, k < w.heap.size → ¬ S k → w'.heap[k]? = w.heap[k]?

def no : Nat → Prop := fun _ => False

namespace Fr
variable {S S' : Nat → Prop} {w w1 w2 : World}
theorem refl (S : Nat → Prop) (w : World) : Fr S w w := ⟨rfl, rfl, rfl, Nat.le_refl _, fun _ _ _ => rfl⟩
theorem trans (h : Fr S w w1) (h' : Fr S' w1 w2) (hs : ∀ k, k < w.heap.size → S' k → S k) : Fr S w w2 :=
  ⟨h'.os.trans h.os, h'.tape.trans h.tape, h'.output.trans h.output, Nat.le_trans h.size h'.size, fun k hk hn =>
    (h'.block k (Nat.lt_of_lt_of_le hk h.size) (fun h1 => hn (hs k hk h1))).trans (h.block k hk hn)⟩
theorem mono (h : Fr S w w1) (hs : ∀ k, k < w.heap.size → S k → S' k) : Fr S' w w1 :=
  ⟨h.os, h.tape, h.output, h.size, fun k hk hn => h.block k hk fun h1 => hn (hs k hk h1)⟩
theorem drew (h : Fr S w w1) : Fr S w w1.drew := ⟨h.os, h.tape, h.output, h.size, h.block⟩
theorem alloc (h : Fr S w w1) (o : Obj) : Fr S w (w1.alloc o) :=
  ⟨h.os, h.tape, h.output, Nat.le_trans h.size (by simp), fun k hk hn => (Below.heap_alloc w1 o k (Nat.lt_of_lt_of_le hk h.size)).trans (h.block k hk hn)⟩
theorem setCell (h : Fr S w w1) (a : Addr) (v : Value) (ha : a.block < w.heap.size → S a.block) : Fr S w (w1.setCell a v) :=
  ⟨h.os, h.tape, h.output, by have := h.size; simp only [World.setCell, Array.size_modify]; exact this, fun k hk hn => by
    rw [Below.heap_setCell w1 a v k (fun e => hn (by subst e; exact ha hk))]; exact h.block k hk hn⟩
theorem grown {row : Option Nat} (h : Fr S w w1) (g : w1.grownBy w2 row) (hr : ∀ k, k < w.heap.size → row = some k → S k) : Fr S w w2 :=
  h.trans (S' := fun k => row = some k) ⟨g.os, g.tape, g.output, g.size, fun k hk hn => g.block k hk (fun e => hn e.symm)⟩ hr
theorem drewN (S : Nat → Prop) (w : World) (n : Nat) : Fr S w (w.drewN n) := ⟨rfl, rfl, rfl, Nat.le_refl _, fun _ _ _ => rfl⟩
theorem moreN (h : Fr S w w1) (n : Nat) : Fr S w (w1.drewN n) := ⟨h.os, h.tape, h.output, h.size, h.block⟩
theorem of_grown {row : Option Nat} (g : w.grownBy w1 row) : Fr (fun k => row = some k) w w1 := ⟨g.os, g.tape, g.output, g.size, fun k hk hn => g.block k hk (fun e => hn e.symm)⟩
theorem below (h : Fr S w w1) (hs : ∀ k, k < w.heap.size → ¬ S k) : Below w.heap.size w w1 := ⟨h.os, h.tape, h.output, h.size, fun k hk => h.block k hk (hs k hk)⟩
theorem of_below (h : Below w.heap.size w w1) (S : Nat → Prop) : Fr S w w1 := ⟨h.os, h.tape, h.output, h.size, fun k hk _ => h.block k hk⟩
theorem cell (h : Fr S w w1) {a : Addr} {v : Value} (hc : w.cell? a = some v) (hn : ¬ S a.block) : w1.cell? a = some v :=
  (World.cell?_of_block (w := w) (h.block a.block (World.block_lt_of_cell? w a hc) hn)).trans hc
theorem frozen (h : Fr S w w1) {a : Addr} (hb : a.block < w.heap.size) (hn : ¬ S a.block) : w1.frozen? a = w.frozen? a := World.frozen?_of_block (w := w) (h.block a.block hb hn)
theorem heap (h : Fr S w w1) {b : Nat} {o : Obj} (hb : w.heap[b]? = some o) (hn : ¬ S b) : w1.heap[b]? = some o :=
  (h.block b (Array.getElem?_eq_some_iff.1 hb).1 hn).trans hb
theorem ext (h : Fr no w w1) : ∃ e, w1 = w.ext e := by
  refine ⟨(w1.heap.extract w.heap.size w1.heap.size, w1.drawn), ?_⟩
  have hh : w1.heap = w.heap ++ w1.heap.extract w.heap.size w1.heap.size := by
    apply Array.ext_getElem?
    intro i
    have hs := h.size
    by_cases hi : i < w.heap.size
    · rw [h.block i hi (fun h => h), Array.getElem?_append, if_pos hi]
    · rw [Array.getElem?_append, if_neg hi, Array.getElem?_extract]
      by_cases hj : i < w1.heap.size
      · rw [if_pos (by omega)]; congr 1; omega
      · rw [if_neg (by omega), Array.getElem?_eq_none (by omega)]
  cases w1
  simp only [World.ext] at *
  obtain ⟨h1, h2, h3, _, _⟩ := h
  simp only at h1 h2 h3 hh
  subst h1; subst h2; subst h3
  rw [← hh]
end Fr

theorem Fr.of_ext (w : World) (e : Array Obj × Nat) : Fr no w (w.ext e) :=
  ⟨rfl, rfl, rfl, by simp [World.ext], fun k hk _ => World.ext_heap w e k hk⟩

/-- A byte as a value. -/
def Bv (c : UInt8) : Value := .int .u8 c.toNat
def bvs (l : List UInt8) : List Value := l.map Bv
theorem bvs_length (l : List UInt8) : (bvs l).length = l.length := List.length_map _
theorem bvs_append (l m : List UInt8) : bvs (l ++ m) = bvs l ++ bvs m := List.map_append
theorem bvs_one (l : List UInt8) : ∀ u ∈ bvs l, u.oneCell' = true := by
  intro u hu
  obtain ⟨_, _, rfl⟩ := List.mem_map.1 hu
  rfl
theorem bvs_cut (l : List UInt8) (a m : Nat) : ((bvs l).drop a).take m = bvs ((l.drop a).take m) := by simp [bvs, List.map_take, List.map_drop]
theorem bvs_drop (l : List UInt8) (a : Nat) : (bvs l).drop a = bvs (l.drop a) := by simp [bvs, List.map_drop]
theorem bvs_take (l : List UInt8) (a : Nat) : (bvs l).take a = bvs (l.take a) := by simp [bvs, List.map_take]
theorem bvs_get (l : List UInt8) (j : Nat) (h : j < l.length) : (bvs l)[j]? = some (.int .u8 l[j].toNat) := by simp [bvs, h, Bv]

/-- A slice of n elements of sz cells each, whose cells are xs. -/
def Sl (w : World) (sz : Nat) (v : Value) (n : Nat) (xs : List Value) : Prop :=
  xs.length = n * sz ∧ ((∃ A, v = .slice A 0 0 ∧ n = 0) ∨
    ∃ b o cap, v = .slice (some ⟨b, o, none⟩) n cap ∧ n ≤ cap ∧ cap ≤ maxLen ∧ ∀ j u, xs[j]? = some u → w.cell? ⟨b, o + j, none⟩ = some u)

namespace Sl
variable {w w1 : World} {sz n : Nat} {v : Value} {xs : List Value} {S : Nat → Prop}
theorem of_own {base : Nat} {e : TypeId} (h : w.ownsRow base e sz v n xs) : Sl w sz v n xs := by
  refine ⟨h.1, ?_⟩
  rcases h.2 with ⟨h1, h2⟩ | ⟨g, cap, cur, rfl, hb, hg, h1, h2, h3, h4⟩
  · exact .inl ⟨_, h1, h2⟩
  · refine .inr ⟨g, 0, cap, rfl, h1, h2, fun j u hu => ?_⟩
    have := h.cells (g := g) rfl j u hu
    rwa [Addr.add_lit] at this
theorem nil (w : World) (sz : Nat) : Sl w sz (.slice none 0 0) 0 [] := ⟨by simp, .inl ⟨_, rfl, rfl⟩⟩
theorem kept (h : Sl w sz v n xs) (f : Fr S w w1) (hn : ∀ k, v.ownBlock = some k → ¬ S k) : Sl w1 sz v n xs := by
  refine ⟨h.1, ?_⟩
  rcases h.2 with h | ⟨b, o, cap, rfl, h1, h2, h3⟩
  · exact .inl h
  · exact .inr ⟨b, o, cap, rfl, h1, h2, fun j u hu => f.cell (h3 j u hu) (hn b rfl)⟩
theorem kept0 (h : Sl w sz v n xs) (f : Fr no w w1) : Sl w1 sz v n xs := h.kept f (fun _ _ h => h)
theorem form (h : Sl w sz v n xs) : ∃ A c, v = .slice A n c ∧ n ≤ c ∧ c ≤ maxLen := by
  rcases h.2 with ⟨A, rfl, rfl⟩ | ⟨b, o, cap, rfl, h1, h2, _⟩
  · exact ⟨A, 0, rfl, Nat.le_refl _, Nat.zero_le _⟩
  · exact ⟨_, _, rfl, h1, h2⟩
/-- A cut that ends behind the row's end is empty. -/
theorem cut0 {A : Option Addr} {lo m : Nat} (h : Sl w 1 (.slice A n lo) n xs) (hl : lo + m ≤ n) : Sl w 1 (.slice A (lo + m - lo) 0) m ((xs.drop lo).take m) ∧ (Value.slice A (lo + m - lo) 0).ownBlock = (Value.slice A n lo).ownBlock := by
  obtain ⟨h0, h⟩ := h
  refine ⟨?_, by cases A <;> rfl⟩
  rcases h with ⟨_, h1, rfl⟩ | ⟨b, o, cap, h1, h2, h3, h4⟩
  · cases h1
    obtain rfl : m = 0 := by omega
    exact ⟨by simp, .inl ⟨_, rfl, rfl⟩⟩
  · cases h1
    obtain rfl : m = 0 := by omega
    refine ⟨by simp, .inr ⟨b, o, 0, by simp, Nat.le_refl _, Nat.zero_le _, by simp⟩⟩
theorem cut1 {A : Option Addr} {c lo m : Nat} (h : Sl w 1 (.slice A n c) n xs) (hl : lo + m ≤ n) : Sl w 1 (.slice (A.map (fun x => x.add lo)) (lo + m - lo) (c - lo)) m ((xs.drop lo).take m) ∧ (Value.slice (A.map (fun x => x.add lo)) (lo + m - lo) (c - lo)).ownBlock = (Value.slice A n c).ownBlock := by
  obtain ⟨h0, h⟩ := h
  refine ⟨⟨by simp; omega, ?_⟩, ?_⟩
  · rcases h with ⟨_, h1, rfl⟩ | ⟨b, o, cap, h1, h2, h3, h4⟩
    · cases h1
      obtain rfl : lo = 0 := by omega
      obtain rfl : m = 0 := by omega
      exact .inl ⟨_, rfl, rfl⟩
    · cases h1
      refine .inr ⟨b, o + lo, c - lo, by simp [Addr.add_lit], by omega, by omega, fun j u hu => ?_⟩
      rw [List.getElem?_take] at hu
      split at hu
      · rw [List.getElem?_drop] at hu
        rw [Nat.add_assoc]
        exact h4 _ _ hu
      · cases hu
  · cases A with
    | none => rfl
    | some a => simp only [Option.map_some, Value.ownBlock, Addr.add]; split <;> rfl
theorem tail0 {A : Option Addr} {lo : Nat} (h : Sl w 1 (.slice A n lo) n xs) (hl : lo ≤ n) : Sl w 1 (.slice A (n - lo) 0) (n - lo) (xs.drop lo) ∧ (Value.slice A (n - lo) 0).ownBlock = (Value.slice A n lo).ownBlock := by
  obtain ⟨h1, h2⟩ := cut0 (n := n) (lo := lo) (m := n - lo) h (by omega)
  rw [show lo + (n - lo) - lo = n - lo from by omega, List.take_of_length_le (by have := h.1; simp; omega)] at h1
  rw [show lo + (n - lo) - lo = n - lo from by omega] at h2
  exact ⟨h1, h2⟩
theorem tail1 {A : Option Addr} {c lo : Nat} (h : Sl w 1 (.slice A n c) n xs) (hl : lo ≤ n) : Sl w 1 (.slice (A.map (fun x => x.add lo)) (n - lo) (c - lo)) (n - lo) (xs.drop lo) ∧ (Value.slice (A.map (fun x => x.add lo)) (n - lo) (c - lo)).ownBlock = (Value.slice A n c).ownBlock := by
  obtain ⟨h1, h2⟩ := cut1 (n := n) (lo := lo) (m := n - lo) h (by omega)
  rw [show lo + (n - lo) - lo = n - lo from by omega, List.take_of_length_le (by have := h.1; simp; omega)] at h1
  rw [show lo + (n - lo) - lo = n - lo from by omega] at h2
  exact ⟨h1, h2⟩
theorem clip {A : Option Addr} {c : Nat} (h : Sl w sz (.slice A n c) n xs) : Sl w sz (.slice A n n) n xs := by
  refine ⟨h.1, ?_⟩
  rcases h.2 with ⟨_, h1, h2⟩ | ⟨b, o, cap, h1, h2, h3, h4⟩
  · cases h1; exact .inl ⟨_, rfl, rfl⟩
  · cases h1; exact .inr ⟨b, o, n, rfl, Nat.le_refl _, by omega, h4⟩
theorem head {A : Option Addr} {c : Nat} (h : Sl w 1 (.slice A n c) n xs) (m : Nat) (hm : m ≤ n) : Sl w 1 (.slice A m c) m (xs.take m) := by
  refine ⟨by have := h.1; simp; omega, ?_⟩
  rcases h.2 with ⟨_, h1, h2⟩ | ⟨b, o, cap, h1, h2, h3, h4⟩
  · cases h1; exact .inl ⟨_, by rw [show m = 0 from by omega], by omega⟩
  · cases h1
    refine .inr ⟨b, o, c, rfl, by omega, h3, fun j u hu => ?_⟩
    rw [List.getElem?_take] at hu
    split at hu
    · exact h4 j u hu
    · cases hu
/-- The j-th byte's cell. -/
theorem byte {A : Option Addr} {c : Nat} {l : List UInt8} (h : Sl w 1 (.slice A l.length c) l.length (bvs l)) (k : Nat) (hk : k < l.length) : ∃ b o, A = some ⟨b, o, none⟩ ∧ w.cell? ⟨b, o + k, none⟩ = some (.int .u8 l[k].toNat) := by
  rcases h.2 with ⟨_, h1, h2⟩ | ⟨b, o, cap, h1, _, _, h4⟩
  · omega
  · cases h1
    exact ⟨b, o, rfl, h4 k _ (bvs_get l k hk)⟩
/-- Behind a call that turns only new blocks. -/
theorem below (h : Sl w sz v n xs) (b : Below w.heap.size w w1) : Sl w1 sz v n xs := by
  refine ⟨h.1, ?_⟩
  rcases h.2 with h | ⟨b0, o, cap, rfl, h1, h2, h3⟩
  · exact .inl h
  · exact .inr ⟨b0, o, cap, rfl, h1, h2, fun j u hu => (World.cell?_of_block (w := w) (b.block b0 (World.block_lt_of_cell? w _ (h3 j u hu)))).trans (h3 j u hu)⟩
theorem le (h : Sl w sz v n xs) : n ≤ maxLen := by obtain ⟨_, _, _, h1, h2⟩ := h.form; omega
end Sl

theorem own_form {w : World} {base e sz n : Nat} {v : Value} {xs : List Value} (h : w.ownsRow base e sz v n xs) : ∃ A c, v = .slice A n c := by
  rcases h.2 with ⟨rfl, rfl⟩ | ⟨g, cap, cur, rfl, _⟩
  · exact ⟨_, _, rfl⟩
  · exact ⟨_, _, rfl⟩

theorem own_kept {w w1 : World} {base e sz n : Nat} {v : Value} {xs : List Value} {S : Nat → Prop} (h : w.ownsRow base e sz v n xs) (f : Fr S w w1) (hn : ∀ k, v.ownBlock = some k → ¬ S k) : w1.ownsRow base e sz v n xs := by
  refine ⟨h.1, ?_⟩
  rcases h.2 with h | ⟨g, cap, cur, rfl, hb, hg, rest⟩
  · exact .inl h
  · exact .inr ⟨g, cap, cur, rfl, hb, f.heap hg (hn g rfl), rest⟩

theorem own_kept0 {w w1 : World} {base e sz n : Nat} {v : Value} {xs : List Value} (h : w.ownsRow base e sz v n xs) (f : Fr no w w1) : w1.ownsRow base e sz v n xs := own_kept h f (fun _ _ h => h)

theorem own_lt {w : World} {base e sz n : Nat} {v : Value} {xs : List Value} (h : w.ownsRow base e sz v n xs) : ∀ k, v.ownBlock = some k → k < w.heap.size := fun k hk => (h.lt k hk).2

theorem own_set {w : World} {base e sz n : Nat} {v : Value} {xs : List Value} (h : w.ownsRow base e sz v n xs) (a : Addr) (u : Value) (hn : v.ownBlock ≠ some a.block) : (w.setCell a u).ownsRow base e sz v n xs :=
  own_kept (S := fun k => k = a.block) h ((Fr.refl _ w).setCell a u (fun _ => rfl)) (fun k hk e => hn (by rw [hk, e]))

/-- A row of one's own, at a block's head, of which a slice has a part. -/
def Ow (w : World) (e : TypeId) (sz : Nat) (v : Value) (n : Nat) (xs : List Value) : Prop :=
  xs.length = n * sz ∧ ((v = .slice none 0 0 ∧ n = 0) ∨
    ∃ g cap cur, v = .slice (some ⟨g, 0, none⟩) n cap ∧ w.heap[g]? = some (.cells cur e (0, 0)) ∧ n ≤ cap ∧ cap ≤ maxLen ∧ cap * sz ≤ cur.size ∧ cur.toList.take (n * sz) = xs)

namespace Ow
variable {w w1 : World} {e sz n : Nat} {v : Value} {xs : List Value} {S : Nat → Prop}
theorem of_own {base : Nat} (h : w.ownsRow base e sz v n xs) : Ow w e sz v n xs := by
  refine ⟨h.1, ?_⟩
  rcases h.2 with h | ⟨g, cap, cur, rfl, _, hg, h1, h2, h3, h4⟩
  · exact .inl h
  · exact .inr ⟨g, cap, cur, rfl, hg, h1, h2, Nat.le_of_eq h3.symm, h4⟩
theorem kept (h : Ow w e sz v n xs) (f : Fr S w w1) (hn : ∀ k, v.ownBlock = some k → ¬ S k) : Ow w1 e sz v n xs := by
  refine ⟨h.1, ?_⟩
  rcases h.2 with h | ⟨g, cap, cur, rfl, hg, rest⟩
  · exact .inl h
  · exact .inr ⟨g, cap, cur, rfl, f.heap hg (hn g rfl), rest⟩
theorem kept0 (h : Ow w e sz v n xs) (f : Fr no w w1) : Ow w1 e sz v n xs := h.kept f (fun _ _ h => h)
theorem clip {A : Option Addr} {c : Nat} (h : Ow w e sz (.slice A n c) n xs) : Ow w e sz (.slice A n n) n xs := by
  refine ⟨h.1, ?_⟩
  rcases h.2 with ⟨h1, h2⟩ | ⟨g, cap, cur, h1, hg, h2, h3, h4, h5⟩
  · cases h1; exact .inl ⟨rfl, rfl⟩
  · cases h1; exact .inr ⟨g, n, cur, rfl, hg, Nat.le_refl _, by omega, Nat.le_trans (Nat.mul_le_mul_right _ h2) h4, h5⟩
theorem sl (h : Ow w e sz v n xs) : Sl w sz v n xs := by
  refine ⟨h.1, ?_⟩
  rcases h.2 with ⟨h1, h2⟩ | ⟨g, cap, cur, rfl, hg, h2, h3, h4, h5⟩
  · exact .inl ⟨_, h1, h2⟩
  · refine .inr ⟨g, 0, cap, rfl, h2, h3, fun j u hu => ?_⟩
    rw [← h5, List.getElem?_take] at hu
    split at hu
    · rw [Nat.zero_add, cell_of_row w g j cur e (0, 0) hg]
      simpa using hu
    · cases hu
theorem lt (h : Ow w e sz v n xs) : ∀ k, v.ownBlock = some k → k < w.heap.size := by
  intro k hk
  rcases h.2 with ⟨rfl, _⟩ | ⟨g, cap, cur, rfl, hg, _⟩
  · simp [Value.ownBlock] at hk
  · simp [Value.ownBlock] at hk
    subst hk
    exact (Array.getElem?_eq_some_iff.1 hg).1
end Ow

/-- What the tables say of a slice's type: closed facts. -/
structure Tb (P : Program) (t e : TypeId) (z : Value) (size bytes : Nat) : Prop where
  und : P.underlying t = some (.slice e)
  info : (P.info? e).map (fun i => (i.zero, i.size, i.bytes)) = some (some z, size, bytes)
  zs : z.cells.size = size
  pos : 0 < size

/-- Where an append leaves its row: where it was, or in a new block. -/
def Moved (w w' : World) (v v' : Value) : Prop := v'.ownBlock = v.ownBlock ∨ ∀ k, v'.ownBlock = some k → w.heap.size ≤ k ∧ k < w'.heap.size

section
variable {P : Program} {w : World} {o : Oper} {a : Act} {K : Act → World → Prop} {Q : Exit → Act → World → Prop}

/-- append of what a slice holds, onto a row of one's own. -/
theorem run_ap {t e : TypeId} {z : Value} {size bytes : Nat} (tb : Tb P t e z size bytes) (ty : TypeId) {v : Value} {n : Nat} {xs : List Value} (hown : w.ownsRow 0 e size v n xs)
    {x : Value} {m : Nat} {news : List Value} (hx : Sl w size x m news) (h1 : ∀ u ∈ news, u.oneCell' = true) (h63 : n + m ≤ maxLen) (hb : (n + m) * bytes ≤ 140737488355328) :
    ∃ A c w', (Builtin.append_ #[t, t] ty #[v, x]).run P w = .ok (.slice A (n + m) c) w' ∧ w'.ownsRow 0 e size (.slice A (n + m) c) (n + m) (xs ++ news) ∧ w.grownBy w' v.ownBlock ∧ Moved w w' v (.slice A (n + m) c) := by
  obtain ⟨i, hi, hz0, hz1, hz2⟩ := info_parts tb.info
  have hx2 : (x = .slice none 0 0 ∧ m = 0) ∨ ∃ y cap', x = .slice (some y) m cap' ∧ ∀ j u, news[j]? = some u → w.cell? (y.add j) = some u := by
    rcases hx.2 with ⟨Y, h1, h2⟩ | ⟨b, off, cap', h1, _, _, hc⟩
    · subst h1; subst h2
      cases Y with
      | none => exact .inl ⟨rfl, rfl⟩
      | some y => exact .inr ⟨y, 0, rfl, fun j u hu => by
          have hn : news = [] := List.eq_nil_of_length_eq_zero (by simpa using hx.1)
          subst hn; simp at hu⟩
    · exact .inr ⟨⟨b, off, none⟩, cap', h1, fun j u hu => by rw [Addr.add_lit]; exact hc j u hu⟩
  rcases hx2 with ⟨rfl, rfl⟩ | ⟨y, cap', rfl, hnews⟩
  · have hn : news = [] := List.eq_nil_of_length_eq_zero (by simpa using hx.1)
    subst hn
    obtain ⟨A, c, rfl⟩ := own_form hown
    exact ⟨A, c, w, run_append_owned_none (P := P) w 0 t ty e i size tb.und hi _ n xs hown, by simpa using hown, ⟨rfl, rfl, rfl, Nat.le_refl _, fun _ _ _ => rfl⟩, .inl rfl⟩
  · skip
    have hsmall : n + m ≤ 9223372036854775807 := by simp only [maxLen] at h63; omega
    rcases hown.2 with ⟨rfl, rfl⟩ | ⟨g, cap, cur, rfl, hbg, hg, hnc, hcm, hcs, htake⟩
    · obtain ⟨v', w', hr, h2, h3, h4⟩ := run_append_own (P := P) w w.heap.size t ty e i z size bytes tb.und hi hz0 hz1 hz2 tb.zs tb.pos (.slice none 0 0) 0 xs ⟨hown.1, .inl ⟨rfl, rfl⟩⟩ y m cap' news hx.1 hnews h1 h63 hb (Nat.le_refl _)
      obtain ⟨A, c, rfl⟩ := own_form h2
      exact ⟨A, c, w', hr, ⟨h2.1, by rcases h2.2 with h | ⟨g, cap, cur, h5, _, h6⟩; exact .inl h; exact .inr ⟨g, cap, cur, h5, Nat.zero_le _, h6⟩⟩, h3, .inr h2.lt⟩
    · obtain ⟨v', w', hr, h2, h3, h4⟩ := run_append_own (P := P) w 0 t ty e i z size bytes tb.und hi hz0 hz1 hz2 tb.zs tb.pos _ n xs hown y m cap' news hx.1 hnews h1 h63 hb (Nat.zero_le _)
      obtain ⟨A, c, rfl⟩ := own_form h2
      refine ⟨A, c, w', hr, h2, h3, ?_⟩
      by_cases hroom : n + m ≤ cap
      · have hfit : n * i.size + news.length ≤ cur.size := by rw [hz1, hx.1, hcs, ← Nat.add_mul]; exact Nat.mul_le_mul_right _ hroom
        have hr2 := run_append_room (P := P) w t ty e i tb.und hi g n cap cur hg y m cap' news (by rw [hz1]; exact hx.1) hnews h1 hroom hfit
        rw [hr] at hr2
        cases hr2
        exact .inl rfl
      · have holds : ∀ j u, xs[j]? = some u → w.cell? ((⟨g, 0, none⟩ : Addr).add j) = some u := hown.cells (g := g) rfl
        have hr2 := run_append_grow (P := P) w t ty e i z tb.und hi hz0 ⟨g, 0, none⟩ n cap xs (by rw [hz1]; exact hown.1) holds y m cap' news (by rw [hz1]; exact hx.1) hnews (by omega) (by omega) (growslice_fits (by omega) (by rw [hz2]; exact hb))
        rw [hr] at hr2
        cases hr2
        exact .inr fun k hk => ⟨by simp [Value.ownBlock] at hk; omega, own_lt h2 k hk⟩

/-- .. of a string's bytes. -/
theorem run_aps {t u e : TypeId} (tb : Tb P t e (.int .u8 0) 1 1) (hu : P.underlying u = some .string) (ty : TypeId) {v : Value} {n : Nat} {xs : List Value} (hown : w.ownsRow 0 e 1 v n xs)
    (s : ByteArray) (h63 : n + s.size ≤ maxLen) (hb : n + s.size ≤ 140737488355328) :
    ∃ A c w', (Builtin.append_ #[t, u] ty #[v, .string s]).run P w = .ok (.slice A (n + s.size) c) w' ∧ w'.ownsRow 0 e 1 (.slice A (n + s.size) c) (n + s.size) (xs ++ bvs s.data.toList) ∧ w.grownBy w' v.ownBlock ∧ Moved w w' v (.slice A (n + s.size) c) := by
  obtain ⟨i, hi, hz0, hz1, hz2⟩ := info_parts tb.info
  have hsmall : n + s.size ≤ 9223372036854775807 := by simp only [maxLen] at h63; omega
  rcases hown.2 with ⟨rfl, rfl⟩ | ⟨g, cap, cur, rfl, hbg, hg, hnc, hcm, hcs, htake⟩
  · obtain ⟨v', w', hr, h2, h3, h4⟩ := Lib.run_append_own_string (P := P) w w.heap.size t u ty e i tb.und hu hi hz0 hz1 hz2 (.slice none 0 0) 0 xs ⟨hown.1, .inl ⟨rfl, rfl⟩⟩ s h63 hb (Nat.le_refl _)
    obtain ⟨A, c, rfl⟩ := own_form h2
    exact ⟨A, c, w', hr, ⟨h2.1, by rcases h2.2 with h | ⟨g, cap, cur, h5, _, h6⟩; exact .inl h; exact .inr ⟨g, cap, cur, h5, Nat.zero_le _, h6⟩⟩, h3, .inr h2.lt⟩
  · obtain ⟨v', w', hr, h2, h3, h4⟩ := Lib.run_append_own_string (P := P) w 0 t u ty e i tb.und hu hi hz0 hz1 hz2 _ n xs hown s h63 hb (Nat.zero_le _)
    obtain ⟨A, c, rfl⟩ := own_form h2
    refine ⟨A, c, w', hr, h2, h3, ?_⟩
    by_cases hroom : n + s.size ≤ cap
    · have hr2 := Lib.run_append_room_string (P := P) w t u ty e i tb.und hu hi hz1 g n cap cur hg s hroom (by rw [hcs]; omega)
      rw [hr] at hr2
      cases hr2
      exact .inl rfl
    · have holds : ∀ j u, xs[j]? = some u → w.cell? ((⟨g, 0, none⟩ : Addr).add j) = some u := hown.cells (g := g) rfl
      have hr2 := Lib.run_append_grow_string (P := P) w t u ty e i (.int .u8 0) tb.und hu hi hz0 ⟨g, 0, none⟩ n cap xs (by rw [hz1]; exact hown.1) holds s (by omega) (by omega) (growslice_fits (by omega) (by rw [hz2]; omega))
      rw [hr] at hr2
      cases hr2
      exact .inr fun k hk => ⟨by simp [Value.ownBlock] at hk; omega, own_lt h2 k hk⟩

/-- append in a walk: one operation. -/
theorem wp_ap (s x : Operand) (t : TypeId) (ho : o.op = .call { callee := .builtin .append, args := #[s, x], argTypes := #[t, t] })
    {e : TypeId} {z : Value} {size bytes : Nat} (tb : Tb P t e z size bytes) {v : Value} {n : Nat} {xs : List Value} (hown : w.ownsRow 0 e size v n xs)
    {vx : Value} {m : Nat} {news : List Value} (hx : Sl w size vx m news) (hs : a.eval s = v) (hxe : a.eval x = vx) (h1 : ∀ u ∈ news, u.oneCell' = true) (h63 : n + m ≤ maxLen) (hb : (n + m) * bytes ≤ 140737488355328)
    (h : ∀ A N c w', w'.ownsRow 0 e size (.slice A N c) N (xs ++ news) → Fr (fun k => v.ownBlock = some k) w w' → Moved w w' v (.slice A N c) → K (a.put o.dst (.slice A N c)) w') : o.wp P a w K Q := by
  obtain ⟨A, c, w', hr, h2, h3, h4⟩ := run_ap (P := P) tb o.type hown hx h1 h63 hb
  unfold Oper.wp execOp
  simp only [ho, resolve, invoke, builtin, Sem.run_bind, Sem.run_pure, Result.andThen_ok, List.map_toArray, List.map_cons, List.map_nil, hs, hxe, hr]
  exact h A _ c w' h2 (Fr.of_grown h3) h4

theorem wp_aps (s x : Operand) (t u : TypeId) (ho : o.op = .call { callee := .builtin .append, args := #[s, x], argTypes := #[t, u] })
    {e : TypeId} (tb : Tb P t e (.int .u8 0) 1 1) (hu : P.underlying u = some .string) {v : Value} {n : Nat} {xs : List Value} (hown : w.ownsRow 0 e 1 v n xs)
    (str : ByteArray) (hs : a.eval s = v) (hxe : a.eval x = .string str) (h63 : n + str.size ≤ maxLen) (hb : n + str.size ≤ 140737488355328)
    (h : ∀ A N c w', w'.ownsRow 0 e 1 (.slice A N c) N (xs ++ bvs str.data.toList) → Fr (fun k => v.ownBlock = some k) w w' → Moved w w' v (.slice A N c) → K (a.put o.dst (.slice A N c)) w') : o.wp P a w K Q := by
  obtain ⟨A, c, w', hr, h2, h3, h4⟩ := run_aps (P := P) tb hu o.type hown str h63 hb
  unfold Oper.wp execOp
  simp only [ho, resolve, invoke, builtin, Sem.run_bind, Sem.run_pure, Result.andThen_ok, List.map_toArray, List.map_cons, List.map_nil, hs, hxe, hr]
  exact h A _ c w' h2 (Fr.of_grown h3) h4

/-- The same; the row is told in an elder world, since when there are new blocks alone. -/
theorem wp_apx {w0 : World} (s x : Operand) (t : TypeId) (ho : o.op = .call { callee := .builtin .append, args := #[s, x], argTypes := #[t, t] })
    {e : TypeId} {z : Value} {size bytes : Nat} (tb : Tb P t e z size bytes) {v : Value} {n : Nat} {xs : List Value} (hown : w0.ownsRow 0 e size v n xs) (f : Fr no w0 w)
    {vx : Value} {m : Nat} {news : List Value} (hx : Sl w size vx m news) (hs : a.eval s = v) (hxe : a.eval x = vx) (h1 : ∀ u ∈ news, u.oneCell' = true) (h63 : n + m ≤ maxLen) (hb : (n + m) * bytes ≤ 140737488355328)
    (h : ∀ A N c w', w'.ownsRow 0 e size (.slice A N c) N (xs ++ news) → Fr (fun k => v.ownBlock = some k) w w' → Moved w w' v (.slice A N c) → K (a.put o.dst (.slice A N c)) w') : o.wp P a w K Q :=
  wp_ap s x t ho tb (own_kept0 hown f) hx hs hxe h1 h63 hb h

theorem wp_apsx {w0 : World} (s x : Operand) (t u : TypeId) (ho : o.op = .call { callee := .builtin .append, args := #[s, x], argTypes := #[t, u] })
    {e : TypeId} (tb : Tb P t e (.int .u8 0) 1 1) (hu : P.underlying u = some .string) {v : Value} {n : Nat} {xs : List Value} (hown : w0.ownsRow 0 e 1 v n xs) (f : Fr no w0 w)
    (str : ByteArray) (hs : a.eval s = v) (hxe : a.eval x = .string str) (h63 : n + str.size ≤ maxLen) (hb : n + str.size ≤ 140737488355328)
    (h : ∀ A N c w', w'.ownsRow 0 e 1 (.slice A N c) N (xs ++ bvs str.data.toList) → Fr (fun k => v.ownBlock = some k) w w' → Moved w w' v (.slice A N c) → K (a.put o.dst (.slice A N c)) w') : o.wp P a w K Q :=
  wp_aps s x t u ho tb hu (own_kept0 hown f) str hs hxe h63 hb h

variable {ops : Array Oper} {rest : List Oper}

theorem wpList_ap {w0 : World} (hgd : o.guard = none) (s x : Operand) (t : TypeId) (ho : o.op = .call { callee := .builtin .append, args := #[s, x], argTypes := #[t, t] })
    {e : TypeId} {z : Value} {size bytes : Nat} (tb : Tb P t e z size bytes) {v : Value} {n : Nat} {xs : List Value} (hown : w0.ownsRow 0 e size v n xs) (f : Fr no w0 w)
    {vx : Value} {m : Nat} {news : List Value} (hx : Sl w size vx m news) (hs : a.eval s = v) (hxe : a.eval x = vx) (h1 : ∀ u ∈ news, u.oneCell' = true) (h63 : n + m ≤ maxLen) (hb : (n + m) * bytes ≤ 140737488355328)
    (h : ∀ A N c w', w'.ownsRow 0 e size (.slice A N c) N (xs ++ news) → Fr (fun k => v.ownBlock = some k) w w' → Moved w w' v (.slice A N c) → wpList P ops Q rest (a.put o.dst (.slice A N c)) w') : wpList P ops Q (o :: rest) a w :=
  wpList_plain hgd fun _ hK => wp_apx s x t ho tb hown f hx hs hxe h1 h63 hb fun A N c w' h2 h3 h4 => hK _ _ (h A N c w' h2 h3 h4)

theorem wpList_aps {w0 : World} (hgd : o.guard = none) (s x : Operand) (t u : TypeId) (ho : o.op = .call { callee := .builtin .append, args := #[s, x], argTypes := #[t, u] })
    {e : TypeId} (tb : Tb P t e (.int .u8 0) 1 1) (hu : P.underlying u = some .string) {v : Value} {n : Nat} {xs : List Value} (hown : w0.ownsRow 0 e 1 v n xs) (f : Fr no w0 w)
    (str : ByteArray) (hs : a.eval s = v) (hxe : a.eval x = .string str) (h63 : n + str.size ≤ maxLen) (hb : n + str.size ≤ 140737488355328)
    (h : ∀ A N c w', w'.ownsRow 0 e 1 (.slice A N c) N (xs ++ bvs str.data.toList) → Fr (fun k => v.ownBlock = some k) w w' → Moved w w' v (.slice A N c) → wpList P ops Q rest (a.put o.dst (.slice A N c)) w') : wpList P ops Q (o :: rest) a w :=
  wpList_plain hgd fun _ hK => wp_apsx s x t u ho tb hu hown f str hs hxe h63 hb fun A N c w' h2 h3 h4 => hK _ _ (h A N c w' h2 h3 h4)
end

/-- A new row of bytes, all of it. -/
theorem Sl.fresh (w : World) (l : List UInt8) (T : TypeId) {cs : Array Value} (hc : cs = (bvs l).toArray) (hm : l.length ≤ maxLen) : Sl (w.alloc (.cells cs T)) 1 (.slice (some ⟨w.heap.size, 0, none⟩) l.length l.length) l.length (bvs l) := by
  subst hc
  refine ⟨by simp [bvs_length], .inr ⟨_, 0, _, rfl, Nat.le_refl _, hm, fun j u hu => ?_⟩⟩
  unfold World.cell?
  rw [heap_alloc_new]
  simpa using hu

theorem Sl.built (w : World) (u : Value) (T : TypeId) : Sl (w.alloc (.cells #[u] T)) 1 (.slice (some ⟨w.heap.size, 0, none⟩) 1 1) 1 [u] := by
  refine ⟨rfl, .inr ⟨_, _, _, rfl, Nat.le_refl _, by simp [maxLen], fun j v hv => ?_⟩⟩
  match j, hv with
  | 0, hv => simp at hv; subst hv; unfold World.cell?; rw [heap_alloc_new]; simp

theorem hp_same {w : World} {b : Nat} {c : Array Value} {T : TypeId} {fr : Nat × Nat} (h : w.heap[b]? = some (.cells c T fr)) (o : Nat) (v : Value) :
    (w.setCell ⟨b, o, none⟩ v).heap[b]? = some (.cells (c.setIfInBounds o v) T fr) := by
  simp only [World.setCell, Array.getElem?_modify, if_true, h, Option.map_some]
  simp

theorem hp_other {w : World} {b : Nat} (a : Addr) (v : Value) (h : b ≠ a.block) : (w.setCell a v).heap[b]? = w.heap[b]? := Below.heap_setCell w a v b h

theorem Moved.refl (w : World) (v : Value) : Moved w w v v := .inl rfl
theorem Moved.trans {w w1 w2 : World} {v v1 v2 : Value} (h : Moved w w1 v v1) (h' : Moved w1 w2 v1 v2) (hs : w.heap.size ≤ w1.heap.size) (hs' : w1.heap.size ≤ w2.heap.size) : Moved w w2 v v2 := by
  rcases h' with h' | h'
  · rcases h with h | h
    · exact .inl (h'.trans h)
    · exact .inr fun k hk => by have := h k (h' ▸ hk); omega
  · exact .inr fun k hk => by have := h' k hk; omega
theorem Moved.later {w w1 w2 : World} {v v1 : Value} (h : Moved w w1 v v1) (hs : w1.heap.size ≤ w2.heap.size) : Moved w w2 v v1 := by
  rcases h with h | h
  · exact .inl h
  · exact .inr fun k hk => by have := h k hk; omega
theorem Moved.first {w0 w w1 : World} {v v1 : Value} (h : Moved w w1 v v1) (hs : w0.heap.size ≤ w.heap.size) : Moved w0 w1 v v1 := by
  rcases h with h | h
  · exact .inl h
  · exact .inr fun k hk => by have := h k hk; omega
/-- A block that was there, and none of the elder row's, is none of the row's. -/
theorem Moved.not {w w1 : World} {v v1 : Value} (h : Moved w w1 v v1) {k : Nat} (hk : k < w.heap.size) (hn : v.ownBlock ≠ some k) : v1.ownBlock ≠ some k := by
  intro e
  rcases h with h | h
  · exact hn (h ▸ e)
  · have := h k e; omega

theorem push_all (l : List UInt8) : ∀ (r : ByteArray), (l.map (fun c : UInt8 => ((c.toNat : Nat) : Int))).foldl (fun r n => r.push (UInt8.ofNat n.toNat)) r = ⟨r.data ++ l.toArray⟩ := by
  induction l with
  | nil => intro r; simp
  | cons c l ih =>
    intro r
    simp only [List.map_cons, List.foldl_cons]
    rw [ih]
    simp [ByteArray.push]

/-- string(b). -/
theorem run_str {P : Program} (w : World) {src dst e : TypeId} (hs : P.underlying src = some (.slice e)) (he : P.underlying e = some (.int .u8)) (hd : P.underlying dst = some .string) {v : Value} {n : Nat} {l : List UInt8}
    (hv : Sl w 1 v n (bvs l)) : (convert src dst v).run P w = .ok (.string ⟨l.toArray⟩) w := by
  rcases hv.2 with ⟨A, rfl, rfl⟩ | ⟨b, o, cap, rfl, _, _, hc⟩
  · have : l = [] := List.eq_nil_of_length_eq_zero (by have := hv.1; rw [bvs_length] at this; omega)
    subst this
    rw [run_convert_bytes_string w src dst e A 0 0 hs he hd]
    cases A with
    | none => simp [Conv.bytesToString, ByteArray.empty, ByteArray.emptyWithCapacity]; rfl
    | some y =>
      rw [run_bytesToString w y 0 0 [] (by simpa using run_loadCells_list (P := P) w y [] (by simp))]
      simp [ByteArray.empty, ByteArray.emptyWithCapacity]; try rfl
  · rw [run_convert_bytes_string w src dst e _ n cap hs he hd]
    have hn : n = l.length := by have := hv.1; rw [bvs_length] at this; omega
    subst hn
    have hload : (loadCells ⟨b, o, none⟩ l.length).run P w = .ok ((l.map (fun c : UInt8 => ((c.toNat : Nat) : Int))).map (Value.int .u8)).toArray w := by
      have h := run_loadCells_list (P := P) w ⟨b, o, none⟩ (bvs l) (fun j u hu => by rw [Addr.add_lit]; exact hc j u hu)
      rw [bvs_length] at h
      rw [h]
      simp [bvs, Bv]
    rw [run_bytesToString w _ _ _ _ hload, push_all]
    simp [ByteArray.empty, ByteArray.emptyWithCapacity]; try rfl
end Go

/- What all walks need of memory. -/
namespace Go.Proofs.YtijcleiekafoiaaGreatDoor
open Go.RowKit

theorem tbB : Tb Tryz.prog 23 5 (.int .u8 0) 1 1 := ⟨by kernel_rfl, by kernel_rfl, rfl, by decide⟩

theorem one_cells {w : World} {p : Nat} {v : Value} {T : TypeId} (h : w.heap[p]? = some (.cells #[v] T (0, 0))) : w.cell? ⟨p, 0, none⟩ = some v ∧ (∀ o, w.frozen? ⟨p, o, none⟩ = false) ∧ p < w.heap.size := by
  refine ⟨by simp [World.cell?, h], fun o => by simp [World.frozen?, h], (Array.getElem?_eq_some_iff.1 h).1⟩

theorem four_cells {w : World} {p : Nat} {a b c d : Value} {T : TypeId} (h : w.heap[p]? = some (.cells #[a, b, c, d] T (0, 0))) :
    w.cell? ⟨p, 0, none⟩ = some a ∧ w.cell? ⟨p, 1, none⟩ = some b ∧ w.cell? ⟨p, 2, none⟩ = some c ∧ w.cell? ⟨p, 3, none⟩ = some d ∧ (∀ o, w.frozen? ⟨p, o, none⟩ = false) ∧ p < w.heap.size := by
  refine ⟨by simp [World.cell?, h], by simp [World.cell?, h], by simp [World.cell?, h], by simp [World.cell?, h], fun o => by simp [World.frozen?, h], (Array.getElem?_eq_some_iff.1 h).1⟩

def At (p : Nat) : Nat → Prop := fun k => k = p

theorem _root_.Go.Fr.setAt {p : Nat} {w w1 : World} (h : Fr (At p) w w1) (o : Nat) (v : Value) : Fr (At p) w (w1.setCell ⟨p, o, none⟩ v) := h.setCell _ _ (fun _ => rfl)

theorem fr_sooner {w w1 w2 : World} {S : Nat → Prop} (f : Fr no w w1) (g : Fr S w1 w2) : Fr S w w2 := (f.mono (fun _ _ h => h.elim)).trans g (fun _ _ h => h)

theorem results_tmp4 {fn : Func} {t u v x : Tmp} (h : fn.results = #[.tmp t, .tmp u, .tmp v, .tmp x]) (tmps : Array Value) (P : Program) (w : World) :
    (results fn tmps).run P w = .ok (.tuple #[tmps.getD t undef, tmps.getD u undef, tmps.getD v undef, tmps.getD x undef]) w := by
  simp [results, h]

theorem below_by {w0 w w1 : World} {S : Nat → Prop} (h : Below w0.heap.size w0 w) (f : Fr S w w1) (hS : ∀ k, S k → w0.heap.size ≤ k) : Below w0.heap.size w0 w1 := by
  have s := h.size
  exact ⟨f.os.trans h.os, f.tape.trans h.tape, f.output.trans h.output, Nat.le_trans s f.size, fun k hk => (f.block k (by omega) (fun h2 => by have := hS k h2; omega)).trans (h.block k hk)⟩

end Go.Proofs.YtijcleiekafoiaaGreatDoor

/- The writer of package code: what each call of it writes. Conditions: a row of its own, of fewer than 2^31 bytes. -/
namespace Go.Proofs.YtijcleiekafoiaaGreatDoor
open Go.RowKit

/-- A writer at block p: what it has written. -/
def Wr (w : World) (p : Nat) (sv : Value) (l : List UInt8) : Prop :=
  w.heap[p]? = some (.cells #[sv] 130 (0, 0)) ∧ w.ownsRow 0 5 1 sv l.length (bvs l) ∧ sv.ownBlock ≠ some p

def Own (p : Nat) (sv : Value) : Nat → Prop := fun k => k = p ∨ sv.ownBlock = some k

/-- From w to w' the writer has written bs. -/
def Wrote (w w' : World) (p : Nat) (sv : Value) (l bs : List UInt8) : Prop :=
  ∃ A n c, Wr w' p (.slice A n c) (l ++ bs) ∧ Fr (Own p sv) w w' ∧ Moved w w' sv (.slice A n c)

theorem Wr.wrote {w : World} {p : Nat} {sv : Value} {l : List UInt8} (h : Wr w p sv l) : Wrote w w p sv l [] := by
  obtain ⟨h1, h2, h3⟩ := h
  obtain ⟨A, c, rfl⟩ := own_form h2
  simp only [Wrote, List.append_nil]
  exact ⟨A, _, c, ⟨h1, h2, h3⟩, Fr.refl _ _, Moved.refl _ _⟩

theorem Own.sub {w w1 : World} {p : Nat} {sv v1 : Value} (m : Moved w w1 sv v1) : ∀ k, k < w.heap.size → Own p v1 k → Own p sv k := by
  intro k hk h
  rcases h with h | h
  · exact .inl h
  · rcases m with m | m
    · exact .inr (m ▸ h)
    · have := m k h; omega

theorem Wrote.trans {w w1 w2 : World} {p : Nat} {sv : Value} {l bs cs : List UInt8} {A : Option Addr} {n c : Nat} (f : Fr (Own p sv) w w1) (m : Moved w w1 sv (.slice A n c))
    (h : Wrote w1 w2 p (.slice A n c) (l ++ bs) cs) : Wrote w w2 p sv l (bs ++ cs) := by
  obtain ⟨A', n', c', h1, h2, h3⟩ := h
  rw [List.append_assoc] at h1
  exact ⟨A', n', c', h1, f.trans h2 (Own.sub m), m.trans h3 f.size h2.size⟩

theorem Wr.lt {w : World} {p : Nat} {sv : Value} {l : List UInt8} (h : Wr w p sv l) : p < w.heap.size := (one_cells h.1).2.2

theorem Wr.kept {w w1 : World} {p : Nat} {sv : Value} {l : List UInt8} {S : Nat → Prop} (h : Wr w p sv l) (f : Fr S w w1) (hn : ∀ k, Own p sv k → ¬ S k) : Wr w1 p sv l :=
  ⟨f.heap h.1 (hn p (.inl rfl)), own_kept h.2.1 f fun k hk => hn k (.inr hk), h.2.2⟩

/-- One more append: the row stored back into the writer. -/
theorem Wrote.more {w wr wx w2 : World} {p : Nat} {sv : Value} {l bs cs : List UInt8} {A A' : Option Addr} {n c n' c' N : Nat} (h : Wr wr p (.slice A n c) (l ++ bs)) (f : Fr (Own p sv) w wr) (m : Moved w wr sv (.slice A n c))
    (fx : Fr no wr wx) (ho : w2.ownsRow 0 5 1 (.slice A' n' c') N (bvs (l ++ bs) ++ bvs cs)) (f2 : Fr (fun k => Value.ownBlock (.slice A n c) = some k) wx w2) (m2 : Moved wx w2 (.slice A n c) (.slice A' n' c')) :
    Wrote w (w2.setCell ⟨p, 0, none⟩ (.slice A' n' c')) p sv l (bs ++ cs) := by
  obtain ⟨h1, h2, h3⟩ := h
  rw [← bvs_append, List.append_assoc] at ho
  obtain rfl : N = (l ++ (bs ++ cs)).length := by have := ho.1; rw [bvs_length, Nat.mul_one] at this; exact this.symm
  have hp := (one_cells h1).2.2
  have hne : Value.ownBlock (.slice A' n' c') ≠ some p := m2.not (by have := fx.size; omega) h3
  have g : Fr (fun k => Value.ownBlock (.slice A n c) = some k) wr w2 := (fx.mono (fun _ _ h => h.elim)).trans f2 (fun _ _ h => h)
  have hb : w2.heap[p]? = some (.cells #[.slice A n c] 130 (0, 0)) := g.heap h1 h3
  refine ⟨A', n', c', ⟨?_, own_set ho _ _ (by simpa using hne), hne⟩, ?_, ?_⟩
  · rw [hp_same hb]; simp
  · exact (f.trans g (fun k hk h => Own.sub m k hk (.inr h))).setCell _ _ (fun _ => .inl rfl)
  · exact (m.trans (m2.first fx.size) f.size g.size).later (by simp [World.setCell])

/-- The bytes of a number of so many bytes, the highest first. -/
def fx (v : Nat) : Nat → List UInt8
  | 0 => []
  | k + 1 => UInt8.ofNat (v / 2 ^ (8 * k)) :: fx v k

theorem byte_ofNat (x : Nat) : ([Value.int .u8 ((x : Int) % 256)] : List Value) = bvs [UInt8.ofNat x] := by simp [bvs, Bv]

theorem byte_shr (v e : Nat) : ([Value.int .u8 ((v : Int) / 2 ^ e % 256)] : List Value) = bvs [UInt8.ofNat (v / 2 ^ e)] := by
  rw [← byte_ofNat]; simp

theorem fx_length (v n : Nat) : (fx v n).length = n := by induction n with | zero => rfl | succ n ih => simp [fx, ih]

set_option maxRecDepth 100000 in
set_option maxHeartbeats 400000 in
theorem fixed_any (p : Nat) (w : World) (sv : Value) (l : List UInt8) (v n : Nat) (hn : n ≤ 8) (hw : Wr w p sv l) (hl : l.length ≤ 140737488351232) :
    Calls Tryz.prog 115 #[.pointer (some ⟨p, 0, none⟩), .int .u64 v, .int .i64 n] w fun e w' => e = .returned (.tuple #[]) ∧ Wrote w w' p sv l (fx v n) := by
  go_enter Tryz.func115, Tryz.ntmps115
  go_wp2
  go_loopw [2] (fun i wr => ∃ (k : Nat) (d : List UInt8), k ≤ n ∧ i = .int .i64 ((k : Int) - 1) ∧ d ++ fx v k = fx v n ∧ Wrote w wr p sv l d) (fun i _ => (intOf i + 1).toNat)
  case atStart => exact ⟨n, [], Nat.le_refl _, rfl, rfl, hw.wrote⟩
  case round =>
    obtain ⟨k, d, hk, rfl, hd, A, m, c, hwr, hfr, hmv⟩ := hrel
    have hdl : d.length ≤ n := by have := congrArg List.length hd; simp [fx_length] at this; omega
    obtain ⟨hc0, hfz, hps⟩ := one_cells hwr.1
    have HW := Lib.hid hwr; have HD := Lib.hid hd; clear hwr hd
    by_cases hk0 : 0 < k
    · have h1 : (0 : Int) ≤ (k : Int) - 1 := by omega
      go_wp2
      refine wp_region_ord (List.range 15) (fun i => [Kd.p, Kd.p, Kd.p, Kd.p, Kd.l, Kd.p, Kd.p, Kd.p, Kd.p, Kd.p, Kd.g, Kd.e, Kd.e, Kd.e, Kd.e].getD i .e) (by kernel_rfl) (by kernel_rfl) ?_
      iterate 11
        first | refine wpX_pu rfl rfl rfl (by first | exact pu_move rfl | exact pu_assign rfl | exact pu_nilCheck rfl rfl | exact pu_binInt rfl rfl rfl | exact pu_conv rfl rfl (by kernel_rfl) | exact pu_fld rfl (by kernel_rfl) | exact pu_ix rfl rfl rfl (by kernel_rfl) | exact pu_unOp rfl | exact pu_binStr rfl rfl rfl | exact pu_len rfl rfl | exact pu_lens rfl rfl | exact pu_pick rfl | exact pu_slice rfl rfl) (fun K hK => ?_) | refine wpX_rd rfl rfl rfl (rd_load rfl) (fun K hK => ?_) | refine wpX_gr rfl rfl rfl (by first | exact gr_buildSlice rfl | exact gr_box rfl | exact gr_alloc rfl) (fun K hK => ?_) | refine wpX_ex rfl rfl rfl (fun K hK => ?_)
        go_wp2
      refine wpX_ex rfl rfl rfl (fun K hK => ?_)
      refine wp_apx (.tmp 16) (.tmp 22) 23 rfl tbB HW.out.2.1 ?fr ((Sl.built wr _ _).kept0 ((Fr.refl no _).drew)) rfl rfl (by simp [Value.oneCell']) ?b1 ?b2 ?go
      case fr => (repeat first | exact Fr.refl _ _ | apply Fr.drew | apply Fr.alloc)
      case b1 => simp [maxLen]; omega
      case b2 => simp; omega
      case go =>
        intro A' N c' w2 ho hf2 hm2
        have hg : Fr (fun k => Value.ownBlock (.slice A m c) = some k) wr w2 := Fr.trans (S := fun k => Value.ownBlock (.slice A m c) = some k) (by (repeat first | exact Fr.refl _ _ | apply Fr.drew | apply Fr.alloc)) hf2 (fun _ _ h => h)
        have hc1 := hg.cell hc0 HW.out.2.2
        have hf1 := (hg.frozen (a := ⟨p, 0, none⟩) hps HW.out.2.2).trans (hfz 0)
        have HO := Lib.hid ho; have HG := Lib.hid hf2; have HM := Lib.hid hm2; clear ho hf2 hm2 hg
        go_simp
        refine hK _ _ ?_
        clear hK K
        iterate 3
          refine wpX_ex rfl rfl rfl (fun K hK => ?_)
          go_simp
          refine hK _ _ ?_
          clear hK K
        refine wpX_done ?_
        go_wp2
        go_roundw
        case rel =>
          refine ⟨k - 1, d ++ [UInt8.ofNat (v / 2 ^ (8 * (k - 1)))], by omega, by congr 1; omega, ?_, ?_⟩
          · have h := HD.out
            obtain ⟨j, rfl⟩ : ∃ j, k = j + 1 := ⟨k - 1, by omega⟩
            rw [← h]; simp [fx]
          · have ho := HO.out
            rw [byte_shr] at ho
            exact Wrote.more HW.out hfr hmv (by (repeat first | exact Fr.refl _ _ | apply Fr.drew | apply Fr.alloc)) ho HG.out HM.out
        case measure => simp [intOf]; omega
    · have hz : k = 0 := by omega
      subst hz
      go_wp2
      go_end0
      have h := HD.out
      simp [fx] at h
      subst h
      exact ⟨rfl, A, m, c, HW.out, hfr, hmv⟩
end Go.Proofs.YtijcleiekafoiaaGreatDoor

/- Plain laws on bits, as the code of codes uses them. No condition but the ranges. -/
namespace Go
open Go.RowKit

theorem or128_fin : ∀ y : Fin 256, bits .or .u8 ((y.val : Int)) 128 = ((y.val % 128 + 128 : Nat) : Int) := by decide +kernel

theorem or128 (x : Nat) : bits .or .u8 ((x : Int) % 256) 128 = ((x % 128 + 128 : Nat) : Int) := by
  have h := or128_fin ⟨x % 256, by omega⟩
  simp only at h
  have e : ((x % 256 : Nat) : Int) = (x : Int) % 256 := by omega
  rw [e] at h
  rw [h]
  omega

theorem xor_ones (a : Nat) (h : a < 18446744073709551616) : a ^^^ 18446744073709551615 = 18446744073709551615 - a := by
  have e : (BitVec.ofNat 64 a ^^^ BitVec.allOnes 64).toNat = (~~~ BitVec.ofNat 64 a).toNat := by rw [BitVec.xor_allOnes]
  rw [BitVec.toNat_not] at e
  simp only [BitVec.toNat_xor, BitVec.toNat_ofNat, BitVec.toNat_allOnes] at e
  have h1 : a % 2 ^ 64 = a := Nat.mod_eq_of_lt h
  rw [h1] at e
  exact e

theorem wrap_u64_neg (v : Int) (h : -9223372036854775808 ≤ v) (h2 : v < 0) : IntKind.u64.wrap v = v + 18446744073709551616 := by
  simp only [IntKind.wrap, IntKind.bits, IntKind.signed, Bool.false_and, Bool.false_eq_true, if_false]
  omega

theorem wrap_u64_id (v : Int) (h : 0 ≤ v) (h2 : v < 18446744073709551616) : IntKind.u64.wrap v = v := by
  simp only [IntKind.wrap, IntKind.bits, IntKind.signed, Bool.false_and, Bool.false_eq_true, if_false]
  omega

theorem wrap_u64_mod (v : Int) : IntKind.u64.wrap v = v % 18446744073709551616 := by
  simp only [IntKind.wrap, IntKind.bits, IntKind.signed, Bool.false_and, Bool.false_eq_true, if_false]
  omega

theorem zigzag (v : Int) (h : -9223372036854775808 ≤ v) (h2 : v ≤ 9223372036854775807) :
    bits .xor .u64 (IntKind.u64.wrap (IntKind.u64.wrap v * 2)) (IntKind.u64.wrap (v / 9223372036854775808)) = if 0 ≤ v then 2 * v else -2 * v - 1 := by
  by_cases hv : 0 ≤ v
  · have e1 : v / 9223372036854775808 = 0 := by omega
    rw [if_pos hv, e1, wrap_u64_id v hv (by omega), wrap_u64_id (v * 2) (by omega) (by omega), wrap_u64_id 0 (by omega) (by omega)]
    have := u64_xor (v * 2) 0 (by omega) (by omega) (by omega) (by omega)
    rw [this]
    simp only [Int.toNat_zero, Nat.xor_zero]
    omega
  · have e1 : v / 9223372036854775808 = -1 := by omega
    rw [if_neg hv, e1, wrap_u64_neg v h (by omega), wrap_u64_neg (-1) (by omega) (by omega), wrap_u64_mod ((v + 18446744073709551616) * 2)]
    have e2 : ((v + 18446744073709551616) * 2) % 18446744073709551616 = 2 * v + 18446744073709551616 := by omega
    rw [e2]
    have := u64_xor (2 * v + 18446744073709551616) 18446744073709551615 (by omega) (by omega) (by omega) (by omega)
    have e3 : (-1 + 18446744073709551616 : Int) = 18446744073709551615 := by omega
    rw [e3, this]
    have e4 : (18446744073709551615 : Int).toNat = 18446744073709551615 := rfl
    rw [e4, xor_ones _ (by omega)]
    omega

theorem and127_fin : ∀ y : Fin 256, bits .and .u8 ((y.val : Int)) 127 = ((y.val % 128 : Nat) : Int) := by decide +kernel

theorem and127 (y : Nat) (h : y < 256) : bits .and .u8 (y : Int) 127 = ((y % 128 : Nat) : Int) := and127_fin ⟨y, h⟩

theorem or_add (a x k : Nat) (ha : a < 2 ^ k) (hx : x * 2 ^ k < 18446744073709551616) (hk : 2 ^ k < 18446744073709551616) : bits .or .u64 (a : Int) ((x * 2 ^ k : Nat) : Int) = ((a + x * 2 ^ k : Nat) : Int) := by
  rw [bits_or_u64_nat a (x * 2 ^ k) (by omega) hx]
  congr 1
  have h := Nat.shiftLeft_add_eq_or_of_lt ha x
  rw [Nat.shiftLeft_eq] at h
  rw [Nat.or_comm, ← h, Nat.add_comm]

/-- One byte more of a number: as the program reckons it. -/
theorem seven (a y k : Nat) (hk : k ≤ 9) (ha : a < 2 ^ (7 * k)) (hy : y < 256) (h9 : k = 9 → y = 1) :
    bits .or .u64 (a : Int) (IntKind.u64.wrap (IntKind.u64.wrap (bits .and .u8 (y : Int) 127) * 2 ^ (7 * k))) = ((a + y % 128 * 2 ^ (7 * k) : Nat) : Int) ∧ y % 128 * 2 ^ (7 * k) < 18446744073709551616 := by
  have hp : 2 ^ (7 * k) ≤ 2 ^ 63 := Nat.pow_le_pow_right (by omega) (by omega)
  have hlt : y % 128 * 2 ^ (7 * k) < 18446744073709551616 := by
    by_cases e : k = 9
    · subst e; rw [h9 rfl]; decide
    · have hp2 : 2 ^ (7 * k) ≤ 2 ^ 56 := Nat.pow_le_pow_right (by omega) (by omega)
      have h1 : y % 128 * 2 ^ (7 * k) ≤ 127 * 2 ^ 56 := Nat.mul_le_mul (by omega) hp2
      omega
  refine ⟨?_, hlt⟩
  rw [and127 y hy, wrap_u64_id ((y % 128 : Nat) : Int) (by omega) (by omega)]
  have e : (((y % 128 : Nat) : Int) * 2 ^ (7 * k)) = ((y % 128 * 2 ^ (7 * k) : Nat) : Int) := by push_cast; rfl
  rw [e, wrap_u64_id _ (by omega) (by omega)]
  exact or_add a (y % 128) (7 * k) ha hlt (by omega)

/-- One byte more, the higher ones first. -/
theorem eight (v y : Nat) (hv : v < 72057594037927936) (hy : y < 256) : bits .or .u64 (IntKind.u64.wrap ((v : Int) * 256)) (y : Int) = ((v * 256 + y : Nat) : Int) := by
  rw [wrap_u64_id ((v : Int) * 256) (by omega) (by omega)]
  have e : ((v : Int) * 256) = ((v * 256 : Nat) : Int) := by omega
  rw [e, bits_or_u64_nat (v * 256) y (by omega) (by omega)]
  congr 1
  have h := Nat.shiftLeft_add_eq_or_of_lt (show y < 2 ^ 8 by omega) v
  rw [Nat.shiftLeft_eq] at h
  exact h.symm

theorem eight' (v y : Nat) (hv : v < 72057594037927936) (hy : y < 256) : bits .or .u64 ((v : Int) * 256) (y : Int) = ((v * 256 + y : Nat) : Int) := by
  have h := eight v y hv hy
  rwa [wrap_u64_id ((v : Int) * 256) (by omega) (by omega)] at h

theorem bits_xor_comm (k : IntKind) (a b : Int) : bits .xor k a b = bits .xor k b a := by
  simp only [bits, BitVec.xor_comm]

theorem and_one (x : Nat) (h : x < 18446744073709551616) : bits .and .u64 (x : Int) 1 = ((x % 2 : Nat) : Int) := by
  have := bits_and_u64_nat x 1 h (by omega)
  rw [show ((1 : Nat) : Int) = 1 from rfl] at this
  rw [this, Nat.and_one_is_mod]

theorem i64_xor_zero (a : Nat) (h : a < 9223372036854775808) : bits .xor .i64 (a : Int) 0 = (a : Int) := by
  show IntKind.i64.wrap (((BitVec.ofInt 64 (a : Int) ^^^ BitVec.ofInt 64 0 : BitVec 64).toNat : Nat) : Int) = (a : Int)
  have e3 : BitVec.ofInt 64 0 = 0#64 := rfl
  have e4 : BitVec.ofInt 64 (a : Int) = BitVec.ofNat 64 a := by rw [BitVec.ofInt_natCast]
  rw [e3, BitVec.xor_zero, e4, BitVec.toNat_ofNat]
  rw [IntKind.wrap_i64]
  omega

theorem unzig (x : Nat) (h : x < 18446744073709551616) :
    bits .xor .i64 (wrap64 ((x : Int) / 2)) (wrap64 (-wrap64 (bits .and .u64 (x : Int) 1))) = if x % 2 = 0 then ((x / 2 : Nat) : Int) else -((x / 2 : Nat) : Int) - 1 := by
  rw [and_one x h]
  have e1 : wrap64 ((x : Int) / 2) = ((x / 2 : Nat) : Int) := by unfold wrap64; omega
  rw [e1]
  by_cases h2 : x % 2 = 0
  · rw [if_pos h2, h2]
    have e2 : wrap64 (-wrap64 ((0 : Nat) : Int)) = 0 := by unfold wrap64; omega
    rw [e2]
    exact i64_xor_zero (x / 2) (by omega)
  · rw [if_neg h2]
    have e0 : x % 2 = 1 := by omega
    have e2 : wrap64 (-wrap64 ((x % 2 : Nat) : Int)) = -1 := by rw [e0]; unfold wrap64; omega
    rw [e2, bits_xor_comm, i64_not (x / 2) (by omega)]
    omega
end Go

/- The writer's other calls. -/
namespace Go.Proofs.YtijcleiekafoiaaGreatDoor
open Go.RowKit

set_option maxRecDepth 100000 in
set_option maxHeartbeats 400000 in
theorem u8_any (p : Nat) (w : World) (sv : Value) (l : List UInt8) (v : Int) (hv : 0 ≤ v) (hv2 : v < 256) (hw : Wr w p sv l) (hl : l.length ≤ 140737488351232) :
    Calls Tryz.prog 72 #[.pointer (some ⟨p, 0, none⟩), .int .u8 v] w fun e w' => e = .returned (.tuple #[]) ∧ Wrote w w' p sv l (fx v.toNat 1) := by
  obtain ⟨n, rfl⟩ := Int.eq_ofNat_of_zero_le hv
  go_enter Tryz.func72, Tryz.ntmps72
  go_wp2_with (go_at_call 115; refine (fixed_any p _ sv l n 1 (by omega) hw hl).mono ?_; rintro e w' ⟨rfl, hq⟩)
  go_end0
  exact ⟨rfl, hq⟩

set_option maxHeartbeats 400000 in
theorem new_any (w : World) :
    Calls Tryz.prog 27 #[] w fun e w' => ∃ p, e = .returned (.pointer (some ⟨p, 0, none⟩)) ∧ w.heap.size ≤ p ∧ p < w'.heap.size ∧ Wr w' p (.slice none 0 0) [] ∧ Fr no w w' := by
  go_enter Tryz.func27, Tryz.ntmps27
  go_wp2
  go_ret
  refine ⟨_, rfl, Nat.le_refl _, by simp, ⟨heap_alloc_new _ _, ⟨rfl, .inl ⟨rfl, rfl⟩⟩, by simp [Value.ownBlock]⟩, by (repeat first | exact Fr.refl _ _ | apply Fr.drew | apply Fr.alloc)⟩

set_option maxHeartbeats 400000 in
theorem len_any (p : Nat) (w : World) (sv : Value) (l : List UInt8) (hw : Wr w p sv l) :
    Calls Tryz.prog 29 #[.pointer (some ⟨p, 0, none⟩)] w fun e w' => e = .returned (.int .i64 (l.length : Int)) ∧ w' = w := by
  obtain ⟨A, c, rfl⟩ := own_form hw.2.1
  obtain ⟨hc0, hfz, hps⟩ := one_cells hw.1
  go_enter Tryz.func29, Tryz.ntmps29
  go_wp2
  go_ret
  exact ⟨rfl, rfl⟩

/-- The bytes of a number, seven bits each. -/
def vi (v : Nat) : List UInt8 := if h : v < 128 then [UInt8.ofNat v] else UInt8.ofNat (v % 128 + 128) :: vi (v / 128)
termination_by v
decreasing_by omega

/-- Behind a name, for the walk's sake. -/
structure lt64 (v : Int) : Prop where
  out : v < 18446744073709551616

theorem vi_pos (v : Nat) : 0 < (vi v).length := by rw [vi]; split <;> simp

theorem vi_lt : ∀ (j v : Nat), v < 128 ^ (j + 1) → (vi v).length ≤ j + 1
  | 0, v, h => by rw [vi, dif_pos (by omega)]; simp
  | j + 1, v, h => by
    rw [vi]
    split
    · simp
    · have := vi_lt j (v / 128) (by rw [Nat.pow_succ] at h; omega)
      simp; omega

theorem vi_length (v : Nat) (h : v < 18446744073709551616) : (vi v).length ≤ 10 := vi_lt 9 v (by omega)

theorem byte_nat (x : Nat) (h : x < 256) : ([Value.int .u8 ((x : Nat) : Int)] : List Value) = bvs [UInt8.ofNat x] := by
  simp only [bvs, Bv, List.map_cons, List.map_nil, UInt8.toNat_ofNat']
  rw [Nat.mod_eq_of_lt h]

set_option maxRecDepth 100000 in
set_option maxHeartbeats 400000 in
theorem varint_any (p : Nat) (w : World) (sv : Value) (l : List UInt8) (v : Int) (hv : 0 ≤ v) (hv2 : lt64 v) (hw : Wr w p sv l) (hl : l.length ≤ 140737488351232) :
    Calls Tryz.prog 116 #[.pointer (some ⟨p, 0, none⟩), .int .u64 v] w fun e w' => e = .returned (.tuple #[]) ∧ Wrote w w' p sv l (vi v.toNat) := by
  obtain ⟨n, rfl⟩ := Int.eq_ofNat_of_zero_le hv
  have hvl := vi_length n (by have := hv2.out; omega)
  clear hv2
  go_enter Tryz.func116, Tryz.ntmps116
  go_wp2
  go_loopw [1] (fun i wr => ∃ (k : Nat) (d : List UInt8), i = .int .u64 (k : Int) ∧ d ++ vi k = vi n ∧ Wrote w wr p sv l d) (fun i _ => (intOf i).toNat)
  case atStart => exact ⟨n, [], rfl, rfl, hw.wrote⟩
  case round =>
    obtain ⟨k, d, rfl, hd, A, m, c, hwr, hfr, hmv⟩ := hrel
    obtain ⟨hc0, hfz, hps⟩ := one_cells hwr.1
    have hdl : d.length ≤ 10 := by have h := congrArg List.length hd; simp at h; omega
    have HL := Lib.hid (show (l ++ d).length ≤ 140737488351242 by simp; omega)
    have HW := Lib.hid hwr; have HD := Lib.hid hd; clear hwr hd hdl
    by_cases hk0 : 128 ≤ k
    · go_wp2_with (at_builtin; refine wpList_ap rfl (.tmp 12) (.tmp 16) 23 rfl tbB HW.out.2.1 ?fr ((Sl.built wr _ _).kept0 ((Fr.refl no _))) rfl rfl (by simp [Value.oneCell']) ?b1 ?b2 ?go)
      case go =>
        intro A' N c' w2 ho hf2 hm2
        have hg : Fr (fun k => Value.ownBlock (.slice A (m) c) = some k) wr w2 := Fr.trans (S := fun k => Value.ownBlock (.slice A (m) c) = some k) (by (repeat first | exact Fr.refl _ _ | apply Fr.drew | apply Fr.alloc)) hf2 (fun _ _ h => h)
        have hc1 := hg.cell hc0 HW.out.2.2
        have hf1 := (hg.frozen (a := ⟨p, 0, none⟩) hps HW.out.2.2).trans (hfz 0)
        have HO := Lib.hid ho; have HG := Lib.hid hf2; have HM := Lib.hid hm2; clear ho hf2 hm2 hg
        go_wp2
        go_roundw
        case rel =>
          refine ⟨k / 128, d ++ [UInt8.ofNat (k % 128 + 128)], by go_num, ?_, ?_⟩
          · rw [← HD.out, List.append_assoc]
            conv => rhs; rw [vi]
            rw [dif_neg (by omega)]; rfl
          · have ho := HO.out
            rw [or128, byte_nat _ (by omega)] at ho
            exact Wrote.more HW.out hfr hmv (by (repeat first | exact Fr.refl _ _ | apply Fr.drew | apply Fr.alloc)) ho HG.out HM.out
        case measure => simp [intOf]; omega
      case fr => (repeat first | exact Fr.refl _ _ | apply Fr.drew | apply Fr.alloc)
      case b1 => have := HL.out; simp only [maxLen]; omega
      case b2 => have := HL.out; omega
    · go_wp2_with (at_builtin; refine wpList_ap rfl (.tmp 24) (.tmp 27) 23 rfl tbB HW.out.2.1 ?fr ((Sl.built wr _ _).kept0 ((Fr.refl no _))) rfl rfl (by simp [Value.oneCell']) ?b1 ?b2 ?go)
      case go =>
        intro A' N c' w2 ho hf2 hm2
        have hg : Fr (fun k => Value.ownBlock (.slice A (m) c) = some k) wr w2 := Fr.trans (S := fun k => Value.ownBlock (.slice A (m) c) = some k) (by (repeat first | exact Fr.refl _ _ | apply Fr.drew | apply Fr.alloc)) hf2 (fun _ _ h => h)
        have hc1 := hg.cell hc0 HW.out.2.2
        have hf1 := (hg.frozen (a := ⟨p, 0, none⟩) hps HW.out.2.2).trans (hfz 0)
        have HO := Lib.hid ho; have HG := Lib.hid hf2; have HM := Lib.hid hm2; clear ho hf2 hm2 hg
        go_wp2
        go_end0
        refine ⟨rfl, ?_⟩
        have ho := HO.out
        have e : vi n = d ++ [UInt8.ofNat k] := by rw [← HD.out, vi, dif_pos (by omega)]
        rw [Int.toNat_natCast, e]
        rw [byte_nat k (by omega)] at ho
        exact Wrote.more HW.out hfr hmv (by (repeat first | exact Fr.refl _ _ | apply Fr.drew | apply Fr.alloc)) ho HG.out HM.out
      case fr => (repeat first | exact Fr.refl _ _ | apply Fr.drew | apply Fr.alloc)
      case b1 => have := HL.out; simp only [maxLen]; omega
      case b2 => have := HL.out; omega

/-- A number of either sign as one without. -/
def zz (v : Int) : Nat := (if 0 ≤ v then 2 * v else -2 * v - 1).toNat

set_option maxRecDepth 100000 in
set_option maxHeartbeats 400000 in
theorem signed_any (p : Nat) (w : World) (sv : Value) (l : List UInt8) (v : Int) (hv : -9223372036854775808 ≤ v) (hv2 : v ≤ 9223372036854775807) (hw : Wr w p sv l) (hl : l.length ≤ 140737488351232) :
    Calls Tryz.prog 73 #[.pointer (some ⟨p, 0, none⟩), .int .i64 v] w fun e w' => e = .returned (.tuple #[]) ∧ Wrote w w' p sv l (vi (zz v)) := by
  go_enter Tryz.func73, Tryz.ntmps73
  go_wp2_with fail
  rw [zigzag v hv hv2]
  obtain ⟨z, hz, h0, h1⟩ : ∃ z : Int, z = (if 0 ≤ v then 2 * v else -2 * v - 1) ∧ 0 ≤ z ∧ lt64 z := ⟨_, rfl, by split <;> omega, ⟨by split <;> omega⟩⟩
  rw [← hz]
  have hz2 : zz v = z.toNat := by rw [hz]; rfl
  refine (varint_any p _ sv l _ h0 h1 hw hl).mono ?_
  rintro e w' ⟨rfl, hq⟩
  rw [← hz2] at hq
  clear hz hz2 h1 hv hv2
  go_wp2
  go_end0
  exact ⟨rfl, hq⟩

set_option maxRecDepth 100000 in
set_option maxHeartbeats 400000 in
theorem wtext_any (p : Nat) (w : World) (sv : Value) (l : List UInt8) (s : ByteArray) (hw : Wr w p sv l) (hl : l.length + s.size ≤ 2000000000) :
    Calls Tryz.prog 74 #[.pointer (some ⟨p, 0, none⟩), .string s] w fun e w' => e = .returned (.tuple #[]) ∧ Wrote w w' p sv l (vi s.size ++ s.data.toList) := by
  go_enter Tryz.func74, Tryz.ntmps74
  go_wp2_with fail
  refine (varint_any p _ sv l _ (by omega) ⟨by omega⟩ hw (by omega)).mono ?_
  rintro e w1 ⟨rfl, A, m, c, hwr, hfr, hmv⟩
  have hvl := vi_length s.size (by omega)
  rw [Int.toNat_natCast] at hwr
  have HL := Lib.hid (show (l ++ vi s.size).length + s.size ≤ 2000000010 by simp; omega)
  obtain ⟨hc0, hfz, hps⟩ := one_cells hwr.1
  have HW := Lib.hid hwr; clear hwr hvl
  go_wp2_with (at_builtin; refine wpList_aps rfl (.tmp 13) (.tmp 14) 23 9 rfl tbB (by kernel_rfl) HW.out.2.1 ?fr s rfl rfl ?b1 ?b2 ?go)
  case go =>
    intro A' N c' w2 ho hf2 hm2
    have hg : Fr (fun k => Value.ownBlock (.slice A (m) c) = some k) w1 w2 := Fr.trans (S := fun k => Value.ownBlock (.slice A (m) c) = some k) (by (repeat first | exact Fr.refl _ _ | apply Fr.drew | apply Fr.alloc)) hf2 (fun _ _ h => h)
    have hc1 := hg.cell hc0 HW.out.2.2
    have hf1 := (hg.frozen (a := ⟨p, 0, none⟩) hps HW.out.2.2).trans (hfz 0)
    have HO := Lib.hid ho; have HG := Lib.hid hf2; have HM := Lib.hid hm2; clear ho hf2 hm2 hg
    go_wp2
    go_end0
    exact ⟨rfl, Wrote.more HW.out hfr hmv (Fr.refl _ _) HO.out HG.out HM.out⟩
  case fr => (repeat first | exact Fr.refl _ _ | apply Fr.drew | apply Fr.alloc)
  case b1 => have := HL.out; simp only [maxLen]; omega
  case b2 => have := HL.out; omega
end Go.Proofs.YtijcleiekafoiaaGreatDoor
