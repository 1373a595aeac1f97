import Derived.Test.YtgcicljklejmjaaDoorMb01
import Derived.Deep.Draws
import Derived.Lib.AppendStr
import Derived.Lib.ConvBytes
import Derived.Test.YtgcicljklejmjaaDoorProg
import Derived.KernelRfl
import Derived.Lib.Hide

/- Words on memory for walks: what a call may turn ('Fr'), a slice that reads as a list ('Sl'), append in one law. General; the conditions stand in each law. -/
namespace Go
open Go.RowKit

/-- Blocks of S alone may have turned, and there may be new ones. -/
structure Fr (S : Nat → Prop) (w w' : World) : Prop where
  os : w'.os = w.os
  tape : w'.tape = w.tape
  output : w'.output = w.output
  size : w.heap.size ≤ w'.heap.size
  block : ∀ k, k < w.heap.size → ¬ S k → w'.heap[k]? = w.heap[k]?

def no : Nat → Prop := fun _ => False

namespace Fr
variable {S S' : Nat → Prop} {w w1 w2 : World}
theorem refl (S : Nat → Prop) (w : World) : Fr S w w := ⟨rfl, rfl, rfl, Nat.le_refl _, fun _ _ _ => rfl⟩
theorem trans (h : Fr S w w1) (h' : Fr S' w1 w2) (hs : ∀ k, k < w.heap.size → S' k → S k) : Fr S w w2 :=
  ⟨h'.os.trans h.os, h'.tape.trans h.tape, h'.output.trans h.output, Nat.le_trans h.size h'.size, fun k hk hn =>
    (h'.block k (Nat.lt_of_lt_of_le hk h.size) (fun h1 => hn (hs k hk h1))).trans (h.block k hk hn)⟩
theorem mono (h : Fr S w w1) (hs : ∀ k, k < w.heap.size → S k → S' k) : Fr S' w w1 :=
  ⟨h.os, h.tape, h.output, h.size, fun k hk hn => h.block k hk fun h1 => hn (hs k hk h1)⟩
theorem drew (h : Fr S w w1) : Fr S w w1.drew := ⟨h.os, h.tape, h.output, h.size, h.block⟩
theorem alloc (h : Fr S w w1) (o : Obj) : Fr S w (w1.alloc o) :=
  ⟨h.os, h.tape, h.output, Nat.le_trans h.size (by simp), fun k hk hn => (Below.heap_alloc w1 o k (Nat.lt_of_lt_of_le hk h.size)).trans (h.block k hk hn)⟩
theorem setCell (h : Fr S w w1) (a : Addr) (v : Value) (ha : a.block < w.heap.size → S a.block) : Fr S w (w1.setCell a v) :=
  ⟨h.os, h.tape, h.output, by have := h.size; simp only [World.setCell, Array.size_modify]; exact this, fun k hk hn => by
    rw [Below.heap_setCell w1 a v k (fun e => hn (by subst e; exact ha hk))]; exact h.block k hk hn⟩
theorem grown {row : Option Nat} (h : Fr S w w1) (g : w1.grownBy w2 row) (hr : ∀ k, k < w.heap.size → row = some k → S k) : Fr S w w2 :=
  h.trans (S' := fun k => row = some k) ⟨g.os, g.tape, g.output, g.size, fun k hk hn => g.block k hk (fun e => hn e.symm)⟩ hr
theorem drewN (S : Nat → Prop) (w : World) (n : Nat) : Fr S w (w.drewN n) := ⟨rfl, rfl, rfl, Nat.le_refl _, fun _ _ _ => rfl⟩
theorem moreN (h : Fr S w w1) (n : Nat) : Fr S w (w1.drewN n) := ⟨h.os, h.tape, h.output, h.size, h.block⟩
theorem of_grown {row : Option Nat} (g : w.grownBy w1 row) : Fr (fun k => row = some k) w w1 := ⟨g.os, g.tape, g.output, g.size, fun k hk hn => g.block k hk (fun e => hn e.symm)⟩
theorem below (h : Fr S w w1) (hs : ∀ k, k < w.heap.size → ¬ S k) : Below w.heap.size w w1 := ⟨h.os, h.tape, h.output, h.size, fun k hk => h.block k hk (hs k hk)⟩
theorem of_below (h : Below w.heap.size w w1) (S : Nat → Prop) : Fr S w w1 := ⟨h.os, h.tape, h.output, h.size, fun k hk _ => h.block k hk⟩
theorem cell (h : Fr S w w1) {a : Addr} {v : Value} (hc : w.cell? a = some v) (hn : ¬ S a.block) : w1.cell? a = some v :=
  (World.cell?_of_block (w := w) (h.block a.block (World.block_lt_of_cell? w a hc) hn)).trans hc
theorem frozen (h : Fr S w w1) {a : Addr} (hb : a.block < w.heap.size) (hn : ¬ S a.block) : w1.frozen? a = w.frozen? a := World.frozen?_of_block (w := w) (h.block a.block hb hn)
theorem heap (h : Fr S w w1) {b : Nat} {o : Obj} (hb : w.heap[b]? = some o) (hn : ¬ S b) : w1.heap[b]? = some o :=
  (h.block b (Array.getElem?_eq_some_iff.1 hb).1 hn).trans hb
theorem ext (h : Fr no w w1) : ∃ e, w1 = w.ext e := by
  refine ⟨(w1.heap.extract w.heap.size w1.heap.size, w1.drawn), ?_⟩
  have hh : w1.heap = w.heap ++ w1.heap.extract w.heap.size w1.heap.size := by
    apply Array.ext_getElem?
    intro i
    have hs := h.size
    by_cases hi : i < w.heap.size
    · rw [h.block i hi (fun h => h), Array.getElem?_append, if_pos hi]
    · rw [Array.getElem?_append, if_neg hi, Array.getElem?_extract]
      by_cases hj : i < w1.heap.size
      · rw [if_pos (by omega)]; congr 1; omega
      · rw [if_neg (by omega), Array.getElem?_eq_none (by omega)]
  cases w1
  simp only [World.ext] at *
  obtain ⟨h1, h2, h3, _, _⟩ := h
  simp only at h1 h2 h3 hh
  subst h1; subst h2; subst h3
  rw [← hh]
end Fr

theorem Fr.of_ext (w : World) (e : Array Obj × Nat) : Fr no w (w.ext e) :=
  ⟨rfl, rfl, rfl, by simp [World.ext], fun k hk _ => World.ext_heap w e k hk⟩

/-- A byte as a value. -/
def Bv (c : UInt8) : Value := .int .u8 c.toNat
def bvs (l : List UInt8) : List Value := l.map Bv
theorem bvs_length (l : List UInt8) : (bvs l).length = l.length := List.length_map _
theorem bvs_append (l m : List UInt8) : bvs (l ++ m) = bvs l ++ bvs m := List.map_append
theorem bvs_one (l : List UInt8) : ∀ u ∈ bvs l, u.oneCell' = true := by
  intro u hu
  obtain ⟨_, _, rfl⟩ := List.mem_map.1 hu
  rfl
theorem bvs_cut (l : List UInt8) (a m : Nat) : ((bvs l).drop a).take m = bvs ((l.drop a).take m) := by simp [bvs, List.map_take, List.map_drop]
theorem bvs_drop (l : List UInt8) (a : Nat) : (bvs l).drop a = bvs (l.drop a) := by simp [bvs, List.map_drop]
theorem bvs_take (l : List UInt8) (a : Nat) : (bvs l).take a = bvs (l.take a) := by simp [bvs, List.map_take]
theorem bvs_get (l : List UInt8) (j : Nat) (h : j < l.length) : (bvs l)[j]? = some (.int .u8 l[j].toNat) := by simp [bvs, h, Bv]

/-- A slice of n elements of sz cells each, whose cells are xs. -/
def Sl (w : World) (sz : Nat) (v : Value) (n : Nat) (xs : List Value) : Prop :=
  xs.length = n * sz ∧ ((∃ A, v = .slice A 0 0 ∧ n = 0) ∨
    ∃ b o cap, v = .slice (some ⟨b, o, none⟩) n cap ∧ n ≤ cap ∧ cap ≤ maxLen ∧ ∀ j u, xs[j]? = some u → w.cell? ⟨b, o + j, none⟩ = some u)

namespace Sl
variable {w w1 : World} {sz n : Nat} {v : Value} {xs : List Value} {S : Nat → Prop}
theorem of_own {base : Nat} {e : TypeId} (h : w.ownsRow base e sz v n xs) : Sl w sz v n xs := by
  refine ⟨h.1, ?_⟩
  rcases h.2 with ⟨h1, h2⟩ | ⟨g, cap, cur, rfl, hb, hg, h1, h2, h3, h4⟩
  · exact .inl ⟨_, h1, h2⟩
  · refine .inr ⟨g, 0, cap, rfl, h1, h2, fun j u hu => ?_⟩
    have := h.cells (g := g) rfl j u hu
    rwa [Addr.add_lit] at this
theorem nil (w : World) (sz : Nat) : Sl w sz (.slice none 0 0) 0 [] := ⟨by simp, .inl ⟨_, rfl, rfl⟩⟩
theorem kept (h : Sl w sz v n xs) (f : Fr S w w1) (hn : ∀ k, v.ownBlock = some k → ¬ S k) : Sl w1 sz v n xs := by
  refine ⟨h.1, ?_⟩
  rcases h.2 with h | ⟨b, o, cap, rfl, h1, h2, h3⟩
  · exact .inl h
  · exact .inr ⟨b, o, cap, rfl, h1, h2, fun j u hu => f.cell (h3 j u hu) (hn b rfl)⟩
theorem kept0 (h : Sl w sz v n xs) (f : Fr no w w1) : Sl w1 sz v n xs := h.kept f (fun _ _ h => h)
theorem form (h : Sl w sz v n xs) : ∃ A c, v = .slice A n c ∧ n ≤ c ∧ c ≤ maxLen := by
  rcases h.2 with ⟨A, rfl, rfl⟩ | ⟨b, o, cap, rfl, h1, h2, _⟩
  · exact ⟨A, 0, rfl, Nat.le_refl _, Nat.zero_le _⟩
  · exact ⟨_, _, rfl, h1, h2⟩
/-- A cut that ends behind the row's end is empty. -/
theorem cut0 {A : Option Addr} {lo m : Nat} (h : Sl w 1 (.slice A n lo) n xs) (hl : lo + m ≤ n) : Sl w 1 (.slice A (lo + m - lo) 0) m ((xs.drop lo).take m) ∧ (Value.slice A (lo + m - lo) 0).ownBlock = (Value.slice A n lo).ownBlock := by
  obtain ⟨h0, h⟩ := h
  refine ⟨?_, by cases A <;> rfl⟩
  rcases h with ⟨_, h1, rfl⟩ | ⟨b, o, cap, h1, h2, h3, h4⟩
  · cases h1
    obtain rfl : m = 0 := by omega
    exact ⟨by simp, .inl ⟨_, rfl, rfl⟩⟩
  · cases h1
    obtain rfl : m = 0 := by omega
    refine ⟨by simp, .inr ⟨b, o, 0, by simp, Nat.le_refl _, Nat.zero_le _, by simp⟩⟩
theorem cut1 {A : Option Addr} {c lo m : Nat} (h : Sl w 1 (.slice A n c) n xs) (hl : lo + m ≤ n) : Sl w 1 (.slice (A.map (fun x => x.add lo)) (lo + m - lo) (c - lo)) m ((xs.drop lo).take m) ∧ (Value.slice (A.map (fun x => x.add lo)) (lo + m - lo) (c - lo)).ownBlock = (Value.slice A n c).ownBlock := by
  obtain ⟨h0, h⟩ := h
  refine ⟨⟨by simp; omega, ?_⟩, ?_⟩
  · rcases h with ⟨_, h1, rfl⟩ | ⟨b, o, cap, h1, h2, h3, h4⟩
    · cases h1
      obtain rfl : lo = 0 := by omega
      obtain rfl : m = 0 := by omega
      exact .inl ⟨_, rfl, rfl⟩
    · cases h1
      refine .inr ⟨b, o + lo, c - lo, by simp [Addr.add_lit], by omega, by omega, fun j u hu => ?_⟩
      rw [List.getElem?_take] at hu
      split at hu
      · rw [List.getElem?_drop] at hu
        rw [Nat.add_assoc]
        exact h4 _ _ hu
      · cases hu
  · cases A with
    | none => rfl
    | some a => simp only [Option.map_some, Value.ownBlock, Addr.add]; split <;> rfl
theorem tail0 {A : Option Addr} {lo : Nat} (h : Sl w 1 (.slice A n lo) n xs) (hl : lo ≤ n) : Sl w 1 (.slice A (n - lo) 0) (n - lo) (xs.drop lo) ∧ (Value.slice A (n - lo) 0).ownBlock = (Value.slice A n lo).ownBlock := by
  obtain ⟨h1, h2⟩ := cut0 (n := n) (lo := lo) (m := n - lo) h (by omega)
  rw [show lo + (n - lo) - lo = n - lo from by omega, List.take_of_length_le (by have := h.1; simp; omega)] at h1
  rw [show lo + (n - lo) - lo = n - lo from by omega] at h2
  exact ⟨h1, h2⟩
theorem tail1 {A : Option Addr} {c lo : Nat} (h : Sl w 1 (.slice A n c) n xs) (hl : lo ≤ n) : Sl w 1 (.slice (A.map (fun x => x.add lo)) (n - lo) (c - lo)) (n - lo) (xs.drop lo) ∧ (Value.slice (A.map (fun x => x.add lo)) (n - lo) (c - lo)).ownBlock = (Value.slice A n c).ownBlock := by
  obtain ⟨h1, h2⟩ := cut1 (n := n) (lo := lo) (m := n - lo) h (by omega)
  rw [show lo + (n - lo) - lo = n - lo from by omega, List.take_of_length_le (by have := h.1; simp; omega)] at h1
  rw [show lo + (n - lo) - lo = n - lo from by omega] at h2
  exact ⟨h1, h2⟩
theorem clip {A : Option Addr} {c : Nat} (h : Sl w sz (.slice A n c) n xs) : Sl w sz (.slice A n n) n xs := by
  refine ⟨h.1, ?_⟩
  rcases h.2 with ⟨_, h1, h2⟩ | ⟨b, o, cap, h1, h2, h3, h4⟩
  · cases h1; exact .inl ⟨_, rfl, rfl⟩
  · cases h1; exact .inr ⟨b, o, n, rfl, Nat.le_refl _, by omega, h4⟩
theorem head {A : Option Addr} {c : Nat} (h : Sl w 1 (.slice A n c) n xs) (m : Nat) (hm : m ≤ n) : Sl w 1 (.slice A m c) m (xs.take m) := by
  refine ⟨by have := h.1; simp; omega, ?_⟩
  rcases h.2 with ⟨_, h1, h2⟩ | ⟨b, o, cap, h1, h2, h3, h4⟩
  · cases h1; exact .inl ⟨_, by rw [show m = 0 from by omega], by omega⟩
  · cases h1
    refine .inr ⟨b, o, c, rfl, by omega, h3, fun j u hu => ?_⟩
    rw [List.getElem?_take] at hu
    split at hu
    · exact h4 j u hu
    · cases hu
/-- The j-th byte's cell. -/
theorem byte {A : Option Addr} {c : Nat} {l : List UInt8} (h : Sl w 1 (.slice A l.length c) l.length (bvs l)) (k : Nat) (hk : k < l.length) : ∃ b o, A = some ⟨b, o, none⟩ ∧ w.cell? ⟨b, o + k, none⟩ = some (.int .u8 l[k].toNat) := by
  rcases h.2 with ⟨_, h1, h2⟩ | ⟨b, o, cap, h1, _, _, h4⟩
  · omega
  · cases h1
    exact ⟨b, o, rfl, h4 k _ (bvs_get l k hk)⟩
/-- Behind a call that turns only new blocks. -/
theorem below (h : Sl w sz v n xs) (b : Below w.heap.size w w1) : Sl w1 sz v n xs := by
  refine ⟨h.1, ?_⟩
  rcases h.2 with h | ⟨b0, o, cap, rfl, h1, h2, h3⟩
  · exact .inl h
  · exact .inr ⟨b0, o, cap, rfl, h1, h2, fun j u hu => (World.cell?_of_block (w := w) (b.block b0 (World.block_lt_of_cell? w _ (h3 j u hu)))).trans (h3 j u hu)⟩
theorem le (h : Sl w sz v n xs) : n ≤ maxLen := by obtain ⟨_, _, _, h1, h2⟩ := h.form; omega
end Sl

theorem own_form {w : World} {base e sz n : Nat} {v : Value} {xs : List Value} (h : w.ownsRow base e sz v n xs) : ∃ A c, v = .slice A n c := by
  rcases h.2 with ⟨rfl, rfl⟩ | ⟨g, cap, cur, rfl, _⟩
  · exact ⟨_, _, rfl⟩
  · exact ⟨_, _, rfl⟩

theorem own_kept {w w1 : World} {base e sz n : Nat} {v : Value} {xs : List Value} {S : Nat → Prop} (h : w.ownsRow base e sz v n xs) (f : Fr S w w1) (hn : ∀ k, v.ownBlock = some k → ¬ S k) : w1.ownsRow base e sz v n xs := by
  refine ⟨h.1, ?_⟩
  rcases h.2 with h | ⟨g, cap, cur, rfl, hb, hg, rest⟩
  · exact .inl h
  · exact .inr ⟨g, cap, cur, rfl, hb, f.heap hg (hn g rfl), rest⟩

theorem own_kept0 {w w1 : World} {base e sz n : Nat} {v : Value} {xs : List Value} (h : w.ownsRow base e sz v n xs) (f : Fr no w w1) : w1.ownsRow base e sz v n xs := own_kept h f (fun _ _ h => h)

theorem own_lt {w : World} {base e sz n : Nat} {v : Value} {xs : List Value} (h : w.ownsRow base e sz v n xs) : ∀ k, v.ownBlock = some k → k < w.heap.size := fun k hk => (h.lt k hk).2

theorem own_set {w : World} {base e sz n : Nat} {v : Value} {xs : List Value} (h : w.ownsRow base e sz v n xs) (a : Addr) (u : Value) (hn : v.ownBlock ≠ some a.block) : (w.setCell a u).ownsRow base e sz v n xs :=
  own_kept (S := fun k => k = a.block) h ((Fr.refl _ w).setCell a u (fun _ => rfl)) (fun k hk e => hn (by rw [hk, e]))

/-- A row of one's own, at a block's head, of which a slice has a part. -/
def Ow (w : World) (e : TypeId) (sz : Nat) (v : Value) (n : Nat) (xs : List Value) : Prop :=
  xs.length = n * sz ∧ ((v = .slice none 0 0 ∧ n = 0) ∨
    ∃ g cap cur, v = .slice (some ⟨g, 0, none⟩) n cap ∧ w.heap[g]? = some (.cells cur e (0, 0)) ∧ n ≤ cap ∧ cap ≤ maxLen ∧ cap * sz ≤ cur.size ∧ cur.toList.take (n * sz) = xs)

namespace Ow
variable {w w1 : World} {e sz n : Nat} {v : Value} {xs : List Value} {S : Nat → Prop}
theorem of_own {base : Nat} (h : w.ownsRow base e sz v n xs) : Ow w e sz v n xs := by
  refine ⟨h.1, ?_⟩
  rcases h.2 with h | ⟨g, cap, cur, rfl, _, hg, h1, h2, h3, h4⟩
  · exact .inl h
  · exact .inr ⟨g, cap, cur, rfl, hg, h1, h2, Nat.le_of_eq h3.symm, h4⟩
theorem kept (h : Ow w e sz v n xs) (f : Fr S w w1) (hn : ∀ k, v.ownBlock = some k → ¬ S k) : Ow w1 e sz v n xs := by
  refine ⟨h.1, ?_⟩
  rcases h.2 with h | ⟨g, cap, cur, rfl, hg, rest⟩
  · exact .inl h
  · exact .inr ⟨g, cap, cur, rfl, f.heap hg (hn g rfl), rest⟩
theorem kept0 (h : Ow w e sz v n xs) (f : Fr no w w1) : Ow w1 e sz v n xs := h.kept f (fun _ _ h => h)
theorem clip {A : Option Addr} {c : Nat} (h : Ow w e sz (.slice A n c) n xs) : Ow w e sz (.slice A n n) n xs := by
  refine ⟨h.1, ?_⟩
  rcases h.2 with ⟨h1, h2⟩ | ⟨g, cap, cur, h1, hg, h2, h3, h4, h5⟩
  · cases h1; exact .inl ⟨rfl, rfl⟩
  · cases h1; exact .inr ⟨g, n, cur, rfl, hg, Nat.le_refl _, by omega, Nat.le_trans (Nat.mul_le_mul_right _ h2) h4, h5⟩
theorem sl (h : Ow w e sz v n xs) : Sl w sz v n xs := by
  refine ⟨h.1, ?_⟩
  rcases h.2 with ⟨h1, h2⟩ | ⟨g, cap, cur, rfl, hg, h2, h3, h4, h5⟩
  · exact .inl ⟨_, h1, h2⟩
  · refine .inr ⟨g, 0, cap, rfl, h2, h3, fun j u hu => ?_⟩
    rw [← h5, List.getElem?_take] at hu
    split at hu
    · rw [Nat.zero_add, cell_of_row w g j cur e (0, 0) hg]
      simpa using hu
    · cases hu
theorem lt (h : Ow w e sz v n xs) : ∀ k, v.ownBlock = some k → k < w.heap.size := by
  intro k hk
  rcases h.2 with ⟨rfl, _⟩ | ⟨g, cap, cur, rfl, hg, _⟩
  · simp [Value.ownBlock] at hk
  · simp [Value.ownBlock] at hk
    subst hk
    exact (Array.getElem?_eq_some_iff.1 hg).1
end Ow

/-- What the tables say of a slice's type: closed facts. -/
structure Tb (P : Program) (t e : TypeId) (z : Value) (size bytes : Nat) : Prop where
  und : P.underlying t = some (.slice e)
  info : (P.info? e).map (fun i => (i.zero, i.size, i.bytes)) = some (some z, size, bytes)
  zs : z.cells.size = size
  pos : 0 < size

/-- Where an append leaves its row: where it was, or in a new block. -/
def Moved (w w' : World) (v v' : Value) : Prop := v'.ownBlock = v.ownBlock ∨ ∀ k, v'.ownBlock = some k → w.heap.size ≤ k ∧ k < w'.heap.size

section
variable {P : Program} {w : World} {o : Oper} {a : Act} {K : Act → World → Prop} {Q : Exit → Act → World → Prop}

/-- append of what a slice holds, onto a row of one's own. -/
theorem run_ap {t e : TypeId} {z : Value} {size bytes : Nat} (tb : Tb P t e z size bytes) (ty : TypeId) {v : Value} {n : Nat} {xs : List Value} (hown : w.ownsRow 0 e size v n xs)
    {x : Value} {m : Nat} {news : List Value} (hx : Sl w size x m news) (h1 : ∀ u ∈ news, u.oneCell' = true) (h63 : n + m ≤ maxLen) (hb : (n + m) * bytes ≤ 140737488355328) :
    ∃ A c w', (Builtin.append_ #[t, t] ty #[v, x]).run P w = .ok (.slice A (n + m) c) w' ∧ w'.ownsRow 0 e size (.slice A (n + m) c) (n + m) (xs ++ news) ∧ w.grownBy w' v.ownBlock ∧ Moved w w' v (.slice A (n + m) c) := by
  obtain ⟨i, hi, hz0, hz1, hz2⟩ := info_parts tb.info
  have hx2 : (x = .slice none 0 0 ∧ m = 0) ∨ ∃ y cap', x = .slice (some y) m cap' ∧ ∀ j u, news[j]? = some u → w.cell? (y.add j) = some u := by
    rcases hx.2 with ⟨Y, h1, h2⟩ | ⟨b, off, cap', h1, _, _, hc⟩
    · subst h1; subst h2
      cases Y with
      | none => exact .inl ⟨rfl, rfl⟩
      | some y => exact .inr ⟨y, 0, rfl, fun j u hu => by
          have hn : news = [] := List.eq_nil_of_length_eq_zero (by simpa using hx.1)
          subst hn; simp at hu⟩
    · exact .inr ⟨⟨b, off, none⟩, cap', h1, fun j u hu => by rw [Addr.add_lit]; exact hc j u hu⟩
  rcases hx2 with ⟨rfl, rfl⟩ | ⟨y, cap', rfl, hnews⟩
  · have hn : news = [] := List.eq_nil_of_length_eq_zero (by simpa using hx.1)
    subst hn
    obtain ⟨A, c, rfl⟩ := own_form hown
    exact ⟨A, c, w, run_append_owned_none (P := P) w 0 t ty e i size tb.und hi _ n xs hown, by simpa using hown, ⟨rfl, rfl, rfl, Nat.le_refl _, fun _ _ _ => rfl⟩, .inl rfl⟩
  · skip
    have hsmall : n + m ≤ 9223372036854775807 := by simp only [maxLen] at h63; omega
    rcases hown.2 with ⟨rfl, rfl⟩ | ⟨g, cap, cur, rfl, hbg, hg, hnc, hcm, hcs, htake⟩
    · obtain ⟨v', w', hr, h2, h3, h4⟩ := run_append_own (P := P) w w.heap.size t ty e i z size bytes tb.und hi hz0 hz1 hz2 tb.zs tb.pos (.slice none 0 0) 0 xs ⟨hown.1, .inl ⟨rfl, rfl⟩⟩ y m cap' news hx.1 hnews h1 h63 hb (Nat.le_refl _)
      obtain ⟨A, c, rfl⟩ := own_form h2
      exact ⟨A, c, w', hr, ⟨h2.1, by rcases h2.2 with h | ⟨g, cap, cur, h5, _, h6⟩; exact .inl h; exact .inr ⟨g, cap, cur, h5, Nat.zero_le _, h6⟩⟩, h3, .inr h2.lt⟩
    · obtain ⟨v', w', hr, h2, h3, h4⟩ := run_append_own (P := P) w 0 t ty e i z size bytes tb.und hi hz0 hz1 hz2 tb.zs tb.pos _ n xs hown y m cap' news hx.1 hnews h1 h63 hb (Nat.zero_le _)
      obtain ⟨A, c, rfl⟩ := own_form h2
      refine ⟨A, c, w', hr, h2, h3, ?_⟩
      by_cases hroom : n + m ≤ cap
      · have hfit : n * i.size + news.length ≤ cur.size := by rw [hz1, hx.1, hcs, ← Nat.add_mul]; exact Nat.mul_le_mul_right _ hroom
        have hr2 := run_append_room (P := P) w t ty e i tb.und hi g n cap cur hg y m cap' news (by rw [hz1]; exact hx.1) hnews h1 hroom hfit
        rw [hr] at hr2
        cases hr2
        exact .inl rfl
      · have holds : ∀ j u, xs[j]? = some u → w.cell? ((⟨g, 0, none⟩ : Addr).add j) = some u := hown.cells (g := g) rfl
        have hr2 := run_append_grow (P := P) w t ty e i z tb.und hi hz0 ⟨g, 0, none⟩ n cap xs (by rw [hz1]; exact hown.1) holds y m cap' news (by rw [hz1]; exact hx.1) hnews (by omega) (by omega) (growslice_fits (by omega) (by rw [hz2]; exact hb))
        rw [hr] at hr2
        cases hr2
        exact .inr fun k hk => ⟨by simp [Value.ownBlock] at hk; omega, own_lt h2 k hk⟩

/-- .. of a string's bytes. -/
theorem run_aps {t u e : TypeId} (tb : Tb P t e (.int .u8 0) 1 1) (hu : P.underlying u = some .string) (ty : TypeId) {v : Value} {n : Nat} {xs : List Value} (hown : w.ownsRow 0 e 1 v n xs)
    (s : ByteArray) (h63 : n + s.size ≤ maxLen) (hb : n + s.size ≤ 140737488355328) :
    ∃ A c w', (Builtin.append_ #[t, u] ty #[v, .string s]).run P w = .ok (.slice A (n + s.size) c) w' ∧ w'.ownsRow 0 e 1 (.slice A (n + s.size) c) (n + s.size) (xs ++ bvs s.data.toList) ∧ w.grownBy w' v.ownBlock ∧ Moved w w' v (.slice A (n + s.size) c) := by
  obtain ⟨i, hi, hz0, hz1, hz2⟩ := info_parts tb.info
  have hsmall : n + s.size ≤ 9223372036854775807 := by simp only [maxLen] at h63; omega
  rcases hown.2 with ⟨rfl, rfl⟩ | ⟨g, cap, cur, rfl, hbg, hg, hnc, hcm, hcs, htake⟩
  · obtain ⟨v', w', hr, h2, h3, h4⟩ := Lib.run_append_own_string (P := P) w w.heap.size t u ty e i tb.und hu hi hz0 hz1 hz2 (.slice none 0 0) 0 xs ⟨hown.1, .inl ⟨rfl, rfl⟩⟩ s h63 hb (Nat.le_refl _)
    obtain ⟨A, c, rfl⟩ := own_form h2
    exact ⟨A, c, w', hr, ⟨h2.1, by rcases h2.2 with h | ⟨g, cap, cur, h5, _, h6⟩; exact .inl h; exact .inr ⟨g, cap, cur, h5, Nat.zero_le _, h6⟩⟩, h3, .inr h2.lt⟩
  · obtain ⟨v', w', hr, h2, h3, h4⟩ := Lib.run_append_own_string (P := P) w 0 t u ty e i tb.und hu hi hz0 hz1 hz2 _ n xs hown s h63 hb (Nat.zero_le _)
    obtain ⟨A, c, rfl⟩ := own_form h2
    refine ⟨A, c, w', hr, h2, h3, ?_⟩
    by_cases hroom : n + s.size ≤ cap
    · have hr2 := Lib.run_append_room_string (P := P) w t u ty e i tb.und hu hi hz1 g n cap cur hg s hroom (by rw [hcs]; omega)
      rw [hr] at hr2
      cases hr2
      exact .inl rfl
    · have holds : ∀ j u, xs[j]? = some u → w.cell? ((⟨g, 0, none⟩ : Addr).add j) = some u := hown.cells (g := g) rfl
      have hr2 := Lib.run_append_grow_string (P := P) w t u ty e i (.int .u8 0) tb.und hu hi hz0 ⟨g, 0, none⟩ n cap xs (by rw [hz1]; exact hown.1) holds s (by omega) (by omega) (growslice_fits (by omega) (by rw [hz2]; omega))
      rw [hr] at hr2
      cases hr2
      exact .inr fun k hk => ⟨by simp [Value.ownBlock] at hk; omega, own_lt h2 k hk⟩

/-- append in a walk: one operation. -/
theorem wp_ap (s x : Operand) (t : TypeId) (ho : o.op = .call { callee := .builtin .append, args := #[s, x], argTypes := #[t, t] })
    {e : TypeId} {z : Value} {size bytes : Nat} (tb : Tb P t e z size bytes) {v : Value} {n : Nat} {xs : List Value} (hown : w.ownsRow 0 e size v n xs)
    {vx : Value} {m : Nat} {news : List Value} (hx : Sl w size vx m news) (hs : a.eval s = v) (hxe : a.eval x = vx) (h1 : ∀ u ∈ news, u.oneCell' = true) (h63 : n + m ≤ maxLen) (hb : (n + m) * bytes ≤ 140737488355328)
    (h : ∀ A N c w', w'.ownsRow 0 e size (.slice A N c) N (xs ++ news) → Fr (fun k => v.ownBlock = some k) w w' → Moved w w' v (.slice A N c) → K (a.put o.dst (.slice A N c)) w') : o.wp P a w K Q := by
  obtain ⟨A, c, w', hr, h2, h3, h4⟩ := run_ap (P := P) tb o.type hown hx h1 h63 hb
  unfold Oper.wp execOp
  simp only [ho, resolve, invoke, builtin, Sem.run_bind, Sem.run_pure, Result.andThen_ok, List.map_toArray, List.map_cons, List.map_nil, hs, hxe, hr]
  exact h A _ c w' h2 (Fr.of_grown h3) h4

theorem wp_aps (s x : Operand) (t u : TypeId) (ho : o.op = .call { callee := .builtin .append, args := #[s, x], argTypes := #[t, u] })
    {e : TypeId} (tb : Tb P t e (.int .u8 0) 1 1) (hu : P.underlying u = some .string) {v : Value} {n : Nat} {xs : List Value} (hown : w.ownsRow 0 e 1 v n xs)
    (str : ByteArray) (hs : a.eval s = v) (hxe : a.eval x = .string str) (h63 : n + str.size ≤ maxLen) (hb : n + str.size ≤ 140737488355328)
    (h : ∀ A N c w', w'.ownsRow 0 e 1 (.slice A N c) N (xs ++ bvs str.data.toList) → Fr (fun k => v.ownBlock = some k) w w' → Moved w w' v (.slice A N c) → K (a.put o.dst (.slice A N c)) w') : o.wp P a w K Q := by
  obtain ⟨A, c, w', hr, h2, h3, h4⟩ := run_aps (P := P) tb hu o.type hown str h63 hb
  unfold Oper.wp execOp
  simp only [ho, resolve, invoke, builtin, Sem.run_bind, Sem.run_pure, Result.andThen_ok, List.map_toArray, List.map_cons, List.map_nil, hs, hxe, hr]
  exact h A _ c w' h2 (Fr.of_grown h3) h4

/-- The same; the row is told in an elder world, since when there are new blocks alone. -/
theorem wp_apx {w0 : World} (s x : Operand) (t : TypeId) (ho : o.op = .call { callee := .builtin .append, args := #[s, x], argTypes := #[t, t] })
    {e : TypeId} {z : Value} {size bytes : Nat} (tb : Tb P t e z size bytes) {v : Value} {n : Nat} {xs : List Value} (hown : w0.ownsRow 0 e size v n xs) (f : Fr no w0 w)
    {vx : Value} {m : Nat} {news : List Value} (hx : Sl w size vx m news) (hs : a.eval s = v) (hxe : a.eval x = vx) (h1 : ∀ u ∈ news, u.oneCell' = true) (h63 : n + m ≤ maxLen) (hb : (n + m) * bytes ≤ 140737488355328)
    (h : ∀ A N c w', w'.ownsRow 0 e size (.slice A N c) N (xs ++ news) → Fr (fun k => v.ownBlock = some k) w w' → Moved w w' v (.slice A N c) → K (a.put o.dst (.slice A N c)) w') : o.wp P a w K Q :=
  wp_ap s x t ho tb (own_kept0 hown f) hx hs hxe h1 h63 hb h

theorem wp_apsx {w0 : World} (s x : Operand) (t u : TypeId) (ho : o.op = .call { callee := .builtin .append, args := #[s, x], argTypes := #[t, u] })
    {e : TypeId} (tb : Tb P t e (.int .u8 0) 1 1) (hu : P.underlying u = some .string) {v : Value} {n : Nat} {xs : List Value} (hown : w0.ownsRow 0 e 1 v n xs) (f : Fr no w0 w)
    (str : ByteArray) (hs : a.eval s = v) (hxe : a.eval x = .string str) (h63 : n + str.size ≤ maxLen) (hb : n + str.size ≤ 140737488355328)
    (h : ∀ A N c w', w'.ownsRow 0 e 1 (.slice A N c) N (xs ++ bvs str.data.toList) → Fr (fun k => v.ownBlock = some k) w w' → Moved w w' v (.slice A N c) → K (a.put o.dst (.slice A N c)) w') : o.wp P a w K Q :=
  wp_aps s x t u ho tb hu (own_kept0 hown f) str hs hxe h63 hb h

variable {ops : Array Oper} {rest : List Oper}

theorem wpList_ap {w0 : World} (hgd : o.guard = none) (s x : Operand) (t : TypeId) (ho : o.op = .call { callee := .builtin .append, args := #[s, x], argTypes := #[t, t] })
    {e : TypeId} {z : Value} {size bytes : Nat} (tb : Tb P t e z size bytes) {v : Value} {n : Nat} {xs : List Value} (hown : w0.ownsRow 0 e size v n xs) (f : Fr no w0 w)
    {vx : Value} {m : Nat} {news : List Value} (hx : Sl w size vx m news) (hs : a.eval s = v) (hxe : a.eval x = vx) (h1 : ∀ u ∈ news, u.oneCell' = true) (h63 : n + m ≤ maxLen) (hb : (n + m) * bytes ≤ 140737488355328)
    (h : ∀ A N c w', w'.ownsRow 0 e size (.slice A N c) N (xs ++ news) → Fr (fun k => v.ownBlock = some k) w w' → Moved w w' v (.slice A N c) → wpList P ops Q rest (a.put o.dst (.slice A N c)) w') : wpList P ops Q (o :: rest) a w :=
  wpList_plain hgd fun _ hK => wp_apx s x t ho tb hown f hx hs hxe h1 h63 hb fun A N c w' h2 h3 h4 => hK _ _ (h A N c w' h2 h3 h4)

theorem wpList_aps {w0 : World} (hgd : o.guard = none) (s x : Operand) (t u : TypeId) (ho : o.op = .call { callee := .builtin .append, args := #[s, x], argTypes := #[t, u] })
    {e : TypeId} (tb : Tb P t e (.int .u8 0) 1 1) (hu : P.underlying u = some .string) {v : Value} {n : Nat} {xs : List Value} (hown : w0.ownsRow 0 e 1 v n xs) (f : Fr no w0 w)
    (str : ByteArray) (hs : a.eval s = v) (hxe : a.eval x = .string str) (h63 : n + str.size ≤ maxLen) (hb : n + str.size ≤ 140737488355328)
    (h : ∀ A N c w', w'.ownsRow 0 e 1 (.slice A N c) N (xs ++ bvs str.data.toList) → Fr (fun k => v.ownBlock = some k) w w' → Moved w w' v (.slice A N c) → wpList P ops Q rest (a.put o.dst (.slice A N c)) w') : wpList P ops Q (o :: rest) a w :=
  wpList_plain hgd fun _ hK => wp_apsx s x t u ho tb hu hown f str hs hxe h63 hb fun A N c w' h2 h3 h4 => hK _ _ (h A N c w' h2 h3 h4)
end

/-- A new row of bytes, all of it. -/
theorem Sl.fresh (w : World) (l : List UInt8) (T : TypeId) {cs : Array Value} (hc : cs = (bvs l).toArray) (hm : l.length ≤ maxLen) : Sl (w.alloc (.cells cs T)) 1 (.slice (some ⟨w.heap.size, 0, none⟩) l.length l.length) l.length (bvs l) := by
  subst hc
  refine ⟨by simp [bvs_length], .inr ⟨_, 0, _, rfl, Nat.le_refl _, hm, fun j u hu => ?_⟩⟩
  unfold World.cell?
  rw [heap_alloc_new]
  simpa using hu

theorem Sl.built (w : World) (u : Value) (T : TypeId) : Sl (w.alloc (.cells #[u] T)) 1 (.slice (some ⟨w.heap.size, 0, none⟩) 1 1) 1 [u] := by
  refine ⟨rfl, .inr ⟨_, _, _, rfl, Nat.le_refl _, by simp [maxLen], fun j v hv => ?_⟩⟩
  match j, hv with
  | 0, hv => simp at hv; subst hv; unfold World.cell?; rw [heap_alloc_new]; simp

theorem hp_same {w : World} {b : Nat} {c : Array Value} {T : TypeId} {fr : Nat × Nat} (h : w.heap[b]? = some (.cells c T fr)) (o : Nat) (v : Value) :
    (w.setCell ⟨b, o, none⟩ v).heap[b]? = some (.cells (c.setIfInBounds o v) T fr) := by
  simp only [World.setCell, Array.getElem?_modify, if_true, h, Option.map_some]
  simp

theorem hp_other {w : World} {b : Nat} (a : Addr) (v : Value) (h : b ≠ a.block) : (w.setCell a v).heap[b]? = w.heap[b]? := Below.heap_setCell w a v b h

theorem Moved.refl (w : World) (v : Value) : Moved w w v v := .inl rfl
theorem Moved.trans {w w1 w2 : World} {v v1 v2 : Value} (h : Moved w w1 v v1) (h' : Moved w1 w2 v1 v2) (hs : w.heap.size ≤ w1.heap.size) (hs' : w1.heap.size ≤ w2.heap.size) : Moved w w2 v v2 := by
  rcases h' with h' | h'
  · rcases h with h | h
    · exact .inl (h'.trans h)
    · exact .inr fun k hk => by have := h k (h' ▸ hk); omega
  · exact .inr fun k hk => by have := h' k hk; omega
theorem Moved.later {w w1 w2 : World} {v v1 : Value} (h : Moved w w1 v v1) (hs : w1.heap.size ≤ w2.heap.size) : Moved w w2 v v1 := by
  rcases h with h | h
  · exact .inl h
  · exact .inr fun k hk => by have := h k hk; omega
theorem Moved.first {w0 w w1 : World} {v v1 : Value} (h : Moved w w1 v v1) (hs : w0.heap.size ≤ w.heap.size) : Moved w0 w1 v v1 := by
  rcases h with h | h
  · exact .inl h
  · exact .inr fun k hk => by have := h k hk; omega
/-- A block that was there, and none of the elder row's, is none of the row's. -/
theorem Moved.not {w w1 : World} {v v1 : Value} (h : Moved w w1 v v1) {k : Nat} (hk : k < w.heap.size) (hn : v.ownBlock ≠ some k) : v1.ownBlock ≠ some k := by
  intro e
  rcases h with h | h
  · exact hn (h ▸ e)
  · have := h k e; omega

theorem push_all (l : List UInt8) : ∀ (r : ByteArray), (l.map (fun c : UInt8 => ((c.toNat : Nat) : Int))).foldl (fun r n => r.push (UInt8.ofNat n.toNat)) r = ⟨r.data ++ l.toArray⟩ := by
  induction l with
  | nil => intro r; simp
  | cons c l ih =>
    intro r
    simp only [List.map_cons, List.foldl_cons]
    rw [ih]
    simp [ByteArray.push]

/-- string(b). -/
theorem run_str {P : Program} (w : World) {src dst e : TypeId} (hs : P.underlying src = some (.slice e)) (he : P.underlying e = some (.int .u8)) (hd : P.underlying dst = some .string) {v : Value} {n : Nat} {l : List UInt8}
    (hv : Sl w 1 v n (bvs l)) : (convert src dst v).run P w = .ok (.string ⟨l.toArray⟩) w := by
  rcases hv.2 with ⟨A, rfl, rfl⟩ | ⟨b, o, cap, rfl, _, _, hc⟩
  · have : l = [] := List.eq_nil_of_length_eq_zero (by have := hv.1; rw [bvs_length] at this; omega)
    subst this
    rw [run_convert_bytes_string w src dst e A 0 0 hs he hd]
    cases A with
    | none => simp [Conv.bytesToString, ByteArray.empty, ByteArray.emptyWithCapacity]; rfl
    | some y =>
      rw [run_bytesToString w y 0 0 [] (by simpa using run_loadCells_list (P := P) w y [] (by simp))]
      simp [ByteArray.empty, ByteArray.emptyWithCapacity]; try rfl
  · rw [run_convert_bytes_string w src dst e _ n cap hs he hd]
    have hn : n = l.length := by have := hv.1; rw [bvs_length] at this; omega
    subst hn
    have hload : (loadCells ⟨b, o, none⟩ l.length).run P w = .ok ((l.map (fun c : UInt8 => ((c.toNat : Nat) : Int))).map (Value.int .u8)).toArray w := by
      have h := run_loadCells_list (P := P) w ⟨b, o, none⟩ (bvs l) (fun j u hu => by rw [Addr.add_lit]; exact hc j u hu)
      rw [bvs_length] at h
      rw [h]
      simp [bvs, Bv]
    rw [run_bytesToString w _ _ _ _ hload, push_all]
    simp [ByteArray.empty, ByteArray.emptyWithCapacity]; try rfl
end Go

/- Values without a program: trees. How deep one is, all below it in order, its parts. -/
namespace Go.Proofs.YtgcicljklejmjaaDoor

/-- A value: its kind, what it holds; m: whatever else is to be known of where it lies. -/
inductive Tr (α : Type) where
  | mk (k : UInt8) (b : Bool) (i : Int) (t bs : List UInt8) (m : α) (l : List (Tr α)) (f : List (List UInt8 × Tr α))

namespace Tr
variable {α : Type}
def k : Tr α → UInt8 | mk k _ _ _ _ _ _ _ => k
def b : Tr α → Bool | mk _ b _ _ _ _ _ _ => b
def i : Tr α → Int | mk _ _ i _ _ _ _ _ => i
def t : Tr α → List UInt8 | mk _ _ _ t _ _ _ _ => t
def bs : Tr α → List UInt8 | mk _ _ _ _ bs _ _ _ => bs
def m : Tr α → α | mk _ _ _ _ _ m _ _ => m
def l : Tr α → List (Tr α) | mk _ _ _ _ _ _ l _ => l
def f : Tr α → List (List UInt8 × Tr α) | mk _ _ _ _ _ _ _ f => f
/-- The values right below. -/
def kids (x : Tr α) : List (Tr α) := x.l ++ x.f.map Prod.snd

theorem mem_l_lt {x y : Tr α} (h : y ∈ x.l) : SizeOf.sizeOf y < SizeOf.sizeOf x := by
  cases x
  simp only [l] at h
  have := List.sizeOf_lt_of_mem h
  simp only [mk.sizeOf_spec]
  omega
theorem mem_f_lt {x : Tr α} {p : List UInt8 × Tr α} (h : p ∈ x.f) : SizeOf.sizeOf p.2 < SizeOf.sizeOf x := by
  cases x
  simp only [f] at h
  have := List.sizeOf_lt_of_mem h
  obtain ⟨a, y⟩ := p
  simp only [mk.sizeOf_spec, Prod.mk.sizeOf_spec] at *
  omega
theorem kid_lt {x y : Tr α} (h : y ∈ x.kids) : SizeOf.sizeOf y < SizeOf.sizeOf x := by
  rcases List.mem_append.1 h with h | h
  · exact mem_l_lt h
  · obtain ⟨p, hp, rfl⟩ := List.mem_map.1 h
    exact mem_f_lt hp

/-- By trees: what holds of a value if it holds of those right below. -/
theorem ind {P : Tr α → Prop} (h : ∀ x, (∀ y ∈ x.kids, P y) → P x) (x : Tr α) : P x := by
  have : ∀ n, ∀ x : Tr α, SizeOf.sizeOf x < n → P x := by
    intro n
    induction n with
    | zero => intro x hx; omega
    | succ n ih => intro x hx; exact h x (fun y hy => ih y (by have := kid_lt hy; omega))
  exact this _ x (Nat.lt_succ_self _)

/-- Are there values deeper than so many? -/
def deep : Nat → Tr α → Bool
  | 0, _ => true
  | n + 1, x => x.kids.any (deep n)

/-- It and all below, with their depths, in order. -/
def pre (d : Nat) (x : Tr α) : List (Nat × Tr α) := (d, x) :: x.kids.attach.flatMap fun y => pre (d + 1) y.1
termination_by SizeOf.sizeOf x
decreasing_by exact kid_lt y.2
theorem pre_eq (d : Nat) (x : Tr α) : pre d x = (d, x) :: x.kids.flatMap (pre (d + 1)) := by
  rw [pre, List.flatMap_subtype (g := pre (d + 1)) (fun _ _ => rfl), List.unattach_attach]
theorem pre_pos (d : Nat) (x : Tr α) : 0 < (pre d x).length := by rw [pre_eq]; simp

theorem pre_len (d e : Nat) (x : Tr α) : (pre d x).length = (pre e x).length := by
  induction x using ind generalizing d e with
  | h x ih =>
    rw [pre_eq, pre_eq, List.length_cons, List.length_cons, List.length_flatMap, List.length_flatMap]
    congr 2
    exact List.map_congr_left fun y hy => ih y hy _ _
/-- How many values: it and all below. -/
def parts (x : Tr α) : Nat := (pre 1 x).length

theorem mem_pre_self (d : Nat) (x : Tr α) : (d, x) ∈ pre d x := by rw [pre_eq]; exact List.mem_cons_self ..
theorem mem_pre_kid {d : Nat} {x y : Tr α} (h : y ∈ x.kids) {p : Nat × Tr α} (hp : p ∈ pre (d + 1) y) : p ∈ pre d x := by
  rw [pre_eq]
  exact List.mem_cons_of_mem _ (List.mem_flatMap.2 ⟨y, h, hp⟩)

/-- What holds of a value and is handed down to those below. -/
theorem pre_all {P : Tr α → Prop} (hd : ∀ x, P x → ∀ y ∈ x.kids, P y) (d : Nat) (x : Tr α) (h : P x) : ∀ p ∈ pre d x, P p.2 := by
  induction x using ind generalizing d with
  | h x ih =>
    intro p hp
    rw [pre_eq] at hp
    rcases List.mem_cons.1 hp with rfl | hp
    · exact h
    · obtain ⟨y, hy, hp⟩ := List.mem_flatMap.1 hp
      exact ih y hy _ (hd x h y hy) p hp

/-- The same values, without where they lie. -/
def bare (x : Tr α) : Tr Unit := .mk x.k x.b x.i x.t x.bs () (x.l.attach.map fun y => bare y.1) (x.f.attach.map fun p => (p.1.1, bare p.1.2))
termination_by SizeOf.sizeOf x
decreasing_by
  · exact mem_l_lt y.2
  · exact mem_f_lt p.2
theorem bare_eq (x : Tr α) : bare x = .mk x.k x.b x.i x.t x.bs () (x.l.map bare) (x.f.map fun p => (p.1, bare p.2)) := by
  rw [bare]
  congr 1
  · rw [List.map_subtype (g := bare) (fun _ _ => rfl), List.unattach_attach]
  · rw [List.map_subtype (g := fun p : List UInt8 × Tr α => (p.1, bare p.2)) (fun _ _ => rfl), List.unattach_attach]
theorem bare_kids (x : Tr α) : (bare x).kids = x.kids.map bare := by
  rw [bare_eq]
  simp [kids, l, f, List.map_map, Function.comp_def]
theorem bare_k (x : Tr α) : (bare x).k = x.k := by rw [bare_eq]; rfl
theorem bare_b (x : Tr α) : (bare x).b = x.b := by rw [bare_eq]; rfl
theorem bare_i (x : Tr α) : (bare x).i = x.i := by rw [bare_eq]; rfl
theorem bare_t (x : Tr α) : (bare x).t = x.t := by rw [bare_eq]; rfl
theorem bare_bs (x : Tr α) : (bare x).bs = x.bs := by rw [bare_eq]; rfl
theorem bare_l (x : Tr α) : (bare x).l = x.l.map bare := by rw [bare_eq]; rfl
theorem bare_f (x : Tr α) : (bare x).f = x.f.map fun p => (p.1, bare p.2) := by rw [bare_eq]; rfl
theorem bare_deep (n : Nat) (x : Tr α) : deep n (bare x) = deep n x := by
  induction n generalizing x with
  | zero => rfl
  | succ n ih => simp only [deep, bare_kids, List.any_map]; congr 1; funext y; exact ih y
theorem bare_pre (d : Nat) (x : Tr α) : pre d (bare x) = (pre d x).map fun p => (p.1, bare p.2) := by
  induction x using ind generalizing d with
  | h x ih =>
    rw [pre_eq, pre_eq, bare_kids, List.map_cons, List.flatMap_map, List.map_flatMap]
    congr 1
    simp only [List.flatMap]
    exact congrArg List.flatten (List.map_congr_left fun y hy => ih y hy _)
theorem bare_parts (x : Tr α) : parts (bare x) = parts x := by unfold parts; rw [bare_pre, List.length_map]
end Tr
end Go.Proofs.YtgcicljklejmjaaDoor

/- Values as they lie in memory: a tree, and where its lists lie. -/
namespace Go.Proofs.YtgcicljklejmjaaDoor
open Go.RowKit

/-- Where the bytes, the list and the fields of a value lie. -/
abbrev Mm := Value × Value × Value
abbrev Vv := Tr Mm

structure I64 (i : Int) : Prop where
  lo : -9223372036854775808 ≤ i
  hi : i ≤ 9223372036854775807

namespace Tr
def B (x : Tr Mm) : Value := x.m.1
def L (x : Tr Mm) : Value := x.m.2.1
def F (x : Tr Mm) : Value := x.m.2.2
def cells (x : Tr Mm) : List Value := [.int .u8 x.k.toNat, .bool x.b, .int .i64 x.i, .string ⟨x.t.toArray⟩, x.B, x.L, x.F]
def agg (x : Tr Mm) : Value := .agg #[.int .u8 x.k.toNat, .bool x.b, .int .i64 x.i, .string ⟨x.t.toArray⟩, x.B, x.L, x.F]
def fcells (p : List UInt8 × Tr Mm) : List Value := .string ⟨p.1.toArray⟩ :: p.2.cells
def fagg (p : List UInt8 × Tr Mm) : Value := .agg #[.string ⟨p.1.toArray⟩, .int .u8 p.2.k.toNat, .bool p.2.b, .int .i64 p.2.i, .string ⟨p.2.t.toArray⟩, p.2.B, p.2.L, p.2.F]
theorem cells_len (x : Tr Mm) : x.cells.length = 7 := rfl
theorem fcells_len (p : List UInt8 × Tr Mm) : (fcells p).length = 8 := rfl

/-- One value, as it lies. -/
structure Node (w : World) (x : Tr Mm) : Prop where
  B : Sl w 1 x.B x.bs.length (bvs x.bs)
  L : Sl w 7 x.L x.l.length (x.l.flatMap cells)
  F : Sl w 8 x.F x.f.length (x.f.flatMap fcells)
  i : I64 x.i
  t : x.t.length ≤ reachBytes
  bs : x.bs.length ≤ reachBytes
  l : x.l.length ≤ reachBytes
  f : x.f.length ≤ reachBytes
  n : ∀ p ∈ x.f, p.1.length ≤ reachBytes
  lw : x.l.length * 104 ≤ reachBytes
  fw : x.f.length * 120 ≤ reachBytes
theorem Node.kept0 {w w1 : World} {x : Tr Mm} (h : Node w x) (f : Fr no w w1) : Node w1 x :=
  ⟨h.B.kept0 f, h.L.kept0 f, h.F.kept0 f, h.i, h.t, h.bs, h.l, h.f, h.n, h.lw, h.fw⟩

/-- It and all below, as they lie. -/
inductive Good (w : World) : Tr Mm → Prop
  | mk (x : Tr Mm) (node : Node w x) (kids : ∀ y ∈ x.kids, Good w y) : Good w x
theorem Good.node {w : World} {x : Tr Mm} : Good w x → Node w x | .mk _ h _ => h
theorem Good.kids {w : World} {x : Tr Mm} : Good w x → ∀ y ∈ x.kids, Good w y | .mk _ _ h => h
theorem Good.l {w : World} {x : Tr Mm} (h : Good w x) : ∀ y ∈ x.l, Good w y := fun y hy => h.kids y (List.mem_append_left _ hy)
theorem Good.f {w : World} {x : Tr Mm} (h : Good w x) : ∀ p ∈ x.f, Good w p.2 := fun p hp => h.kids p.2 (List.mem_append_right _ (List.mem_map_of_mem hp))
theorem Good.kept0 {w w1 : World} {x : Tr Mm} (h : Good w x) (f : Fr no w w1) : Good w1 x := by
  induction x using Tr.ind with
  | h x ih => exact ⟨x, h.node.kept0 f, fun y hy => ih y hy (h.kids y hy)⟩
theorem Good.pre {w : World} {x : Tr Mm} (h : Good w x) (d : Nat) : ∀ p ∈ pre d x, Good w p.2 := pre_all (P := Good w) (fun _ h => h.kids) d x h

/-- A list of values that came in. -/
structure In (w : World) (v : Value) (l : List (Tr Mm)) : Prop where
  sl : Sl w 7 v l.length (l.flatMap cells)
  good : ∀ y ∈ l, Good w y
  n : l.length ≤ reachBytes
  nw : l.length * 104 ≤ reachBytes
theorem In.kept0 {w w1 : World} {v : Value} {l : List (Tr Mm)} (h : In w v l) (f : Fr no w w1) : In w1 v l := ⟨h.sl.kept0 f, fun y hy => (h.good y hy).kept0 f, h.n, h.nw⟩
theorem Good.inL {w : World} {x : Tr Mm} (h : Good w x) : In w x.L x.l := ⟨h.node.L, h.l, h.node.l, h.node.lw⟩
/-- A list of fields. -/
structure InF (w : World) (v : Value) (l : List (List UInt8 × Tr Mm)) : Prop where
  sl : Sl w 8 v l.length (l.flatMap fcells)
  good : ∀ p ∈ l, Good w p.2
  n : l.length ≤ reachBytes
  nm : ∀ p ∈ l, p.1.length ≤ reachBytes
  nw : l.length * 120 ≤ reachBytes
theorem InF.kept0 {w w1 : World} {v : Value} {l : List (List UInt8 × Tr Mm)} (h : InF w v l) (f : Fr no w w1) : InF w1 v l := ⟨h.sl.kept0 f, fun y hy => (h.good y hy).kept0 f, h.n, h.nm, h.nw⟩
theorem Good.inF {w : World} {x : Tr Mm} (h : Good w x) : InF w x.F x.f := ⟨h.node.F, h.f, h.node.f, h.node.n, h.node.fw⟩

/-- The cells of the j-th of a list. -/
theorem flat7 (l : List (Tr Mm)) (j : Nat) (h : j < l.length) (i : Nat) (hi : i < 7) : (l.flatMap cells)[j * 7 + i]? = l[j].cells[i]? := by
  induction l generalizing j with
  | nil => simp at h
  | cons a l ih =>
    rw [List.flatMap_cons]
    cases j with
    | zero => rw [List.getElem?_append_left (by rw [cells_len]; omega)]; simp
    | succ j =>
      rw [List.getElem?_append_right (by rw [cells_len]; omega), cells_len, show (j + 1) * 7 + i - 7 = j * 7 + i by omega, ih j (by simpa using h)]
      rfl
theorem flat8 (l : List (List UInt8 × Tr Mm)) (j : Nat) (h : j < l.length) (i : Nat) (hi : i < 8) : (l.flatMap fcells)[j * 8 + i]? = (fcells l[j])[i]? := by
  induction l generalizing j with
  | nil => simp at h
  | cons a l ih =>
    rw [List.flatMap_cons]
    cases j with
    | zero => rw [List.getElem?_append_left (by rw [fcells_len]; omega)]; simp
    | succ j =>
      rw [List.getElem?_append_right (by rw [fcells_len]; omega), fcells_len, show (j + 1) * 8 + i - 8 = j * 8 + i by omega, ih j (by simpa using h)]
      rfl

theorem In.at {w : World} {A : Option Addr} {n c : Nat} {l : List (Tr Mm)} (h : Sl w 7 (.slice A n c) l.length (l.flatMap cells)) (j : Nat) (hj : j < l.length) :
    ∃ b o, A = some ⟨b, o, none⟩ ∧ w.cell? ⟨b, o + j * 7, none⟩ = some (.int .u8 l[j].k.toNat) ∧ w.cell? ⟨b, o + j * 7 + 1, none⟩ = some (.bool l[j].b) ∧ w.cell? ⟨b, o + j * 7 + 2, none⟩ = some (.int .i64 l[j].i) ∧
      w.cell? ⟨b, o + j * 7 + 3, none⟩ = some (.string ⟨l[j].t.toArray⟩) ∧ w.cell? ⟨b, o + j * 7 + 4, none⟩ = some l[j].B ∧ w.cell? ⟨b, o + j * 7 + 5, none⟩ = some l[j].L ∧ w.cell? ⟨b, o + j * 7 + 6, none⟩ = some l[j].F := by
  rcases h.2 with ⟨_, h1, h2⟩ | ⟨b, o, cap, h1, _, _, h4⟩
  · simp only [Value.slice.injEq] at h1
    have := h1.2.1
    have h3 := h2
    omega
  · simp only [Value.slice.injEq] at h1
    obtain ⟨rfl, rfl, rfl⟩ := h1
    refine ⟨b, o, rfl, ?_⟩
    have g : ∀ i u, l[j].cells[i]? = some u → i < 7 → w.cell? ⟨b, o + j * 7 + i, none⟩ = some u := fun i u hu hi => by
      rw [Nat.add_assoc]; exact h4 _ u (by rw [flat7 l j hj i hi]; exact hu)
    exact ⟨g 0 _ rfl (by omega), g 1 _ rfl (by omega), g 2 _ rfl (by omega), g 3 _ rfl (by omega), g 4 _ rfl (by omega), g 5 _ rfl (by omega), g 6 _ rfl (by omega)⟩
theorem InF.at {w : World} {A : Option Addr} {n c : Nat} {l : List (List UInt8 × Tr Mm)} (h : Sl w 8 (.slice A n c) l.length (l.flatMap fcells)) (j : Nat) (hj : j < l.length) :
    ∃ b o, A = some ⟨b, o, none⟩ ∧ w.cell? ⟨b, o + j * 8, none⟩ = some (.string ⟨l[j].1.toArray⟩) ∧ w.cell? ⟨b, o + j * 8 + 1, none⟩ = some (.int .u8 l[j].2.k.toNat) ∧ w.cell? ⟨b, o + j * 8 + 2, none⟩ = some (.bool l[j].2.b) ∧ w.cell? ⟨b, o + j * 8 + 3, none⟩ = some (.int .i64 l[j].2.i) ∧
      w.cell? ⟨b, o + j * 8 + 4, none⟩ = some (.string ⟨l[j].2.t.toArray⟩) ∧ w.cell? ⟨b, o + j * 8 + 5, none⟩ = some l[j].2.B ∧ w.cell? ⟨b, o + j * 8 + 6, none⟩ = some l[j].2.L ∧ w.cell? ⟨b, o + j * 8 + 7, none⟩ = some l[j].2.F := by
  rcases h.2 with ⟨_, h1, h2⟩ | ⟨b, o, cap, h1, _, _, h4⟩
  · simp only [Value.slice.injEq] at h1
    have := h1.2.1
    have h3 := h2
    omega
  · simp only [Value.slice.injEq] at h1
    obtain ⟨rfl, rfl, rfl⟩ := h1
    refine ⟨b, o, rfl, ?_⟩
    have g : ∀ i u, (fcells l[j])[i]? = some u → i < 8 → w.cell? ⟨b, o + j * 8 + i, none⟩ = some u := fun i u hu hi => by
      rw [Nat.add_assoc]; exact h4 _ u (by rw [flat8 l j hj i hi]; exact hu)
    exact ⟨g 0 _ rfl (by omega), g 1 _ rfl (by omega), g 2 _ rfl (by omega), g 3 _ rfl (by omega), g 4 _ rfl (by omega), g 5 _ rfl (by omega), g 6 _ rfl (by omega), g 7 _ rfl (by omega)⟩
end Tr
end Go.Proofs.YtgcicljklejmjaaDoor
namespace Go.Proofs.YtgcicljklejmjaaDoor
open Go.RowKit
namespace Tr
/-- A value's lists in the walk's own form. -/
structure Forms (x : Tr Mm) (BA : Option Addr) (bc : Nat) (LA : Option Addr) (lc : Nat) (FA : Option Addr) (fc : Nat) : Prop where
  B : x.B = .slice BA x.bs.length bc
  L : x.L = .slice LA x.l.length lc
  F : x.F = .slice FA x.f.length fc
  bl : x.bs.length ≤ bc
  ll : x.l.length ≤ lc
  fl : x.f.length ≤ fc
  bm : bc ≤ maxLen
  lm : lc ≤ maxLen
  fm : fc ≤ maxLen
theorem Node.forms {w : World} {x : Tr Mm} (h : Node w x) : ∃ BA bc LA lc FA fc, Forms x BA bc LA lc FA fc := by
  obtain ⟨BA, bc, e1, a1, b1⟩ := h.B.form
  obtain ⟨LA, lc, e2, a2, b2⟩ := h.L.form
  obtain ⟨FA, fc, e3, a3, b3⟩ := h.F.form
  exact ⟨BA, bc, LA, lc, FA, fc, e1, e2, e3, a1, a2, a3, b1, b2, b3⟩
theorem Forms.agg {x : Tr Mm} {BA LA FA : Option Addr} {bc lc fc : Nat} (h : Forms x BA bc LA lc FA fc) :
    x.agg = .agg #[.int .u8 x.k.toNat, .bool x.b, .int .i64 x.i, .string ⟨x.t.toArray⟩, .slice BA x.bs.length bc, .slice LA x.l.length lc, .slice FA x.f.length fc] := by
  unfold Tr.agg; rw [h.B, h.L, h.F]
/-- The cells of the j-th of a list, in the walk's own form. -/
theorem In.get {w : World} {A : Option Addr} {n c : Nat} {l : List (Tr Mm)} (h : In w (.slice A n c) l) (j : Nat) (hj : j < l.length) :
    ∃ b o BA bc LA lc FA fc, A = some ⟨b, o, none⟩ ∧ Forms l[j] BA bc LA lc FA fc ∧
      w.cell? ⟨b, o + j * 7, none⟩ = some (.int .u8 l[j].k.toNat) ∧ w.cell? ⟨b, o + j * 7 + 1, none⟩ = some (.bool l[j].b) ∧ w.cell? ⟨b, o + j * 7 + 2, none⟩ = some (.int .i64 l[j].i) ∧
      w.cell? ⟨b, o + j * 7 + 3, none⟩ = some (.string ⟨l[j].t.toArray⟩) ∧ w.cell? ⟨b, o + j * 7 + 4, none⟩ = some (.slice BA l[j].bs.length bc) ∧ w.cell? ⟨b, o + j * 7 + 5, none⟩ = some (.slice LA l[j].l.length lc) ∧
      w.cell? ⟨b, o + j * 7 + 6, none⟩ = some (.slice FA l[j].f.length fc) ∧ b < w.heap.size := by
  obtain ⟨b, o, e, q0, q1, q2, q3, q4, q5, q6⟩ := In.at h.sl j hj
  obtain ⟨BA, bc, LA, lc, FA, fc, hf⟩ := (h.good l[j] (List.getElem_mem _)).node.forms
  rw [hf.B] at q4; rw [hf.L] at q5; rw [hf.F] at q6
  exact ⟨b, o, BA, bc, LA, lc, FA, fc, e, hf, q0, q1, q2, q3, q4, q5, q6, World.block_lt_of_cell? w _ q0⟩
theorem InF.get {w : World} {A : Option Addr} {n c : Nat} {l : List (List UInt8 × Tr Mm)} (h : InF w (.slice A n c) l) (j : Nat) (hj : j < l.length) :
    ∃ b o BA bc LA lc FA fc, A = some ⟨b, o, none⟩ ∧ Forms l[j].2 BA bc LA lc FA fc ∧ w.cell? ⟨b, o + j * 8, none⟩ = some (.string ⟨l[j].1.toArray⟩) ∧
      w.cell? ⟨b, o + j * 8 + 1, none⟩ = some (.int .u8 l[j].2.k.toNat) ∧ w.cell? ⟨b, o + j * 8 + 2, none⟩ = some (.bool l[j].2.b) ∧ w.cell? ⟨b, o + j * 8 + 3, none⟩ = some (.int .i64 l[j].2.i) ∧
      w.cell? ⟨b, o + j * 8 + 4, none⟩ = some (.string ⟨l[j].2.t.toArray⟩) ∧ w.cell? ⟨b, o + j * 8 + 5, none⟩ = some (.slice BA l[j].2.bs.length bc) ∧ w.cell? ⟨b, o + j * 8 + 6, none⟩ = some (.slice LA l[j].2.l.length lc) ∧
      w.cell? ⟨b, o + j * 8 + 7, none⟩ = some (.slice FA l[j].2.f.length fc) ∧ b < w.heap.size := by
  obtain ⟨b, o, e, q0, q1, q2, q3, q4, q5, q6, q7⟩ := InF.at h.sl j hj
  obtain ⟨BA, bc, LA, lc, FA, fc, hf⟩ := (h.good l[j] (List.getElem_mem _)).node.forms
  rw [hf.B] at q5; rw [hf.L] at q6; rw [hf.F] at q7
  exact ⟨b, o, BA, bc, LA, lc, FA, fc, e, hf, q0, q1, q2, q3, q4, q5, q6, q7, World.block_lt_of_cell? w _ q0⟩

def firstOf {β : Type} (q : β → Bool) (l : List β) : Int := match l.findIdx? q with | some i => i | none => -1
theorem firstOf_any {β : Type} (q : β → Bool) (l : List β) : decide (0 ≤ firstOf q l) = l.any q := by
  unfold firstOf
  cases h : l.findIdx? q with
  | none =>
    rw [List.findIdx?_eq_none_iff] at h
    have : l.any q = false := by rw [List.any_eq_false]; intro x hx; rw [h x hx]; exact Bool.false_ne_true
    rw [this]; rfl
  | some i =>
    obtain ⟨hi, hq, _⟩ := List.findIdx?_eq_some_iff_getElem.1 h
    have : l.any q = true := List.any_eq_true.2 ⟨_, List.getElem_mem hi, hq⟩
    rw [this]
    exact decide_eq_true (by simp only; omega)
theorem firstOf_at {β : Type} {q : β → Bool} {l : List β} {j : Nat} (hlt : j < l.length) (h : q l[j] = true) (hno : ∀ k (hk : k < l.length), k < j → q l[k] = false) : firstOf q l = j := by
  unfold firstOf
  rw [List.findIdx?_eq_some_iff_getElem.2 ⟨hlt, h, fun k hk => by rw [hno k (by omega) hk]; simp⟩]
theorem firstOf_none {β : Type} {q : β → Bool} {l : List β} (hno : ∀ k (hk : k < l.length), q l[k] = false) : firstOf q l = -1 := by
  unfold firstOf
  rw [List.findIdx?_eq_none_iff.2 (fun x hx => by obtain ⟨k, hk, rfl⟩ := List.getElem_of_mem hx; exact hno k hk)]
end Tr
end Go.Proofs.YtgcicljklejmjaaDoor

/- What all walks need of memory. -/
namespace Go.Proofs.YtgcicljklejmjaaDoor
open Go.RowKit

theorem tbB : Tb Tryd.prog 22 5 (.int .u8 0) 1 1 := ⟨by kernel_rfl, by kernel_rfl, rfl, by decide⟩

theorem one_cells {w : World} {p : Nat} {v : Value} {T : TypeId} (h : w.heap[p]? = some (.cells #[v] T (0, 0))) : w.cell? ⟨p, 0, none⟩ = some v ∧ (∀ o, w.frozen? ⟨p, o, none⟩ = false) ∧ p < w.heap.size := by
  refine ⟨by simp [World.cell?, h], fun o => by simp [World.frozen?, h], (Array.getElem?_eq_some_iff.1 h).1⟩

theorem four_cells {w : World} {p : Nat} {a b c d : Value} {T : TypeId} (h : w.heap[p]? = some (.cells #[a, b, c, d] T (0, 0))) :
    w.cell? ⟨p, 0, none⟩ = some a ∧ w.cell? ⟨p, 1, none⟩ = some b ∧ w.cell? ⟨p, 2, none⟩ = some c ∧ w.cell? ⟨p, 3, none⟩ = some d ∧ (∀ o, w.frozen? ⟨p, o, none⟩ = false) ∧ p < w.heap.size := by
  refine ⟨by simp [World.cell?, h], by simp [World.cell?, h], by simp [World.cell?, h], by simp [World.cell?, h], fun o => by simp [World.frozen?, h], (Array.getElem?_eq_some_iff.1 h).1⟩

def At (p : Nat) : Nat → Prop := fun k => k = p

theorem _root_.Go.Fr.setAt {p : Nat} {w w1 : World} (h : Fr (At p) w w1) (o : Nat) (v : Value) : Fr (At p) w (w1.setCell ⟨p, o, none⟩ v) := h.setCell _ _ (fun _ => rfl)

theorem fr_sooner {w w1 w2 : World} {S : Nat → Prop} (f : Fr no w w1) (g : Fr S w1 w2) : Fr S w w2 := (f.mono (fun _ _ h => h.elim)).trans g (fun _ _ h => h)

theorem results_tmp4 {fn : Func} {t u v x : Tmp} (h : fn.results = #[.tmp t, .tmp u, .tmp v, .tmp x]) (tmps : Array Value) (P : Program) (w : World) :
    (results fn tmps).run P w = .ok (.tuple #[tmps.getD t undef, tmps.getD u undef, tmps.getD v undef, tmps.getD x undef]) w := by
  simp [results, h]

theorem below_by {w0 w w1 : World} {S : Nat → Prop} (h : Below w0.heap.size w0 w) (f : Fr S w w1) (hS : ∀ k, S k → w0.heap.size ≤ k) : Below w0.heap.size w0 w1 := by
  have s := h.size
  exact ⟨f.os.trans h.os, f.tape.trans h.tape, f.output.trans h.output, Nat.le_trans s f.size, fun k hk => (f.block k (by omega) (fun h2 => by have := hS k h2; omega)).trans (h.block k hk)⟩

end Go.Proofs.YtgcicljklejmjaaDoor
