import Derived.Test.YtijcleiekafoiaaGreatDoorMb03

/- Keys without a program: the bytes of a value, and how they compare. -/
namespace Go.Proofs.YtijcleiekafoiaaGreatDoor
open Go.RowKit

/-- Two rows of bytes that part at some place within both: v says which is the lesser. -/
def Diff (a b : List UInt8) (v : Int) : Prop := ∃ p c d ra rb, a = p ++ c :: ra ∧ b = p ++ d :: rb ∧ ((c < d ∧ v = -1) ∨ (d < c ∧ v = 1))
theorem Diff.cb {a b : List UInt8} {v : Int} (h : Diff a b v) : cb a b = v := by
  obtain ⟨p, c, d, ra, rb, rfl, rfl, h⟩ := h
  unfold Proofs.YtijcleiekafoiaaGreatDoor.cb
  induction p with
  | nil =>
    rcases h with ⟨h, rfl⟩ | ⟨h, rfl⟩
    · simp [Lib.compareBytes, h]
    · have : ¬ c < d := UInt8.not_lt.2 (UInt8.le_of_lt h)
      simp [Lib.compareBytes, h, this]
  | cons x p ih => simpa [Lib.compareBytes] using ih
theorem Diff.pre {a b : List UInt8} {v : Int} (h : Diff a b v) (p : List UInt8) : Diff (p ++ a) (p ++ b) v := by
  obtain ⟨q, c, d, ra, rb, rfl, rfl, h⟩ := h
  exact ⟨p ++ q, c, d, ra, rb, by simp, by simp, h⟩
theorem Diff.post {a b : List UInt8} {v : Int} (h : Diff a b v) (s t : List UInt8) : Diff (a ++ s) (b ++ t) v := by
  obtain ⟨q, c, d, ra, rb, rfl, rfl, h⟩ := h
  exact ⟨q, c, d, ra ++ s, rb ++ t, by simp, by simp, h⟩
theorem Diff.swap {a b : List UInt8} {v : Int} (h : Diff a b v) : Diff b a (-v) := by
  obtain ⟨q, c, d, ra, rb, rfl, rfl, h⟩ := h
  exact ⟨q, d, c, rb, ra, rfl, rfl, h.elim (fun ⟨h, e⟩ => .inr ⟨h, by rw [e]; rfl⟩) (fun ⟨h, e⟩ => .inl ⟨h, by rw [e]⟩)⟩
theorem Diff.head {c d : UInt8} (h : c ≠ d) (s t : List UInt8) : Diff (c :: s) (d :: t) (if c < d then -1 else 1) := by
  refine ⟨[], c, d, s, t, rfl, rfl, ?_⟩
  by_cases hc : c < d
  · exact .inl ⟨hc, if_pos hc⟩
  · exact .inr ⟨(UInt8.lt_or_lt_of_ne h).elim (fun h => absurd h hc) (fun h => h), if_neg hc⟩
/-- Each byte turned over. -/
def turn (l : List UInt8) : List UInt8 := l.map (~~~·)
theorem not_lt_iff (c d : UInt8) : ~~~c < ~~~d ↔ d < c := by
  rw [UInt8.lt_iff_toNat_lt, UInt8.lt_iff_toNat_lt, UInt8.toNat_not, UInt8.toNat_not]
  have := c.toNat_lt
  have := d.toNat_lt
  simp only [UInt8.size] at *
  omega
theorem Diff.turn {a b : List UInt8} {v : Int} (h : Diff a b v) : Diff (turn a) (turn b) (-v) := by
  obtain ⟨q, c, d, ra, rb, rfl, rfl, h⟩ := h
  refine ⟨Proofs.YtijcleiekafoiaaGreatDoor.turn q, ~~~c, ~~~d, Proofs.YtijcleiekafoiaaGreatDoor.turn ra, Proofs.YtijcleiekafoiaaGreatDoor.turn rb, by simp [Proofs.YtijcleiekafoiaaGreatDoor.turn], by simp [Proofs.YtijcleiekafoiaaGreatDoor.turn], ?_⟩
  rcases h with ⟨h, rfl⟩ | ⟨h, rfl⟩
  · exact .inr ⟨(not_lt_iff d c).2 h, rfl⟩
  · exact .inl ⟨(not_lt_iff c d).2 h, rfl⟩
theorem turn_turn (l : List UInt8) : turn (turn l) = l := by
  unfold turn; rw [List.map_map]; conv => rhs; rw [← List.map_id l]
  congr 1; funext c; simp
theorem turn_len (l : List UInt8) : (turn l).length = l.length := by simp [turn]

/-- Bytes with each 0 marked. -/
def esc (l : List UInt8) : List UInt8 := l.flatMap fun c => if c = 0 then [0, 255] else [c]
theorem esc_cons (c : UInt8) (l : List UInt8) : esc (c :: l) = (if c = 0 then [0, 255] else [c]) ++ esc l := rfl
theorem esc_diff : ∀ (t u : List UInt8), cb t u ≠ 0 → Diff (esc t ++ [0, 1]) (esc u ++ [0, 1]) (cb t u)
  | [], [], h => absurd (cb_self []) h
  | [], c :: u, _ => by
    rw [esc_cons]
    by_cases hc : c = 0
    · subst hc
      exact ⟨[0], 1, 255, [], esc u ++ [0, 1], rfl, by simp, .inl ⟨by decide, rfl⟩⟩
    · rw [if_neg hc]
      refine ⟨[], 0, c, [1], esc u ++ [0, 1], rfl, by simp, .inl ⟨?_, rfl⟩⟩
      exact UInt8.pos_iff_ne_zero.2 hc
  | c :: t, [], _ => by
    rw [esc_cons]
    by_cases hc : c = 0
    · subst hc
      exact ⟨[0], 255, 1, esc t ++ [0, 1], [], by simp, rfl, .inr ⟨by decide, rfl⟩⟩
    · rw [if_neg hc]
      refine ⟨[], c, 0, esc t ++ [0, 1], [1], by simp, rfl, .inr ⟨?_, rfl⟩⟩
      exact UInt8.pos_iff_ne_zero.2 hc
  | c :: t, d :: u, h => by
    by_cases hcd : c = d
    · subst hcd
      have e : cb (c :: t) (c :: u) = cb t u := by unfold cb; simp [Lib.compareBytes]
      rw [e] at h ⊢
      rw [esc_cons, esc_cons, List.append_assoc, List.append_assoc]
      exact (esc_diff t u h).pre _
    · have e : cb (c :: t) (d :: u) = if c < d then -1 else 1 := by
        unfold cb
        by_cases h1 : c < d
        · simp [Lib.compareBytes, h1]
        · have h2 : d < c := (UInt8.lt_or_lt_of_ne hcd).elim (fun h => absurd h h1) (fun h => h)
          simp [Lib.compareBytes, h1, h2]
      rw [e, esc_cons, esc_cons]
      by_cases hc : c = 0
      · subst hc
        rw [if_pos rfl, if_neg (fun e => hcd e.symm)]
        exact Diff.head hcd _ _
      · rw [if_neg hc]
        by_cases hd : d = 0
        · subst hd
          rw [if_pos rfl]
          exact Diff.head hcd _ _
        · rw [if_neg hd]
          exact Diff.head hcd _ _

/-- A number of n bytes, the greatest first. -/
def be : Nat → Nat → List UInt8
  | 0, _ => []
  | n + 1, x => UInt8.ofNat (x / 256 ^ n) :: be n (x % 256 ^ n)
theorem be_len : ∀ (n x : Nat), (be n x).length = n
  | 0, _ => rfl
  | n + 1, x => by simp [be, be_len n]
theorem be_diff : ∀ (n x y : Nat), x < 256 ^ n → y < 256 ^ n → x ≠ y → Diff (be n x) (be n y) (if x < y then -1 else 1)
  | 0, x, y, hx, hy, h => absurd (show x = y by simp at hx hy; omega) h
  | n + 1, x, y, hx, hy, h => by
    have hp : 0 < 256 ^ n := Nat.pow_pos (by omega)
    have q1 : x / 256 ^ n < 256 := Nat.div_lt_of_lt_mul (by rw [Nat.pow_succ, Nat.mul_comm] at hx; rw [Nat.mul_comm]; simpa [Nat.mul_comm] using hx)
    have q2 : y / 256 ^ n < 256 := Nat.div_lt_of_lt_mul (by rw [Nat.pow_succ, Nat.mul_comm] at hy; rw [Nat.mul_comm]; simpa [Nat.mul_comm] using hy)
    have ex := Nat.div_add_mod x (256 ^ n)
    have ey := Nat.div_add_mod y (256 ^ n)
    have rx := Nat.mod_lt x hp
    have ry := Nat.mod_lt y hp
    unfold be
    by_cases hq : x / 256 ^ n = y / 256 ^ n
    · have hr : x % 256 ^ n ≠ y % 256 ^ n := fun e => h (by rw [← ex, ← ey, hq, e])
      rw [hq]
      have := (be_diff n _ _ rx ry hr).pre [UInt8.ofNat (y / 256 ^ n)]
      have e : (x < y) = (x % 256 ^ n < y % 256 ^ n) := by
        have h1 : x < y ↔ x % 256 ^ n < y % 256 ^ n := by
          rw [hq] at ex
          constructor <;> intro h2 <;> omega
        exact propext h1
      simp only [e]
      exact this
    · have hne : UInt8.ofNat (x / 256 ^ n) ≠ UInt8.ofNat (y / 256 ^ n) := fun e => hq (by
        have h5 := congrArg UInt8.toNat e
        rw [UInt8.toNat_ofNat', UInt8.toNat_ofNat'] at h5
        exact ((Nat.mod_eq_of_lt q1).symm.trans h5).trans (Nat.mod_eq_of_lt q2))
      have := Diff.head hne (be n (x % 256 ^ n)) (be n (y % 256 ^ n))
      have e : (x < y) = (UInt8.ofNat (x / 256 ^ n) < UInt8.ofNat (y / 256 ^ n)) := by
        refine propext ?_
        have t1 : (UInt8.ofNat (x / 256 ^ n)).toNat = x / 256 ^ n := by rw [UInt8.toNat_ofNat']; exact Nat.mod_eq_of_lt q1
        have t2 : (UInt8.ofNat (y / 256 ^ n)).toNat = y / 256 ^ n := by rw [UInt8.toNat_ofNat']; exact Nat.mod_eq_of_lt q2
        rw [UInt8.lt_iff_toNat_lt, t1, t2]
        constructor
        · intro h2
          have h3 : x / 256 ^ n ≤ y / 256 ^ n := Nat.div_le_div_right (Nat.le_of_lt h2)
          exact Nat.lt_of_le_of_ne h3 hq
        · intro h2
          refine Nat.lt_of_not_le fun h3 => ?_
          have h4 : y / 256 ^ n ≤ x / 256 ^ n := Nat.div_le_div_right h3
          exact absurd h2 (Nat.not_lt.2 h4)
      simp only [e]
      exact this
end Go.Proofs.YtijcleiekafoiaaGreatDoor

/- Values as they lie in memory: a tree, and where its lists lie. -/
namespace Go.Proofs.YtijcleiekafoiaaGreatDoor
open Go.RowKit

/-- Where the bytes, the list and the fields of a value lie. -/
abbrev Mm := Value × Value × Value
abbrev Vv := Tr Mm

structure I64 (i : Int) : Prop where
  lo : -9223372036854775808 ≤ i
  hi : i ≤ 9223372036854775807

namespace Tr
def B (x : Tr Mm) : Value := x.m.1
def L (x : Tr Mm) : Value := x.m.2.1
def F (x : Tr Mm) : Value := x.m.2.2
def cells (x : Tr Mm) : List Value := [.int .u8 x.k.toNat, .bool x.b, .int .i64 x.i, .string ⟨x.t.toArray⟩, x.B, x.L, x.F]
def agg (x : Tr Mm) : Value := .agg #[.int .u8 x.k.toNat, .bool x.b, .int .i64 x.i, .string ⟨x.t.toArray⟩, x.B, x.L, x.F]
def fcells (p : List UInt8 × Tr Mm) : List Value := .string ⟨p.1.toArray⟩ :: p.2.cells
def fagg (p : List UInt8 × Tr Mm) : Value := .agg #[.string ⟨p.1.toArray⟩, .int .u8 p.2.k.toNat, .bool p.2.b, .int .i64 p.2.i, .string ⟨p.2.t.toArray⟩, p.2.B, p.2.L, p.2.F]
theorem cells_len (x : Tr Mm) : x.cells.length = 7 := rfl
theorem fcells_len (p : List UInt8 × Tr Mm) : (fcells p).length = 8 := rfl

/-- One value, as it lies. -/
structure Node (w : World) (x : Tr Mm) : Prop where
  B : Sl w 1 x.B x.bs.length (bvs x.bs)
  L : Sl w 7 x.L x.l.length (x.l.flatMap cells)
  F : Sl w 8 x.F x.f.length (x.f.flatMap fcells)
  i : I64 x.i
  t : x.t.length ≤ reachBytes
  bs : x.bs.length ≤ reachBytes
  l : x.l.length ≤ reachBytes
  f : x.f.length ≤ reachBytes
  n : ∀ p ∈ x.f, p.1.length ≤ reachBytes
  lw : x.l.length * 104 ≤ reachBytes
  fw : x.f.length * 120 ≤ reachBytes
theorem Node.kept0 {w w1 : World} {x : Tr Mm} (h : Node w x) (f : Fr no w w1) : Node w1 x :=
  ⟨h.B.kept0 f, h.L.kept0 f, h.F.kept0 f, h.i, h.t, h.bs, h.l, h.f, h.n, h.lw, h.fw⟩

/-- It and all below, as they lie. -/
inductive Good (w : World) : Tr Mm → Prop
  | mk (x : Tr Mm) (node : Node w x) (kids : ∀ y ∈ x.kids, Good w y) : Good w x
theorem Good.node {w : World} {x : Tr Mm} : Good w x → Node w x | .mk _ h _ => h
theorem Good.kids {w : World} {x : Tr Mm} : Good w x → ∀ y ∈ x.kids, Good w y | .mk _ _ h => h
theorem Good.l {w : World} {x : Tr Mm} (h : Good w x) : ∀ y ∈ x.l, Good w y := fun y hy => h.kids y (List.mem_append_left _ hy)
theorem Good.f {w : World} {x : Tr Mm} (h : Good w x) : ∀ p ∈ x.f, Good w p.2 := fun p hp => h.kids p.2 (List.mem_append_right _ (List.mem_map_of_mem hp))
theorem Good.kept0 {w w1 : World} {x : Tr Mm} (h : Good w x) (f : Fr no w w1) : Good w1 x := by
  induction x using Tr.ind with
  | h x ih => exact ⟨x, h.node.kept0 f, fun y hy => ih y hy (h.kids y hy)⟩
theorem Good.pre {w : World} {x : Tr Mm} (h : Good w x) (d : Nat) : ∀ p ∈ pre d x, Good w p.2 := pre_all (P := Good w) (fun _ h => h.kids) d x h

/-- A list of values that came in. -/
structure In (w : World) (v : Value) (l : List (Tr Mm)) : Prop where
  sl : Sl w 7 v l.length (l.flatMap cells)
  good : ∀ y ∈ l, Good w y
  n : l.length ≤ reachBytes
  nw : l.length * 104 ≤ reachBytes
theorem In.kept0 {w w1 : World} {v : Value} {l : List (Tr Mm)} (h : In w v l) (f : Fr no w w1) : In w1 v l := ⟨h.sl.kept0 f, fun y hy => (h.good y hy).kept0 f, h.n, h.nw⟩
theorem Good.inL {w : World} {x : Tr Mm} (h : Good w x) : In w x.L x.l := ⟨h.node.L, h.l, h.node.l, h.node.lw⟩
/-- A list of fields. -/
structure InF (w : World) (v : Value) (l : List (List UInt8 × Tr Mm)) : Prop where
  sl : Sl w 8 v l.length (l.flatMap fcells)
  good : ∀ p ∈ l, Good w p.2
  n : l.length ≤ reachBytes
  nm : ∀ p ∈ l, p.1.length ≤ reachBytes
  nw : l.length * 120 ≤ reachBytes
theorem InF.kept0 {w w1 : World} {v : Value} {l : List (List UInt8 × Tr Mm)} (h : InF w v l) (f : Fr no w w1) : InF w1 v l := ⟨h.sl.kept0 f, fun y hy => (h.good y hy).kept0 f, h.n, h.nm, h.nw⟩
theorem Good.inF {w : World} {x : Tr Mm} (h : Good w x) : InF w x.F x.f := ⟨h.node.F, h.f, h.node.f, h.node.n, h.node.fw⟩

/-- The cells of the j-th of a list. -/
theorem flat7 (l : List (Tr Mm)) (j : Nat) (h : j < l.length) (i : Nat) (hi : i < 7) : (l.flatMap cells)[j * 7 + i]? = l[j].cells[i]? := by
  induction l generalizing j with
  | nil => simp at h
  | cons a l ih =>
    rw [List.flatMap_cons]
    cases j with
    | zero => rw [List.getElem?_append_left (by rw [cells_len]; omega)]; simp
    | succ j =>
      rw [List.getElem?_append_right (by rw [cells_len]; omega), cells_len, show (j + 1) * 7 + i - 7 = j * 7 + i by omega, ih j (by simpa using h)]
      rfl
theorem flat8 (l : List (List UInt8 × Tr Mm)) (j : Nat) (h : j < l.length) (i : Nat) (hi : i < 8) : (l.flatMap fcells)[j * 8 + i]? = (fcells l[j])[i]? := by
  induction l generalizing j with
  | nil => simp at h
  | cons a l ih =>
    rw [List.flatMap_cons]
    cases j with
    | zero => rw [List.getElem?_append_left (by rw [fcells_len]; omega)]; simp
    | succ j =>
      rw [List.getElem?_append_right (by rw [fcells_len]; omega), fcells_len, show (j + 1) * 8 + i - 8 = j * 8 + i by omega, ih j (by simpa using h)]
      rfl

theorem In.at {w : World} {A : Option Addr} {n c : Nat} {l : List (Tr Mm)} (h : Sl w 7 (.slice A n c) l.length (l.flatMap cells)) (j : Nat) (hj : j < l.length) :
    ∃ b o, A = some ⟨b, o, none⟩ ∧ w.cell? ⟨b, o + j * 7, none⟩ = some (.int .u8 l[j].k.toNat) ∧ w.cell? ⟨b, o + j * 7 + 1, none⟩ = some (.bool l[j].b) ∧ w.cell? ⟨b, o + j * 7 + 2, none⟩ = some (.int .i64 l[j].i) ∧
      w.cell? ⟨b, o + j * 7 + 3, none⟩ = some (.string ⟨l[j].t.toArray⟩) ∧ w.cell? ⟨b, o + j * 7 + 4, none⟩ = some l[j].B ∧ w.cell? ⟨b, o + j * 7 + 5, none⟩ = some l[j].L ∧ w.cell? ⟨b, o + j * 7 + 6, none⟩ = some l[j].F := by
  rcases h.2 with ⟨_, h1, h2⟩ | ⟨b, o, cap, h1, _, _, h4⟩
  · simp only [Value.slice.injEq] at h1
    have := h1.2.1
    have h3 := h2
    omega
  · simp only [Value.slice.injEq] at h1
    obtain ⟨rfl, rfl, rfl⟩ := h1
    refine ⟨b, o, rfl, ?_⟩
    have g : ∀ i u, l[j].cells[i]? = some u → i < 7 → w.cell? ⟨b, o + j * 7 + i, none⟩ = some u := fun i u hu hi => by
      rw [Nat.add_assoc]; exact h4 _ u (by rw [flat7 l j hj i hi]; exact hu)
    exact ⟨g 0 _ rfl (by omega), g 1 _ rfl (by omega), g 2 _ rfl (by omega), g 3 _ rfl (by omega), g 4 _ rfl (by omega), g 5 _ rfl (by omega), g 6 _ rfl (by omega)⟩
theorem InF.at {w : World} {A : Option Addr} {n c : Nat} {l : List (List UInt8 × Tr Mm)} (h : Sl w 8 (.slice A n c) l.length (l.flatMap fcells)) (j : Nat) (hj : j < l.length) :
    ∃ b o, A = some ⟨b, o, none⟩ ∧ w.cell? ⟨b, o + j * 8, none⟩ = some (.string ⟨l[j].1.toArray⟩) ∧ w.cell? ⟨b, o + j * 8 + 1, none⟩ = some (.int .u8 l[j].2.k.toNat) ∧ w.cell? ⟨b, o + j * 8 + 2, none⟩ = some (.bool l[j].2.b) ∧ w.cell? ⟨b, o + j * 8 + 3, none⟩ = some (.int .i64 l[j].2.i) ∧
      w.cell? ⟨b, o + j * 8 + 4, none⟩ = some (.string ⟨l[j].2.t.toArray⟩) ∧ w.cell? ⟨b, o + j * 8 + 5, none⟩ = some l[j].2.B ∧ w.cell? ⟨b, o + j * 8 + 6, none⟩ = some l[j].2.L ∧ w.cell? ⟨b, o + j * 8 + 7, none⟩ = some l[j].2.F := by
  rcases h.2 with ⟨_, h1, h2⟩ | ⟨b, o, cap, h1, _, _, h4⟩
  · simp only [Value.slice.injEq] at h1
    have := h1.2.1
    have h3 := h2
    omega
  · simp only [Value.slice.injEq] at h1
    obtain ⟨rfl, rfl, rfl⟩ := h1
    refine ⟨b, o, rfl, ?_⟩
    have g : ∀ i u, (fcells l[j])[i]? = some u → i < 8 → w.cell? ⟨b, o + j * 8 + i, none⟩ = some u := fun i u hu hi => by
      rw [Nat.add_assoc]; exact h4 _ u (by rw [flat8 l j hj i hi]; exact hu)
    exact ⟨g 0 _ rfl (by omega), g 1 _ rfl (by omega), g 2 _ rfl (by omega), g 3 _ rfl (by omega), g 4 _ rfl (by omega), g 5 _ rfl (by omega), g 6 _ rfl (by omega), g 7 _ rfl (by omega)⟩
end Tr
end Go.Proofs.YtijcleiekafoiaaGreatDoor
namespace Go.Proofs.YtijcleiekafoiaaGreatDoor
open Go.RowKit
namespace Tr
/-- A value's lists in the walk's own form. -/
structure Forms (x : Tr Mm) (BA : Option Addr) (bc : Nat) (LA : Option Addr) (lc : Nat) (FA : Option Addr) (fc : Nat) : Prop where
  B : x.B = .slice BA x.bs.length bc
  L : x.L = .slice LA x.l.length lc
  F : x.F = .slice FA x.f.length fc
  bl : x.bs.length ≤ bc
  ll : x.l.length ≤ lc
  fl : x.f.length ≤ fc
  bm : bc ≤ maxLen
  lm : lc ≤ maxLen
  fm : fc ≤ maxLen
theorem Node.forms {w : World} {x : Tr Mm} (h : Node w x) : ∃ BA bc LA lc FA fc, Forms x BA bc LA lc FA fc := by
  obtain ⟨BA, bc, e1, a1, b1⟩ := h.B.form
  obtain ⟨LA, lc, e2, a2, b2⟩ := h.L.form
  obtain ⟨FA, fc, e3, a3, b3⟩ := h.F.form
  exact ⟨BA, bc, LA, lc, FA, fc, e1, e2, e3, a1, a2, a3, b1, b2, b3⟩
theorem Forms.agg {x : Tr Mm} {BA LA FA : Option Addr} {bc lc fc : Nat} (h : Forms x BA bc LA lc FA fc) :
    x.agg = .agg #[.int .u8 x.k.toNat, .bool x.b, .int .i64 x.i, .string ⟨x.t.toArray⟩, .slice BA x.bs.length bc, .slice LA x.l.length lc, .slice FA x.f.length fc] := by
  unfold Tr.agg; rw [h.B, h.L, h.F]
/-- The cells of the j-th of a list, in the walk's own form. -/
theorem In.get {w : World} {A : Option Addr} {n c : Nat} {l : List (Tr Mm)} (h : In w (.slice A n c) l) (j : Nat) (hj : j < l.length) :
    ∃ b o BA bc LA lc FA fc, A = some ⟨b, o, none⟩ ∧ Forms l[j] BA bc LA lc FA fc ∧
      w.cell? ⟨b, o + j * 7, none⟩ = some (.int .u8 l[j].k.toNat) ∧ w.cell? ⟨b, o + j * 7 + 1, none⟩ = some (.bool l[j].b) ∧ w.cell? ⟨b, o + j * 7 + 2, none⟩ = some (.int .i64 l[j].i) ∧
      w.cell? ⟨b, o + j * 7 + 3, none⟩ = some (.string ⟨l[j].t.toArray⟩) ∧ w.cell? ⟨b, o + j * 7 + 4, none⟩ = some (.slice BA l[j].bs.length bc) ∧ w.cell? ⟨b, o + j * 7 + 5, none⟩ = some (.slice LA l[j].l.length lc) ∧
      w.cell? ⟨b, o + j * 7 + 6, none⟩ = some (.slice FA l[j].f.length fc) ∧ b < w.heap.size := by
  obtain ⟨b, o, e, q0, q1, q2, q3, q4, q5, q6⟩ := In.at h.sl j hj
  obtain ⟨BA, bc, LA, lc, FA, fc, hf⟩ := (h.good l[j] (List.getElem_mem _)).node.forms
  rw [hf.B] at q4; rw [hf.L] at q5; rw [hf.F] at q6
  exact ⟨b, o, BA, bc, LA, lc, FA, fc, e, hf, q0, q1, q2, q3, q4, q5, q6, World.block_lt_of_cell? w _ q0⟩
theorem InF.get {w : World} {A : Option Addr} {n c : Nat} {l : List (List UInt8 × Tr Mm)} (h : InF w (.slice A n c) l) (j : Nat) (hj : j < l.length) :
    ∃ b o BA bc LA lc FA fc, A = some ⟨b, o, none⟩ ∧ Forms l[j].2 BA bc LA lc FA fc ∧ w.cell? ⟨b, o + j * 8, none⟩ = some (.string ⟨l[j].1.toArray⟩) ∧
      w.cell? ⟨b, o + j * 8 + 1, none⟩ = some (.int .u8 l[j].2.k.toNat) ∧ w.cell? ⟨b, o + j * 8 + 2, none⟩ = some (.bool l[j].2.b) ∧ w.cell? ⟨b, o + j * 8 + 3, none⟩ = some (.int .i64 l[j].2.i) ∧
      w.cell? ⟨b, o + j * 8 + 4, none⟩ = some (.string ⟨l[j].2.t.toArray⟩) ∧ w.cell? ⟨b, o + j * 8 + 5, none⟩ = some (.slice BA l[j].2.bs.length bc) ∧ w.cell? ⟨b, o + j * 8 + 6, none⟩ = some (.slice LA l[j].2.l.length lc) ∧
      w.cell? ⟨b, o + j * 8 + 7, none⟩ = some (.slice FA l[j].2.f.length fc) ∧ b < w.heap.size := by
  obtain ⟨b, o, e, q0, q1, q2, q3, q4, q5, q6, q7⟩ := InF.at h.sl j hj
  obtain ⟨BA, bc, LA, lc, FA, fc, hf⟩ := (h.good l[j] (List.getElem_mem _)).node.forms
  rw [hf.B] at q5; rw [hf.L] at q6; rw [hf.F] at q7
  exact ⟨b, o, BA, bc, LA, lc, FA, fc, e, hf, q0, q1, q2, q3, q4, q5, q6, q7, World.block_lt_of_cell? w _ q0⟩

def firstOf {β : Type} (q : β → Bool) (l : List β) : Int := match l.findIdx? q with | some i => i | none => -1
theorem firstOf_any {β : Type} (q : β → Bool) (l : List β) : decide (0 ≤ firstOf q l) = l.any q := by
  unfold firstOf
  cases h : l.findIdx? q with
  | none =>
    rw [List.findIdx?_eq_none_iff] at h
    have : l.any q = false := by rw [List.any_eq_false]; intro x hx; rw [h x hx]; exact Bool.false_ne_true
    rw [this]; rfl
  | some i =>
    obtain ⟨hi, hq, _⟩ := List.findIdx?_eq_some_iff_getElem.1 h
    have : l.any q = true := List.any_eq_true.2 ⟨_, List.getElem_mem hi, hq⟩
    rw [this]
    exact decide_eq_true (by simp only; omega)
theorem firstOf_at {β : Type} {q : β → Bool} {l : List β} {j : Nat} (hlt : j < l.length) (h : q l[j] = true) (hno : ∀ k (hk : k < l.length), k < j → q l[k] = false) : firstOf q l = j := by
  unfold firstOf
  rw [List.findIdx?_eq_some_iff_getElem.2 ⟨hlt, h, fun k hk => by rw [hno k (by omega) hk]; simp⟩]
theorem firstOf_none {β : Type} {q : β → Bool} {l : List β} (hno : ∀ k (hk : k < l.length), q l[k] = false) : firstOf q l = -1 := by
  unfold firstOf
  rw [List.findIdx?_eq_none_iff.2 (fun x hx => by obtain ⟨k, hk, rfl⟩ := List.getElem_of_mem hx; exact hno k hk)]
end Tr
end Go.Proofs.YtijcleiekafoiaaGreatDoor

/- Keys without a program: the bytes of a value compare as the values do. -/
namespace Go.Proofs.YtijcleiekafoiaaGreatDoor
open Go.RowKit
namespace Tr
variable {α β : Type}

/-- A whole number, made to rise. -/
def ofs (i : Int) : Nat := (i + 9223372036854775808).toNat
theorem ofs_lt {i : Int} (h : I64 i) : ofs i < 256 ^ 8 := by have := h.lo; have := h.hi; unfold ofs; omega
theorem ofs_lt_iff {i j : Int} (hi : I64 i) (hj : I64 j) : ofs i < ofs j ↔ i < j := by have := hi.lo; have := hj.lo; unfold ofs; omega
theorem ofs_inj {i j : Int} (hi : I64 i) (hj : I64 j) (h : ofs i = ofs j) : i = j := by have := hi.lo; have := hj.lo; unfold ofs at h; omega

/-- The bytes of a value. -/
def enc (x : Tr α) : List UInt8 :=
  if x.k = 1 then [16] else if x.k = 2 then [if x.b then 33 else 32] else if x.k = 3 then 48 :: be 8 (ofs x.i)
  else if x.k = 4 then 64 :: (esc x.t ++ [0, 1]) else if x.k = 5 then 80 :: (esc x.bs ++ [0, 1])
  else if x.k = 6 then 96 :: ((x.l.attach.flatMap fun y => enc y.1) ++ [1]) else []
termination_by SizeOf.sizeOf x
decreasing_by exact mem_l_lt y.2
theorem enc_eq (x : Tr α) : enc x = if x.k = 1 then [16] else if x.k = 2 then [if x.b then 33 else 32] else if x.k = 3 then 48 :: be 8 (ofs x.i)
    else if x.k = 4 then 64 :: (esc x.t ++ [0, 1]) else if x.k = 5 then 80 :: (esc x.bs ++ [0, 1])
    else if x.k = 6 then 96 :: (x.l.flatMap enc ++ [1]) else [] := by
  rw [enc, List.flatMap_subtype (g := enc) (fun _ _ => rfl), List.unattach_attach]

mutual
/-- The order of values. -/
def cmp (x : Tr α) (y : Tr β) : Int :=
  if x.k ≠ y.k then (if x.k < y.k then -1 else 1)
  else if x.k = 2 then (if x.b = y.b then 0 else if y.b then -1 else 1)
  else if x.k = 3 then (if x.i < y.i then -1 else if y.i < x.i then 1 else 0)
  else if x.k = 4 then cb x.t y.t
  else if x.k = 5 then cb x.bs y.bs
  else if x.k = 6 then cmpL x.l y.l
  else if x.k = 7 then cmpF x.f y.f
  else 0
termination_by SizeOf.sizeOf x
decreasing_by
  · cases x; simp only [l, mk.sizeOf_spec]; omega
  · cases x; simp only [f, mk.sizeOf_spec]; omega
def cmpL : List (Tr α) → List (Tr β) → Int
  | [], [] => 0
  | [], _ :: _ => -1
  | _ :: _, [] => 1
  | x :: l, y :: k => if cmp x y ≠ 0 then cmp x y else cmpL l k
termination_by l => SizeOf.sizeOf l
def cmpF : List (List UInt8 × Tr α) → List (List UInt8 × Tr β) → Int
  | [], [] => 0
  | [], _ :: _ => -1
  | _ :: _, [] => 1
  | (n, x) :: l, (m, y) :: k => if cb n m ≠ 0 then cb n m else if cmp x y ≠ 0 then cmp x y else cmpF l k
termination_by l => SizeOf.sizeOf l
end

/-- Of a kind that has a key's bytes. -/
def Keyed (x : Tr α) : Prop := (x.k = 1 ∨ x.k = 2 ∨ x.k = 3 ∨ x.k = 4 ∨ x.k = 5 ∨ x.k = 6) ∧ I64 x.i
/-- All of it is. -/
inductive KeyedAll : Tr α → Prop
  | mk (x : Tr α) (h : Keyed x) (hl : ∀ y ∈ x.l, KeyedAll y) : KeyedAll x
theorem KeyedAll.here {x : Tr α} : KeyedAll x → Keyed x | .mk _ h _ => h
theorem KeyedAll.l {x : Tr α} : KeyedAll x → ∀ y ∈ x.l, KeyedAll y | .mk _ _ h => h

/-- The first byte of a kind. -/
def tag (k : UInt8) (b : Bool) : UInt8 := if k = 2 ∧ b = true then 33 else k * 16
theorem enc_head {x : Tr α} (h : Keyed x) : ∃ r, enc x = tag x.k x.b :: r := by
  rw [enc_eq]
  rcases h.1 with h | h | h | h | h | h <;> rw [h] <;> simp [tag]
theorem tag_lt {k j : UInt8} {b c : Bool} (hk : k = 1 ∨ k = 2 ∨ k = 3 ∨ k = 4 ∨ k = 5 ∨ k = 6) (hj : j = 1 ∨ j = 2 ∨ j = 3 ∨ j = 4 ∨ j = 5 ∨ j = 6) (h : k ≠ j) : tag k b ≠ tag j c ∧ (tag k b < tag j c ↔ k < j) ∧ 1 < tag k b ∧ 1 < tag j c := by
  rcases hk with rfl | rfl | rfl | rfl | rfl | rfl <;> rcases hj with rfl | rfl | rfl | rfl | rfl | rfl <;> cases b <;> cases c <;> first | exact absurd rfl h | decide
theorem one_lt_tag {k : UInt8} {b : Bool} (hk : k = 1 ∨ k = 2 ∨ k = 3 ∨ k = 4 ∨ k = 5 ∨ k = 6) : 1 < tag k b := by
  rcases hk with rfl | rfl | rfl | rfl | rfl | rfl <;> cases b <;> decide

/-- As one: bytes as the values compare. -/
def AsOne (a b : List UInt8) (v : Int) : Prop := (v = 0 → a = b) ∧ (v ≠ 0 → Diff a b v)

theorem list_asone : ∀ (l : List (Tr α)) (k : List (Tr β)), (∀ x ∈ l, Keyed x) → (∀ y ∈ k, Keyed y) → (∀ x ∈ l, ∀ y ∈ k, AsOne (enc x) (enc y) (cmp x y)) → AsOne (l.flatMap enc ++ [1]) (k.flatMap enc ++ [1]) (cmpL l k)
  | [], [], _, _, _ => by rw [cmpL]; exact ⟨fun _ => rfl, fun h => absurd rfl h⟩
  | [], y :: k, _, hk, _ => by
    rw [cmpL]
    refine ⟨fun h => absurd h (by decide), fun _ => ?_⟩
    obtain ⟨r, hr⟩ := enc_head (hk y (List.mem_cons_self ..))
    rw [List.flatMap_cons, hr]
    have h1 := one_lt_tag (b := y.b) (hk y (List.mem_cons_self ..)).1
    exact ⟨[], 1, tag y.k y.b, [], r ++ (k.flatMap enc) ++ [1], rfl, by simp, .inl ⟨h1, rfl⟩⟩
  | x :: l, [], hl, _, _ => by
    rw [cmpL]
    refine ⟨fun h => absurd h (by decide), fun _ => ?_⟩
    obtain ⟨r, hr⟩ := enc_head (hl x (List.mem_cons_self ..))
    rw [List.flatMap_cons, hr]
    have h1 := one_lt_tag (b := x.b) (hl x (List.mem_cons_self ..)).1
    exact ⟨[], tag x.k x.b, 1, r ++ (l.flatMap enc) ++ [1], [], by simp, rfl, .inr ⟨h1, rfl⟩⟩
  | x :: l, y :: k, hl, hk, h => by
    rw [cmpL, List.flatMap_cons, List.flatMap_cons, List.append_assoc, List.append_assoc]
    have h1 := h x (List.mem_cons_self ..) y (List.mem_cons_self ..)
    have ih := list_asone l k (fun x hx => hl x (List.mem_cons_of_mem _ hx)) (fun y hy => hk y (List.mem_cons_of_mem _ hy)) (fun x hx y hy => h x (List.mem_cons_of_mem _ hx) y (List.mem_cons_of_mem _ hy))
    by_cases hc : cmp x y = 0
    · rw [if_neg (by rw [hc]; exact fun h => h rfl), h1.1 hc]
      exact ⟨fun e => by rw [ih.1 e], fun e => (ih.2 e).pre _⟩
    · rw [if_pos hc]
      exact ⟨fun e => absurd e hc, fun e => (h1.2 e).post _ _⟩

/-- The bytes of values compare as they do; none begins with another's. -/
theorem enc_asone (x : Tr α) (y : Tr β) (hx : KeyedAll x) (hy : KeyedAll y) : AsOne (enc x) (enc y) (cmp x y) := by
  induction x using Tr.ind generalizing y with
  | h x ih =>
    rw [cmp]
    by_cases hk : x.k = y.k
    · rw [if_neg (fun h => h hk)]
      rw [enc_eq x, enc_eq y, ← hk]
      rcases hx.here.1 with h | h | h | h | h | h <;> rw [h]
      · simp only [if_true, show ((1 : UInt8) = 2) = False from by decide, show ((1 : UInt8) = 3) = False from by decide, show ((1 : UInt8) = 4) = False from by decide, show ((1 : UInt8) = 5) = False from by decide, show ((1 : UInt8) = 6) = False from by decide, show ((1 : UInt8) = 7) = False from by decide, if_false]
        exact ⟨fun _ => rfl, fun h => absurd rfl h⟩
      · simp only [show ((2 : UInt8) = 1) = False from by decide, if_true, if_false]
        cases x.b <;> cases y.b <;> simp only [if_true, if_false, Bool.false_eq_true, Bool.true_eq_false]
        · exact ⟨fun _ => rfl, fun h => absurd rfl h⟩
        · exact ⟨fun h => absurd h (by decide), fun _ => ⟨[], 32, 33, [], [], rfl, rfl, .inl ⟨by decide, rfl⟩⟩⟩
        · exact ⟨fun h => absurd h (by decide), fun _ => ⟨[], 33, 32, [], [], rfl, rfl, .inr ⟨by decide, rfl⟩⟩⟩
        · exact ⟨fun _ => rfl, fun h => absurd rfl h⟩
      · simp only [show ((3 : UInt8) = 1) = False from by decide, show ((3 : UInt8) = 2) = False from by decide, if_true, if_false]
        have i1 := hx.here.2
        have i2 := hy.here.2
        by_cases hi : x.i = y.i
        · rw [hi, if_neg (by omega), if_neg (by omega)]
          exact ⟨fun _ => rfl, fun h => absurd rfl h⟩
        · have hne : ofs x.i ≠ ofs y.i := fun e => hi (ofs_inj i1 i2 e)
          have hd := (be_diff 8 _ _ (ofs_lt i1) (ofs_lt i2) hne).pre [48]
          have e : (if x.i < y.i then (-1 : Int) else if y.i < x.i then 1 else 0) = if ofs x.i < ofs y.i then -1 else 1 := by
            by_cases h1 : x.i < y.i
            · rw [if_pos h1, if_pos ((ofs_lt_iff i1 i2).2 h1)]
            · rw [if_neg h1, if_pos (by omega), if_neg (fun h => h1 ((ofs_lt_iff i1 i2).1 h))]
          rw [e]
          refine ⟨fun h => ?_, fun _ => hd⟩
          split at h <;> exact absurd h (by decide)
      · simp only [show ((4 : UInt8) = 1) = False from by decide, show ((4 : UInt8) = 2) = False from by decide, show ((4 : UInt8) = 3) = False from by decide, if_true, if_false]
        exact ⟨fun e => by rw [cb_eq e], fun e => (esc_diff _ _ e).pre [64]⟩
      · simp only [show ((5 : UInt8) = 1) = False from by decide, show ((5 : UInt8) = 2) = False from by decide, show ((5 : UInt8) = 3) = False from by decide, show ((5 : UInt8) = 4) = False from by decide, if_true, if_false]
        exact ⟨fun e => by rw [cb_eq e], fun e => (esc_diff _ _ e).pre [80]⟩
      · simp only [show ((6 : UInt8) = 1) = False from by decide, show ((6 : UInt8) = 2) = False from by decide, show ((6 : UInt8) = 3) = False from by decide, show ((6 : UInt8) = 4) = False from by decide, show ((6 : UInt8) = 5) = False from by decide, if_true, if_false]
        have hl := list_asone x.l y.l (fun z hz => (hx.l z hz).here) (fun z hz => (hy.l z hz).here) (fun z hz z' hz' => ih z (List.mem_append_left _ hz) z' (hx.l z hz) (hy.l z' hz'))
        exact ⟨fun e => by rw [hl.1 e], fun e => (hl.2 e).pre [96]⟩
    · rw [if_pos hk]
      obtain ⟨r, hr⟩ := enc_head hx.here
      obtain ⟨s, hs⟩ := enc_head hy.here
      obtain ⟨t1, t2, _⟩ := tag_lt (b := x.b) (c := y.b) hx.here.1 hy.here.1 hk
      rw [hr, hs]
      have hd := Diff.head t1 r s
      have e : (if x.k < y.k then (-1 : Int) else 1) = if tag x.k x.b < tag y.k y.b then -1 else 1 := by simp only [t2]
      rw [e]
      exact ⟨fun h => (by split at h <;> exact absurd h (by decide)), fun _ => hd⟩
end Tr
end Go.Proofs.YtijcleiekafoiaaGreatDoor

/- Keys without a program: bytes read as a value; and back. -/
namespace Go.Proofs.YtijcleiekafoiaaGreatDoor
open Go.RowKit

/-- Bytes up to their end, and what stands behind. -/
def unesc : List UInt8 → Option (List UInt8 × List UInt8)
  | [] => none
  | c :: r => if c ≠ 0 then (unesc r).map fun p => (c :: p.1, p.2) else
    match r with
    | [] => none
    | d :: r' => if d = 1 then some ([], r') else if d = 255 then (unesc r').map fun p => (0 :: p.1, p.2) else none

theorem unesc_ne {c : UInt8} {r : List UInt8} (h : c ≠ 0) : unesc (c :: r) = (unesc r).map fun p => (c :: p.1, p.2) := by
  conv => lhs; unfold unesc
  rw [if_pos h]
theorem unesc_zero {d : UInt8} {r : List UInt8} : unesc (0 :: d :: r) = if d = 1 then some ([], r) else if d = 255 then (unesc r).map fun p => (0 :: p.1, p.2) else none := by
  conv => lhs; unfold unesc
  rw [if_neg (fun h => h rfl)]
theorem unesc_esc (t s : List UInt8) : unesc (esc t ++ 0 :: 1 :: s) = some (t, s) := by
  induction t with
  | nil => show unesc (0 :: 1 :: s) = _; rw [unesc_zero]; rfl
  | cons c t ih =>
    rw [esc_cons]
    by_cases h : c = 0
    · subst h
      show unesc (0 :: 255 :: (esc t ++ 0 :: 1 :: s)) = _
      rw [unesc_zero, if_neg (by decide), if_pos rfl, ih]; rfl
    · rw [if_neg h]
      show unesc (c :: (esc t ++ 0 :: 1 :: s)) = _
      rw [unesc_ne h, ih]; rfl
theorem esc_unesc : ∀ (n : Nat) (b t s : List UInt8), b.length ≤ n → unesc b = some (t, s) → b = esc t ++ 0 :: 1 :: s
  | 0, b, t, s, hn, h => by
    have : b = [] := List.eq_nil_of_length_eq_zero (by omega)
    subst this; cases h
  | n + 1, [], t, s, _, h => by cases h
  | n + 1, c :: r, t, s, hn, h => by
    simp only [List.length_cons] at hn
    by_cases hc : c = 0
    · subst hc
      cases r with
      | nil => unfold unesc at h; rw [if_neg (fun h => h rfl)] at h; cases h
      | cons d r =>
        rw [unesc_zero] at h
        by_cases h1 : d = 1
        · subst h1; rw [if_pos rfl] at h; cases h; rfl
        · rw [if_neg h1] at h
          by_cases h2 : d = 255
          · subst h2
            rw [if_pos rfl, Option.map_eq_some_iff] at h
            obtain ⟨⟨t', s'⟩, h3, h4⟩ := h
            cases h4
            have := esc_unesc n r t' s' (by simp only [List.length_cons] at hn; omega) h3
            rw [esc_cons, if_pos rfl, this]; rfl
          · rw [if_neg h2] at h; cases h
    · rw [unesc_ne hc, Option.map_eq_some_iff] at h
      obtain ⟨⟨t', s'⟩, h3, h4⟩ := h
      cases h4
      have := esc_unesc n r t' s' (by omega) h3
      rw [esc_cons, if_neg hc, this]; rfl

/-- Bytes as a number, the greatest first. -/
def un (n : Nat) : List UInt8 → Nat
  | [] => n
  | c :: r => un (n * 256 + c.toNat) r
theorem un_add : ∀ (l : List UInt8) (n : Nat), un n l = n * 256 ^ l.length + un 0 l
  | [], n => by simp [un]
  | c :: r, n => by
    show un (n * 256 + c.toNat) r = n * 256 ^ (r.length + 1) + un (0 * 256 + c.toNat) r
    rw [un_add r (n * 256 + c.toNat), un_add r (0 * 256 + c.toNat), Nat.pow_succ, Nat.add_mul, Nat.zero_mul, Nat.zero_add, Nat.mul_assoc, Nat.mul_comm 256, Nat.add_assoc]
theorem un_lt : ∀ (l : List UInt8), un 0 l < 256 ^ l.length
  | [] => by simp [un]
  | c :: r => by
    show un (0 * 256 + c.toNat) r < 256 ^ (r.length + 1)
    rw [un_add, Nat.zero_mul, Nat.zero_add, Nat.pow_succ]
    have h1 := un_lt r
    have h2 := c.toNat_lt
    have h3 : c.toNat * 256 ^ r.length + 256 ^ r.length ≤ 256 ^ r.length * 256 := by
      rw [Nat.mul_comm (256 ^ r.length) 256, ← Nat.succ_mul]
      exact Nat.mul_le_mul_right _ (by omega)
    omega
theorem un_be : ∀ (n x : Nat), x < 256 ^ n → un 0 (be n x) = x
  | 0, x, h => by simp at h; subst h; rfl
  | n + 1, x, h => by
    have hp : 0 < 256 ^ n := Nat.pow_pos (by omega)
    have q1 : x / 256 ^ n < 256 := Nat.div_lt_of_lt_mul (by rw [Nat.pow_succ] at h; exact h)
    show un (0 * 256 + (UInt8.ofNat (x / 256 ^ n)).toNat) (be n (x % 256 ^ n)) = x
    have t1 : (UInt8.ofNat (x / 256 ^ n)).toNat = x / 256 ^ n := by rw [UInt8.toNat_ofNat']; exact Nat.mod_eq_of_lt q1
    rw [un_add, be_len, un_be n _ (Nat.mod_lt _ hp), t1, Nat.zero_mul, Nat.zero_add, Nat.mul_comm]
    exact Nat.div_add_mod x (256 ^ n)
theorem be_un : ∀ (l : List UInt8), be l.length (un 0 l) = l
  | [] => rfl
  | c :: r => by
    have h1 := un_lt r
    have hp : 0 < 256 ^ r.length := Nat.pow_pos (by omega)
    have e : un 0 (c :: r) = c.toNat * 256 ^ r.length + un 0 r := by
      show un (0 * 256 + c.toNat) r = _
      rw [un_add, Nat.zero_mul, Nat.zero_add]
    rw [List.length_cons]
    unfold be
    have e1 : un 0 (c :: r) / 256 ^ r.length = c.toNat := by
      rw [e, Nat.mul_comm, Nat.mul_add_div hp, Nat.div_eq_of_lt h1, Nat.add_zero]
    have e2 : un 0 (c :: r) % 256 ^ r.length = un 0 r := by
      rw [e, Nat.mul_comm, Nat.mul_add_mod, Nat.mod_eq_of_lt h1]
    rw [e1, e2, be_un r]
    congr 1
    exact UInt8.ofNat_toNat

namespace Tr
/-- A number as a whole one. -/
def ios (n : Nat) : Int := (n : Int) - 9223372036854775808
theorem ios_ofs {i : Int} (h : I64 i) : ios (ofs i) = i := by have := h.lo; unfold ios ofs; omega
theorem ofs_ios {n : Nat} (_ : n < 256 ^ 8) : ofs (ios n) = n := by unfold ios ofs; omega
theorem ios_i64 {n : Nat} (h : n < 256 ^ 8) : I64 (ios n) := by
  have e : (256 : Nat) ^ 8 = 18446744073709551616 := by decide
  rw [e] at h
  unfold ios
  exact ⟨by omega, by omega⟩

/-- A value of nothing but its kind. -/
def only (k : UInt8) : Tr Unit := .mk k false 0 [] [] () [] []
def decL (g : List UInt8 → Option (Tr Unit × List UInt8)) : Nat → List UInt8 → Option (List (Tr Unit) × List UInt8)
  | 0, _ => none
  | _ + 1, [] => none
  | n + 1, c :: r => if c = 1 then some ([], r) else
    match g (c :: r) with
    | none => none
    | some (x, s) => (decL g n s).map fun p => (x :: p.1, p.2)
/-- The value that bytes begin with, no deeper than that, and what stands behind. -/
def dec : Nat → List UInt8 → Option (Tr Unit × List UInt8)
  | 0, _ => none
  | _ + 1, [] => none
  | d + 1, c :: r =>
    if c = 16 then some (only 1, r) else if c = 32 then some (only 2, r) else if c = 33 then some (.mk 2 true 0 [] [] () [] [], r)
    else if c = 48 then (if r.length < 8 then none else some (.mk 3 false (ios (un 0 (r.take 8))) [] [] () [] [], r.drop 8))
    else if c = 64 then (unesc r).map fun p => (.mk 4 false 0 p.1 [] () [] [], p.2)
    else if c = 80 then (unesc r).map fun p => (.mk 5 false 0 [] p.1 () [] [], p.2)
    else if c = 96 then (decL (dec d) (r.length + 1) r).map fun p => (.mk 6 false 0 [] [] () p.1 [], p.2)
    else none

/-- What is there but for its kind is nothing. -/
structure Plain {α : Type} (x : Tr α) : Prop where
  b : x.k ≠ 2 → x.b = false
  i : x.k ≠ 3 → x.i = 0
  t : x.k ≠ 4 → x.t = []
  bs : x.k ≠ 5 → x.bs = []
  l : x.k ≠ 6 → x.l = []
  f : x.f = []
inductive PlainAll {α : Type} : Tr α → Prop
  | mk (x : Tr α) (h : Plain x) (hl : ∀ y ∈ x.l, PlainAll y) : PlainAll x
theorem PlainAll.here {α : Type} {x : Tr α} : PlainAll x → Plain x | .mk _ h _ => h
theorem PlainAll.l {α : Type} {x : Tr α} : PlainAll x → ∀ y ∈ x.l, PlainAll y | .mk _ _ h => h

theorem tr_ext {x y : Tr Unit} (hk : x.k = y.k) (hb : x.b = y.b) (hi : x.i = y.i) (ht : x.t = y.t) (hs : x.bs = y.bs) (hl : x.l = y.l) (hf : x.f = y.f) : x = y := by
  cases x; cases y
  simp only [k, b, i, t, bs, l, f] at *
  subst hk hb hi ht hs hl hf; rfl

theorem decL_enc {α : Type} {g : List UInt8 → Option (Tr Unit × List UInt8)} : ∀ (l : List (Tr α)) (n : Nat) (s : List UInt8), (∀ x ∈ l, Keyed x) → (∀ x ∈ l, ∀ s, g (enc x ++ s) = some (bare x, s)) → l.length < n → decL g n (l.flatMap enc ++ 1 :: s) = some (l.map bare, s)
  | [], n + 1, s, _, _, _ => by simp [decL]
  | x :: l, n + 1, s, hk, hg, hn => by
    obtain ⟨r, hr⟩ := enc_head (hk x (List.mem_cons_self ..))
    have h1 := one_lt_tag (b := x.b) (hk x (List.mem_cons_self ..)).1
    have h2 := hg x (List.mem_cons_self ..) (l.flatMap enc ++ 1 :: s)
    rw [List.flatMap_cons, List.append_assoc]
    rw [hr, List.cons_append] at h2 ⊢
    unfold decL
    rw [if_neg (fun e => by rw [e] at h1; exact absurd h1 (by decide)), h2]
    simp only [decL_enc l n s (fun x hx => hk x (List.mem_cons_of_mem _ hx)) (fun x hx => hg x (List.mem_cons_of_mem _ hx)) (by simp only [List.length_cons] at hn; omega), Option.map_some, List.map_cons]
  | l, 0, s, _, _, hn => by omega

theorem len_flat_enc {α : Type} : ∀ (l : List (Tr α)), (∀ x ∈ l, Keyed x) → l.length ≤ (l.flatMap enc).length
  | [], _ => by simp
  | x :: l, h => by
    obtain ⟨r, hr⟩ := enc_head (h x (List.mem_cons_self ..))
    rw [List.flatMap_cons, hr, List.length_append, List.length_cons, List.length_cons]
    have := len_flat_enc l (fun x hx => h x (List.mem_cons_of_mem _ hx))
    omega

/-- What is written is read as it was. -/
theorem dec_enc {α : Type} (d : Nat) (x : Tr α) (s : List UInt8) (hk : KeyedAll x) (hp : PlainAll x) (hd : deep d x = false) : dec d (enc x ++ s) = some (bare x, s) := by
  induction d generalizing x s with
  | zero => simp [deep] at hd
  | succ d ih =>
    rw [enc_eq]
    have p := hp.here
    have hb : ∀ {y : Tr Unit}, y.k = x.k → y.b = x.b → y.i = x.i → y.t = x.t → y.bs = x.bs → y.l = x.l.map bare → y.f = [] → y = bare x := fun h1 h2 h3 h4 h5 h6 h7 => tr_ext (by rw [h1, bare_k]) (by rw [h2, bare_b]) (by rw [h3, bare_i]) (by rw [h4, bare_t]) (by rw [h5, bare_bs]) (by rw [h6, bare_l]) (by rw [h7, bare_f, p.f]; rfl)
    rcases hk.here.1 with h | h | h | h | h | h <;> rw [h]
    · have e := hb (y := only 1) h.symm (p.b (by rw [h]; decide)).symm (p.i (by rw [h]; decide)).symm (p.t (by rw [h]; decide)).symm (p.bs (by rw [h]; decide)).symm (by rw [p.l (by rw [h]; decide)]; rfl) rfl
      rw [← e]; rfl
    · cases hbv : x.b with
      | false =>
        have e := hb (y := only 2) h.symm hbv.symm (p.i (by rw [h]; decide)).symm (p.t (by rw [h]; decide)).symm (p.bs (by rw [h]; decide)).symm (by rw [p.l (by rw [h]; decide)]; rfl) rfl
        rw [← e]; rfl
      | true =>
        have e := hb (y := .mk 2 true 0 [] [] () [] []) h.symm hbv.symm (p.i (by rw [h]; decide)).symm (p.t (by rw [h]; decide)).symm (p.bs (by rw [h]; decide)).symm (by rw [p.l (by rw [h]; decide)]; rfl) rfl
        rw [← e]; rfl
    · have hl := be_len 8 (ofs x.i)
      have e := hb (y := .mk 3 false (ios (un 0 (be 8 (ofs x.i)))) [] [] () [] []) h.symm (p.b (by rw [h]; decide)).symm (by rw [un_be 8 _ (ofs_lt hk.here.2)]; exact ios_ofs hk.here.2) (p.t (by rw [h]; decide)).symm (p.bs (by rw [h]; decide)).symm (by rw [p.l (by rw [h]; decide)]; rfl) rfl
      rw [← e]
      show dec (d + 1) (48 :: (be 8 (ofs x.i) ++ s)) = _
      unfold dec
      rw [if_neg (by decide), if_neg (by decide), if_neg (by decide), if_pos rfl, if_neg (by rw [List.length_append, hl]; omega), List.take_left' hl, List.drop_left' hl]
    · have e := hb (y := .mk 4 false 0 x.t [] () [] []) h.symm (p.b (by rw [h]; decide)).symm (p.i (by rw [h]; decide)).symm rfl (p.bs (by rw [h]; decide)).symm (by rw [p.l (by rw [h]; decide)]; rfl) rfl
      rw [← e]
      show dec (d + 1) (64 :: (esc x.t ++ [0, 1] ++ s)) = _
      unfold dec
      rw [if_neg (by decide), if_neg (by decide), if_neg (by decide), if_neg (by decide), if_pos rfl, List.append_assoc]
      show (unesc (esc x.t ++ 0 :: 1 :: s)).map _ = _
      rw [unesc_esc]; rfl
    · have e := hb (y := .mk 5 false 0 [] x.bs () [] []) h.symm (p.b (by rw [h]; decide)).symm (p.i (by rw [h]; decide)).symm (p.t (by rw [h]; decide)).symm rfl (by rw [p.l (by rw [h]; decide)]; rfl) rfl
      rw [← e]
      show dec (d + 1) (80 :: (esc x.bs ++ [0, 1] ++ s)) = _
      unfold dec
      rw [if_neg (by decide), if_neg (by decide), if_neg (by decide), if_neg (by decide), if_neg (by decide), if_pos rfl, List.append_assoc]
      show (unesc (esc x.bs ++ 0 :: 1 :: s)).map _ = _
      rw [unesc_esc]; rfl
    · have e := hb (y := .mk 6 false 0 [] [] () (x.l.map bare) []) h.symm (p.b (by rw [h]; decide)).symm (p.i (by rw [h]; decide)).symm (p.t (by rw [h]; decide)).symm (p.bs (by rw [h]; decide)).symm rfl rfl
      rw [← e]
      show dec (d + 1) (96 :: (x.l.flatMap enc ++ [1] ++ s)) = _
      have hdl : ∀ y ∈ x.l, deep d y = false := fun y hy => by
        simp only [deep, List.any_eq_false] at hd
        simpa using hd y (List.mem_append_left _ hy)
      have hkl : ∀ y ∈ x.l, Keyed y := fun y hy => (hk.l y hy).here
      have hln := len_flat_enc x.l hkl
      unfold dec
      rw [if_neg (by decide), if_neg (by decide), if_neg (by decide), if_neg (by decide), if_neg (by decide), if_neg (by decide), if_pos rfl, List.append_assoc]
      show (decL (dec d) _ (x.l.flatMap enc ++ 1 :: s)).map _ = _
      rw [decL_enc x.l _ s hkl (fun y hy s => ih y s (hk.l y hy) (hp.l y hy) (hdl y hy)) (by rw [List.length_append]; omega)]
      rfl

/-- Bytes that are read are those of what is read. -/
theorem decL_some {g : List UInt8 → Option (Tr Unit × List UInt8)} {Q : Tr Unit → Prop} (hg : ∀ b x s, g b = some (x, s) → b = enc x ++ s ∧ Q x) : ∀ (n : Nat) (b : List UInt8) (l : List (Tr Unit)) (s : List UInt8), decL g n b = some (l, s) → b = l.flatMap enc ++ 1 :: s ∧ ∀ x ∈ l, Q x
  | 0, _, _, _, h => by cases h
  | n + 1, [], _, _, h => by cases h
  | n + 1, c :: r, l, s, h => by
    unfold decL at h
    by_cases hc : c = 1
    · rw [if_pos hc] at h; cases h; subst hc
      exact ⟨rfl, fun _ h => nomatch h⟩
    · rw [if_neg hc] at h
      cases hgc : g (c :: r) with
      | none => rw [hgc] at h; cases h
      | some p =>
        obtain ⟨x, s1⟩ := p
        rw [hgc] at h
        simp only [Option.map_eq_some_iff] at h
        obtain ⟨⟨l2, s2⟩, h3, h4⟩ := h
        cases h4
        obtain ⟨e1, e2⟩ := hg _ _ _ hgc
        obtain ⟨e3, e4⟩ := decL_some hg n s1 l2 s2 h3
        refine ⟨by rw [List.flatMap_cons, List.append_assoc, ← e3]; exact e1, fun y hy => ?_⟩
        rcases List.mem_cons.1 hy with rfl | hy
        · exact e2
        · exact e4 y hy
theorem dec_some (d : Nat) : ∀ (b : List UInt8) (x : Tr Unit) (s : List UInt8), dec d b = some (x, s) → b = enc x ++ s ∧ KeyedAll x ∧ PlainAll x ∧ deep d x = false := by
  induction d with
  | zero => intro b x s h; cases h
  | succ d ih =>
    intro b x s h
    have nol : ∀ y ∈ ([] : List (Tr Unit)), KeyedAll y := fun _ h => nomatch h
    have nol2 : ∀ y ∈ ([] : List (Tr Unit)), PlainAll y := fun _ h => nomatch h
    have z : I64 0 := ⟨by decide, by decide⟩
    cases b with
    | nil => cases h
    | cons c r =>
      unfold dec at h
      by_cases h1 : c = 16
      · rw [if_pos h1] at h; cases h; subst h1
        exact ⟨by rw [enc_eq]; rfl, ⟨_, ⟨.inl rfl, z⟩, nol⟩, ⟨_, ⟨fun _ => rfl, fun _ => rfl, fun _ => rfl, fun _ => rfl, fun _ => rfl, rfl⟩, nol2⟩, rfl⟩
      rw [if_neg h1] at h
      by_cases h1 : c = 32
      · rw [if_pos h1] at h; cases h; subst h1
        exact ⟨by rw [enc_eq]; rfl, ⟨_, ⟨.inr (.inl rfl), z⟩, nol⟩, ⟨_, ⟨fun _ => rfl, fun _ => rfl, fun _ => rfl, fun _ => rfl, fun _ => rfl, rfl⟩, nol2⟩, rfl⟩
      rw [if_neg h1] at h
      by_cases h1 : c = 33
      · rw [if_pos h1] at h; cases h; subst h1
        exact ⟨by rw [enc_eq]; rfl, ⟨_, ⟨.inr (.inl rfl), z⟩, nol⟩, ⟨_, ⟨fun h => absurd rfl h, fun _ => rfl, fun _ => rfl, fun _ => rfl, fun _ => rfl, rfl⟩, nol2⟩, rfl⟩
      rw [if_neg h1] at h
      by_cases h1 : c = 48
      · rw [if_pos h1] at h
        by_cases h2 : r.length < 8
        · rw [if_pos h2] at h; cases h
        · rw [if_neg h2] at h; cases h; subst h1
          have hl : (r.take 8).length = 8 := by rw [List.length_take]; omega
          have hlt := un_lt (r.take 8)
          rw [hl] at hlt
          refine ⟨?_, ⟨_, ⟨.inr (.inr (.inl rfl)), ios_i64 hlt⟩, nol⟩, ⟨_, ⟨fun _ => rfl, fun h => absurd rfl h, fun _ => rfl, fun _ => rfl, fun _ => rfl, rfl⟩, nol2⟩, rfl⟩
          rw [enc_eq]
          show 48 :: r = (48 :: be 8 (ofs (ios (un 0 (r.take 8))))) ++ r.drop 8
          rw [ofs_ios hlt]
          have hb := be_un (r.take 8)
          rw [hl] at hb
          rw [hb, List.cons_append, List.take_append_drop]
      rw [if_neg h1] at h
      by_cases h1 : c = 64
      · rw [if_pos h1, Option.map_eq_some_iff] at h
        obtain ⟨⟨t, s'⟩, h3, h4⟩ := h
        cases h4; subst h1
        refine ⟨?_, ⟨_, ⟨.inr (.inr (.inr (.inl rfl))), z⟩, nol⟩, ⟨_, ⟨fun _ => rfl, fun _ => rfl, fun h => absurd rfl h, fun _ => rfl, fun _ => rfl, rfl⟩, nol2⟩, rfl⟩
        rw [enc_eq]
        show 64 :: r = 64 :: (esc t ++ [0, 1]) ++ s'
        rw [esc_unesc _ r t s' (Nat.le_refl _) h3]; simp
      rw [if_neg h1] at h
      by_cases h1 : c = 80
      · rw [if_pos h1, Option.map_eq_some_iff] at h
        obtain ⟨⟨t, s'⟩, h3, h4⟩ := h
        cases h4; subst h1
        refine ⟨?_, ⟨_, ⟨.inr (.inr (.inr (.inr (.inl rfl)))), z⟩, nol⟩, ⟨_, ⟨fun _ => rfl, fun _ => rfl, fun _ => rfl, fun h => absurd rfl h, fun _ => rfl, rfl⟩, nol2⟩, rfl⟩
        rw [enc_eq]
        show 80 :: r = 80 :: (esc t ++ [0, 1]) ++ s'
        rw [esc_unesc _ r t s' (Nat.le_refl _) h3]; simp
      rw [if_neg h1] at h
      by_cases h1 : c = 96
      · rw [if_pos h1, Option.map_eq_some_iff] at h
        obtain ⟨⟨l, s'⟩, h3, h4⟩ := h
        cases h4; subst h1
        obtain ⟨e1, e2⟩ := decL_some (Q := fun x => KeyedAll x ∧ PlainAll x ∧ deep d x = false) ih _ r l s' h3
        refine ⟨?_, ⟨_, ⟨.inr (.inr (.inr (.inr (.inr rfl)))), z⟩, fun y hy => (e2 y hy).1⟩, ⟨_, ⟨fun _ => rfl, fun _ => rfl, fun _ => rfl, fun _ => rfl, fun h => absurd rfl h, rfl⟩, fun y hy => (e2 y hy).2.1⟩, ?_⟩
        · rw [enc_eq]
          show 96 :: r = 96 :: (l.flatMap enc ++ [1]) ++ s'
          rw [e1]; simp
        · simp only [deep, kids, Tr.l, Tr.f, List.map_nil, List.append_nil, List.any_eq_false]
          exact fun y hy => by rw [(e2 y hy).2.2]; exact Bool.false_ne_true
      rw [if_neg h1] at h; cases h
end Tr
end Go.Proofs.YtijcleiekafoiaaGreatDoor

/- Keys without a program: tuples, and the least key behind all that begin with one. -/
namespace Go.Proofs.YtijcleiekafoiaaGreatDoor
open Go.RowKit

theorem cb_pre (p a b : List UInt8) : cb (p ++ a) (p ++ b) = cb a b := by
  induction p with
  | nil => rfl
  | cons c p ih => unfold cb at *; simpa [Lib.compareBytes] using ih
theorem cb_nil_cons (c : UInt8) (l : List UInt8) : cb [] (c :: l) = -1 := rfl
theorem cb_cons_nil (c : UInt8) (l : List UInt8) : cb (c :: l) [] = 1 := rfl

namespace Tr
variable {α β : Type}
/-- A value's bytes as they fall or rise. -/
def encD (down : Bool) (x : Tr α) : List UInt8 := if down then turn (enc x) else enc x
/-- A tuple's bytes; d: which fall; i: the first one's place. -/
def encT (d : Nat → Bool) : Nat → List (Tr α) → List UInt8
  | _, [] => []
  | i, x :: l => encD (d i) x ++ encT d (i + 1) l
/-- The order of tuples. -/
def cmpT (d : Nat → Bool) : Nat → List (Tr α) → List (Tr β) → Int
  | _, [], [] => 0
  | _, [], _ :: _ => -1
  | _, _ :: _, [] => 1
  | i, x :: l, y :: k => if cmp x y ≠ 0 then (if d i then - cmp x y else cmp x y) else cmpT d (i + 1) l k

theorem encD_ne {x : Tr α} (h : Keyed x) (down : Bool) : ∃ c r, encD down x = c :: r := by
  obtain ⟨r, hr⟩ := enc_head h
  unfold encD turn
  rw [hr]
  cases down
  · exact ⟨_, _, rfl⟩
  · exact ⟨_, _, rfl⟩
theorem encD_asone (down : Bool) (x : Tr α) (y : Tr β) (hx : KeyedAll x) (hy : KeyedAll y) : AsOne (encD down x) (encD down y) (if down then - cmp x y else cmp x y) := by
  have h := enc_asone x y hx hy
  unfold encD
  cases down
  · exact h
  · exact ⟨fun e => by simp only [if_true] at e ⊢; rw [h.1 (by omega)], fun e => by simp only [if_true] at e ⊢; exact (h.2 (by omega)).turn⟩

/-- The bytes of tuples compare as they do. -/
theorem encT_cmp (d : Nat → Bool) : ∀ (i : Nat) (l : List (Tr α)) (k : List (Tr β)), (∀ x ∈ l, KeyedAll x) → (∀ y ∈ k, KeyedAll y) → cb (encT d i l) (encT d i k) = cmpT d i l k
  | _, [], [], _, _ => rfl
  | i, [], y :: k, _, hk => by
    obtain ⟨c, r, h⟩ := encD_ne (hk y (List.mem_cons_self ..)).here (d i)
    show cb [] (encD (d i) y ++ encT d (i + 1) k) = -1
    rw [h]; rfl
  | i, x :: l, [], hl, _ => by
    obtain ⟨c, r, h⟩ := encD_ne (hl x (List.mem_cons_self ..)).here (d i)
    show cb (encD (d i) x ++ encT d (i + 1) l) [] = 1
    rw [h]; rfl
  | i, x :: l, y :: k, hl, hk => by
    have h := encD_asone (d i) x y (hl x (List.mem_cons_self ..)) (hk y (List.mem_cons_self ..))
    show cb (encD (d i) x ++ encT d (i + 1) l) (encD (d i) y ++ encT d (i + 1) k) = if cmp x y ≠ 0 then (if d i then - cmp x y else cmp x y) else cmpT d (i + 1) l k
    by_cases hc : cmp x y = 0
    · rw [if_neg (fun e => e hc), h.1 (by rw [hc]; cases d i <;> rfl), cb_pre]
      exact encT_cmp d (i + 1) l k (fun x hx => hl x (List.mem_cons_of_mem _ hx)) (fun y hy => hk y (List.mem_cons_of_mem _ hy))
    · rw [if_pos hc]
      exact ((h.2 (by cases d i <;> simp [hc])).post _ _).cb
end Tr

/-- The least key above all that begin with one: none if all is 255. -/
def after (b : List UInt8) : Option (List UInt8) :=
  match b.reverse.dropWhile (· == 255) with
  | [] => none
  | c :: r => some (((c + 1) :: r).reverse)

theorem drop_rep (m : Nat) (l : List UInt8) : (List.replicate m (255 : UInt8) ++ l).dropWhile (· == 255) = l.dropWhile (· == 255) := by
  induction m with
  | zero => rfl
  | succ m ih => rw [List.replicate_succ, List.cons_append, List.dropWhile_cons_of_pos (by simp)]; exact ih
/-- What all from a place on are 255. -/
theorem tail_rep {b : List UInt8} {n : Nat} (hn : n ≤ b.length) (h : ∀ j (hj : j < b.length), n ≤ j → b[j] = 255) : b = b.take n ++ List.replicate (b.length - n) 255 := by
  refine List.ext_getElem (by simp; omega) fun j h1 h2 => ?_
  by_cases hj : j < n
  · rw [List.getElem_append_left (by simp; omega)]; simp
  · rw [List.getElem_append_right (by simp; omega)]
    simpa using h j h1 (by omega)
theorem after_zero {b : List UInt8} (h : ∀ j (hj : j < b.length), b[j] = 255) : after b = none := by
  have e := tail_rep (n := 0) (Nat.zero_le _) (fun j hj _ => h j hj)
  unfold after
  rw [e]
  simp only [List.take_zero, List.nil_append, List.reverse_replicate]
  have := drop_rep (b.length - 0) []
  rw [List.append_nil] at this
  rw [this]; rfl
theorem after_at {b : List UInt8} {m : Nat} (hm : m < b.length) (h : ∀ j (hj : j < b.length), m + 1 ≤ j → b[j] = 255) (hne : b[m] ≠ 255) : after b = some (b.take m ++ [b[m] + 1]) := by
  have e := tail_rep (n := m + 1) (by omega) h
  have e2 : b.take (m + 1) = b.take m ++ [b[m]] := by simp
  unfold after
  generalize hr : List.replicate (b.length - (m + 1)) (255 : UInt8) = R at e
  rw [e2] at e
  have e3 : b.reverse = R.reverse ++ (b[m] :: (b.take m).reverse) := by
    conv => lhs; rw [e]
    simp
  rw [e3, ← hr, List.reverse_replicate, drop_rep, List.dropWhile_cons_of_neg (by simpa using hne)]
  simp
theorem after_cases (b : List UInt8) : (after b = none ∧ ∀ j (hj : j < b.length), b[j] = 255) ∨ ∃ p c m, c ≠ 255 ∧ b = p ++ c :: List.replicate m 255 ∧ after b = some (p ++ [c + 1]) := by
  have key : ∀ n, n ≤ b.length → (∀ j (hj : j < b.length), n ≤ j → b[j] = 255) → (after b = none ∧ ∀ j (hj : j < b.length), b[j] = 255) ∨ ∃ p c m, c ≠ 255 ∧ b = p ++ c :: List.replicate m 255 ∧ after b = some (p ++ [c + 1]) := by
    intro n
    induction n with
    | zero => intro _ h; exact .inl ⟨after_zero fun j hj => h j hj (Nat.zero_le _), fun j hj => h j hj (Nat.zero_le _)⟩
    | succ n ih =>
      intro hn h
      by_cases hc : b[n] = 255
      · refine ih (by omega) fun j hj hnj => ?_
        by_cases e : j = n
        · subst e; exact hc
        · exact h j hj (by omega)
      · refine .inr ⟨b.take n, b[n], b.length - (n + 1), hc, ?_, after_at (by omega) h hc⟩
        have e := tail_rep hn h
        have e2 : b.take (n + 1) = b.take n ++ [b[n]] := by simp
        refine e.trans ?_
        rw [e2, List.append_assoc]; rfl
  exact key b.length (Nat.le_refl _) (fun j hj h => absurd hj (by omega))

theorem cb_cons (c d : UInt8) (l k : List UInt8) : cb (c :: l) (d :: k) = if c < d then -1 else if d < c then 1 else cb l k := by
  unfold cb; simp [Lib.compareBytes]
theorem rep_pre : ∀ (m : Nat) (x : List UInt8), 0 ≤ cb x (List.replicate m 255) → List.replicate m 255 <+: x
  | 0, x, _ => List.nil_prefix
  | m + 1, [], h => by rw [List.replicate_succ, cb_nil_cons] at h; omega
  | m + 1, d :: x, h => by
    rw [List.replicate_succ, cb_cons] at h
    have hd : ¬ 255 < d := by
      intro h2
      have := UInt8.lt_iff_toNat_lt.1 h2
      have h3 := d.toNat_lt
      simp at this; omega
    by_cases h1 : d < 255
    · rw [if_pos h1] at h; omega
    · rw [if_neg h1, if_neg hd] at h
      obtain rfl : d = 255 := UInt8.le_antisymm (UInt8.not_lt.1 hd) (UInt8.not_lt.1 h1)
      rw [List.replicate_succ]
      exact List.cons_prefix_cons.2 ⟨rfl, rep_pre m x h⟩
theorem cb_nil_ge (l : List UInt8) : 0 ≤ cb l [] := by cases l <;> simp [cb, Lib.compareBytes]
theorem pre_ge {b x : List UInt8} (h : b <+: x) : 0 ≤ cb x b := by
  obtain ⟨s, rfl⟩ := h
  have := cb_pre b s []
  rw [List.append_nil] at this
  rw [this]; exact cb_nil_ge s
theorem succ_lt {c : UInt8} (h : c ≠ 255) : c < c + 1 := by
  have h1 := c.toNat_lt
  have h2 : c.toNat ≠ 255 := fun e => h (UInt8.toNat_inj.1 (by simpa using e))
  rw [UInt8.lt_iff_toNat_lt, UInt8.toNat_add]
  simp only [UInt8.toNat_one, Nat.reducePow]
  omega
theorem lt_succ_le {c d : UInt8} (hc : c ≠ 255) (h : d < c + 1) : ¬ c < d := by
  have h1 := c.toNat_lt
  have h2 : c.toNat ≠ 255 := fun e => hc (UInt8.toNat_inj.1 (by simpa using e))
  rw [UInt8.lt_iff_toNat_lt, UInt8.toNat_add] at h
  rw [UInt8.lt_iff_toNat_lt]
  simp only [UInt8.toNat_one, Nat.reducePow] at h
  omega
/-- Just what begins with some bytes lies from these up to after them. -/
theorem begins_iff (c : UInt8) (hc : c ≠ 255) (m : Nat) : ∀ (p x : List UInt8), p ++ c :: List.replicate m 255 <+: x ↔ 0 ≤ cb x (p ++ c :: List.replicate m 255) ∧ cb x (p ++ [c + 1]) < 0
  | [], [] => by
    constructor
    · intro h; have := List.IsPrefix.length_le h; simp at this
    · rintro ⟨h, _⟩; rw [List.nil_append, cb_nil_cons] at h; omega
  | [], d :: x => by
    rw [List.nil_append, List.nil_append, cb_cons, cb_cons, List.cons_prefix_cons]
    constructor
    · rintro ⟨rfl, h⟩
      have h1 := succ_lt hc
      rw [if_neg (UInt8.lt_irrefl _), if_neg (UInt8.lt_irrefl _), if_pos h1]
      exact ⟨pre_ge h, by omega⟩
    · rintro ⟨h1, h2⟩
      by_cases h3 : d < c
      · rw [if_pos h3] at h1; omega
      · rw [if_neg h3] at h1
        have h4 : d < c + 1 := by
          refine Classical.byContradiction fun h5 => ?_
          rw [if_neg h5] at h2
          by_cases h6 : c + 1 < d
          · rw [if_pos h6] at h2; omega
          · rw [if_neg h6] at h2; have := cb_nil_ge x; omega
        have h5 := lt_succ_le hc h4
        rw [if_neg h5] at h1
        exact ⟨UInt8.le_antisymm (UInt8.not_lt.1 h3) (UInt8.not_lt.1 h5), rep_pre m x h1⟩
  | e :: p, [] => by
    constructor
    · intro h; have := List.IsPrefix.length_le h; simp at this
    · rintro ⟨h, _⟩; rw [List.cons_append, cb_nil_cons] at h; omega
  | e :: p, d :: x => by
    rw [List.cons_append, List.cons_append, cb_cons, cb_cons, List.cons_prefix_cons]
    have ih := begins_iff c hc m p x
    by_cases h1 : d < e
    · rw [if_pos h1, if_pos h1]
      constructor
      · rintro ⟨rfl, _⟩; exact absurd h1 (UInt8.lt_irrefl _)
      · rintro ⟨h, _⟩; omega
    · rw [if_neg h1, if_neg h1]
      by_cases h2 : e < d
      · rw [if_pos h2, if_pos h2]
        constructor
        · rintro ⟨rfl, _⟩; exact absurd h2 (UInt8.lt_irrefl _)
        · rintro ⟨_, h⟩; omega
      · rw [if_neg h2, if_neg h2]
        have e1 : e = d := UInt8.le_antisymm (UInt8.not_lt.1 h1) (UInt8.not_lt.1 h2)
        constructor
        · rintro ⟨_, h⟩; exact ih.1 h
        · intro h; exact ⟨e1, ih.2 h⟩
theorem begins_all {b : List UInt8} (h : ∀ j (hj : j < b.length), b[j] = 255) (x : List UInt8) : b <+: x ↔ 0 ≤ cb x b := by
  have e : b = List.replicate b.length 255 := by simpa using tail_rep (n := 0) (Nat.zero_le _) (fun j hj _ => h j hj)
  exact ⟨pre_ge, fun h2 => by rw [e] at h2 ⊢; exact rep_pre _ x h2⟩
/-- After of bytes: all in one. -/
theorem after_begins (b x : List UInt8) : b <+: x ↔ 0 ≤ cb x b ∧ ∀ a, after b = some a → cb x a < 0 := by
  rcases after_cases b with ⟨h1, h2⟩ | ⟨p, c, m, h1, h2, h3⟩
  · rw [h1, begins_all h2]
    exact ⟨fun h => ⟨h, fun _ h => nomatch h⟩, fun h => h.1⟩
  · rw [h3]
    have := begins_iff c h1 m p x
    rw [← h2] at this
    rw [this]
    exact ⟨fun h => ⟨h.1, fun a ha => by cases ha; exact h.2⟩, fun h => ⟨h.1, h.2 _ rfl⟩⟩
end Go.Proofs.YtijcleiekafoiaaGreatDoor
