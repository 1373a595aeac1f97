import Derived.Test.YtgcicljklejmjaaDoorMb04
import Derived.Test.YtgcicljklejmjaaDoorMb02

/- Keys without a program: the bytes of a value compare as the values do. -/
namespace Go.Proofs.YtgcicljklejmjaaDoor
open Go.RowKit
namespace Tr
variable {α β : Type}

/-- A whole number, made to rise. -/
def ofs (i : Int) : Nat := (i + 9223372036854775808).toNat
theorem ofs_lt {i : Int} (h : I64 i) : ofs i < 256 ^ 8 := by have := h.lo; have := h.hi; unfold ofs; omega
theorem ofs_lt_iff {i j : Int} (hi : I64 i) (hj : I64 j) : ofs i < ofs j ↔ i < j := by have := hi.lo; have := hj.lo; unfold ofs; omega
theorem ofs_inj {i j : Int} (hi : I64 i) (hj : I64 j) (h : ofs i = ofs j) : i = j := by have := hi.lo; have := hj.lo; unfold ofs at h; omega

/-- The bytes of a value. -/
def enc (x : Tr α) : List UInt8 :=
  if x.k = 1 then [16] else if x.k = 2 then [if x.b then 33 else 32] else if x.k = 3 then 48 :: be 8 (ofs x.i)
  else if x.k = 4 then 64 :: (esc x.t ++ [0, 1]) else if x.k = 5 then 80 :: (esc x.bs ++ [0, 1])
  else if x.k = 6 then 96 :: ((x.l.attach.flatMap fun y => enc y.1) ++ [1]) else []
termination_by SizeOf.sizeOf x
decreasing_by exact mem_l_lt y.2
theorem enc_eq (x : Tr α) : enc x = if x.k = 1 then [16] else if x.k = 2 then [if x.b then 33 else 32] else if x.k = 3 then 48 :: be 8 (ofs x.i)
    else if x.k = 4 then 64 :: (esc x.t ++ [0, 1]) else if x.k = 5 then 80 :: (esc x.bs ++ [0, 1])
    else if x.k = 6 then 96 :: (x.l.flatMap enc ++ [1]) else [] := by
  rw [enc, List.flatMap_subtype (g := enc) (fun _ _ => rfl), List.unattach_attach]

mutual
/-- The order of values. -/
def cmp (x : Tr α) (y : Tr β) : Int :=
  if x.k ≠ y.k then (if x.k < y.k then -1 else 1)
  else if x.k = 2 then (if x.b = y.b then 0 else if y.b then -1 else 1)
  else if x.k = 3 then (if x.i < y.i then -1 else if y.i < x.i then 1 else 0)
  else if x.k = 4 then cb x.t y.t
  else if x.k = 5 then cb x.bs y.bs
  else if x.k = 6 then cmpL x.l y.l
  else if x.k = 7 then cmpF x.f y.f
  else 0
termination_by SizeOf.sizeOf x
decreasing_by
  · cases x; simp only [l, mk.sizeOf_spec]; omega
  · cases x; simp only [f, mk.sizeOf_spec]; omega
def cmpL : List (Tr α) → List (Tr β) → Int
  | [], [] => 0
  | [], _ :: _ => -1
  | _ :: _, [] => 1
  | x :: l, y :: k => if cmp x y ≠ 0 then cmp x y else cmpL l k
termination_by l => SizeOf.sizeOf l
def cmpF : List (List UInt8 × Tr α) → List (List UInt8 × Tr β) → Int
  | [], [] => 0
  | [], _ :: _ => -1
  | _ :: _, [] => 1
  | (n, x) :: l, (m, y) :: k => if cb n m ≠ 0 then cb n m else if cmp x y ≠ 0 then cmp x y else cmpF l k
termination_by l => SizeOf.sizeOf l
end

/-- Of a kind that has a key's bytes. -/
def Keyed (x : Tr α) : Prop := (x.k = 1 ∨ x.k = 2 ∨ x.k = 3 ∨ x.k = 4 ∨ x.k = 5 ∨ x.k = 6) ∧ I64 x.i
/-- All of it is. -/
inductive KeyedAll : Tr α → Prop
  | mk (x : Tr α) (h : Keyed x) (hl : ∀ y ∈ x.l, KeyedAll y) : KeyedAll x
theorem KeyedAll.here {x : Tr α} : KeyedAll x → Keyed x | .mk _ h _ => h
theorem KeyedAll.l {x : Tr α} : KeyedAll x → ∀ y ∈ x.l, KeyedAll y | .mk _ _ h => h

/-- The first byte of a kind. -/
def tag (k : UInt8) (b : Bool) : UInt8 := if k = 2 ∧ b = true then 33 else k * 16
theorem enc_head {x : Tr α} (h : Keyed x) : ∃ r, enc x = tag x.k x.b :: r := by
  rw [enc_eq]
  rcases h.1 with h | h | h | h | h | h <;> rw [h] <;> simp [tag]
theorem tag_lt {k j : UInt8} {b c : Bool} (hk : k = 1 ∨ k = 2 ∨ k = 3 ∨ k = 4 ∨ k = 5 ∨ k = 6) (hj : j = 1 ∨ j = 2 ∨ j = 3 ∨ j = 4 ∨ j = 5 ∨ j = 6) (h : k ≠ j) : tag k b ≠ tag j c ∧ (tag k b < tag j c ↔ k < j) ∧ 1 < tag k b ∧ 1 < tag j c := by
  rcases hk with rfl | rfl | rfl | rfl | rfl | rfl <;> rcases hj with rfl | rfl | rfl | rfl | rfl | rfl <;> cases b <;> cases c <;> first | exact absurd rfl h | decide
theorem one_lt_tag {k : UInt8} {b : Bool} (hk : k = 1 ∨ k = 2 ∨ k = 3 ∨ k = 4 ∨ k = 5 ∨ k = 6) : 1 < tag k b := by
  rcases hk with rfl | rfl | rfl | rfl | rfl | rfl <;> cases b <;> decide

/-- As one: bytes as the values compare. -/
def AsOne (a b : List UInt8) (v : Int) : Prop := (v = 0 → a = b) ∧ (v ≠ 0 → Diff a b v)

theorem list_asone : ∀ (l : List (Tr α)) (k : List (Tr β)), (∀ x ∈ l, Keyed x) → (∀ y ∈ k, Keyed y) → (∀ x ∈ l, ∀ y ∈ k, AsOne (enc x) (enc y) (cmp x y)) → AsOne (l.flatMap enc ++ [1]) (k.flatMap enc ++ [1]) (cmpL l k)
  | [], [], _, _, _ => by rw [cmpL]; exact ⟨fun _ => rfl, fun h => absurd rfl h⟩
  | [], y :: k, _, hk, _ => by
    rw [cmpL]
    refine ⟨fun h => absurd h (by decide), fun _ => ?_⟩
    obtain ⟨r, hr⟩ := enc_head (hk y (List.mem_cons_self ..))
    rw [List.flatMap_cons, hr]
    have h1 := one_lt_tag (b := y.b) (hk y (List.mem_cons_self ..)).1
    exact ⟨[], 1, tag y.k y.b, [], r ++ (k.flatMap enc) ++ [1], rfl, by simp, .inl ⟨h1, rfl⟩⟩
  | x :: l, [], hl, _, _ => by
    rw [cmpL]
    refine ⟨fun h => absurd h (by decide), fun _ => ?_⟩
    obtain ⟨r, hr⟩ := enc_head (hl x (List.mem_cons_self ..))
    rw [List.flatMap_cons, hr]
    have h1 := one_lt_tag (b := x.b) (hl x (List.mem_cons_self ..)).1
    exact ⟨[], tag x.k x.b, 1, r ++ (l.flatMap enc) ++ [1], [], by simp, rfl, .inr ⟨h1, rfl⟩⟩
  | x :: l, y :: k, hl, hk, h => by
    rw [cmpL, List.flatMap_cons, List.flatMap_cons, List.append_assoc, List.append_assoc]
    have h1 := h x (List.mem_cons_self ..) y (List.mem_cons_self ..)
    have ih := list_asone l k (fun x hx => hl x (List.mem_cons_of_mem _ hx)) (fun y hy => hk y (List.mem_cons_of_mem _ hy)) (fun x hx y hy => h x (List.mem_cons_of_mem _ hx) y (List.mem_cons_of_mem _ hy))
    by_cases hc : cmp x y = 0
    · rw [if_neg (by rw [hc]; exact fun h => h rfl), h1.1 hc]
      exact ⟨fun e => by rw [ih.1 e], fun e => (ih.2 e).pre _⟩
    · rw [if_pos hc]
      exact ⟨fun e => absurd e hc, fun e => (h1.2 e).post _ _⟩

/-- The bytes of values compare as they do; none begins with another's. -/
theorem enc_asone (x : Tr α) (y : Tr β) (hx : KeyedAll x) (hy : KeyedAll y) : AsOne (enc x) (enc y) (cmp x y) := by
  induction x using Tr.ind generalizing y with
  | h x ih =>
    rw [cmp]
    by_cases hk : x.k = y.k
    · rw [if_neg (fun h => h hk)]
      rw [enc_eq x, enc_eq y, ← hk]
      rcases hx.here.1 with h | h | h | h | h | h <;> rw [h]
      · simp only [if_true, show ((1 : UInt8) = 2) = False from by decide, show ((1 : UInt8) = 3) = False from by decide, show ((1 : UInt8) = 4) = False from by decide, show ((1 : UInt8) = 5) = False from by decide, show ((1 : UInt8) = 6) = False from by decide, show ((1 : UInt8) = 7) = False from by decide, if_false]
        exact ⟨fun _ => rfl, fun h => absurd rfl h⟩
      · simp only [show ((2 : UInt8) = 1) = False from by decide, if_true, if_false]
        cases x.b <;> cases y.b <;> simp only [if_true, if_false, Bool.false_eq_true, Bool.true_eq_false]
        · exact ⟨fun _ => rfl, fun h => absurd rfl h⟩
        · exact ⟨fun h => absurd h (by decide), fun _ => ⟨[], 32, 33, [], [], rfl, rfl, .inl ⟨by decide, rfl⟩⟩⟩
        · exact ⟨fun h => absurd h (by decide), fun _ => ⟨[], 33, 32, [], [], rfl, rfl, .inr ⟨by decide, rfl⟩⟩⟩
        · exact ⟨fun _ => rfl, fun h => absurd rfl h⟩
      · simp only [show ((3 : UInt8) = 1) = False from by decide, show ((3 : UInt8) = 2) = False from by decide, if_true, if_false]
        have i1 := hx.here.2
        have i2 := hy.here.2
        by_cases hi : x.i = y.i
        · rw [hi, if_neg (by omega), if_neg (by omega)]
          exact ⟨fun _ => rfl, fun h => absurd rfl h⟩
        · have hne : ofs x.i ≠ ofs y.i := fun e => hi (ofs_inj i1 i2 e)
          have hd := (be_diff 8 _ _ (ofs_lt i1) (ofs_lt i2) hne).pre [48]
          have e : (if x.i < y.i then (-1 : Int) else if y.i < x.i then 1 else 0) = if ofs x.i < ofs y.i then -1 else 1 := by
            by_cases h1 : x.i < y.i
            · rw [if_pos h1, if_pos ((ofs_lt_iff i1 i2).2 h1)]
            · rw [if_neg h1, if_pos (by omega), if_neg (fun h => h1 ((ofs_lt_iff i1 i2).1 h))]
          rw [e]
          refine ⟨fun h => ?_, fun _ => hd⟩
          split at h <;> exact absurd h (by decide)
      · simp only [show ((4 : UInt8) = 1) = False from by decide, show ((4 : UInt8) = 2) = False from by decide, show ((4 : UInt8) = 3) = False from by decide, if_true, if_false]
        exact ⟨fun e => by rw [cb_eq e], fun e => (esc_diff _ _ e).pre [64]⟩
      · simp only [show ((5 : UInt8) = 1) = False from by decide, show ((5 : UInt8) = 2) = False from by decide, show ((5 : UInt8) = 3) = False from by decide, show ((5 : UInt8) = 4) = False from by decide, if_true, if_false]
        exact ⟨fun e => by rw [cb_eq e], fun e => (esc_diff _ _ e).pre [80]⟩
      · simp only [show ((6 : UInt8) = 1) = False from by decide, show ((6 : UInt8) = 2) = False from by decide, show ((6 : UInt8) = 3) = False from by decide, show ((6 : UInt8) = 4) = False from by decide, show ((6 : UInt8) = 5) = False from by decide, if_true, if_false]
        have hl := list_asone x.l y.l (fun z hz => (hx.l z hz).here) (fun z hz => (hy.l z hz).here) (fun z hz z' hz' => ih z (List.mem_append_left _ hz) z' (hx.l z hz) (hy.l z' hz'))
        exact ⟨fun e => by rw [hl.1 e], fun e => (hl.2 e).pre [96]⟩
    · rw [if_pos hk]
      obtain ⟨r, hr⟩ := enc_head hx.here
      obtain ⟨s, hs⟩ := enc_head hy.here
      obtain ⟨t1, t2, _⟩ := tag_lt (b := x.b) (c := y.b) hx.here.1 hy.here.1 hk
      rw [hr, hs]
      have hd := Diff.head t1 r s
      have e : (if x.k < y.k then (-1 : Int) else 1) = if tag x.k x.b < tag y.k y.b then -1 else 1 := by simp only [t2]
      rw [e]
      exact ⟨fun h => (by split at h <;> exact absurd h (by decide)), fun _ => hd⟩
end Tr
end Go.Proofs.YtgcicljklejmjaaDoor

/- Keys without a program: bytes read as a value; and back. -/
namespace Go.Proofs.YtgcicljklejmjaaDoor
open Go.RowKit

/-- Bytes up to their end, and what stands behind. -/
def unesc : List UInt8 → Option (List UInt8 × List UInt8)
  | [] => none
  | c :: r => if c ≠ 0 then (unesc r).map fun p => (c :: p.1, p.2) else
    match r with
    | [] => none
    | d :: r' => if d = 1 then some ([], r') else if d = 255 then (unesc r').map fun p => (0 :: p.1, p.2) else none

theorem unesc_ne {c : UInt8} {r : List UInt8} (h : c ≠ 0) : unesc (c :: r) = (unesc r).map fun p => (c :: p.1, p.2) := by
  conv => lhs; unfold unesc
  rw [if_pos h]
theorem unesc_zero {d : UInt8} {r : List UInt8} : unesc (0 :: d :: r) = if d = 1 then some ([], r) else if d = 255 then (unesc r).map fun p => (0 :: p.1, p.2) else none := by
  conv => lhs; unfold unesc
  rw [if_neg (fun h => h rfl)]
theorem unesc_esc (t s : List UInt8) : unesc (esc t ++ 0 :: 1 :: s) = some (t, s) := by
  induction t with
  | nil => show unesc (0 :: 1 :: s) = _; rw [unesc_zero]; rfl
  | cons c t ih =>
    rw [esc_cons]
    by_cases h : c = 0
    · subst h
      show unesc (0 :: 255 :: (esc t ++ 0 :: 1 :: s)) = _
      rw [unesc_zero, if_neg (by decide), if_pos rfl, ih]; rfl
    · rw [if_neg h]
      show unesc (c :: (esc t ++ 0 :: 1 :: s)) = _
      rw [unesc_ne h, ih]; rfl
theorem esc_unesc : ∀ (n : Nat) (b t s : List UInt8), b.length ≤ n → unesc b = some (t, s) → b = esc t ++ 0 :: 1 :: s
  | 0, b, t, s, hn, h => by
    have : b = [] := List.eq_nil_of_length_eq_zero (by omega)
    subst this; cases h
  | n + 1, [], t, s, _, h => by cases h
  | n + 1, c :: r, t, s, hn, h => by
    simp only [List.length_cons] at hn
    by_cases hc : c = 0
    · subst hc
      cases r with
      | nil => unfold unesc at h; rw [if_neg (fun h => h rfl)] at h; cases h
      | cons d r =>
        rw [unesc_zero] at h
        by_cases h1 : d = 1
        · subst h1; rw [if_pos rfl] at h; cases h; rfl
        · rw [if_neg h1] at h
          by_cases h2 : d = 255
          · subst h2
            rw [if_pos rfl, Option.map_eq_some_iff] at h
            obtain ⟨⟨t', s'⟩, h3, h4⟩ := h
            cases h4
            have := esc_unesc n r t' s' (by simp only [List.length_cons] at hn; omega) h3
            rw [esc_cons, if_pos rfl, this]; rfl
          · rw [if_neg h2] at h; cases h
    · rw [unesc_ne hc, Option.map_eq_some_iff] at h
      obtain ⟨⟨t', s'⟩, h3, h4⟩ := h
      cases h4
      have := esc_unesc n r t' s' (by omega) h3
      rw [esc_cons, if_neg hc, this]; rfl

/-- Bytes as a number, the greatest first. -/
def un (n : Nat) : List UInt8 → Nat
  | [] => n
  | c :: r => un (n * 256 + c.toNat) r
theorem un_add : ∀ (l : List UInt8) (n : Nat), un n l = n * 256 ^ l.length + un 0 l
  | [], n => by simp [un]
  | c :: r, n => by
    show un (n * 256 + c.toNat) r = n * 256 ^ (r.length + 1) + un (0 * 256 + c.toNat) r
    rw [un_add r (n * 256 + c.toNat), un_add r (0 * 256 + c.toNat), Nat.pow_succ, Nat.add_mul, Nat.zero_mul, Nat.zero_add, Nat.mul_assoc, Nat.mul_comm 256, Nat.add_assoc]
theorem un_lt : ∀ (l : List UInt8), un 0 l < 256 ^ l.length
  | [] => by simp [un]
  | c :: r => by
    show un (0 * 256 + c.toNat) r < 256 ^ (r.length + 1)
    rw [un_add, Nat.zero_mul, Nat.zero_add, Nat.pow_succ]
    have h1 := un_lt r
    have h2 := c.toNat_lt
    have h3 : c.toNat * 256 ^ r.length + 256 ^ r.length ≤ 256 ^ r.length * 256 := by
      rw [Nat.mul_comm (256 ^ r.length) 256, ← Nat.succ_mul]
      exact Nat.mul_le_mul_right _ (by omega)
    omega
theorem un_be : ∀ (n x : Nat), x < 256 ^ n → un 0 (be n x) = x
  | 0, x, h => by simp at h; subst h; rfl
  | n + 1, x, h => by
    have hp : 0 < 256 ^ n := Nat.pow_pos (by omega)
    have q1 : x / 256 ^ n < 256 := Nat.div_lt_of_lt_mul (by rw [Nat.pow_succ] at h; exact h)
    show un (0 * 256 + (UInt8.ofNat (x / 256 ^ n)).toNat) (be n (x % 256 ^ n)) = x
    have t1 : (UInt8.ofNat (x / 256 ^ n)).toNat = x / 256 ^ n := by rw [UInt8.toNat_ofNat']; exact Nat.mod_eq_of_lt q1
    rw [un_add, be_len, un_be n _ (Nat.mod_lt _ hp), t1, Nat.zero_mul, Nat.zero_add, Nat.mul_comm]
    exact Nat.div_add_mod x (256 ^ n)
theorem be_un : ∀ (l : List UInt8), be l.length (un 0 l) = l
  | [] => rfl
  | c :: r => by
    have h1 := un_lt r
    have hp : 0 < 256 ^ r.length := Nat.pow_pos (by omega)
    have e : un 0 (c :: r) = c.toNat * 256 ^ r.length + un 0 r := by
      show un (0 * 256 + c.toNat) r = _
      rw [un_add, Nat.zero_mul, Nat.zero_add]
    rw [List.length_cons]
    unfold be
    have e1 : un 0 (c :: r) / 256 ^ r.length = c.toNat := by
      rw [e, Nat.mul_comm, Nat.mul_add_div hp, Nat.div_eq_of_lt h1, Nat.add_zero]
    have e2 : un 0 (c :: r) % 256 ^ r.length = un 0 r := by
      rw [e, Nat.mul_comm, Nat.mul_add_mod, Nat.mod_eq_of_lt h1]
    rw [e1, e2, be_un r]
    congr 1
    exact UInt8.ofNat_toNat

namespace Tr
/-- A number as a whole one. -/
def ios (n : Nat) : Int := (n : Int) - 9223372036854775808
theorem ios_ofs {i : Int} (h : I64 i) : ios (ofs i) = i := by have := h.lo; unfold ios ofs; omega
theorem ofs_ios {n : Nat} (_ : n < 256 ^ 8) : ofs (ios n) = n := by unfold ios ofs; omega
theorem ios_i64 {n : Nat} (h : n < 256 ^ 8) : I64 (ios n) := by
  have e : (256 : Nat) ^ 8 = 18446744073709551616 := by decide
  rw [e] at h
  unfold ios
  exact ⟨by omega, by omega⟩

/-- A value of nothing but its kind. -/
def only (k : UInt8) : Tr Unit := .mk k false 0 [] [] () [] []
def decL (g : List UInt8 → Option (Tr Unit × List UInt8)) : Nat → List UInt8 → Option (List (Tr Unit) × List UInt8)
  | 0, _ => none
  | _ + 1, [] => none
  | n + 1, c :: r => if c = 1 then some ([], r) else
    match g (c :: r) with
    | none => none
    | some (x, s) => (decL g n s).map fun p => (x :: p.1, p.2)
/-- The value that bytes begin with, no deeper than that, and what stands behind. -/
def dec : Nat → List UInt8 → Option (Tr Unit × List UInt8)
  | 0, _ => none
  | _ + 1, [] => none
  | d + 1, c :: r =>
    if c = 16 then some (only 1, r) else if c = 32 then some (only 2, r) else if c = 33 then some (.mk 2 true 0 [] [] () [] [], r)
    else if c = 48 then (if r.length < 8 then none else some (.mk 3 false (ios (un 0 (r.take 8))) [] [] () [] [], r.drop 8))
    else if c = 64 then (unesc r).map fun p => (.mk 4 false 0 p.1 [] () [] [], p.2)
    else if c = 80 then (unesc r).map fun p => (.mk 5 false 0 [] p.1 () [] [], p.2)
    else if c = 96 then (decL (dec d) (r.length + 1) r).map fun p => (.mk 6 false 0 [] [] () p.1 [], p.2)
    else none

/-- What is there but for its kind is nothing. -/
structure Plain {α : Type} (x : Tr α) : Prop where
  b : x.k ≠ 2 → x.b = false
  i : x.k ≠ 3 → x.i = 0
  t : x.k ≠ 4 → x.t = []
  bs : x.k ≠ 5 → x.bs = []
  l : x.k ≠ 6 → x.l = []
  f : x.f = []
inductive PlainAll {α : Type} : Tr α → Prop
  | mk (x : Tr α) (h : Plain x) (hl : ∀ y ∈ x.l, PlainAll y) : PlainAll x
theorem PlainAll.here {α : Type} {x : Tr α} : PlainAll x → Plain x | .mk _ h _ => h
theorem PlainAll.l {α : Type} {x : Tr α} : PlainAll x → ∀ y ∈ x.l, PlainAll y | .mk _ _ h => h

theorem tr_ext {x y : Tr Unit} (hk : x.k = y.k) (hb : x.b = y.b) (hi : x.i = y.i) (ht : x.t = y.t) (hs : x.bs = y.bs) (hl : x.l = y.l) (hf : x.f = y.f) : x = y := by
  cases x; cases y
  simp only [k, b, i, t, bs, l, f] at *
  subst hk hb hi ht hs hl hf; rfl

theorem decL_enc {α : Type} {g : List UInt8 → Option (Tr Unit × List UInt8)} : ∀ (l : List (Tr α)) (n : Nat) (s : List UInt8), (∀ x ∈ l, Keyed x) → (∀ x ∈ l, ∀ s, g (enc x ++ s) = some (bare x, s)) → l.length < n → decL g n (l.flatMap enc ++ 1 :: s) = some (l.map bare, s)
  | [], n + 1, s, _, _, _ => by simp [decL]
  | x :: l, n + 1, s, hk, hg, hn => by
    obtain ⟨r, hr⟩ := enc_head (hk x (List.mem_cons_self ..))
    have h1 := one_lt_tag (b := x.b) (hk x (List.mem_cons_self ..)).1
    have h2 := hg x (List.mem_cons_self ..) (l.flatMap enc ++ 1 :: s)
    rw [List.flatMap_cons, List.append_assoc]
    rw [hr, List.cons_append] at h2 ⊢
    unfold decL
    rw [if_neg (fun e => by rw [e] at h1; exact absurd h1 (by decide)), h2]
    simp only [decL_enc l n s (fun x hx => hk x (List.mem_cons_of_mem _ hx)) (fun x hx => hg x (List.mem_cons_of_mem _ hx)) (by simp only [List.length_cons] at hn; omega), Option.map_some, List.map_cons]
  | l, 0, s, _, _, hn => by omega

theorem len_flat_enc {α : Type} : ∀ (l : List (Tr α)), (∀ x ∈ l, Keyed x) → l.length ≤ (l.flatMap enc).length
  | [], _ => by simp
  | x :: l, h => by
    obtain ⟨r, hr⟩ := enc_head (h x (List.mem_cons_self ..))
    rw [List.flatMap_cons, hr, List.length_append, List.length_cons, List.length_cons]
    have := len_flat_enc l (fun x hx => h x (List.mem_cons_of_mem _ hx))
    omega

/-- What is written is read as it was. -/
theorem dec_enc {α : Type} (d : Nat) (x : Tr α) (s : List UInt8) (hk : KeyedAll x) (hp : PlainAll x) (hd : deep d x = false) : dec d (enc x ++ s) = some (bare x, s) := by
  induction d generalizing x s with
  | zero => simp [deep] at hd
  | succ d ih =>
    rw [enc_eq]
    have p := hp.here
    have hb : ∀ {y : Tr Unit}, y.k = x.k → y.b = x.b → y.i = x.i → y.t = x.t → y.bs = x.bs → y.l = x.l.map bare → y.f = [] → y = bare x := fun h1 h2 h3 h4 h5 h6 h7 => tr_ext (by rw [h1, bare_k]) (by rw [h2, bare_b]) (by rw [h3, bare_i]) (by rw [h4, bare_t]) (by rw [h5, bare_bs]) (by rw [h6, bare_l]) (by rw [h7, bare_f, p.f]; rfl)
    rcases hk.here.1 with h | h | h | h | h | h <;> rw [h]
    · have e := hb (y := only 1) h.symm (p.b (by rw [h]; decide)).symm (p.i (by rw [h]; decide)).symm (p.t (by rw [h]; decide)).symm (p.bs (by rw [h]; decide)).symm (by rw [p.l (by rw [h]; decide)]; rfl) rfl
      rw [← e]; rfl
    · cases hbv : x.b with
      | false =>
        have e := hb (y := only 2) h.symm hbv.symm (p.i (by rw [h]; decide)).symm (p.t (by rw [h]; decide)).symm (p.bs (by rw [h]; decide)).symm (by rw [p.l (by rw [h]; decide)]; rfl) rfl
        rw [← e]; rfl
      | true =>
        have e := hb (y := .mk 2 true 0 [] [] () [] []) h.symm hbv.symm (p.i (by rw [h]; decide)).symm (p.t (by rw [h]; decide)).symm (p.bs (by rw [h]; decide)).symm (by rw [p.l (by rw [h]; decide)]; rfl) rfl
        rw [← e]; rfl
    · have hl := be_len 8 (ofs x.i)
      have e := hb (y := .mk 3 false (ios (un 0 (be 8 (ofs x.i)))) [] [] () [] []) h.symm (p.b (by rw [h]; decide)).symm (by rw [un_be 8 _ (ofs_lt hk.here.2)]; exact ios_ofs hk.here.2) (p.t (by rw [h]; decide)).symm (p.bs (by rw [h]; decide)).symm (by rw [p.l (by rw [h]; decide)]; rfl) rfl
      rw [← e]
      show dec (d + 1) (48 :: (be 8 (ofs x.i) ++ s)) = _
      unfold dec
      rw [if_neg (by decide), if_neg (by decide), if_neg (by decide), if_pos rfl, if_neg (by rw [List.length_append, hl]; omega), List.take_left' hl, List.drop_left' hl]
    · have e := hb (y := .mk 4 false 0 x.t [] () [] []) h.symm (p.b (by rw [h]; decide)).symm (p.i (by rw [h]; decide)).symm rfl (p.bs (by rw [h]; decide)).symm (by rw [p.l (by rw [h]; decide)]; rfl) rfl
      rw [← e]
      show dec (d + 1) (64 :: (esc x.t ++ [0, 1] ++ s)) = _
      unfold dec
      rw [if_neg (by decide), if_neg (by decide), if_neg (by decide), if_neg (by decide), if_pos rfl, List.append_assoc]
      show (unesc (esc x.t ++ 0 :: 1 :: s)).map _ = _
      rw [unesc_esc]; rfl
    · have e := hb (y := .mk 5 false 0 [] x.bs () [] []) h.symm (p.b (by rw [h]; decide)).symm (p.i (by rw [h]; decide)).symm (p.t (by rw [h]; decide)).symm rfl (by rw [p.l (by rw [h]; decide)]; rfl) rfl
      rw [← e]
      show dec (d + 1) (80 :: (esc x.bs ++ [0, 1] ++ s)) = _
      unfold dec
      rw [if_neg (by decide), if_neg (by decide), if_neg (by decide), if_neg (by decide), if_neg (by decide), if_pos rfl, List.append_assoc]
      show (unesc (esc x.bs ++ 0 :: 1 :: s)).map _ = _
      rw [unesc_esc]; rfl
    · have e := hb (y := .mk 6 false 0 [] [] () (x.l.map bare) []) h.symm (p.b (by rw [h]; decide)).symm (p.i (by rw [h]; decide)).symm (p.t (by rw [h]; decide)).symm (p.bs (by rw [h]; decide)).symm rfl rfl
      rw [← e]
      show dec (d + 1) (96 :: (x.l.flatMap enc ++ [1] ++ s)) = _
      have hdl : ∀ y ∈ x.l, deep d y = false := fun y hy => by
        simp only [deep, List.any_eq_false] at hd
        simpa using hd y (List.mem_append_left _ hy)
      have hkl : ∀ y ∈ x.l, Keyed y := fun y hy => (hk.l y hy).here
      have hln := len_flat_enc x.l hkl
      unfold dec
      rw [if_neg (by decide), if_neg (by decide), if_neg (by decide), if_neg (by decide), if_neg (by decide), if_neg (by decide), if_pos rfl, List.append_assoc]
      show (decL (dec d) _ (x.l.flatMap enc ++ 1 :: s)).map _ = _
      rw [decL_enc x.l _ s hkl (fun y hy s => ih y s (hk.l y hy) (hp.l y hy) (hdl y hy)) (by rw [List.length_append]; omega)]
      rfl

/-- Bytes that are read are those of what is read. -/
theorem decL_some {g : List UInt8 → Option (Tr Unit × List UInt8)} {Q : Tr Unit → Prop} (hg : ∀ b x s, g b = some (x, s) → b = enc x ++ s ∧ Q x) : ∀ (n : Nat) (b : List UInt8) (l : List (Tr Unit)) (s : List UInt8), decL g n b = some (l, s) → b = l.flatMap enc ++ 1 :: s ∧ ∀ x ∈ l, Q x
  | 0, _, _, _, h => by cases h
  | n + 1, [], _, _, h => by cases h
  | n + 1, c :: r, l, s, h => by
    unfold decL at h
    by_cases hc : c = 1
    · rw [if_pos hc] at h; cases h; subst hc
      exact ⟨rfl, fun _ h => nomatch h⟩
    · rw [if_neg hc] at h
      cases hgc : g (c :: r) with
      | none => rw [hgc] at h; cases h
      | some p =>
        obtain ⟨x, s1⟩ := p
        rw [hgc] at h
        simp only [Option.map_eq_some_iff] at h
        obtain ⟨⟨l2, s2⟩, h3, h4⟩ := h
        cases h4
        obtain ⟨e1, e2⟩ := hg _ _ _ hgc
        obtain ⟨e3, e4⟩ := decL_some hg n s1 l2 s2 h3
        refine ⟨by rw [List.flatMap_cons, List.append_assoc, ← e3]; exact e1, fun y hy => ?_⟩
        rcases List.mem_cons.1 hy with rfl | hy
        · exact e2
        · exact e4 y hy
theorem dec_some (d : Nat) : ∀ (b : List UInt8) (x : Tr Unit) (s : List UInt8), dec d b = some (x, s) → b = enc x ++ s ∧ KeyedAll x ∧ PlainAll x ∧ deep d x = false := by
  induction d with
  | zero => intro b x s h; cases h
  | succ d ih =>
    intro b x s h
    have nol : ∀ y ∈ ([] : List (Tr Unit)), KeyedAll y := fun _ h => nomatch h
    have nol2 : ∀ y ∈ ([] : List (Tr Unit)), PlainAll y := fun _ h => nomatch h
    have z : I64 0 := ⟨by decide, by decide⟩
    cases b with
    | nil => cases h
    | cons c r =>
      unfold dec at h
      by_cases h1 : c = 16
      · rw [if_pos h1] at h; cases h; subst h1
        exact ⟨by rw [enc_eq]; rfl, ⟨_, ⟨.inl rfl, z⟩, nol⟩, ⟨_, ⟨fun _ => rfl, fun _ => rfl, fun _ => rfl, fun _ => rfl, fun _ => rfl, rfl⟩, nol2⟩, rfl⟩
      rw [if_neg h1] at h
      by_cases h1 : c = 32
      · rw [if_pos h1] at h; cases h; subst h1
        exact ⟨by rw [enc_eq]; rfl, ⟨_, ⟨.inr (.inl rfl), z⟩, nol⟩, ⟨_, ⟨fun _ => rfl, fun _ => rfl, fun _ => rfl, fun _ => rfl, fun _ => rfl, rfl⟩, nol2⟩, rfl⟩
      rw [if_neg h1] at h
      by_cases h1 : c = 33
      · rw [if_pos h1] at h; cases h; subst h1
        exact ⟨by rw [enc_eq]; rfl, ⟨_, ⟨.inr (.inl rfl), z⟩, nol⟩, ⟨_, ⟨fun h => absurd rfl h, fun _ => rfl, fun _ => rfl, fun _ => rfl, fun _ => rfl, rfl⟩, nol2⟩, rfl⟩
      rw [if_neg h1] at h
      by_cases h1 : c = 48
      · rw [if_pos h1] at h
        by_cases h2 : r.length < 8
        · rw [if_pos h2] at h; cases h
        · rw [if_neg h2] at h; cases h; subst h1
          have hl : (r.take 8).length = 8 := by rw [List.length_take]; omega
          have hlt := un_lt (r.take 8)
          rw [hl] at hlt
          refine ⟨?_, ⟨_, ⟨.inr (.inr (.inl rfl)), ios_i64 hlt⟩, nol⟩, ⟨_, ⟨fun _ => rfl, fun h => absurd rfl h, fun _ => rfl, fun _ => rfl, fun _ => rfl, rfl⟩, nol2⟩, rfl⟩
          rw [enc_eq]
          show 48 :: r = (48 :: be 8 (ofs (ios (un 0 (r.take 8))))) ++ r.drop 8
          rw [ofs_ios hlt]
          have hb := be_un (r.take 8)
          rw [hl] at hb
          rw [hb, List.cons_append, List.take_append_drop]
      rw [if_neg h1] at h
      by_cases h1 : c = 64
      · rw [if_pos h1, Option.map_eq_some_iff] at h
        obtain ⟨⟨t, s'⟩, h3, h4⟩ := h
        cases h4; subst h1
        refine ⟨?_, ⟨_, ⟨.inr (.inr (.inr (.inl rfl))), z⟩, nol⟩, ⟨_, ⟨fun _ => rfl, fun _ => rfl, fun h => absurd rfl h, fun _ => rfl, fun _ => rfl, rfl⟩, nol2⟩, rfl⟩
        rw [enc_eq]
        show 64 :: r = 64 :: (esc t ++ [0, 1]) ++ s'
        rw [esc_unesc _ r t s' (Nat.le_refl _) h3]; simp
      rw [if_neg h1] at h
      by_cases h1 : c = 80
      · rw [if_pos h1, Option.map_eq_some_iff] at h
        obtain ⟨⟨t, s'⟩, h3, h4⟩ := h
        cases h4; subst h1
        refine ⟨?_, ⟨_, ⟨.inr (.inr (.inr (.inr (.inl rfl)))), z⟩, nol⟩, ⟨_, ⟨fun _ => rfl, fun _ => rfl, fun _ => rfl, fun h => absurd rfl h, fun _ => rfl, rfl⟩, nol2⟩, rfl⟩
        rw [enc_eq]
        show 80 :: r = 80 :: (esc t ++ [0, 1]) ++ s'
        rw [esc_unesc _ r t s' (Nat.le_refl _) h3]; simp
      rw [if_neg h1] at h
      by_cases h1 : c = 96
      · rw [if_pos h1, Option.map_eq_some_iff] at h
        obtain ⟨⟨l, s'⟩, h3, h4⟩ := h
        cases h4; subst h1
        obtain ⟨e1, e2⟩ := decL_some (Q := fun x => KeyedAll x ∧ PlainAll x ∧ deep d x = false) ih _ r l s' h3
        refine ⟨?_, ⟨_, ⟨.inr (.inr (.inr (.inr (.inr rfl)))), z⟩, fun y hy => (e2 y hy).1⟩, ⟨_, ⟨fun _ => rfl, fun _ => rfl, fun _ => rfl, fun _ => rfl, fun h => absurd rfl h, rfl⟩, fun y hy => (e2 y hy).2.1⟩, ?_⟩
        · rw [enc_eq]
          show 96 :: r = 96 :: (l.flatMap enc ++ [1]) ++ s'
          rw [e1]; simp
        · simp only [deep, kids, Tr.l, Tr.f, List.map_nil, List.append_nil, List.any_eq_false]
          exact fun y hy => by rw [(e2 y hy).2.2]; exact Bool.false_ne_true
      rw [if_neg h1] at h; cases h
end Tr
end Go.Proofs.YtgcicljklejmjaaDoor
