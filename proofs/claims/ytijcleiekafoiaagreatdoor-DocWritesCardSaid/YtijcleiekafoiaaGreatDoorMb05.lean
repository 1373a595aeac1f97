import Derived.Test.YtijcleiekafoiaaGreatDoorMb04
import Derived.Lib.ValidU
import Derived.Lib.RuneCount
import Derived.Test.YtijcleiekafoiaaGreatDoorMb03

/- Values without a program: what is wrong with one. -/
namespace Go.Proofs.YtijcleiekafoiaaGreatDoor
open Go.RowKit

def letterB (c : UInt8) : Bool := (decide (97 ≤ c) && decide (c ≤ 122)) || (decide (65 ≤ c) && decide (c ≤ 90)) || c == 95 || decide (128 ≤ c)
def digitB (c : UInt8) : Bool := decide (48 ≤ c) && decide (c ≤ 57)
def lettersB : List UInt8 → Bool
  | [] => true
  | c :: r => letterB c && r.all fun c => letterB c || digitB c
/-- May a text be a field's name? -/
def nameV (s : List UInt8) : Bool := Lib.validD s && decide (Lib.runeCountL s ≤ 32) && lettersB s && !s.isEmpty

namespace Tr
variable {α : Type}
/-- Names that may be, and rise; p: the one ahead. -/
def risesF : Option (List UInt8) → List (List UInt8 × Tr α) → Bool
  | _, [] => true
  | p, x :: l => nameV x.1 && (match p with | none => true | some q => decide (cb q x.1 < 0)) && risesF (some x.1) l
/-- Of its fields those that its kind has. -/
def shapeV (x : Tr α) : Bool := (decide (1 ≤ x.k) && decide (x.k ≤ 7)) && ((x.k == 2 || !x.b) && (x.k == 3 || x.i == 0) && (x.k == 4 || x.t.isEmpty)) && ((x.k == 5 || x.bs.isEmpty) && (x.k == 6 || x.l.isEmpty) && (x.k == 7 || x.f.isEmpty))
/-- What is wrong with a value by itself. -/
def own (x : Tr α) : Nat :=
  if shapeV x = false then 30 else if risesF none x.f = false then 30 else if Lib.validD x.t = false then 34
  else if 1000 < Lib.runeCountL x.t ∨ 4000 < x.bs.length then 33 else 0
def firstErr : List Nat → Nat
  | [] => 0
  | e :: l => if e ≠ 0 then e else firstErr l
theorem firstErr_zero : ∀ {l : List Nat}, firstErr l = 0 ↔ ∀ e ∈ l, e = 0
  | [] => by simp [firstErr]
  | e :: l => by
    by_cases h : e = 0
    · subst h
      simp only [firstErr, ne_eq, not_true_eq_false, if_false, List.forall_mem_cons, true_and]
      exact firstErr_zero
    · simp [firstErr, h]
theorem firstErr_append (l k : List Nat) : firstErr (l ++ k) = if firstErr l ≠ 0 then firstErr l else firstErr k := by
  induction l with
  | nil => rfl
  | cons e l ih =>
    rw [List.cons_append]
    by_cases h : e = 0
    · subst h
      simpa [firstErr] using ih
    · simp [firstErr, h]
/-- The first error of it and all below. -/
def allErr (x : Tr α) : Nat := firstErr ((pre 1 x).map fun p => own p.2)
/-- What is wrong with a value. -/
def check (x : Tr α) : Nat := if deep 8 x = true then 31 else if 512 < parts x then 32 else allErr x
theorem check_zero {x : Tr α} : check x = 0 ↔ deep 8 x = false ∧ parts x ≤ 512 ∧ ∀ p ∈ pre 1 x, own p.2 = 0 := by
  unfold check
  by_cases h1 : deep 8 x = true
  · rw [if_pos h1]; simp [h1]
  · rw [if_neg h1]
    by_cases h2 : 512 < parts x
    · rw [if_pos h2]; constructor
      · intro h; cases h
      · rintro ⟨_, h, _⟩; omega
    · rw [if_neg h2]
      unfold allErr
      rw [firstErr_zero, List.forall_mem_map]
      exact ⟨fun h => ⟨by simpa using h1, by omega, h⟩, fun h => h.2.2⟩
/-- No document is among it. -/
def keyed (x : Tr α) : Bool := (pre 1 x).all fun p => p.2.k != 7
theorem keyed_kids (x : Tr α) (d : Nat) : ((pre d x).all fun p => p.2.k != 7) = (x.k != 7 && x.kids.all keyed) := by
  have hd : ∀ (x : Tr α) (d e : Nat), ((pre d x).all fun p => p.2.k != 7) = (pre e x).all fun p => p.2.k != 7 := by
    intro x
    induction x using ind with
    | h x ih =>
      intro d e
      rw [pre_eq, pre_eq, List.all_cons, List.all_cons, List.all_flatMap, List.all_flatMap]
      congr 1
      rw [Bool.eq_iff_iff, List.all_eq_true, List.all_eq_true]
      exact ⟨fun h y hy => (ih y hy _ _) ▸ h y hy, fun h y hy => (ih y hy _ _) ▸ h y hy⟩
  rw [pre_eq, List.all_cons, List.all_flatMap]
  congr 1
  rw [Bool.eq_iff_iff, List.all_eq_true, List.all_eq_true]
  exact ⟨fun h y hy => (hd y (d + 1) 1).symm.trans (h y hy), fun h y hy => (hd y (d + 1) 1).trans (h y hy)⟩

theorem shape_parts {x : Tr α} (h : shapeV x = true) : (1 ≤ x.k ∧ x.k ≤ 7) ∧ (x.k ≠ 2 → x.b = false) ∧ (x.k ≠ 3 → x.i = 0) ∧ (x.k ≠ 4 → x.t = []) ∧ (x.k ≠ 5 → x.bs = []) ∧ (x.k ≠ 6 → x.l = []) ∧ (x.k ≠ 7 → x.f = []) := by
  unfold shapeV at h
  simp only [Bool.and_eq_true, Bool.or_eq_true, decide_eq_true_eq, beq_iff_eq, Bool.not_eq_true', List.isEmpty_iff] at h
  obtain ⟨⟨h1, ⟨h2, h3⟩, h4⟩, ⟨h5, h6⟩, h7⟩ := h
  exact ⟨h1, fun e => h2.resolve_left e, fun e => h3.resolve_left e, fun e => h4.resolve_left e, fun e => h5.resolve_left e, fun e => h6.resolve_left e, fun e => h7.resolve_left e⟩
theorem own_shape {x : Tr α} (h : own x = 0) : shapeV x = true := by
  unfold own at h
  by_cases h1 : shapeV x = false
  · rw [if_pos h1] at h; cases h
  · simpa using h1

theorem kinds {k : UInt8} (h1 : 1 ≤ k) (h2 : k ≤ 7) (h3 : k ≠ 7) : k = 1 ∨ k = 2 ∨ k = 3 ∨ k = 4 ∨ k = 5 ∨ k = 6 := by
  have e1 := UInt8.le_iff_toNat_le.1 h1
  have e2 := UInt8.le_iff_toNat_le.1 h2
  have e3 : k.toNat ≠ 7 := fun e => h3 (UInt8.toNat_inj.1 (by simpa using e))
  simp only [UInt8.toNat_one, UInt8.reduceToNat] at e1 e2
  have : ∀ n : UInt8, k.toNat = n.toNat → k = n := fun n e => UInt8.toNat_inj.1 e
  have e4 : k.toNat = 1 ∨ k.toNat = 2 ∨ k.toNat = 3 ∨ k.toNat = 4 ∨ k.toNat = 5 ∨ k.toNat = 6 := by omega
  rcases e4 with e | e | e | e | e | e
  · exact .inl (this 1 e)
  · exact .inr (.inl (this 2 e))
  · exact .inr (.inr (.inl (this 3 e)))
  · exact .inr (.inr (.inr (.inl (this 4 e))))
  · exact .inr (.inr (.inr (.inr (.inl (this 5 e)))))
  · exact .inr (.inr (.inr (.inr (.inr (this 6 e)))))

/-- Where the whole numbers of it lie within their bounds. -/
def Nums (x : Tr α) : Prop := ∀ p ∈ pre 1 x, I64 p.2.i
theorem pre_any {P : Tr α → Prop} {d e : Nat} {x : Tr α} (h : ∀ p ∈ pre d x, P p.2) : ∀ p ∈ pre e x, P p.2 := by
  induction x using ind generalizing d e with
  | h x ih =>
    intro p hp
    rw [pre_eq] at hp h
    rcases List.mem_cons.1 hp with rfl | hp
    · exact h (d, x) (List.mem_cons_self ..)
    · obtain ⟨y, hy, hp⟩ := List.mem_flatMap.1 hp
      exact ih y hy (d := d + 1) (e := e + 1) (fun q hq => h q (List.mem_cons_of_mem _ (List.mem_flatMap.2 ⟨y, hy, hq⟩))) p hp
theorem pre_kid {P : Tr α → Prop} {x y : Tr α} (hy : y ∈ x.kids) (h : ∀ p ∈ pre 1 x, P p.2) : ∀ p ∈ pre 1 y, P p.2 :=
  pre_any (d := 2) fun p hp => h p (mem_pre_kid hy hp)

/-- A value that may be and holds no document has a key's bytes, and is its kind's alone. -/
theorem keyed_all (x : Tr α) (h : ∀ p ∈ pre 1 x, own p.2 = 0) (hk : keyed x = true) (hn : Nums x) : KeyedAll x ∧ PlainAll x := by
  induction x using ind with
  | h x ih =>
    have hs := shape_parts (own_shape (h (1, x) (mem_pre_self _ _)))
    obtain ⟨⟨h1, h2⟩, sb, si, st, sbs, sl, sf⟩ := hs
    have hkk : keyed x = (x.k != 7 && x.kids.all keyed) := keyed_kids x 1
    rw [hkk, Bool.and_eq_true, bne_iff_ne, List.all_eq_true] at hk
    have hkid : ∀ y ∈ x.l, KeyedAll y ∧ PlainAll y := fun y hy => by
      have hm : y ∈ x.kids := List.mem_append_left _ hy
      exact ih y hm (pre_kid (P := fun z => own z = 0) hm h) (hk.2 y hm) (pre_kid (P := fun z => I64 z.i) hm hn)
    exact ⟨⟨x, ⟨kinds h1 h2 hk.1, hn (1, x) (mem_pre_self _ _)⟩, fun y hy => (hkid y hy).1⟩, ⟨x, ⟨sb, si, st, sbs, sl, sf hk.1⟩, fun y hy => (hkid y hy).2⟩⟩
end Tr
end Go.Proofs.YtijcleiekafoiaaGreatDoor

/- Keys without a program: tuples written and read, with their errors. -/
namespace Go.Proofs.YtijcleiekafoiaaGreatDoor
open Go.RowKit
namespace Tr
variable {α β : Type}

/-! ### the order both ways -/
theorem cmpL_swap : ∀ (l : List (Tr α)) (k : List (Tr β)), (∀ x ∈ l, ∀ y : Tr β, cmp y x = - cmp x y) → cmpL k l = - cmpL l k
  | [], [], _ => by simp [cmpL]
  | [], _ :: _, _ => by simp [cmpL]
  | _ :: _, [], _ => by simp [cmpL]
  | x :: l, y :: k, h => by
    have h1 := h x (List.mem_cons_self ..) y
    have ih := cmpL_swap l k (fun x hx => h x (List.mem_cons_of_mem _ hx))
    rw [cmpL, cmpL, h1, ih]
    by_cases hc : cmp x y = 0
    · simp [hc]
    · have : - cmp x y ≠ 0 := by omega
      rw [if_pos hc, if_pos this]
theorem cmpF_swap : ∀ (l : List (List UInt8 × Tr α)) (k : List (List UInt8 × Tr β)), (∀ p ∈ l, ∀ y : Tr β, cmp y p.2 = - cmp p.2 y) → cmpF k l = - cmpF l k
  | [], [], _ => by simp [cmpF]
  | [], _ :: _, _ => by simp [cmpF]
  | _ :: _, [], _ => by simp [cmpF]
  | (n, x) :: l, (m, y) :: k, h => by
    have h1 := h (n, x) (List.mem_cons_self ..) y
    have ih := cmpF_swap l k (fun x hx => h x (List.mem_cons_of_mem _ hx))
    have h2 := cb_swap n m
    rw [cmpF, cmpF, h1, h2, ih]
    by_cases hn : cb n m = 0
    · by_cases hc : cmp x y = 0
      · simp [hc, hn]
      · have : - cmp x y ≠ 0 := by omega
        simp [hn, hc, this]
    · have : - cb n m ≠ 0 := by omega
      simp [hn, this]
theorem cmp_swap (x : Tr α) (y : Tr β) : cmp y x = - cmp x y := by
  induction x using ind generalizing y with
  | h x ih =>
    rw [cmp, cmp]
    by_cases hk : x.k = y.k
    · simp only [← hk, ne_eq, not_true_eq_false, if_false]
      by_cases h2 : x.k = 2
      · rw [if_pos h2, if_pos h2]; cases x.b <;> cases y.b <;> rfl
      rw [if_neg h2, if_neg h2]
      by_cases h3 : x.k = 3
      · rw [if_pos h3, if_pos h3]
        by_cases h5 : x.i < y.i
        · rw [if_neg (by omega), if_pos h5, if_pos h5]; rfl
        · by_cases h6 : y.i < x.i
          · rw [if_pos h6, if_neg h5, if_pos h6]
          · rw [if_neg h6, if_neg h5, if_neg h5, if_neg h6]; rfl
      rw [if_neg h3, if_neg h3]
      by_cases h4 : x.k = 4
      · rw [if_pos h4, if_pos h4]; exact cb_swap _ _
      rw [if_neg h4, if_neg h4]
      by_cases h5 : x.k = 5
      · rw [if_pos h5, if_pos h5]; exact cb_swap _ _
      rw [if_neg h5, if_neg h5]
      by_cases h6 : x.k = 6
      · rw [if_pos h6, if_pos h6]; exact cmpL_swap _ _ fun z hz y => ih z (List.mem_append_left _ hz) y
      rw [if_neg h6, if_neg h6]
      by_cases h7 : x.k = 7
      · rw [if_pos h7, if_pos h7]; exact cmpF_swap _ _ fun p hp y => ih p.2 (List.mem_append_right _ (List.mem_map_of_mem hp)) y
      rw [if_neg h7, if_neg h7]; rfl
    · have hk2 : y.k ≠ x.k := fun e => hk e.symm
      simp only [hk, hk2, ne_eq, not_false_eq_true, if_true]
      rcases UInt8.lt_or_lt_of_ne hk with h | h
      · have : ¬ y.k < x.k := UInt8.not_lt.2 (UInt8.le_of_lt h)
        rw [if_neg this, if_pos h]; rfl
      · have : ¬ x.k < y.k := UInt8.not_lt.2 (UInt8.le_of_lt h)
        rw [if_pos h, if_neg this]
theorem cmpT_swap (d : Nat → Bool) : ∀ (i : Nat) (l : List (Tr α)) (k : List (Tr β)), cmpT d i k l = - cmpT d i l k
  | _, [], [] => rfl
  | _, [], _ :: _ => rfl
  | _, _ :: _, [] => rfl
  | i, x :: l, y :: k => by
    have h1 := cmp_swap x y
    have ih := cmpT_swap d (i + 1) l k
    unfold cmpT
    rw [h1, ih]
    by_cases hc : cmp x y = 0
    · simp [hc]
    · have : - cmp x y ≠ 0 := by omega
      rw [if_pos hc, if_pos this]
      cases d i <;> simp

/-! ### without where it lies -/
theorem bare_rises : ∀ (p : Option (List UInt8)) (l : List (List UInt8 × Tr α)), risesF p (l.map fun q => (q.1, bare q.2)) = risesF p l
  | _, [] => rfl
  | p, x :: l => by
    rw [List.map_cons]
    unfold risesF
    rw [bare_rises (some x.1) l]
theorem bare_shape (x : Tr α) : shapeV (bare x) = shapeV x := by
  unfold shapeV
  rw [bare_k, bare_b, bare_i, bare_t, bare_bs, bare_l, bare_f]
  cases x.l <;> cases x.f <;> rfl
theorem bare_own (x : Tr α) : own (bare x) = own x := by
  unfold own
  rw [bare_shape, bare_f, bare_rises, bare_t, bare_bs]
theorem bare_check (x : Tr α) : check (bare x) = check x := by
  unfold check allErr
  rw [bare_deep, bare_parts, bare_pre, List.map_map]
  congr 3
  exact List.map_congr_left fun p _ => bare_own p.2
theorem bare_enc (x : Tr α) : enc (bare x) = enc x := by
  induction x using ind with
  | h x ih =>
    rw [enc_eq, enc_eq, bare_k, bare_b, bare_i, bare_t, bare_bs, bare_l, List.flatMap_map]
    have : (x.l.flatMap fun y => enc (bare y)) = x.l.flatMap enc := by
      simp only [List.flatMap]
      exact congrArg List.flatten (List.map_congr_left fun y hy => ih y (List.mem_append_left _ hy))
    rw [this]
theorem bare_keyed (x : Tr α) : keyed (bare x) = keyed x := by
  unfold keyed
  rw [bare_pre, List.all_map]
  congr 1
  funext p
  simp [bare_k]

/-! ### written -/
/-- What is wrong with a value as a key. -/
def oneErr (x : Tr α) : Nat := if check x ≠ 0 then 40 else if keyed x = false then 41 else if 160 < (enc x).length then 42 else 0
/-- What is wrong with a tuple. -/
def tupErr (l : List (Tr α)) : Nat := if 4 < l.length then 1 else if firstErr (l.map oneErr) ≠ 0 then firstErr (l.map oneErr) else if 160 < (encT (fun _ => false) 0 l).length then 42 else 0
theorem encD_len (down : Bool) (x : Tr α) : (encD down x).length = (enc x).length := by unfold encD; cases down <;> simp [turn_len]
theorem encT_len (d : Nat → Bool) : ∀ (i j : Nat) (l : List (Tr α)), (encT d i l).length = (encT (fun _ => false) j l).length
  | _, _, [] => rfl
  | i, j, x :: l => by
    unfold encT
    rw [List.length_append, List.length_append, encD_len, encD_len, encT_len d (i + 1) (j + 1) l]
theorem oneErr_zero {x : Tr α} : oneErr x = 0 ↔ check x = 0 ∧ keyed x = true ∧ (enc x).length ≤ 160 := by
  unfold oneErr
  by_cases h1 : check x = 0
  · rw [if_neg (fun h => h h1)]
    by_cases h2 : keyed x = false
    · rw [if_pos h2]; simp [h2]
    · rw [if_neg h2]
      by_cases h3 : 160 < (enc x).length
      · rw [if_pos h3]; constructor
        · intro h; cases h
        · rintro ⟨_, _, h⟩; omega
      · rw [if_neg h3]; exact ⟨fun _ => ⟨h1, by simpa using h2, by omega⟩, fun _ => rfl⟩
  · rw [if_pos h1]; constructor
    · intro h; cases h
    · rintro ⟨h, _⟩; exact absurd h h1
theorem tupErr_zero {l : List (Tr α)} : tupErr l = 0 ↔ l.length ≤ 4 ∧ (∀ x ∈ l, oneErr x = 0) ∧ (encT (fun _ => false) 0 l).length ≤ 160 := by
  unfold tupErr
  by_cases h1 : 4 < l.length
  · rw [if_pos h1]; constructor
    · intro h; cases h
    · rintro ⟨h, _⟩; omega
  · rw [if_neg h1]
    by_cases h2 : firstErr (l.map oneErr) = 0
    · rw [if_neg (fun h => h h2)]
      have h4 : ∀ x ∈ l, oneErr x = 0 := by rw [firstErr_zero, List.forall_mem_map] at h2; exact h2
      by_cases h3 : 160 < (encT (fun _ => false) 0 l).length
      · rw [if_pos h3]; constructor
        · intro h; cases h
        · rintro ⟨_, _, h⟩; omega
      · rw [if_neg h3]; exact ⟨fun _ => ⟨by omega, h4, by omega⟩, fun _ => rfl⟩
    · rw [if_pos h2]; constructor
      · intro h; exact absurd h h2
      · rintro ⟨_, h, _⟩
        exact absurd (by rw [firstErr_zero, List.forall_mem_map]; exact h) h2
theorem one_ok {x : Tr α} (h : oneErr x = 0) (hn : Nums x) : KeyedAll x ∧ PlainAll x ∧ deep 8 x = false := by
  obtain ⟨h1, h2, _⟩ := oneErr_zero.1 h
  obtain ⟨h3, _, h4⟩ := check_zero.1 h1
  obtain ⟨a, b⟩ := keyed_all x h4 h2 hn
  exact ⟨a, b, h3⟩
theorem deep_succ : ∀ (n : Nat) (x : Tr α), deep n x = false → deep (n + 1) x = false
  | 0, x, h => by cases h
  | n + 1, x, h => by
    simp only [deep, List.any_eq_false] at h ⊢
    intro y hy
    have h1 := deep_succ n y (by simpa using h y hy)
    unfold deep at h1
    rw [h1]; exact Bool.false_ne_true

/-! ### read -/
/-- The value that bytes begin with, and the rest. -/
def splitE (down : Bool) (b : List UInt8) : Option (Tr Unit × List UInt8) :=
  match dec 9 (if down then turn b else b) with
  | none => none
  | some (x, s) => if check x = 0 then some (x, b.drop (b.length - s.length)) else none
theorem splitE_enc (down : Bool) (x : Tr α) (s : List UInt8) (h : oneErr x = 0) (hn : Nums x) : splitE down (encD down x ++ s) = some (bare x, s) := by
  obtain ⟨h1, h2, h3⟩ := one_ok h hn
  have hc := (oneErr_zero.1 h).1
  unfold splitE
  have e : dec 9 (if down then turn (encD down x ++ s) else encD down x ++ s) = some (bare x, if down then turn s else s) := by
    cases down
    · simp only [Bool.false_eq_true, if_false]
      exact dec_enc 9 x s h1 h2 (deep_succ 8 x h3)
    · simp only [if_true]
      have : turn (encD true x ++ s) = enc x ++ turn s := by
        show turn (turn (enc x) ++ s) = _
        unfold turn; rw [List.map_append]
        exact congrArg (· ++ _) (turn_turn (enc x))
      rw [this]
      exact dec_enc 9 x (turn s) h1 h2 (deep_succ 8 x h3)
  rw [e]
  simp only
  rw [if_pos (by rw [bare_check]; exact hc)]
  have hl : (if down = true then turn s else s).length = s.length := by cases down <;> simp [turn_len]
  rw [hl, List.length_append, Nat.add_sub_cancel, List.drop_left]
theorem splitE_some {down : Bool} {b : List UInt8} {x : Tr Unit} {s : List UInt8} (h : splitE down b = some (x, s)) : b = encD down x ++ s ∧ check x = 0 ∧ KeyedAll x ∧ PlainAll x := by
  unfold splitE at h
  cases hd : dec 9 (if down then turn b else b) with
  | none => rw [hd] at h; cases h
  | some p =>
    obtain ⟨y, t⟩ := p
    rw [hd] at h
    simp only at h
    by_cases hc : check y = 0
    · rw [if_pos hc] at h
      cases h
      obtain ⟨e1, e2, e3, _⟩ := dec_some 9 _ _ _ hd
      refine ⟨?_, hc, e2, e3⟩
      have hb : b = encD down x ++ (if down then turn t else t) := by
        cases down
        · exact e1
        · simp only [if_true] at e1 ⊢
          have := congrArg turn e1
          rw [turn_turn] at this
          rw [this]; unfold turn; rw [List.map_append]; rfl
      have hl : (if down = true then turn t else t).length = t.length := by cases down <;> simp [turn_len]
      have hlb : b.length = (encD down x).length + t.length := by rw [hb, List.length_append, hl]
      have : b.drop (b.length - t.length) = (if down then turn t else t) := by
        rw [hlb, Nat.add_sub_cancel]
        conv => lhs; rw [hb]
        exact List.drop_left
      rw [this]; exact hb
    · rw [if_neg hc] at h; cases h
/-- A key's bytes are at least one. -/
theorem splitE_less {down : Bool} {b : List UInt8} {x : Tr Unit} {s : List UInt8} (h : splitE down b = some (x, s)) : s.length < b.length := by
  obtain ⟨e, _, hk, _⟩ := splitE_some h
  obtain ⟨c, r, hr⟩ := encD_ne hk.here down
  rw [e, hr]; simp
  omega

/-- The tuple that bytes are; or how many bytes were left where it ends. -/
def decT (d : Nat → Bool) : Nat → Nat → List UInt8 → Except Nat (List (Tr Unit))
  | _, _, [] => .ok []
  | 0, _, _ :: _ => .ok []
  | n + 1, i, c :: r =>
    match splitE (d i) (c :: r) with
    | none => .error (c :: r).length
    | some (x, s) => if i = 4 then .error (c :: r).length else
      match decT d n (i + 1) s with
      | .error e => .error e
      | .ok l => .ok (x :: l)
theorem decT_cons {d : Nat → Bool} {n i : Nat} {b : List UInt8} (hb : b ≠ []) : decT d (n + 1) i b = match splitE (d i) b with
    | none => .error b.length
    | some (x, s) => if i = 4 then .error b.length else match decT d n (i + 1) s with | .error e => .error e | .ok l => .ok (x :: l) := by
  cases b with
  | nil => exact absurd rfl hb
  | cons c r => rfl
theorem decT_fuel (d : Nat → Bool) : ∀ (n m i : Nat) (b : List UInt8), b.length ≤ n → b.length ≤ m → decT d n i b = decT d m i b
  | _, _, _, [], _, _ => by rw [decT, decT]
  | 0, _, _, c :: r, h, _ => by simp at h
  | _ + 1, 0, _, c :: r, _, h => by simp at h
  | n + 1, m + 1, i, c :: r, hn, hm => by
    unfold decT
    cases hs : splitE (d i) (c :: r) with
    | none => rfl
    | some p =>
      obtain ⟨x, s⟩ := p
      have := splitE_less hs
      simp only
      rw [decT_fuel d n m (i + 1) s (by omega) (by omega)]
/-- What is written is read. -/
theorem decT_enc (d : Nat → Bool) : ∀ (l : List (Tr α)) (n i : Nat), (∀ x ∈ l, oneErr x = 0) → (∀ x ∈ l, Nums x) → i + l.length ≤ 4 → (encT d i l).length ≤ n → decT d n i (encT d i l) = .ok (l.map bare)
  | [], n, i, _, _, _, _ => by unfold encT decT; rfl
  | x :: l, n, i, h, hN, hi, hn => by
    have h1 := h x (List.mem_cons_self ..)
    have h2 := hN x (List.mem_cons_self ..)
    obtain ⟨c, r, hr⟩ := encD_ne (one_ok h1 h2).1.here (d i)
    have hs := splitE_enc (d i) x (encT d (i + 1) l) h1 h2
    unfold encT at hn ⊢
    have hpos : 0 < (encD (d i) x).length := by rw [hr]; simp
    rw [List.length_append] at hn
    cases n with
    | zero => omega
    | succ n =>
      rw [decT_cons (by rw [hr]; simp), hs]
      simp only
      simp only [List.length_cons] at hi
      rw [if_neg (by omega), decT_enc d l n (i + 1) (fun x hx => h x (List.mem_cons_of_mem _ hx)) (fun x hx => hN x (List.mem_cons_of_mem _ hx)) (by omega) (by omega)]
      rfl
/-- What is read is written the same. -/
theorem decT_ok (d : Nat → Bool) : ∀ (n i : Nat) (b : List UInt8) (l : List (Tr Unit)), b.length ≤ n → decT d n i b = .ok l → b = encT d i l ∧ (∀ x ∈ l, check x = 0 ∧ KeyedAll x ∧ PlainAll x) ∧ (l ≠ [] → i + l.length ≤ 4 ∨ 4 < i)
  | n, i, [], l, _, h => by
    rw [decT] at h; cases h
    exact ⟨rfl, (fun _ h => nomatch h), fun h => absurd rfl h⟩
  | 0, _, c :: r, _, hn, _ => by simp at hn
  | n + 1, i, c :: r, l, hn, h => by
    rw [decT_cons (by simp)] at h
    cases hs : splitE (d i) (c :: r) with
    | none => rw [hs] at h; cases h
    | some p =>
      obtain ⟨x, s⟩ := p
      rw [hs] at h
      simp only at h
      by_cases h4 : i = 4
      · rw [if_pos h4] at h; cases h
      · rw [if_neg h4] at h
        cases hd : decT d n (i + 1) s with
        | error e => rw [hd] at h; cases h
        | ok l2 =>
          rw [hd] at h
          cases h
          have hl := splitE_less hs
          obtain ⟨e1, e2, e3, e4⟩ := splitE_some hs
          obtain ⟨i1, i2, i3⟩ := decT_ok d n (i + 1) s l2 (by omega) hd
          refine ⟨by unfold encT; rw [← i1]; exact e1, fun y hy => ?_, fun _ => ?_⟩
          · rcases List.mem_cons.1 hy with rfl | hy
            · exact ⟨e2, e3, e4⟩
            · exact i2 y hy
          · cases l2 with
            | nil => simp only [List.length_cons, List.length_nil]; omega
            | cons z l2 =>
              have := i3 (by simp)
              simp only [List.length_cons] at this ⊢
              omega
end Tr
end Go.Proofs.YtijcleiekafoiaaGreatDoor

/- Values as bytes, without a program: what is written, what is read; and back. -/
namespace Go.Proofs.YtijcleiekafoiaaGreatDoor
open Go.RowKit

/-- A text with its length. -/
def vt (t : List UInt8) : List UInt8 := vi t.length ++ t
/-- A number that bytes begin with, and what stands behind. -/
def rvi (b : List UInt8) : Option (Nat × List UInt8) := if (vl 0 0 b).2.2 = 0 then some ((vl 0 0 b).1, b.drop (vl 0 0 b).2.1) else none
/-- A text that bytes begin with, and what stands behind. -/
def rvt (b : List UInt8) : Option (List UInt8 × List UInt8) :=
  match rvi b with
  | none => none
  | some (n, r) => if n ≤ r.length then some (r.take n, r.drop n) else none

theorem rvi_vi (n : Nat) (s : List UInt8) (h : n < 2 ^ 64) : rvi (vi n ++ s) = some (n, s) := by
  have e := vl_at n n 0 0 s (Nat.le_refl _) (by omega) (by simpa using h) (fun h => by omega)
  unfold rvi
  rw [e]
  simp
theorem rvi_some {b : List UInt8} {n : Nat} {s : List UInt8} (h : rvi b = some (n, s)) : b = vi n ++ s ∧ n < 18446744073709551616 := by
  unfold rvi at h
  by_cases h0 : (vl 0 0 b).2.2 = 0
  · rw [if_pos h0] at h
    simp only [Option.some.injEq, Prod.mk.injEq] at h
    obtain ⟨rfl, rfl⟩ := h
    obtain ⟨e, _, _⟩ := one_form b h0
    exact ⟨by rw [e, List.take_append_drop], vl_64 b 0 0 (by omega) (by decide)⟩
  · rw [if_neg h0] at h; cases h
theorem rvt_vt (t s : List UInt8) (h : t.length < 2 ^ 64) : rvt (vt t ++ s) = some (t, s) := by
  unfold rvt vt
  rw [List.append_assoc, rvi_vi _ _ h]
  simp
theorem rvt_some {b t s : List UInt8} (h : rvt b = some (t, s)) : b = vt t ++ s ∧ t.length < 18446744073709551616 := by
  unfold rvt at h
  cases h1 : rvi b with
  | none => rw [h1] at h; cases h
  | some p =>
    obtain ⟨n, r⟩ := p
    rw [h1] at h
    obtain ⟨e, hn⟩ := rvi_some h1
    simp only at h
    by_cases h2 : n ≤ r.length
    · rw [if_pos h2] at h
      simp only [Option.some.injEq, Prod.mk.injEq] at h
      obtain ⟨rfl, rfl⟩ := h
      have hl : (r.take n).length = n := by rw [List.length_take]; omega
      unfold vt
      rw [hl]
      exact ⟨by rw [e, List.append_assoc, List.take_append_drop], hn⟩
    · rw [if_neg h2] at h; cases h
theorem zz_uz (n : Nat) : zz (uz n) = n := by
  unfold zz uz
  by_cases h : n % 2 = 0
  · rw [if_pos h, if_pos (by omega)]; omega
  · rw [if_neg h, if_neg (by omega)]; omega
theorem uz_64 {n : Nat} (h : n < 18446744073709551616) : -9223372036854775808 ≤ uz n ∧ uz n ≤ 9223372036854775807 := by
  unfold uz
  split <;> omega

theorem kinds7 {k : UInt8} (h1 : 1 ≤ k) (h2 : k ≤ 7) : k = 1 ∨ k = 2 ∨ k = 3 ∨ k = 4 ∨ k = 5 ∨ k = 6 ∨ k = 7 := by
  by_cases h : k = 7
  · simp [h]
  · rcases Tr.kinds h1 h2 h with h | h | h | h | h | h <;> simp [h]
theorem lt0 : (0 : Nat) < 18446744073709551616 := by decide

namespace Tr
variable {α : Type}
/-- The bytes of a value. -/
def denc (x : Tr α) : List UInt8 :=
  if x.k = 1 then [1] else if x.k = 2 then [if x.b then 3 else 2] else if x.k = 3 then 4 :: vi (zz x.i)
  else if x.k = 4 then 5 :: vt x.t else if x.k = 5 then 6 :: vt x.bs
  else if x.k = 6 then 7 :: (vi x.l.length ++ x.l.attach.flatMap fun y => denc y.1)
  else if x.k = 7 then 8 :: (vi x.f.length ++ x.f.attach.flatMap fun p => vt p.1.1 ++ denc p.1.2) else []
termination_by SizeOf.sizeOf x
decreasing_by
  · exact mem_l_lt y.2
  · exact mem_f_lt p.2
/-- Of a field. -/
def fenc (p : List UInt8 × Tr α) : List UInt8 := vt p.1 ++ denc p.2
theorem denc_eq (x : Tr α) : denc x = if x.k = 1 then [1] else if x.k = 2 then [if x.b then 3 else 2] else if x.k = 3 then 4 :: vi (zz x.i)
    else if x.k = 4 then 5 :: vt x.t else if x.k = 5 then 6 :: vt x.bs
    else if x.k = 6 then 7 :: (vi x.l.length ++ x.l.flatMap denc)
    else if x.k = 7 then 8 :: (vi x.f.length ++ x.f.flatMap fenc) else [] := by
  rw [denc, List.flatMap_subtype (g := denc) (fun _ _ => rfl), List.unattach_attach, List.flatMap_subtype (g := fenc) (fun _ _ => rfl), List.unattach_attach]

def ddecL (g : List UInt8 → Option (Tr Unit × List UInt8)) : Nat → List UInt8 → Option (List (Tr Unit) × List UInt8)
  | 0, b => some ([], b)
  | n + 1, b => match g b with
    | none => none
    | some (x, s) => (ddecL g n s).map fun p => (x :: p.1, p.2)
def ddecF (g : List UInt8 → Option (Tr Unit × List UInt8)) : Nat → List UInt8 → Option (List (List UInt8 × Tr Unit) × List UInt8)
  | 0, b => some ([], b)
  | n + 1, b => match rvt b with
    | none => none
    | some (t, r) => match g r with
      | none => none
      | some (x, s) => (ddecF g n s).map fun p => ((t, x) :: p.1, p.2)
/-- The value that bytes begin with, no deeper than that, and what stands behind. -/
def ddec : Nat → List UInt8 → Option (Tr Unit × List UInt8)
  | 0, _ => none
  | _ + 1, [] => none
  | d + 1, c :: r =>
    if c = 1 then some (only 1, r) else if c = 2 then some (only 2, r) else if c = 3 then some (.mk 2 true 0 [] [] () [] [], r)
    else if c = 4 then (rvi r).map fun p => (.mk 3 false (uz p.1) [] [] () [] [], p.2)
    else if c = 5 then (rvt r).map fun p => (.mk 4 false 0 p.1 [] () [] [], p.2)
    else if c = 6 then (rvt r).map fun p => (.mk 5 false 0 [] p.1 () [] [], p.2)
    else if c = 7 then (match rvi r with | none => none | some (n, s) => (ddecL (ddec d) n s).map fun p => (.mk 6 false 0 [] [] () p.1 [], p.2))
    else if c = 8 then (match rvi r with | none => none | some (n, s) => (ddecF (ddec d) n s).map fun p => (.mk 7 false 0 [] [] () [] p.1, p.2))
    else none

/-- Of a right shape, all of it, and of lengths that may be written. -/
structure Fit (x : Tr α) : Prop where
  shape : shapeV x = true
  i : I64 x.i
  t : x.t.length < 18446744073709551616
  bs : x.bs.length < 18446744073709551616
  l : x.l.length < 18446744073709551616
  f : x.f.length < 18446744073709551616
  n : ∀ p ∈ x.f, p.1.length < 18446744073709551616
inductive FitAll : Tr α → Prop
  | mk (x : Tr α) (h : Fit x) (hl : ∀ y ∈ x.kids, FitAll y) : FitAll x
theorem FitAll.here {x : Tr α} : FitAll x → Fit x | .mk _ h _ => h
theorem FitAll.kid {x : Tr α} : FitAll x → ∀ y ∈ x.kids, FitAll y | .mk _ _ h => h

theorem ddecL_enc {g : List UInt8 → Option (Tr Unit × List UInt8)} : ∀ (l : List (Tr α)) (s : List UInt8), (∀ x ∈ l, ∀ s, g (denc x ++ s) = some (bare x, s)) → ddecL g l.length (l.flatMap denc ++ s) = some (l.map bare, s)
  | [], s, _ => rfl
  | x :: l, s, hg => by
    rw [List.flatMap_cons, List.append_assoc, List.length_cons]
    unfold ddecL
    rw [hg x (.head _)]
    simp only [ddecL_enc l s (fun x hx => hg x (.tail _ hx)), Option.map_some, List.map_cons]
theorem ddecF_enc {g : List UInt8 → Option (Tr Unit × List UInt8)} : ∀ (l : List (List UInt8 × Tr α)) (s : List UInt8), (∀ p ∈ l, p.1.length < 18446744073709551616) → (∀ p ∈ l, ∀ s, g (denc p.2 ++ s) = some (bare p.2, s)) → ddecF g l.length (l.flatMap fenc ++ s) = some (l.map fun p => (p.1, bare p.2), s)
  | [], s, _, _ => rfl
  | p :: l, s, hn, hg => by
    rw [List.flatMap_cons, List.append_assoc, List.length_cons]
    unfold ddecF fenc
    rw [List.append_assoc, rvt_vt _ _ (hn p (.head _))]
    simp only [hg p (.head _)]
    have := ddecF_enc l s (fun p hp => hn p (.tail _ hp)) (fun p hp => hg p (.tail _ hp))
    unfold fenc at this
    simp only [this, Option.map_some, List.map_cons]

theorem kids_l {x y : Tr α} (h : y ∈ x.l) : y ∈ x.kids := List.mem_append_left _ h
theorem kids_f {x : Tr α} {p : List UInt8 × Tr α} (h : p ∈ x.f) : p.2 ∈ x.kids := List.mem_append_right _ (List.mem_map_of_mem h)

/-- What is written is read as it was. -/
theorem ddec_enc (d : Nat) (x : Tr α) (s : List UInt8) (hx : FitAll x) (hd : deep d x = false) : ddec d (denc x ++ s) = some (bare x, s) := by
  induction d generalizing x s with
  | zero => simp [deep] at hd
  | succ d ih =>
    obtain ⟨⟨hk1, hk2⟩, s2, s3, s4, s5, s6, s7⟩ := shape_parts hx.here.shape
    have hdk : ∀ y ∈ x.kids, deep d y = false := fun y hy => by
      simp only [deep, List.any_eq_false] at hd
      simpa using hd y hy
    have ihk : ∀ y ∈ x.kids, ∀ s, ddec d (denc y ++ s) = some (bare y, s) := fun y hy s => ih y s (hx.kid y hy) (hdk y hy)
    have hb : ∀ {y : Tr Unit}, y.k = x.k → y.b = x.b → y.i = x.i → y.t = x.t → y.bs = x.bs → y.l = x.l.map bare → y.f = x.f.map (fun p => (p.1, bare p.2)) → y = bare x := fun h1 h2 h3 h4 h5 h6 h7 => tr_ext (by rw [h1, bare_k]) (by rw [h2, bare_b]) (by rw [h3, bare_i]) (by rw [h4, bare_t]) (by rw [h5, bare_bs]) (by rw [h6, bare_l]) (by rw [h7, bare_f])
    have e : x.k = 1 ∨ x.k = 2 ∨ x.k = 3 ∨ x.k = 4 ∨ x.k = 5 ∨ x.k = 6 ∨ x.k = 7 := kinds7 hk1 hk2
    rw [denc_eq]
    rcases e with h | h | h | h | h | h | h <;> rw [h] at s2 s3 s4 s5 s6 s7 ⊢
    · have e := hb (y := only 1) h.symm (s2 (by decide)).symm (s3 (by decide)).symm (s4 (by decide)).symm (s5 (by decide)).symm (by rw [s6 (by decide)]; rfl) (by rw [s7 (by decide)]; rfl)
      rw [← e]; rfl
    · cases hbv : x.b with
      | false =>
        have e := hb (y := only 2) h.symm hbv.symm (s3 (by decide)).symm (s4 (by decide)).symm (s5 (by decide)).symm (by rw [s6 (by decide)]; rfl) (by rw [s7 (by decide)]; rfl)
        rw [← e]; rfl
      | true =>
        have e := hb (y := .mk 2 true 0 [] [] () [] []) h.symm hbv.symm (s3 (by decide)).symm (s4 (by decide)).symm (s5 (by decide)).symm (by rw [s6 (by decide)]; rfl) (by rw [s7 (by decide)]; rfl)
        rw [← e]; rfl
    · have hi := hx.here.i
      have e := hb (y := .mk 3 false (uz (zz x.i)) [] [] () [] []) h.symm (s2 (by decide)).symm (uz_zz x.i hi.lo hi.hi) (s4 (by decide)).symm (s5 (by decide)).symm (by rw [s6 (by decide)]; rfl) (by rw [s7 (by decide)]; rfl)
      rw [← e]
      show ddec (d + 1) (4 :: (vi (zz x.i) ++ s)) = _
      unfold ddec
      rw [if_neg (by decide), if_neg (by decide), if_neg (by decide), if_pos rfl, rvi_vi _ _ (zz_lt x.i hi.lo hi.hi)]
      rfl
    · have e := hb (y := .mk 4 false 0 x.t [] () [] []) h.symm (s2 (by decide)).symm (s3 (by decide)).symm rfl (s5 (by decide)).symm (by rw [s6 (by decide)]; rfl) (by rw [s7 (by decide)]; rfl)
      rw [← e]
      show ddec (d + 1) (5 :: (vt x.t ++ s)) = _
      unfold ddec
      rw [if_neg (by decide), if_neg (by decide), if_neg (by decide), if_neg (by decide), if_pos rfl, rvt_vt _ _ hx.here.t]
      rfl
    · have e := hb (y := .mk 5 false 0 [] x.bs () [] []) h.symm (s2 (by decide)).symm (s3 (by decide)).symm (s4 (by decide)).symm rfl (by rw [s6 (by decide)]; rfl) (by rw [s7 (by decide)]; rfl)
      rw [← e]
      show ddec (d + 1) (6 :: (vt x.bs ++ s)) = _
      unfold ddec
      rw [if_neg (by decide), if_neg (by decide), if_neg (by decide), if_neg (by decide), if_neg (by decide), if_pos rfl, rvt_vt _ _ hx.here.bs]
      rfl
    · have e := hb (y := .mk 6 false 0 [] [] () (x.l.map bare) []) h.symm (s2 (by decide)).symm (s3 (by decide)).symm (s4 (by decide)).symm (s5 (by decide)).symm rfl (by rw [s7 (by decide)]; rfl)
      rw [← e]
      show ddec (d + 1) (7 :: (vi x.l.length ++ x.l.flatMap denc ++ s)) = _
      unfold ddec
      rw [if_neg (by decide), if_neg (by decide), if_neg (by decide), if_neg (by decide), if_neg (by decide), if_neg (by decide), if_pos rfl, List.append_assoc, rvi_vi _ _ hx.here.l]
      simp only
      rw [ddecL_enc x.l s (fun y hy => ihk y (kids_l hy))]
      rfl
    · have e := hb (y := .mk 7 false 0 [] [] () [] (x.f.map fun p => (p.1, bare p.2))) h.symm (s2 (by decide)).symm (s3 (by decide)).symm (s4 (by decide)).symm (s5 (by decide)).symm (by rw [s6 (by decide)]; rfl) rfl
      rw [← e]
      show ddec (d + 1) (8 :: (vi x.f.length ++ x.f.flatMap fenc ++ s)) = _
      unfold ddec
      rw [if_neg (by decide), if_neg (by decide), if_neg (by decide), if_neg (by decide), if_neg (by decide), if_neg (by decide), if_neg (by decide), if_pos rfl, List.append_assoc, rvi_vi _ _ hx.here.f]
      simp only
      rw [ddecF_enc x.f s hx.here.n (fun p hp => ihk p.2 (kids_f hp))]
      rfl

/-- Bytes that are read are those of what is read. -/
theorem ddecL_some {g : List UInt8 → Option (Tr Unit × List UInt8)} {Q : Tr Unit → Prop} (hg : ∀ b x s, g b = some (x, s) → b = denc x ++ s ∧ Q x) : ∀ (n : Nat) (b : List UInt8) (l : List (Tr Unit)) (s : List UInt8), ddecL g n b = some (l, s) → b = l.flatMap denc ++ s ∧ l.length = n ∧ ∀ x ∈ l, Q x
  | 0, b, l, s, h => by
    cases h
    exact ⟨rfl, rfl, fun _ h => nomatch h⟩
  | n + 1, b, l, s, h => by
    unfold ddecL at h
    cases hgc : g b with
    | none => rw [hgc] at h; cases h
    | some p =>
      obtain ⟨x, s1⟩ := p
      rw [hgc] at h
      simp only [Option.map_eq_some_iff] at h
      obtain ⟨⟨l2, s2⟩, h3, h4⟩ := h
      cases h4
      obtain ⟨e1, e2⟩ := hg _ _ _ hgc
      obtain ⟨e3, e4, e5⟩ := ddecL_some hg n s1 l2 s2 h3
      refine ⟨by rw [List.flatMap_cons, List.append_assoc, ← e3]; exact e1, by rw [List.length_cons, e4], fun y hy => ?_⟩
      rcases List.mem_cons.1 hy with rfl | hy
      · exact e2
      · exact e5 y hy
theorem ddecF_some {g : List UInt8 → Option (Tr Unit × List UInt8)} {Q : Tr Unit → Prop} (hg : ∀ b x s, g b = some (x, s) → b = denc x ++ s ∧ Q x) : ∀ (n : Nat) (b : List UInt8) (l : List (List UInt8 × Tr Unit)) (s : List UInt8), ddecF g n b = some (l, s) → b = l.flatMap fenc ++ s ∧ l.length = n ∧ ∀ p ∈ l, Q p.2 ∧ p.1.length < 18446744073709551616
  | 0, b, l, s, h => by
    cases h
    exact ⟨rfl, rfl, fun _ h => nomatch h⟩
  | n + 1, b, l, s, h => by
    unfold ddecF at h
    cases hrt : rvt b with
    | none => rw [hrt] at h; cases h
    | some q =>
      obtain ⟨t, r⟩ := q
      rw [hrt] at h
      simp only at h
      cases hgc : g r with
      | none => rw [hgc] at h; cases h
      | some p =>
        obtain ⟨x, s1⟩ := p
        rw [hgc] at h
        simp only [Option.map_eq_some_iff] at h
        obtain ⟨⟨l2, s2⟩, h3, h4⟩ := h
        cases h4
        obtain ⟨e0, e00⟩ := rvt_some hrt
        obtain ⟨e1, e2⟩ := hg _ _ _ hgc
        obtain ⟨e3, e4, e5⟩ := ddecF_some hg n s1 l2 s2 h3
        refine ⟨by rw [List.flatMap_cons, List.append_assoc, ← e3]; unfold fenc; rw [List.append_assoc, ← e1]; exact e0, by rw [List.length_cons, e4], fun y hy => ?_⟩
        rcases List.mem_cons.1 hy with rfl | hy
        · exact ⟨e2, e00⟩
        · exact e5 y hy
theorem ddec_some (d : Nat) : ∀ (b : List UInt8) (x : Tr Unit) (s : List UInt8), ddec d b = some (x, s) → b = denc x ++ s ∧ FitAll x ∧ deep d x = false := by
  induction d with
  | zero => intro b x s h; cases h
  | succ d ih =>
    intro b x s h
    have z : I64 0 := ⟨by decide, by decide⟩
    have nof : ∀ p ∈ ([] : List (List UInt8 × Tr Unit)), p.1.length < 18446744073709551616 := fun _ h => nomatch h
    have nok : ∀ y ∈ ([] : List (Tr Unit)), FitAll y := fun _ h => nomatch h
    cases b with
    | nil => cases h
    | cons c r =>
      unfold ddec at h
      by_cases h1 : c = 1
      · rw [if_pos h1] at h; cases h; subst h1
        exact ⟨by rw [denc_eq]; rfl, ⟨_, ⟨rfl, z, lt0, lt0, lt0, lt0, nof⟩, nok⟩, rfl⟩
      rw [if_neg h1] at h
      by_cases h1 : c = 2
      · rw [if_pos h1] at h; cases h; subst h1
        exact ⟨by rw [denc_eq]; rfl, ⟨_, ⟨rfl, z, lt0, lt0, lt0, lt0, nof⟩, nok⟩, rfl⟩
      rw [if_neg h1] at h
      by_cases h1 : c = 3
      · rw [if_pos h1] at h; cases h; subst h1
        exact ⟨by rw [denc_eq]; rfl, ⟨_, ⟨rfl, z, lt0, lt0, lt0, lt0, nof⟩, nok⟩, rfl⟩
      rw [if_neg h1] at h
      by_cases h1 : c = 4
      · rw [if_pos h1, Option.map_eq_some_iff] at h
        obtain ⟨⟨n, s'⟩, h3, h4⟩ := h
        cases h4; subst h1
        obtain ⟨e1, e2⟩ := rvi_some h3
        obtain ⟨u1, u2⟩ := uz_64 e2
        refine ⟨?_, ⟨_, ⟨rfl, ⟨u1, u2⟩, lt0, lt0, lt0, lt0, nof⟩, nok⟩, rfl⟩
        rw [denc_eq]
        show 4 :: r = 4 :: vi (zz (uz n)) ++ s'
        rw [zz_uz, e1]; rfl
      rw [if_neg h1] at h
      by_cases h1 : c = 5
      · rw [if_pos h1, Option.map_eq_some_iff] at h
        obtain ⟨⟨t, s'⟩, h3, h4⟩ := h
        cases h4; subst h1
        obtain ⟨e1, e2⟩ := rvt_some h3
        refine ⟨?_, ⟨_, ⟨rfl, z, e2, lt0, lt0, lt0, nof⟩, nok⟩, rfl⟩
        rw [denc_eq]
        show 5 :: r = 5 :: vt t ++ s'
        rw [e1]; rfl
      rw [if_neg h1] at h
      by_cases h1 : c = 6
      · rw [if_pos h1, Option.map_eq_some_iff] at h
        obtain ⟨⟨t, s'⟩, h3, h4⟩ := h
        cases h4; subst h1
        obtain ⟨e1, e2⟩ := rvt_some h3
        refine ⟨?_, ⟨_, ⟨rfl, z, lt0, e2, lt0, lt0, nof⟩, nok⟩, rfl⟩
        rw [denc_eq]
        show 6 :: r = 6 :: vt t ++ s'
        rw [e1]; rfl
      rw [if_neg h1] at h
      by_cases h1 : c = 7
      · rw [if_pos h1] at h
        cases hn : rvi r with
        | none => rw [hn] at h; cases h
        | some p =>
          obtain ⟨n, r2⟩ := p
          rw [hn] at h
          simp only [Option.map_eq_some_iff] at h
          obtain ⟨⟨l, s'⟩, h3, h4⟩ := h
          cases h4; subst h1
          obtain ⟨e0, e00⟩ := rvi_some hn
          obtain ⟨e1, e2, e3⟩ := ddecL_some (Q := fun x => FitAll x ∧ deep d x = false) ih n r2 l s' h3
          have hk : ∀ y ∈ (Tr.mk 6 false 0 [] [] () l [] : Tr Unit).kids, FitAll y ∧ deep d y = false := fun y hy => e3 y (by simpa [kids, Tr.l, Tr.f] using hy)
          refine ⟨?_, ⟨_, ⟨rfl, z, lt0, lt0, by show l.length < _; rw [e2]; exact e00, lt0, nof⟩, fun y hy => (hk y hy).1⟩, ?_⟩
          · rw [denc_eq]
            show 7 :: r = 7 :: (vi l.length ++ l.flatMap denc) ++ s'
            rw [e0, e1, e2]; simp
          · unfold deep
            rw [List.any_eq_false]
            exact fun y hy => by rw [(hk y hy).2]; exact Bool.false_ne_true
      rw [if_neg h1] at h
      by_cases h1 : c = 8
      · rw [if_pos h1] at h
        cases hn : rvi r with
        | none => rw [hn] at h; cases h
        | some p =>
          obtain ⟨n, r2⟩ := p
          rw [hn] at h
          simp only [Option.map_eq_some_iff] at h
          obtain ⟨⟨l, s'⟩, h3, h4⟩ := h
          cases h4; subst h1
          obtain ⟨e0, e00⟩ := rvi_some hn
          obtain ⟨e1, e2, e3⟩ := ddecF_some (Q := fun x => FitAll x ∧ deep d x = false) ih n r2 l s' h3
          have hk : ∀ y ∈ (Tr.mk 7 false 0 [] [] () [] l : Tr Unit).kids, FitAll y ∧ deep d y = false := fun y hy => by
            obtain ⟨p, hp, rfl⟩ := List.mem_map.1 (by simpa [kids, Tr.l, Tr.f] using hy : y ∈ l.map Prod.snd)
            exact (e3 p hp).1
          refine ⟨?_, ⟨_, ⟨rfl, z, lt0, lt0, lt0, by show l.length < _; rw [e2]; exact e00, fun p hp => (e3 p hp).2⟩, fun y hy => (hk y hy).1⟩, ?_⟩
          · rw [denc_eq]
            show 8 :: r = 8 :: (vi l.length ++ l.flatMap fenc) ++ s'
            rw [e0, e1, e2]; simp
          · unfold deep
            rw [List.any_eq_false]
            exact fun y hy => by rw [(hk y hy).2]; exact Bool.false_ne_true
      rw [if_neg h1] at h; cases h
end Tr
end Go.Proofs.YtijcleiekafoiaaGreatDoor

/- How much there is in values: the plain part. -/
namespace Go.Proofs.YtijcleiekafoiaaGreatDoor
open Tr

/-- How much there is in a value. -/
def wgt {α : Type} (x : Tr α) : Nat := 1 + x.t.length / 64 + x.bs.length / 64 + (x.l.attach.map fun y => wgt y.1).sum + (x.f.attach.map fun p => p.1.1.length / 64 + wgt p.1.2).sum
termination_by SizeOf.sizeOf x
decreasing_by
  · exact mem_l_lt y.2
  · exact mem_f_lt p.2
def wgtL {α : Type} (l : List (Tr α)) : Nat := (l.map wgt).sum
def wgtF {α : Type} (l : List (List UInt8 × Tr α)) : Nat := (l.map fun p => p.1.length / 64 + wgt p.2).sum
theorem wgt_eq {α : Type} (x : Tr α) : wgt x = 1 + x.t.length / 64 + x.bs.length / 64 + wgtL x.l + wgtF x.f := by
  rw [wgt]
  congr 1
  · congr 1
    unfold wgtL
    conv => rhs; rw [← List.attach_map_subtype_val x.l, List.map_map]
    rfl
  · unfold wgtF
    conv => rhs; rw [← List.attach_map_subtype_val x.f, List.map_map]
    rfl
theorem wgtL_snoc {α : Type} {l : List (Tr α)} {j : Nat} (h : j < l.length) : wgtL (l.take (j + 1)) = wgtL (l.take j) + wgt l[j] := by
  unfold wgtL
  rw [List.take_succ_eq_append_getElem h, List.map_append, List.sum_append]
  simp
theorem wgtF_snoc {α : Type} {l : List (List UInt8 × Tr α)} {j : Nat} (h : j < l.length) : wgtF (l.take (j + 1)) = wgtF (l.take j) + (l[j].1.length / 64 + wgt l[j].2) := by
  unfold wgtF
  rw [List.take_succ_eq_append_getElem h, List.map_append, List.sum_append]
  simp
end Go.Proofs.YtijcleiekafoiaaGreatDoor

/- Values as bytes, without a program: how long they are; places in a reader. -/
namespace Go.Proofs.YtijcleiekafoiaaGreatDoor
open Go.RowKit

/-- A reader without an error, and what it has before it. -/
structure RS.On (l : List UInt8) (s : RS) (r : List UInt8) : Prop where
  e : s.e = 0
  p : s.pos ≤ l.length
  r : l.drop s.pos = r

theorem RS.fail_ne {s : RS} {k : Nat} (h : k ≠ 0) : (s.fail k).e ≠ 0 := by
  unfold RS.fail
  split
  · exact h
  · assumption
theorem RS.take_bad {l : List UInt8} {s : RS} (n : Int) (h : s.e ≠ 0) : RS.take l n s = ([], s) := by
  unfold RS.take; rw [if_pos h]
theorem RS.var_bad {l : List UInt8} {s : RS} (h : s.e ≠ 0) : RS.var l s = (0, s) := by
  unfold RS.var; rw [if_pos h]
theorem RS.text_bad {l : List UInt8} {s : RS} (h : s.e ≠ 0) : RS.text l s = ([], s) := by
  unfold RS.text
  rw [RS.var_bad h, if_neg (by simp), RS.take_bad _ h]

theorem RS.On.len {l r : List UInt8} {s : RS} (h : s.On l r) : r.length = l.length - s.pos := by rw [← h.r, List.length_drop]
theorem RS.On.move {l r : List UInt8} {s : RS} (h : s.On l r) (k : Nat) (hk : k ≤ r.length) : RS.On l ⟨s.pos + k, s.e, s.wh⟩ (r.drop k) := by
  refine ⟨h.e, ?_, ?_⟩
  · have h1 := h.len; have h2 := h.p
    show s.pos + k ≤ l.length
    omega
  · show l.drop (s.pos + k) = _
    rw [← h.r, List.drop_drop]
theorem RS.On.take {l r : List UInt8} {s : RS} (h : s.On l r) {k : Nat} (hk : k ≤ r.length) : RS.take l (k : Int) s = (r.take k, ⟨s.pos + k, s.e, s.wh⟩) := by
  unfold RS.take
  have h1 := h.len; have h2 := h.p
  rw [if_neg (by rw [h.e]; simp), if_neg (by omega), if_neg (by omega), h.r]
  simp
theorem RS.On.take_no {l r : List UInt8} {s : RS} (h : s.On l r) {k : Nat} (hk : r.length < k) : RS.take l (k : Int) s = ([], s.fail 20) := by
  unfold RS.take
  have h1 := h.len; have h2 := h.p
  rw [if_neg (by rw [h.e]; simp), if_neg (by omega), if_pos (by omega)]
theorem RS.On.one {l r : List UInt8} {s : RS} {c : UInt8} (h : s.On l (c :: r)) : RS.take l 1 s = ([c], ⟨s.pos + 1, s.e, s.wh⟩) ∧ RS.On l ⟨s.pos + 1, s.e, s.wh⟩ r :=
  ⟨h.take (k := 1) (by simp), h.move 1 (by simp)⟩
theorem RS.On.one_no {l : List UInt8} {s : RS} (h : s.On l []) : RS.take l 1 s = ([], s.fail 20) := h.take_no (k := 1) (by simp)

theorem RS.On.var {l r r' : List UInt8} {s : RS} {n : Nat} (h : s.On l r) (hv : rvi r = some (n, r')) : (s.var l).1 = n ∧ RS.On l (s.var l).2 r' := by
  unfold rvi at hv
  by_cases h0 : (vl 0 0 r).2.2 = 0
  · rw [if_pos h0] at hv
    simp only [Option.some.injEq, Prod.mk.injEq] at hv
    obtain ⟨rfl, rfl⟩ := hv
    unfold RS.var
    rw [if_neg (by rw [h.e]; simp), h.r, if_neg (by rw [h0]; simp)]
    exact ⟨rfl, h.move _ (by have := vl_ok r 0 0 h0; omega)⟩
  · rw [if_neg h0] at hv; cases hv
theorem RS.On.var_no {l r : List UInt8} {s : RS} (h : s.On l r) (hv : rvi r = none) : (s.var l).1 = 0 ∧ (s.var l).2.e ≠ 0 := by
  unfold rvi at hv
  by_cases h0 : (vl 0 0 r).2.2 = 0
  · rw [if_pos h0] at hv; cases hv
  · unfold RS.var
    rw [if_neg (by rw [h.e]; simp), h.r, if_pos h0]
    exact ⟨rfl, RS.fail_ne h0⟩
theorem RS.On.text {l r r' t : List UInt8} {s : RS} (h : s.On l r) (hv : rvt r = some (t, r')) : (s.text l).1 = t ∧ RS.On l (s.text l).2 r' := by
  unfold rvt at hv
  cases hn : rvi r with
  | none => rw [hn] at hv; cases hv
  | some q =>
    obtain ⟨n, r1⟩ := q
    rw [hn] at hv
    simp only at hv
    obtain ⟨h1, h2⟩ := h.var hn
    by_cases h3 : n ≤ r1.length
    · rw [if_pos h3] at hv
      simp only [Option.some.injEq, Prod.mk.injEq] at hv
      obtain ⟨rfl, rfl⟩ := hv
      unfold RS.text
      rw [h1, if_neg (by have := h2.len; omega), h2.take h3]
      exact ⟨rfl, h2.move _ h3⟩
    · rw [if_neg h3] at hv; cases hv
theorem RS.On.text_no {l r : List UInt8} {s : RS} (h : s.On l r) (hv : rvt r = none) : (s.text l).1 = [] ∧ (s.text l).2.e ≠ 0 := by
  unfold rvt at hv
  cases hn : rvi r with
  | none =>
    obtain ⟨h1, h2⟩ := h.var_no hn
    unfold RS.text
    rw [h1, if_neg (by simp), RS.take_bad _ h2]
    exact ⟨rfl, h2⟩
  | some q =>
    obtain ⟨n, r1⟩ := q
    rw [hn] at hv
    simp only at hv
    obtain ⟨h1, h2⟩ := h.var hn
    by_cases h3 : n ≤ r1.length
    · rw [if_pos h3] at hv; cases hv
    · unfold RS.text
      rw [h1, if_pos (by have := h2.len; have := h2.p; omega)]
      refine ⟨rfl, ?_⟩
      exact RS.fail_ne (by decide)

theorem rvi_lt {b : List UInt8} {n : Nat} {s : List UInt8} (h : rvi b = some (n, s)) : s.length < b.length := by
  obtain ⟨e, _⟩ := rvi_some h
  have := vi_pos n
  rw [e, List.length_append]; omega
theorem rvt_lt {b t s : List UInt8} (h : rvt b = some (t, s)) : s.length + t.length < b.length := by
  obtain ⟨e, _⟩ := rvt_some h
  have := vi_pos t.length
  rw [e]; unfold vt
  simp only [List.length_append]; omega

namespace Tr
variable {α : Type}
theorem denc_pos (x : Tr α) (h1 : 1 ≤ x.k) (h2 : x.k ≤ 7) : 0 < (denc x).length := by
  have e : x.k = 1 ∨ x.k = 2 ∨ x.k = 3 ∨ x.k = 4 ∨ x.k = 5 ∨ x.k = 6 ∨ x.k = 7 := kinds7 h1 h2
  rw [denc_eq]
  rcases e with h | h | h | h | h | h | h <;> rw [h] <;> simp
theorem sum_flat {β : Type} (f : β → Nat) (g : β → List UInt8) : ∀ l : List β, (∀ x ∈ l, f x ≤ (g x).length) → (l.map f).sum ≤ (l.flatMap g).length
  | [], _ => Nat.le_refl _
  | x :: l, h => by
    rw [List.map_cons, List.sum_cons, List.flatMap_cons, List.length_append]
    have := h x (.head _)
    have := sum_flat f g l (fun y hy => h y (.tail _ hy))
    omega
theorem parts_sumk (x : Tr α) : parts x = 1 + (x.kids.map parts).sum := by
  unfold parts
  rw [pre_eq, List.length_cons, List.length_flatMap, Nat.add_comm]
  congr 2
  apply List.map_congr_left
  intro y _
  exact pre_len _ _ _
/-- A value has no more parts than bytes. -/
theorem parts_denc (x : Tr α) : FitAll x → parts x ≤ (denc x).length := by
  induction x using Tr.ind with
  | h x ih =>
    intro hf
    obtain ⟨⟨h1, h2⟩, s2, s3, s4, s5, s6, s7⟩ := shape_parts hf.here.shape
    have hp := denc_pos x h1 h2
    rw [parts_sumk, kids, List.map_append, List.sum_append, List.map_map]
    have hl := sum_flat parts denc x.l fun y hy => ih y (kids_l hy) (hf.kid y (kids_l hy))
    have hfl := sum_flat (parts ∘ Prod.snd) fenc x.f fun p hp => by
      have := ih p.2 (kids_f hp) (hf.kid p.2 (kids_f hp))
      unfold fenc vt
      simp only [List.length_append, Function.comp]
      omega
    have e := kinds7 h1 h2
    by_cases k6 : x.k = 6
    · have : x.f = [] := s7 (by rw [k6]; decide)
      rw [this] at hfl ⊢
      rw [denc_eq, if_neg (by rw [k6]; decide), if_neg (by rw [k6]; decide), if_neg (by rw [k6]; decide), if_neg (by rw [k6]; decide), if_neg (by rw [k6]; decide), if_pos k6]
      simp only [List.length_cons, List.length_append, List.map_nil, List.sum_nil]
      omega
    · have h6 : x.l = [] := s6 k6
      by_cases k7 : x.k = 7
      · rw [h6] at hl ⊢
        rw [denc_eq, if_neg (by rw [k7]; decide), if_neg (by rw [k7]; decide), if_neg (by rw [k7]; decide), if_neg (by rw [k7]; decide), if_neg (by rw [k7]; decide), if_neg (by rw [k7]; decide), if_pos k7]
        simp only [List.length_cons, List.length_append, List.map_nil, List.sum_nil]
        omega
      · rw [h6, s7 k7]
        simp only [List.map_nil, List.sum_nil]
        omega
theorem ddec_lt {d : Nat} {b s : List UInt8} {x : Tr Unit} (h : ddec d b = some (x, s)) : s.length < b.length := by
  obtain ⟨e, hf, _⟩ := ddec_some d b x s h
  obtain ⟨⟨h1, h2⟩, _⟩ := shape_parts hf.here.shape
  have := denc_pos x h1 h2
  rw [e, List.length_append]; omega

theorem check_le {α : Type} (x : Tr α) : check x < 100 := by
  have h1 : ∀ l : List Nat, (∀ e ∈ l, e < 100) → firstErr l < 100 := fun l h => by
    induction l with
    | nil => decide
    | cons e l ih =>
      unfold firstErr
      split
      · exact h e (.head _)
      · exact ih fun e he => h e (.tail _ he)
  unfold check
  split
  · decide
  · split
    · decide
    · refine h1 _ fun e he => ?_
      obtain ⟨p, _, rfl⟩ := List.mem_map.1 he
      unfold own
      (repeat' split) <;> decide
theorem denc_lenL {l : List (Tr Mm)} (h : ∀ y ∈ l, (denc y).length + 80 ≤ 300 * wgt y) : (l.flatMap denc).length ≤ 300 * wgtL l := by
  induction l with
  | nil => simp
  | cons y l ih =>
    have h1 := h y (.head _)
    have h2 := ih fun z hz => h z (.tail _ hz)
    unfold wgtL at h2 ⊢
    rw [List.flatMap_cons, List.length_append, List.map_cons, List.sum_cons]
    omega
theorem denc_lenF {l : List (List UInt8 × Tr Mm)} (hn : ∀ p ∈ l, p.1.length < 18446744073709551616) (h : ∀ p ∈ l, (denc p.2).length + 80 ≤ 300 * wgt p.2) : (l.flatMap fenc).length ≤ 300 * wgtF l := by
  induction l with
  | nil => simp
  | cons y l ih =>
    have h1 := h y (.head _)
    have h2 := ih (fun z hz => hn z (.tail _ hz)) fun z hz => h z (.tail _ hz)
    have h3 := vi_length _ (hn y (.head _))
    unfold wgtF at h2 ⊢
    rw [List.flatMap_cons, List.length_append, List.map_cons, List.sum_cons]
    unfold fenc vt at h2 ⊢
    simp only [List.length_append] at h2 ⊢
    omega
theorem denc_len {w : World} (x : Tr Mm) (hx : Tr.Good w x) : (denc x).length + 80 ≤ 300 * wgt x := by
  induction x using Tr.ind with
  | h x ih =>
    have nd := hx.node
    have rb : reachBytes = 140737488351232 := rfl
    have ht := nd.t; have hb := nd.bs; have hl := nd.l; have hf := nd.f
    rw [rb] at ht hb hl hf
    have h1 := denc_lenL (l := x.l) fun y hy => ih y (kids_l hy) (hx.l y hy)
    have h2 := denc_lenF (l := x.f) (fun p hp => by have := nd.n p hp; rw [rb] at this; omega) fun p hp => ih p.2 (kids_f hp) (hx.f p hp)
    have v1 := vi_length _ (zz_lt x.i nd.i.lo nd.i.hi)
    have v2 := vi_length x.t.length (by omega)
    have v3 := vi_length x.bs.length (by omega)
    have v4 := vi_length x.l.length (by omega)
    have v5 := vi_length x.f.length (by omega)
    rw [denc_eq, wgt_eq]
    unfold vt
    split
    · simp only [List.length_cons, List.length_nil]; omega
    split
    · simp only [List.length_cons, List.length_nil]; omega
    split
    · simp only [List.length_cons]; omega
    split
    · simp only [List.length_cons, List.length_append]; omega
    split
    · simp only [List.length_cons, List.length_append]; omega
    split
    · simp only [List.length_cons, List.length_append]; omega
    split
    · simp only [List.length_cons, List.length_append]; omega
    · simp only [List.length_nil]; omega
end Tr
end Go.Proofs.YtijcleiekafoiaaGreatDoor
