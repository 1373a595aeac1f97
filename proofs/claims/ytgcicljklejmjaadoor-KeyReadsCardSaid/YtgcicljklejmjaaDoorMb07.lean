import Derived.Test.YtgcicljklejmjaaDoorMb02
import Derived.Ground.NamesProg
import Derived.Shelf.Unicode.ValidAny
import Derived.Shelf.Utf8.RuneCount
import Derived.Test.YtgcicljklejmjaaDoorMb05
import Derived.Lib.ValidU
import Derived.Lib.RuneCount
import Derived.Laws.RangeAny
import Derived.Test.YtgcicljklejmjaaDoorMb03

/- Texts: whether one is UTF-8, and how many runes it has: the kit's contracts, laid at this program. -/
namespace Go.Proofs.YtgcicljklejmjaaDoor
open Go.RowKit Go.Shelf

def valid_ren : Ren := ⟨fun | 196 => 102 | 259 => 110 | n => n,
  fun | 9 => 9 | 4 => 4 | 3 => 3 | 5 => 5 | 12 => 12 | 119 => 194 | 0 => 0 | 46 => 131 | 139 => 197 | 138 => 196 | 53 => 130 | n => n,
  fun | 3 => 0 | 4 => 1 | n => n⟩
theorem lays_valid : Lays.n196 Tryd.prog valid_ren :=
  { mixed := by kernel_rfl, f196 := Tryd.func102.trans (congrArg some (by kernel_rfl)), f259 := Tryd.func110.trans (congrArg some (by kernel_rfl)),
    t0 := Tryd.underlying0, a0 := Tryd.isAgg0, z0 := Tryd.sizeOf0, v0 := Tryd.zeroValue0, t3 := Tryd.underlying3, a3 := Tryd.isAgg3, z3 := Tryd.sizeOf3, v3 := Tryd.zeroValue3,
    t4 := Tryd.underlying4, a4 := Tryd.isAgg4, z4 := Tryd.sizeOf4, v4 := Tryd.zeroValue4, t5 := Tryd.underlying5, a5 := Tryd.isAgg5, z5 := Tryd.sizeOf5, v5 := Tryd.zeroValue5,
    t9 := Tryd.underlying9, a9 := Tryd.isAgg9, z9 := Tryd.sizeOf9, v9 := Tryd.zeroValue9, t12 := Tryd.underlying12, a12 := Tryd.isAgg12, z12 := Tryd.sizeOf12, v12 := Tryd.zeroValue12,
    t46 := Tryd.underlying131, a46 := Tryd.isAgg131, z46 := Tryd.sizeOf131, v46 := Tryd.zeroValue131, t53 := Tryd.underlying130, a53 := Tryd.isAgg130, z53 := Tryd.sizeOf130, v53 := Tryd.zeroValue130,
    t119 := Tryd.underlying194, a119 := Tryd.isAgg194, z119 := Tryd.sizeOf194, t138 := Tryd.underlying196, a138 := Tryd.isAgg196, z138 := Tryd.sizeOf196, v138 := Tryd.zeroValue196,
    t139 := Tryd.underlying197, a139 := Tryd.isAgg197, z139 := Tryd.sizeOf197, v139 := Tryd.zeroValue197, g3 := by kernel_rfl, g4 := by kernel_rfl }
def runes_ren : Ren := ⟨fun | 195 => 103 | n => n, fun | 9 => 9 | 3 => 3 | 0 => 0 | 4 => 4 | n => n, fun n => n⟩
theorem lays_runes : Lays.n195 Tryd.prog runes_ren :=
  { mixed := by kernel_rfl, f195 := Tryd.func103.trans (congrArg some (by kernel_rfl)),
    t0 := Tryd.underlying0, a0 := Tryd.isAgg0, z0 := Tryd.sizeOf0, v0 := Tryd.zeroValue0, t3 := Tryd.underlying3, a3 := Tryd.isAgg3, z3 := Tryd.sizeOf3, v3 := Tryd.zeroValue3,
    t4 := Tryd.underlying4, a4 := Tryd.isAgg4, z4 := Tryd.sizeOf4, v4 := Tryd.zeroValue4, t9 := Tryd.underlying9, a9 := Tryd.isAgg9, z9 := Tryd.sizeOf9, v9 := Tryd.zeroValue9 }

/-- The two tables of unicode/utf8 lie as its text lays them. -/
def Tabs (w : World) : Prop := Lib.Utf8Tabs 0 1 w
theorem Tabs.kept0 {w w1 : World} (h : Tabs w) (f : Fr no w w1) : Tabs w1 :=
  ⟨fun c hc => f.cell (h.1 c hc) (fun h => h), fun i hi => ⟨f.cell (h.2 i hi).1 (fun h => h), f.cell (h.2 i hi).2 (fun h => h)⟩⟩

theorem fr_below {w w1 : World} (h : Below w.heap.size w w1) : Fr no w w1 := ⟨h.os, h.tape, h.output, h.size, fun k hk _ => h.block k hk⟩

theorem valid_any (w : World) (s : List UInt8) (hs : s.length ≤ reachBytes) (hT : Tabs w) :
    Calls Tryd.prog 102 #[.string ⟨s.toArray⟩] w fun e w' => e = .returned (.bool (Lib.validD s)) ∧ Fr no w w' := by
  have h : s.length ≤ 9223372036854775807 := Nat.le_trans hs (by decide)
  exact (Any.utf8_ValidString lays_valid ⟨s.toArray⟩ w h hT).mono fun e w' ⟨h1, h2⟩ => ⟨h1, fr_below h2⟩
theorem runes_any (w : World) (s : List UInt8) (hs : s.length ≤ reachBytes) :
    Calls Tryd.prog 103 #[.string ⟨s.toArray⟩] w fun e w' => e = .returned (.int .i64 (Lib.runeCountL s)) ∧ Fr no w w' := by
  have h : s.length < 9223372036854775807 := Nat.lt_of_le_of_lt hs (by decide)
  exact (Any.utf8_RuneCountInString lays_runes ⟨s.toArray⟩ w h).mono fun e w' ⟨h1, pos, h2⟩ => ⟨h1, by rw [h2]; exact (Fr.refl no w).alloc _⟩
theorem runes_le (s : List UInt8) : Lib.runeCountL s ≤ s.length := Lib.runeCount_le ⟨s.toArray⟩
end Go.Proofs.YtgcicljklejmjaaDoor

/- Keys without a program: tuples, and the least key behind all that begin with one. -/
namespace Go.Proofs.YtgcicljklejmjaaDoor
open Go.RowKit

theorem cb_pre (p a b : List UInt8) : cb (p ++ a) (p ++ b) = cb a b := by
  induction p with
  | nil => rfl
  | cons c p ih => unfold cb at *; simpa [Lib.compareBytes] using ih
theorem cb_nil_cons (c : UInt8) (l : List UInt8) : cb [] (c :: l) = -1 := rfl
theorem cb_cons_nil (c : UInt8) (l : List UInt8) : cb (c :: l) [] = 1 := rfl

namespace Tr
variable {α β : Type}
/-- A value's bytes as they fall or rise. -/
def encD (down : Bool) (x : Tr α) : List UInt8 := if down then turn (enc x) else enc x
/-- A tuple's bytes; d: which fall; i: the first one's place. -/
def encT (d : Nat → Bool) : Nat → List (Tr α) → List UInt8
  | _, [] => []
  | i, x :: l => encD (d i) x ++ encT d (i + 1) l
/-- The order of tuples. -/
def cmpT (d : Nat → Bool) : Nat → List (Tr α) → List (Tr β) → Int
  | _, [], [] => 0
  | _, [], _ :: _ => -1
  | _, _ :: _, [] => 1
  | i, x :: l, y :: k => if cmp x y ≠ 0 then (if d i then - cmp x y else cmp x y) else cmpT d (i + 1) l k

theorem encD_ne {x : Tr α} (h : Keyed x) (down : Bool) : ∃ c r, encD down x = c :: r := by
  obtain ⟨r, hr⟩ := enc_head h
  unfold encD turn
  rw [hr]
  cases down
  · exact ⟨_, _, rfl⟩
  · exact ⟨_, _, rfl⟩
theorem encD_asone (down : Bool) (x : Tr α) (y : Tr β) (hx : KeyedAll x) (hy : KeyedAll y) : AsOne (encD down x) (encD down y) (if down then - cmp x y else cmp x y) := by
  have h := enc_asone x y hx hy
  unfold encD
  cases down
  · exact h
  · exact ⟨fun e => by simp only [if_true] at e ⊢; rw [h.1 (by omega)], fun e => by simp only [if_true] at e ⊢; exact (h.2 (by omega)).turn⟩

/-- The bytes of tuples compare as they do. -/
theorem encT_cmp (d : Nat → Bool) : ∀ (i : Nat) (l : List (Tr α)) (k : List (Tr β)), (∀ x ∈ l, KeyedAll x) → (∀ y ∈ k, KeyedAll y) → cb (encT d i l) (encT d i k) = cmpT d i l k
  | _, [], [], _, _ => rfl
  | i, [], y :: k, _, hk => by
    obtain ⟨c, r, h⟩ := encD_ne (hk y (List.mem_cons_self ..)).here (d i)
    show cb [] (encD (d i) y ++ encT d (i + 1) k) = -1
    rw [h]; rfl
  | i, x :: l, [], hl, _ => by
    obtain ⟨c, r, h⟩ := encD_ne (hl x (List.mem_cons_self ..)).here (d i)
    show cb (encD (d i) x ++ encT d (i + 1) l) [] = 1
    rw [h]; rfl
  | i, x :: l, y :: k, hl, hk => by
    have h := encD_asone (d i) x y (hl x (List.mem_cons_self ..)) (hk y (List.mem_cons_self ..))
    show cb (encD (d i) x ++ encT d (i + 1) l) (encD (d i) y ++ encT d (i + 1) k) = if cmp x y ≠ 0 then (if d i then - cmp x y else cmp x y) else cmpT d (i + 1) l k
    by_cases hc : cmp x y = 0
    · rw [if_neg (fun e => e hc), h.1 (by rw [hc]; cases d i <;> rfl), cb_pre]
      exact encT_cmp d (i + 1) l k (fun x hx => hl x (List.mem_cons_of_mem _ hx)) (fun y hy => hk y (List.mem_cons_of_mem _ hy))
    · rw [if_pos hc]
      exact ((h.2 (by cases d i <;> simp [hc])).post _ _).cb
end Tr

/-- The least key above all that begin with one: none if all is 255. -/
def after (b : List UInt8) : Option (List UInt8) :=
  match b.reverse.dropWhile (· == 255) with
  | [] => none
  | c :: r => some (((c + 1) :: r).reverse)

theorem drop_rep (m : Nat) (l : List UInt8) : (List.replicate m (255 : UInt8) ++ l).dropWhile (· == 255) = l.dropWhile (· == 255) := by
  induction m with
  | zero => rfl
  | succ m ih => rw [List.replicate_succ, List.cons_append, List.dropWhile_cons_of_pos (by simp)]; exact ih
/-- What all from a place on are 255. -/
theorem tail_rep {b : List UInt8} {n : Nat} (hn : n ≤ b.length) (h : ∀ j (hj : j < b.length), n ≤ j → b[j] = 255) : b = b.take n ++ List.replicate (b.length - n) 255 := by
  refine List.ext_getElem (by simp; omega) fun j h1 h2 => ?_
  by_cases hj : j < n
  · rw [List.getElem_append_left (by simp; omega)]; simp
  · rw [List.getElem_append_right (by simp; omega)]
    simpa using h j h1 (by omega)
theorem after_zero {b : List UInt8} (h : ∀ j (hj : j < b.length), b[j] = 255) : after b = none := by
  have e := tail_rep (n := 0) (Nat.zero_le _) (fun j hj _ => h j hj)
  unfold after
  rw [e]
  simp only [List.take_zero, List.nil_append, List.reverse_replicate]
  have := drop_rep (b.length - 0) []
  rw [List.append_nil] at this
  rw [this]; rfl
theorem after_at {b : List UInt8} {m : Nat} (hm : m < b.length) (h : ∀ j (hj : j < b.length), m + 1 ≤ j → b[j] = 255) (hne : b[m] ≠ 255) : after b = some (b.take m ++ [b[m] + 1]) := by
  have e := tail_rep (n := m + 1) (by omega) h
  have e2 : b.take (m + 1) = b.take m ++ [b[m]] := by simp
  unfold after
  generalize hr : List.replicate (b.length - (m + 1)) (255 : UInt8) = R at e
  rw [e2] at e
  have e3 : b.reverse = R.reverse ++ (b[m] :: (b.take m).reverse) := by
    conv => lhs; rw [e]
    simp
  rw [e3, ← hr, List.reverse_replicate, drop_rep, List.dropWhile_cons_of_neg (by simpa using hne)]
  simp
theorem after_cases (b : List UInt8) : (after b = none ∧ ∀ j (hj : j < b.length), b[j] = 255) ∨ ∃ p c m, c ≠ 255 ∧ b = p ++ c :: List.replicate m 255 ∧ after b = some (p ++ [c + 1]) := by
  have key : ∀ n, n ≤ b.length → (∀ j (hj : j < b.length), n ≤ j → b[j] = 255) → (after b = none ∧ ∀ j (hj : j < b.length), b[j] = 255) ∨ ∃ p c m, c ≠ 255 ∧ b = p ++ c :: List.replicate m 255 ∧ after b = some (p ++ [c + 1]) := by
    intro n
    induction n with
    | zero => intro _ h; exact .inl ⟨after_zero fun j hj => h j hj (Nat.zero_le _), fun j hj => h j hj (Nat.zero_le _)⟩
    | succ n ih =>
      intro hn h
      by_cases hc : b[n] = 255
      · refine ih (by omega) fun j hj hnj => ?_
        by_cases e : j = n
        · subst e; exact hc
        · exact h j hj (by omega)
      · refine .inr ⟨b.take n, b[n], b.length - (n + 1), hc, ?_, after_at (by omega) h hc⟩
        have e := tail_rep hn h
        have e2 : b.take (n + 1) = b.take n ++ [b[n]] := by simp
        refine e.trans ?_
        rw [e2, List.append_assoc]; rfl
  exact key b.length (Nat.le_refl _) (fun j hj h => absurd hj (by omega))

theorem cb_cons (c d : UInt8) (l k : List UInt8) : cb (c :: l) (d :: k) = if c < d then -1 else if d < c then 1 else cb l k := by
  unfold cb; simp [Lib.compareBytes]
theorem rep_pre : ∀ (m : Nat) (x : List UInt8), 0 ≤ cb x (List.replicate m 255) → List.replicate m 255 <+: x
  | 0, x, _ => List.nil_prefix
  | m + 1, [], h => by rw [List.replicate_succ, cb_nil_cons] at h; omega
  | m + 1, d :: x, h => by
    rw [List.replicate_succ, cb_cons] at h
    have hd : ¬ 255 < d := by
      intro h2
      have := UInt8.lt_iff_toNat_lt.1 h2
      have h3 := d.toNat_lt
      simp at this; omega
    by_cases h1 : d < 255
    · rw [if_pos h1] at h; omega
    · rw [if_neg h1, if_neg hd] at h
      obtain rfl : d = 255 := UInt8.le_antisymm (UInt8.not_lt.1 hd) (UInt8.not_lt.1 h1)
      rw [List.replicate_succ]
      exact List.cons_prefix_cons.2 ⟨rfl, rep_pre m x h⟩
theorem cb_nil_ge (l : List UInt8) : 0 ≤ cb l [] := by cases l <;> simp [cb, Lib.compareBytes]
theorem pre_ge {b x : List UInt8} (h : b <+: x) : 0 ≤ cb x b := by
  obtain ⟨s, rfl⟩ := h
  have := cb_pre b s []
  rw [List.append_nil] at this
  rw [this]; exact cb_nil_ge s
theorem succ_lt {c : UInt8} (h : c ≠ 255) : c < c + 1 := by
  have h1 := c.toNat_lt
  have h2 : c.toNat ≠ 255 := fun e => h (UInt8.toNat_inj.1 (by simpa using e))
  rw [UInt8.lt_iff_toNat_lt, UInt8.toNat_add]
  simp only [UInt8.toNat_one, Nat.reducePow]
  omega
theorem lt_succ_le {c d : UInt8} (hc : c ≠ 255) (h : d < c + 1) : ¬ c < d := by
  have h1 := c.toNat_lt
  have h2 : c.toNat ≠ 255 := fun e => hc (UInt8.toNat_inj.1 (by simpa using e))
  rw [UInt8.lt_iff_toNat_lt, UInt8.toNat_add] at h
  rw [UInt8.lt_iff_toNat_lt]
  simp only [UInt8.toNat_one, Nat.reducePow] at h
  omega
/-- Just what begins with some bytes lies from these up to after them. -/
theorem begins_iff (c : UInt8) (hc : c ≠ 255) (m : Nat) : ∀ (p x : List UInt8), p ++ c :: List.replicate m 255 <+: x ↔ 0 ≤ cb x (p ++ c :: List.replicate m 255) ∧ cb x (p ++ [c + 1]) < 0
  | [], [] => by
    constructor
    · intro h; have := List.IsPrefix.length_le h; simp at this
    · rintro ⟨h, _⟩; rw [List.nil_append, cb_nil_cons] at h; omega
  | [], d :: x => by
    rw [List.nil_append, List.nil_append, cb_cons, cb_cons, List.cons_prefix_cons]
    constructor
    · rintro ⟨rfl, h⟩
      have h1 := succ_lt hc
      rw [if_neg (UInt8.lt_irrefl _), if_neg (UInt8.lt_irrefl _), if_pos h1]
      exact ⟨pre_ge h, by omega⟩
    · rintro ⟨h1, h2⟩
      by_cases h3 : d < c
      · rw [if_pos h3] at h1; omega
      · rw [if_neg h3] at h1
        have h4 : d < c + 1 := by
          refine Classical.byContradiction fun h5 => ?_
          rw [if_neg h5] at h2
          by_cases h6 : c + 1 < d
          · rw [if_pos h6] at h2; omega
          · rw [if_neg h6] at h2; have := cb_nil_ge x; omega
        have h5 := lt_succ_le hc h4
        rw [if_neg h5] at h1
        exact ⟨UInt8.le_antisymm (UInt8.not_lt.1 h3) (UInt8.not_lt.1 h5), rep_pre m x h1⟩
  | e :: p, [] => by
    constructor
    · intro h; have := List.IsPrefix.length_le h; simp at this
    · rintro ⟨h, _⟩; rw [List.cons_append, cb_nil_cons] at h; omega
  | e :: p, d :: x => by
    rw [List.cons_append, List.cons_append, cb_cons, cb_cons, List.cons_prefix_cons]
    have ih := begins_iff c hc m p x
    by_cases h1 : d < e
    · rw [if_pos h1, if_pos h1]
      constructor
      · rintro ⟨rfl, _⟩; exact absurd h1 (UInt8.lt_irrefl _)
      · rintro ⟨h, _⟩; omega
    · rw [if_neg h1, if_neg h1]
      by_cases h2 : e < d
      · rw [if_pos h2, if_pos h2]
        constructor
        · rintro ⟨rfl, _⟩; exact absurd h2 (UInt8.lt_irrefl _)
        · rintro ⟨_, h⟩; omega
      · rw [if_neg h2, if_neg h2]
        have e1 : e = d := UInt8.le_antisymm (UInt8.not_lt.1 h1) (UInt8.not_lt.1 h2)
        constructor
        · rintro ⟨_, h⟩; exact ih.1 h
        · intro h; exact ⟨e1, ih.2 h⟩
theorem begins_all {b : List UInt8} (h : ∀ j (hj : j < b.length), b[j] = 255) (x : List UInt8) : b <+: x ↔ 0 ≤ cb x b := by
  have e : b = List.replicate b.length 255 := by simpa using tail_rep (n := 0) (Nat.zero_le _) (fun j hj _ => h j hj)
  exact ⟨pre_ge, fun h2 => by rw [e] at h2 ⊢; exact rep_pre _ x h2⟩
/-- After of bytes: all in one. -/
theorem after_begins (b x : List UInt8) : b <+: x ↔ 0 ≤ cb x b ∧ ∀ a, after b = some a → cb x a < 0 := by
  rcases after_cases b with ⟨h1, h2⟩ | ⟨p, c, m, h1, h2, h3⟩
  · rw [h1, begins_all h2]
    exact ⟨fun h => ⟨h, fun _ h => nomatch h⟩, fun h => h.1⟩
  · rw [h3]
    have := begins_iff c h1 m p x
    rw [← h2] at this
    rw [this]
    exact ⟨fun h => ⟨h.1, fun a ha => by cases ha; exact h.2⟩, fun h => ⟨h.1, h.2 _ rfl⟩⟩
end Go.Proofs.YtgcicljklejmjaaDoor

/- Values without a program: what is wrong with one. -/
namespace Go.Proofs.YtgcicljklejmjaaDoor
open Go.RowKit

def letterB (c : UInt8) : Bool := (decide (97 ≤ c) && decide (c ≤ 122)) || (decide (65 ≤ c) && decide (c ≤ 90)) || c == 95 || decide (128 ≤ c)
def digitB (c : UInt8) : Bool := decide (48 ≤ c) && decide (c ≤ 57)
def lettersB : List UInt8 → Bool
  | [] => true
  | c :: r => letterB c && r.all fun c => letterB c || digitB c
/-- May a text be a field's name? -/
def nameV (s : List UInt8) : Bool := Lib.validD s && decide (Lib.runeCountL s ≤ 32) && lettersB s && !s.isEmpty

namespace Tr
variable {α : Type}
/-- Names that may be, and rise; p: the one ahead. -/
def risesF : Option (List UInt8) → List (List UInt8 × Tr α) → Bool
  | _, [] => true
  | p, x :: l => nameV x.1 && (match p with | none => true | some q => decide (cb q x.1 < 0)) && risesF (some x.1) l
/-- Of its fields those that its kind has. -/
def shapeV (x : Tr α) : Bool := (decide (1 ≤ x.k) && decide (x.k ≤ 7)) && ((x.k == 2 || !x.b) && (x.k == 3 || x.i == 0) && (x.k == 4 || x.t.isEmpty)) && ((x.k == 5 || x.bs.isEmpty) && (x.k == 6 || x.l.isEmpty) && (x.k == 7 || x.f.isEmpty))
/-- What is wrong with a value by itself. -/
def own (x : Tr α) : Nat :=
  if shapeV x = false then 30 else if risesF none x.f = false then 30 else if Lib.validD x.t = false then 34
  else if 1000 < Lib.runeCountL x.t ∨ 4000 < x.bs.length then 33 else 0
def firstErr : List Nat → Nat
  | [] => 0
  | e :: l => if e ≠ 0 then e else firstErr l
theorem firstErr_zero : ∀ {l : List Nat}, firstErr l = 0 ↔ ∀ e ∈ l, e = 0
  | [] => by simp [firstErr]
  | e :: l => by
    by_cases h : e = 0
    · subst h
      simp only [firstErr, ne_eq, not_true_eq_false, if_false, List.forall_mem_cons, true_and]
      exact firstErr_zero
    · simp [firstErr, h]
theorem firstErr_append (l k : List Nat) : firstErr (l ++ k) = if firstErr l ≠ 0 then firstErr l else firstErr k := by
  induction l with
  | nil => rfl
  | cons e l ih =>
    rw [List.cons_append]
    by_cases h : e = 0
    · subst h
      simpa [firstErr] using ih
    · simp [firstErr, h]
/-- The first error of it and all below. -/
def allErr (x : Tr α) : Nat := firstErr ((pre 1 x).map fun p => own p.2)
/-- What is wrong with a value. -/
def check (x : Tr α) : Nat := if deep 8 x = true then 31 else if 512 < parts x then 32 else allErr x
theorem check_zero {x : Tr α} : check x = 0 ↔ deep 8 x = false ∧ parts x ≤ 512 ∧ ∀ p ∈ pre 1 x, own p.2 = 0 := by
  unfold check
  by_cases h1 : deep 8 x = true
  · rw [if_pos h1]; simp [h1]
  · rw [if_neg h1]
    by_cases h2 : 512 < parts x
    · rw [if_pos h2]; constructor
      · intro h; cases h
      · rintro ⟨_, h, _⟩; omega
    · rw [if_neg h2]
      unfold allErr
      rw [firstErr_zero, List.forall_mem_map]
      exact ⟨fun h => ⟨by simpa using h1, by omega, h⟩, fun h => h.2.2⟩
/-- No document is among it. -/
def keyed (x : Tr α) : Bool := (pre 1 x).all fun p => p.2.k != 7
theorem keyed_kids (x : Tr α) (d : Nat) : ((pre d x).all fun p => p.2.k != 7) = (x.k != 7 && x.kids.all keyed) := by
  have hd : ∀ (x : Tr α) (d e : Nat), ((pre d x).all fun p => p.2.k != 7) = (pre e x).all fun p => p.2.k != 7 := by
    intro x
    induction x using ind with
    | h x ih =>
      intro d e
      rw [pre_eq, pre_eq, List.all_cons, List.all_cons, List.all_flatMap, List.all_flatMap]
      congr 1
      rw [Bool.eq_iff_iff, List.all_eq_true, List.all_eq_true]
      exact ⟨fun h y hy => (ih y hy _ _) ▸ h y hy, fun h y hy => (ih y hy _ _) ▸ h y hy⟩
  rw [pre_eq, List.all_cons, List.all_flatMap]
  congr 1
  rw [Bool.eq_iff_iff, List.all_eq_true, List.all_eq_true]
  exact ⟨fun h y hy => (hd y (d + 1) 1).symm.trans (h y hy), fun h y hy => (hd y (d + 1) 1).trans (h y hy)⟩

theorem shape_parts {x : Tr α} (h : shapeV x = true) : (1 ≤ x.k ∧ x.k ≤ 7) ∧ (x.k ≠ 2 → x.b = false) ∧ (x.k ≠ 3 → x.i = 0) ∧ (x.k ≠ 4 → x.t = []) ∧ (x.k ≠ 5 → x.bs = []) ∧ (x.k ≠ 6 → x.l = []) ∧ (x.k ≠ 7 → x.f = []) := by
  unfold shapeV at h
  simp only [Bool.and_eq_true, Bool.or_eq_true, decide_eq_true_eq, beq_iff_eq, Bool.not_eq_true', List.isEmpty_iff] at h
  obtain ⟨⟨h1, ⟨h2, h3⟩, h4⟩, ⟨h5, h6⟩, h7⟩ := h
  exact ⟨h1, fun e => h2.resolve_left e, fun e => h3.resolve_left e, fun e => h4.resolve_left e, fun e => h5.resolve_left e, fun e => h6.resolve_left e, fun e => h7.resolve_left e⟩
theorem own_shape {x : Tr α} (h : own x = 0) : shapeV x = true := by
  unfold own at h
  by_cases h1 : shapeV x = false
  · rw [if_pos h1] at h; cases h
  · simpa using h1

theorem kinds {k : UInt8} (h1 : 1 ≤ k) (h2 : k ≤ 7) (h3 : k ≠ 7) : k = 1 ∨ k = 2 ∨ k = 3 ∨ k = 4 ∨ k = 5 ∨ k = 6 := by
  have e1 := UInt8.le_iff_toNat_le.1 h1
  have e2 := UInt8.le_iff_toNat_le.1 h2
  have e3 : k.toNat ≠ 7 := fun e => h3 (UInt8.toNat_inj.1 (by simpa using e))
  simp only [UInt8.toNat_one, UInt8.reduceToNat] at e1 e2
  have : ∀ n : UInt8, k.toNat = n.toNat → k = n := fun n e => UInt8.toNat_inj.1 e
  have e4 : k.toNat = 1 ∨ k.toNat = 2 ∨ k.toNat = 3 ∨ k.toNat = 4 ∨ k.toNat = 5 ∨ k.toNat = 6 := by omega
  rcases e4 with e | e | e | e | e | e
  · exact .inl (this 1 e)
  · exact .inr (.inl (this 2 e))
  · exact .inr (.inr (.inl (this 3 e)))
  · exact .inr (.inr (.inr (.inl (this 4 e))))
  · exact .inr (.inr (.inr (.inr (.inl (this 5 e)))))
  · exact .inr (.inr (.inr (.inr (.inr (this 6 e)))))

/-- Where the whole numbers of it lie within their bounds. -/
def Nums (x : Tr α) : Prop := ∀ p ∈ pre 1 x, I64 p.2.i
theorem pre_any {P : Tr α → Prop} {d e : Nat} {x : Tr α} (h : ∀ p ∈ pre d x, P p.2) : ∀ p ∈ pre e x, P p.2 := by
  induction x using ind generalizing d e with
  | h x ih =>
    intro p hp
    rw [pre_eq] at hp h
    rcases List.mem_cons.1 hp with rfl | hp
    · exact h (d, x) (List.mem_cons_self ..)
    · obtain ⟨y, hy, hp⟩ := List.mem_flatMap.1 hp
      exact ih y hy (d := d + 1) (e := e + 1) (fun q hq => h q (List.mem_cons_of_mem _ (List.mem_flatMap.2 ⟨y, hy, hq⟩))) p hp
theorem pre_kid {P : Tr α → Prop} {x y : Tr α} (hy : y ∈ x.kids) (h : ∀ p ∈ pre 1 x, P p.2) : ∀ p ∈ pre 1 y, P p.2 :=
  pre_any (d := 2) fun p hp => h p (mem_pre_kid hy hp)

/-- A value that may be and holds no document has a key's bytes, and is its kind's alone. -/
theorem keyed_all (x : Tr α) (h : ∀ p ∈ pre 1 x, own p.2 = 0) (hk : keyed x = true) (hn : Nums x) : KeyedAll x ∧ PlainAll x := by
  induction x using ind with
  | h x ih =>
    have hs := shape_parts (own_shape (h (1, x) (mem_pre_self _ _)))
    obtain ⟨⟨h1, h2⟩, sb, si, st, sbs, sl, sf⟩ := hs
    have hkk : keyed x = (x.k != 7 && x.kids.all keyed) := keyed_kids x 1
    rw [hkk, Bool.and_eq_true, bne_iff_ne, List.all_eq_true] at hk
    have hkid : ∀ y ∈ x.l, KeyedAll y ∧ PlainAll y := fun y hy => by
      have hm : y ∈ x.kids := List.mem_append_left _ hy
      exact ih y hm (pre_kid (P := fun z => own z = 0) hm h) (hk.2 y hm) (pre_kid (P := fun z => I64 z.i) hm hn)
    exact ⟨⟨x, ⟨kinds h1 h2 hk.1, hn (1, x) (mem_pre_self _ _)⟩, fun y hy => (hkid y hy).1⟩, ⟨x, ⟨sb, si, st, sbs, sl, sf hk.1⟩, fun y hy => (hkid y hy).2⟩⟩
end Tr
end Go.Proofs.YtgcicljklejmjaaDoor

/- value.letter, value.Name: may a text be a field's name? (printed by mkname.py) -/
namespace Go.Proofs.YtgcicljklejmjaaDoor
open Go.RowKit

def letterR (n : Nat) : Bool := (decide (97 ≤ n) && decide (n ≤ 122)) || (decide (65 ≤ n) && decide (n ≤ 90)) || n == 95 || decide (128 ≤ n)
theorem letterR_byte (c : UInt8) : letterR c.toNat = letterB c := by
  unfold letterR letterB
  have h1 : (decide (97 ≤ c)) = decide (97 ≤ c.toNat) := decide_eq_decide.2 UInt8.le_iff_toNat_le
  have h2 : (decide (c ≤ 122)) = decide (c.toNat ≤ 122) := decide_eq_decide.2 UInt8.le_iff_toNat_le
  have h3 : (decide (65 ≤ c)) = decide (65 ≤ c.toNat) := decide_eq_decide.2 UInt8.le_iff_toNat_le
  have h4 : (decide (c ≤ 90)) = decide (c.toNat ≤ 90) := decide_eq_decide.2 UInt8.le_iff_toNat_le
  have h5 : (decide (128 ≤ c)) = decide (128 ≤ c.toNat) := decide_eq_decide.2 UInt8.le_iff_toNat_le
  have h6 : (c == 95) = (c.toNat == 95) := by
    rw [Bool.eq_iff_iff, beq_iff_eq, beq_iff_eq]
    exact ⟨fun e => by rw [e]; rfl, fun e => UInt8.toNat_inj.1 (by simpa using e)⟩
  rw [h1, h2, h3, h4, h5, h6]

theorem letter_any (w : World) (n : Nat) (_ : n ≤ 2147483647) : Calls Tryd.prog 109 #[.int .i32 n] w fun e w' => e = .returned (.bool (letterR n)) ∧ w' = w := by
  have hr : n < 65 ∨ (65 ≤ n ∧ n ≤ 90) ∨ (91 ≤ n ∧ n ≤ 94) ∨ n = 95 ∨ n = 96 ∨ (97 ≤ n ∧ n ≤ 122) ∨ (123 ≤ n ∧ n ≤ 127) ∨ 128 ≤ n := by omega
  rcases hr with h | h | h | h | h | h | h | h
  · have hv : letterR n = false := by unfold letterR; simp; omega
    have fa : decide ((97 : Int) ≤ (n : Int)) = false := by simp; omega
    have fb : decide ((n : Int) ≤ 122) = true := by simp; omega
    have fc : decide ((65 : Int) ≤ (n : Int)) = false := by simp; omega
    have fd : decide ((n : Int) ≤ 90) = true := by simp; omega
    have fe : ((n : Int) == 95) = false := by simp; omega
    have ff : decide ((128 : Int) ≤ (n : Int)) = false := by simp; omega
    rw [hv]
    clear hv h
    go_enter Tryd.func109, Tryd.ntmps109
    go_wp2
    go_ret
    exact ⟨rfl, rfl⟩
  · have hv : letterR n = true := by unfold letterR; simp; omega
    have fa : decide ((97 : Int) ≤ (n : Int)) = false := by simp; omega
    have fb : decide ((n : Int) ≤ 122) = true := by simp; omega
    have fc : decide ((65 : Int) ≤ (n : Int)) = true := by simp; omega
    have fd : decide ((n : Int) ≤ 90) = true := by simp; omega
    have fe : ((n : Int) == 95) = false := by simp; omega
    have ff : decide ((128 : Int) ≤ (n : Int)) = false := by simp; omega
    rw [hv]
    clear hv h
    go_enter Tryd.func109, Tryd.ntmps109
    go_wp2
    go_ret
    exact ⟨rfl, rfl⟩
  · have hv : letterR n = false := by unfold letterR; simp; omega
    have fa : decide ((97 : Int) ≤ (n : Int)) = false := by simp; omega
    have fb : decide ((n : Int) ≤ 122) = true := by simp; omega
    have fc : decide ((65 : Int) ≤ (n : Int)) = true := by simp; omega
    have fd : decide ((n : Int) ≤ 90) = false := by simp; omega
    have fe : ((n : Int) == 95) = false := by simp; omega
    have ff : decide ((128 : Int) ≤ (n : Int)) = false := by simp; omega
    rw [hv]
    clear hv h
    go_enter Tryd.func109, Tryd.ntmps109
    go_wp2
    go_ret
    exact ⟨rfl, rfl⟩
  · have hv : letterR n = true := by unfold letterR; simp; omega
    have fa : decide ((97 : Int) ≤ (n : Int)) = false := by simp; omega
    have fb : decide ((n : Int) ≤ 122) = true := by simp; omega
    have fc : decide ((65 : Int) ≤ (n : Int)) = true := by simp; omega
    have fd : decide ((n : Int) ≤ 90) = false := by simp; omega
    have fe : ((n : Int) == 95) = true := by simp; omega
    have ff : decide ((128 : Int) ≤ (n : Int)) = false := by simp; omega
    rw [hv]
    clear hv h
    go_enter Tryd.func109, Tryd.ntmps109
    go_wp2
    go_ret
    exact ⟨rfl, rfl⟩
  · have hv : letterR n = false := by unfold letterR; simp; omega
    have fa : decide ((97 : Int) ≤ (n : Int)) = false := by simp; omega
    have fb : decide ((n : Int) ≤ 122) = true := by simp; omega
    have fc : decide ((65 : Int) ≤ (n : Int)) = true := by simp; omega
    have fd : decide ((n : Int) ≤ 90) = false := by simp; omega
    have fe : ((n : Int) == 95) = false := by simp; omega
    have ff : decide ((128 : Int) ≤ (n : Int)) = false := by simp; omega
    rw [hv]
    clear hv h
    go_enter Tryd.func109, Tryd.ntmps109
    go_wp2
    go_ret
    exact ⟨rfl, rfl⟩
  · have hv : letterR n = true := by unfold letterR; simp; omega
    have fa : decide ((97 : Int) ≤ (n : Int)) = true := by simp; omega
    have fb : decide ((n : Int) ≤ 122) = true := by simp; omega
    have fc : decide ((65 : Int) ≤ (n : Int)) = true := by simp; omega
    have fd : decide ((n : Int) ≤ 90) = false := by simp; omega
    have fe : ((n : Int) == 95) = false := by simp; omega
    have ff : decide ((128 : Int) ≤ (n : Int)) = false := by simp; omega
    rw [hv]
    clear hv h
    go_enter Tryd.func109, Tryd.ntmps109
    go_wp2
    go_ret
    exact ⟨rfl, rfl⟩
  · have hv : letterR n = false := by unfold letterR; simp; omega
    have fa : decide ((97 : Int) ≤ (n : Int)) = true := by simp; omega
    have fb : decide ((n : Int) ≤ 122) = false := by simp; omega
    have fc : decide ((65 : Int) ≤ (n : Int)) = true := by simp; omega
    have fd : decide ((n : Int) ≤ 90) = false := by simp; omega
    have fe : ((n : Int) == 95) = false := by simp; omega
    have ff : decide ((128 : Int) ≤ (n : Int)) = false := by simp; omega
    rw [hv]
    clear hv h
    go_enter Tryd.func109, Tryd.ntmps109
    go_wp2
    go_ret
    exact ⟨rfl, rfl⟩
  · have hv : letterR n = true := by unfold letterR; simp; omega
    have fa : decide ((97 : Int) ≤ (n : Int)) = true := by simp; omega
    have fb : decide ((n : Int) ≤ 122) = false := by simp; omega
    have fc : decide ((65 : Int) ≤ (n : Int)) = true := by simp; omega
    have fd : decide ((n : Int) ≤ 90) = false := by simp; omega
    have fe : ((n : Int) == 95) = false := by simp; omega
    have ff : decide ((128 : Int) ≤ (n : Int)) = true := by simp; omega
    rw [hv]
    clear hv h
    go_enter Tryd.func109, Tryd.ntmps109
    go_wp2
    go_ret
    exact ⟨rfl, rfl⟩

/-- A rune that begins with a byte from 128 on: no letter of its own, and its bytes all from 128 on. -/
theorem decode_high (s : ByteArray) (pos : Nat) (h : pos < s.size) (hb : 128 ≤ (s.get! pos).toNat) :
    128 ≤ (Utf8.decode s pos).1 ∧ pos + (Utf8.decode s pos).2 ≤ s.size ∧ ∀ k, k < (Utf8.decode s pos).2 → 128 ≤ (s.get! (pos + k)).toNat := by
  have h0 := (s.get! (pos + 0)).toNat_lt; have h1 := (s.get! (pos + 1)).toNat_lt; have h2 := (s.get! (pos + 2)).toNat_lt; have h3 := (s.get! (pos + 3)).toNat_lt
  have hb0 : 128 ≤ (s.get! (pos + 0)).toNat := hb
  simp only [Utf8.decode]
  repeat' split
  all_goals simp only [Utf8.runeError, Bool.and_eq_true, decide_eq_true_eq, beq_iff_eq, ge_iff_le] at *
  all_goals refine ⟨by omega, by omega, fun k hk => ?_⟩
  all_goals rcases k with _ | _ | _ | _ | k
  all_goals first | exact hb0 | omega | (simp only [Nat.zero_add, Nat.reduceAdd] at *; omega)

/-- May a byte stand there? -/
def okB (k : Nat) (c : UInt8) : Bool := letterB c || (decide (k ≠ 0) && digitB c)
theorem letters_iff (l : List UInt8) : lettersB l = true ↔ ∀ k (h : k < l.length), okB k l[k] = true := by
  cases l with
  | nil => simp [lettersB]
  | cons c r =>
    unfold lettersB
    rw [Bool.and_eq_true, List.all_eq_true]
    constructor
    · rintro ⟨h1, h2⟩ k hk
      cases k with
      | zero => simp [okB, h1]
      | succ k =>
        have hk2 : k < r.length := by simpa using hk
        have := h2 r[k] (List.getElem_mem _)
        simp only [List.getElem_cons_succ, okB]
        simpa using this
    · intro h
      refine ⟨?_, fun x hx => ?_⟩
      · have := h 0 (by simp)
        simp only [List.getElem_cons_zero, okB] at this
        simpa using this
      · obtain ⟨k, hk, rfl⟩ := List.getElem_of_mem hx
        have := h (k + 1) (by simp; omega)
        simp only [List.getElem_cons_succ, okB] at this
        simpa using this
theorem digit_facts (r : Nat) : (48 ≤ r ∧ r ≤ 57) ∨ r < 48 ∨ 57 < r := by omega
theorem digitB_iff (c : UInt8) : digitB c = true ↔ 48 ≤ c.toNat ∧ c.toNat ≤ 57 := by
  unfold digitB
  rw [Bool.and_eq_true, decide_eq_true_eq, decide_eq_true_eq, UInt8.le_iff_toNat_le, UInt8.le_iff_toNat_le]
  exact Iff.rfl
theorem get_at (l : List UInt8) (k : Nat) (h : k < l.length) : (ByteArray.mk l.toArray).get! k = l[k] := by
  show l.toArray[k]! = l[k]
  simp [h]
/-- A rune and its bytes: both may stand there, or neither. -/
theorem rune_ok (l : List UInt8) (pos : Nat) (h : pos < l.length) :
    pos + (Utf8.decode ⟨l.toArray⟩ pos).2 ≤ l.length ∧ 1 ≤ (Utf8.decode ⟨l.toArray⟩ pos).2 ∧
    ((letterR (Utf8.decode ⟨l.toArray⟩ pos).1 = true ∨ (pos ≠ 0 ∧ 48 ≤ (Utf8.decode ⟨l.toArray⟩ pos).1 ∧ (Utf8.decode ⟨l.toArray⟩ pos).1 ≤ 57)) ↔
      ∀ k (hk : k < l.length), pos ≤ k → k < pos + (Utf8.decode ⟨l.toArray⟩ pos).2 → okB k l[k] = true) := by
  have hs : pos < (ByteArray.mk l.toArray).size := h
  by_cases ha : l[pos].toNat < 128
  · have e2 : (ByteArray.mk l.toArray)[pos]'hs = l[pos] := by
      show l.toArray[pos] = l[pos]
      simp
    have e := decode_ascii ⟨l.toArray⟩ pos hs (by rw [e2]; exact ha)
    rw [e2] at e
    rw [e]
    refine ⟨by simp; omega, Nat.le_refl _, ?_⟩
    simp only
    rw [letterR_byte]
    constructor
    · intro h2 k hk h3 h4
      obtain rfl : k = pos := by omega
      unfold okB
      rw [Bool.or_eq_true, Bool.and_eq_true, decide_eq_true_eq, digitB_iff]
      exact h2
    · intro h2
      have := h2 pos h (Nat.le_refl _) (by omega)
      unfold okB at this
      rw [Bool.or_eq_true, Bool.and_eq_true, decide_eq_true_eq, digitB_iff] at this
      exact this
  · obtain ⟨h1, h2, h3⟩ := decode_high ⟨l.toArray⟩ pos hs (by rw [get_at l pos h]; omega)
    refine ⟨h2, Lib.decode_width_pos _ _ hs, ?_⟩
    have hl : letterR (Utf8.decode ⟨l.toArray⟩ pos).1 = true := by unfold letterR; simp; omega
    constructor
    · intro _ k hk h4 h5
      have := h3 (k - pos) (by omega)
      rw [show pos + (k - pos) = k by omega, get_at l k hk] at this
      unfold okB
      rw [Bool.or_eq_true]
      left
      rw [← letterR_byte]
      unfold letterR; simp; omega
    · intro _; exact .inl hl

theorem next_any (P : Program) (w : World) (l : List UInt8) (pos r wd : Nat) (ty : TypeId) (h : pos < l.length) (hd : Utf8.decode ⟨l.toArray⟩ pos = (r, wd)) :
    (Instr.next (.pointer (some ⟨w.heap.size, 0, none⟩)) true ty).run P (w.iter ⟨l.toArray⟩ pos) = .ok (.tuple #[.bool true, .int .i64 pos, .int .i32 r]) (w.iter ⟨l.toArray⟩ (pos + wd)) := by
  have := run_next_any (P := P) w ⟨l.toArray⟩ pos ty h
  rw [hd] at this
  exact this

theorem name_bad {l : List UInt8} {pos r wd : Nat} (h : (letterR r = true ∨ (pos ≠ 0 ∧ 48 ≤ r ∧ r ≤ 57)) ↔ ∀ k (hk : k < l.length), pos ≤ k → k < pos + wd → okB k l[k] = true) (hn : ¬ (letterR r = true ∨ (pos ≠ 0 ∧ 48 ≤ r ∧ r ≤ 57))) : nameV l = false := by
  have : lettersB l = false := by
    cases hb : lettersB l with
    | false => rfl
    | true => exact absurd (h.2 fun k hk _ _ => (letters_iff l).1 hb k hk) hn
  unfold nameV
  rw [this, Bool.and_false]; rfl

set_option maxRecDepth 100000 in
set_option maxHeartbeats 2000000 in
theorem name_any (w : World) (l : List UInt8) (hl : l.length ≤ reachBytes) (hT : Tabs w) :
    Calls Tryd.prog 101 #[.string ⟨l.toArray⟩] w fun e w' => e = .returned (.bool (nameV l)) ∧ Fr no w w' := by
  have hlen : l.length ≤ 140737488351232 := hl
  have HL := Lib.hid hl; have HT := Lib.hid hT; clear hl hT
  go_enter Tryd.func101, Tryd.ntmps101
  go_wp2_with fail
  refine (valid_any w l HL.out HT.out).mono ?_
  rintro e w1 ⟨rfl, f1⟩
  have F1 := Lib.hid f1; clear f1
  cases hv : Lib.validD l with
  | false =>
    have HV := Lib.hid hv; clear hv
    go_wp2
    go_ret
    have : nameV l = false := by unfold nameV; rw [HV.out]; rfl
    rw [this]
    exact ⟨rfl, F1.out⟩
  | true =>
    have HV := Lib.hid hv; clear hv
    go_wp2_with fail
    refine (runes_any w1 l HL.out).mono ?_
    rintro e w2 ⟨rfl, f2⟩
    have F2 := Lib.hid (F1.out.trans f2 (fun _ _ h => h)); clear f2
    by_cases hc : 32 < Lib.runeCountL l
    · have hc1 : decide ((32 : Int) < (Lib.runeCountL l : Int)) = true := by simp; omega
      have HC := Lib.hid hc; clear hc
      go_wp2
      go_ret
      have : nameV l = false := by unfold nameV; have := HC.out; rw [show decide (Lib.runeCountL l ≤ 32) = false from decide_eq_false (by omega), Bool.and_false]; rfl
      rw [this]
      exact ⟨rfl, F2.out⟩
    · have hc1 : decide ((32 : Int) < (Lib.runeCountL l : Int)) = false := by simp; omega
      have HC := Lib.hid hc; clear hc
      go_wp2
      clear hc1
      go_loopw [2] (fun r wr => r = .bool false ∧ ∃ pos : Nat, wr = w2.iter ⟨l.toArray⟩ pos ∧ pos ≤ l.length ∧ ∀ k (h : k < l.length), k < pos → okB k l[k] = true) (fun _ wr => l.length - wr.iterPos w2.heap.size)
      case atStart => exact ⟨rfl, 0, rfl, Nat.zero_le _, fun k _ h => by omega⟩
      case round =>
        obtain ⟨rfl, pos, rfl, hpl, hok⟩ := hrel
        by_cases hp : pos < l.length
        · obtain ⟨r1, r2, r3⟩ := rune_ok l pos hp
          have hle := decode_le ⟨l.toArray⟩ pos
          obtain ⟨r, wd, hd⟩ : ∃ r wd, Utf8.decode ⟨l.toArray⟩ pos = (r, wd) := ⟨_, _, rfl⟩
          have hnx := fun ty => next_any Tryd.prog w2 l pos r wd ty hp hd
          rw [hd] at r1 r2 r3 hle
          simp only at r1 r2 r3 hle
          have HR3 := Lib.hid r3; have HOK := Lib.hid hok; clear r3 hok hd
          cases hlr : letterR r with
          | true =>
            have HLR := Lib.hid hlr; clear hlr
            go_wp2_with fail
            refine (letter_any _ r hle).mono ?_
            rintro e w3 ⟨rfl, rfl⟩
            rw [HLR.out]
            clear hnx
            go_wp2
            go_roundw
            case rel => exact ⟨rfl, pos + wd, rfl, r1, fun k hk hlt => by
                by_cases h : k < pos
                · exact HOK.out k hk h
                · exact HR3.out.1 (.inl HLR.out) k hk (by omega) hlt⟩
            case measure => simp; omega
          | false =>
            have HLR := Lib.hid hlr; clear hlr
            by_cases h0 : pos = 0
            · have g0 : ((pos : Int) == 0) = true := by simp; omega
              have H0 := Lib.hid h0; clear h0
              go_wp2_with fail
              refine (letter_any _ r hle).mono ?_
              rintro e w3 ⟨rfl, rfl⟩
              rw [HLR.out]
              clear hnx
              go_wp2
              go_ret
              have : nameV l = false := name_bad HR3.out (fun h => h.elim (fun h => by rw [HLR.out] at h; cases h) (fun h => h.1 H0.out))
              rw [this]
              exact ⟨rfl, F2.out.trans ((Fr.refl no w2).alloc _) (fun _ _ h => h)⟩
            · have g0 : ((pos : Int) == 0) = false := by simp; omega
              have H0 := Lib.hid h0; clear h0
              by_cases h1 : r < 48
              · have g1 : decide ((r : Int) < 48) = true := by simp; omega
                have H1 := Lib.hid h1; clear h1
                go_wp2_with fail
                refine (letter_any _ r hle).mono ?_
                rintro e w3 ⟨rfl, rfl⟩
                rw [HLR.out]
                clear hnx
                go_wp2
                go_ret
                have : nameV l = false := name_bad HR3.out (fun h => h.elim (fun h => by rw [HLR.out] at h; cases h) (fun h => by have := H1.out; omega))
                rw [this]
                exact ⟨rfl, F2.out.trans ((Fr.refl no w2).alloc _) (fun _ _ h => h)⟩
              · have g1 : decide ((r : Int) < 48) = false := by simp; omega
                have H1 := Lib.hid h1; clear h1
                by_cases h2 : 57 < r
                · have g2 : decide ((57 : Int) < (r : Int)) = true := by simp; omega
                  have H2 := Lib.hid h2; clear h2
                  go_wp2_with fail
                  refine (letter_any _ r hle).mono ?_
                  rintro e w3 ⟨rfl, rfl⟩
                  rw [HLR.out]
                  clear hnx
                  go_wp2
                  go_ret
                  have : nameV l = false := name_bad HR3.out (fun h => h.elim (fun h => by rw [HLR.out] at h; cases h) (fun h => by have := H2.out; omega))
                  rw [this]
                  exact ⟨rfl, F2.out.trans ((Fr.refl no w2).alloc _) (fun _ _ h => h)⟩
                · have g2 : decide ((57 : Int) < (r : Int)) = false := by simp; omega
                  have H2 := Lib.hid h2; clear h2
                  go_wp2_with fail
                  refine (letter_any _ r hle).mono ?_
                  rintro e w3 ⟨rfl, rfl⟩
                  rw [HLR.out]
                  clear hnx
                  go_wp2
                  go_roundw
                  case rel => exact ⟨rfl, pos + wd, rfl, r1, fun k hk hlt => by
                      by_cases h : k < pos
                      · exact HOK.out k hk h
                      · exact HR3.out.1 (.inr ⟨H0.out, by have := H1.out; omega, by have := H2.out; omega⟩) k hk (by omega) hlt⟩
                  case measure => simp; omega
        · obtain rfl : pos = l.length := by omega
          have hnx : ∀ ty, (Instr.next (.pointer (some ⟨w2.heap.size, 0, none⟩)) true ty).run Tryd.prog (w2.iter ⟨l.toArray⟩ l.length) = _ := fun ty => run_next_end w2 ⟨l.toArray⟩ l.length ty hp
          have HOK := Lib.hid hok; clear hok
          have hlet : lettersB l = true := (letters_iff l).2 fun k hk => HOK.out k hk hk
          have HLET := Lib.hid hlet; clear hlet
          go_wp2
          go_ret
          have : nameV l = !l.isEmpty := by
            unfold nameV
            have := HC.out
            rw [HV.out, HLET.out, show decide (Lib.runeCountL l ≤ 32) = true from decide_eq_true (by omega)]
            rfl
          rw [this]
          exact ⟨rfl, F2.out.trans ((Fr.refl no w2).alloc _) (fun _ _ h => h)⟩
end Go.Proofs.YtgcicljklejmjaaDoor

/- value.bare, value.own: what is wrong with a value by itself. (printed by mkown4.py) -/
namespace Go.Proofs.YtgcicljklejmjaaDoor
open Go.RowKit
open Tr

def bareAgg (x : Tr Mm) : Value := .agg #[.int .u8 x.k.toNat, .bool (x.k == 2 && x.b), .int .i64 (if x.k = 3 then x.i else 0), .string ⟨(if x.k = 4 then x.t else []).toArray⟩, .slice none 0 0, .slice none 0 0, .slice none 0 0]
theorem heap3 (w : World) (o1 o2 o3 : Obj) : (((w.alloc o1).alloc o2).alloc o3).heap[w.heap.size + 1]? = some o2 := by
  have h := heap_alloc_new (w.alloc o1) o2
  rw [World.size_alloc] at h
  exact ((Fr.refl no _).alloc o3).heap h (fun h => h)
theorem kk (k c : UInt8) : ((k.toNat : Int) == (c.toNat : Int)) = (k == c) := by
  rw [Bool.eq_iff_iff, beq_iff_eq, beq_iff_eq]
  exact ⟨fun e => UInt8.toNat_inj.1 (by omega), fun e => by rw [e]⟩

set_option maxRecDepth 100000 in
set_option maxHeartbeats 2000000 in
theorem bare_any (w : World) (x : Tr Mm) (hx : Tr.Good w x) : Calls Tryd.prog 100 #[x.agg] w fun e w' => e = .returned (bareAgg x) ∧ Fr no w w' := by
  obtain ⟨BA, bc, LA, lc, FA, fc, hf⟩ := hx.node.forms
  rw [hf.agg]
  clear hf hx
  have k2 : ((x.k.toNat : Int) == 2) = (x.k == 2) := kk x.k 2
  have k3 : ((x.k.toNat : Int) == 3) = (x.k == 3) := kk x.k 3
  have k4 : ((x.k.toNat : Int) == 4) = (x.k == 4) := kk x.k 4
  unfold bareAgg
  rcases (show x.k = 2 ∨ x.k = 3 ∨ x.k = 4 ∨ (x.k ≠ 2 ∧ x.k ≠ 3 ∧ x.k ≠ 4) by
    by_cases h2 : x.k = 2
    · exact .inl h2
    · by_cases h3 : x.k = 3
      · exact .inr (.inl h3)
      · by_cases h4 : x.k = 4
        · exact .inr (.inr (.inl h4))
        · exact .inr (.inr (.inr ⟨h2, h3, h4⟩))) with h | h | h | ⟨h2, h3, h4⟩
  · rw [h] at k2 k3 k4 ⊢
    rw [show ((2 : UInt8) == 2) = true from rfl] at k2
    rw [show ((2 : UInt8) == 3) = false from rfl] at k3
    rw [show ((2 : UInt8) == 4) = false from rfl] at k4
    clear h
    go_enter Tryd.func100, Tryd.ntmps100
    go_wp2
    refine bodyPost_ret (results_cell_row (P := Tryd.prog) rfl _ _ (w.heap.size + 1) 33 _ (0, 0) _ rfl (heap3 _ _ _ _) Tryd.underlying33 rfl (by kernel_rfl)) rfl ?_
    exact ⟨rfl, by (repeat first | exact Fr.refl _ _ | exact Fr.drewN _ _ _ | apply Fr.drew | apply Fr.alloc | apply Fr.setAt | apply Fr.moreN)⟩
  · rw [h] at k2 k3 k4 ⊢
    rw [show ((3 : UInt8) == 2) = false from rfl] at k2
    rw [show ((3 : UInt8) == 3) = true from rfl] at k3
    rw [show ((3 : UInt8) == 4) = false from rfl] at k4
    clear h
    go_enter Tryd.func100, Tryd.ntmps100
    go_wp2
    refine bodyPost_ret (results_cell_row (P := Tryd.prog) rfl _ _ (w.heap.size + 1) 33 _ (0, 0) _ rfl (heap3 _ _ _ _) Tryd.underlying33 rfl (by kernel_rfl)) rfl ?_
    exact ⟨rfl, by (repeat first | exact Fr.refl _ _ | exact Fr.drewN _ _ _ | apply Fr.drew | apply Fr.alloc | apply Fr.setAt | apply Fr.moreN)⟩
  · rw [h] at k2 k3 k4 ⊢
    rw [show ((4 : UInt8) == 2) = false from rfl] at k2
    rw [show ((4 : UInt8) == 3) = false from rfl] at k3
    rw [show ((4 : UInt8) == 4) = true from rfl] at k4
    clear h
    go_enter Tryd.func100, Tryd.ntmps100
    go_wp2
    refine bodyPost_ret (results_cell_row (P := Tryd.prog) rfl _ _ (w.heap.size + 1) 33 _ (0, 0) _ rfl (heap3 _ _ _ _) Tryd.underlying33 rfl (by kernel_rfl)) rfl ?_
    exact ⟨rfl, by (repeat first | exact Fr.refl _ _ | exact Fr.drewN _ _ _ | apply Fr.drew | apply Fr.alloc | apply Fr.setAt | apply Fr.moreN)⟩
  · rw [beq_eq_false_iff_ne.2 h2] at k2 ⊢
    rw [beq_eq_false_iff_ne.2 h3] at k3
    rw [beq_eq_false_iff_ne.2 h4] at k4
    rw [if_neg h3, if_neg h4]
    clear h2 h3 h4
    go_enter Tryd.func100, Tryd.ntmps100
    go_wp2
    refine bodyPost_ret (results_cell_row (P := Tryd.prog) rfl _ _ (w.heap.size + 1) 33 _ (0, 0) _ rfl (heap3 _ _ _ _) Tryd.underlying33 rfl (by kernel_rfl)) rfl ?_
    exact ⟨rfl, by (repeat first | exact Fr.refl _ _ | exact Fr.drewN _ _ _ | apply Fr.drew | apply Fr.alloc | apply Fr.setAt | apply Fr.moreN)⟩

set_option maxRecDepth 100000 in
set_option maxHeartbeats 8000000 in
theorem own_bad (w : World) (x : Tr Mm) {BA LA FA : Option Addr} {bc lc fc : Nat} (b' : Bool) (i' : Int) (t' : List UInt8)
    (hba : ∀ W, Fr no w W → Calls Tryd.prog 100 #[.agg #[.int .u8 x.k.toNat, .bool x.b, .int .i64 x.i, .string ⟨x.t.toArray⟩, .slice BA x.bs.length bc, .slice LA x.l.length lc, .slice FA x.f.length fc]] W fun e w' => e = .returned (.agg #[.int .u8 x.k.toNat, .bool b', .int .i64 i', .string ⟨t'.toArray⟩, .slice none 0 0, .slice none 0 0, .slice none 0 0]) ∧ Fr no W w')
    (B1 B2 B3 P5 K5 P6 K6 P7 K7 D1 D2 : Bool) (e1 : (x.b == b') = B1) (e2 : (x.i == i') = B2) (e3 : (x.t == t') = B3) (p5 : ((x.bs.length : Int) == 0) = P5) (k5 : ((x.k.toNat : Int) == 5) = K5) (p6 : ((x.l.length : Int) == 0) = P6) (k6 : ((x.k.toNat : Int) == 6) = K6)
    (p7 : ((x.f.length : Int) == 0) = P7) (k7 : ((x.k.toNat : Int) == 7) = K7) (d1 : decide ((x.k.toNat : Int) < 1) = D1) (d2 : decide (7 < (x.k.toNat : Int)) = D2)
    (hbad : (!D1 && !D2 && B1 && B2 && B3 && (P5 || K5) && (P6 || K6) && (P7 || K7)) = false) :
    Calls Tryd.prog 80 #[.agg #[.int .u8 x.k.toNat, .bool x.b, .int .i64 x.i, .string ⟨x.t.toArray⟩, .slice BA x.bs.length bc, .slice LA x.l.length lc, .slice FA x.f.length fc]] w fun e w' => e = .returned (.int .u16 30) ∧ Fr no w w' := by
  have HBA := Lib.hid hba
  clear hba
  generalize (x.k.toNat : Int) = kz at *
  go_enter Tryd.func80, Tryd.ntmps80
  go_wp2_with fail
  refine (HBA.out _ (by (repeat first | exact Fr.refl _ _ | exact Fr.drewN _ _ _ | apply Fr.drew | apply Fr.alloc | apply Fr.setAt | apply Fr.moreN))).mono ?_
  rintro e w1 ⟨rfl, f1⟩
  have F1 := Lib.hid (Fr.trans (by (repeat first | exact Fr.refl _ _ | exact Fr.drewN _ _ _ | apply Fr.drew | apply Fr.alloc | apply Fr.setAt | apply Fr.moreN) : Fr no w _) f1 (fun _ _ h => h))
  have F2 := Lib.hid (F1.out.alloc (.cells #[.int .u8 kz, .bool b', .int .i64 i', .string ⟨t'.toArray⟩, .slice none 0 0, .slice none 0 0, .slice none 0 0] 33))
  have hb0 := f1.heap (heap_alloc_new w _) (fun h => h)
  have hbl := (Array.getElem?_eq_some_iff.1 hb0).1
  have q0 := cell_of_row w1 w.heap.size 0 _ _ (0, 0) hb0
  have q1 := cell_of_row w1 w.heap.size 1 _ _ (0, 0) hb0
  have q2 := cell_of_row w1 w.heap.size 2 _ _ (0, 0) hb0
  have q3 := cell_of_row w1 w.heap.size 3 _ _ (0, 0) hb0
  have q4 := cell_of_row w1 w.heap.size 4 _ _ (0, 0) hb0
  have q5 := cell_of_row w1 w.heap.size 5 _ _ (0, 0) hb0
  have q6 := cell_of_row w1 w.heap.size 6 _ _ (0, 0) hb0
  simp only [List.getElem?_toArray, List.getElem?_cons_succ, List.getElem?_cons_zero] at q0 q1 q2 q3 q4 q5 q6
  have HBAD := Lib.hid hbad
  clear f1 hb0 hbad
  go_wp2_with fail
  all_goals first
    | (exfalso; have h := HBAD.out; simp at h; done)
    | (refine bodyPost_ret (results_tmp rfl _ _ _) rfl ?_; exact ⟨rfl, F2.out⟩)
    | (exfalso; have h := HBAD.out; clear q0 q1 q2 q3 q4 q5 q6 HBAD F1 F2 HBA hbl; simp_all; done)
end Go.Proofs.YtgcicljklejmjaaDoor
