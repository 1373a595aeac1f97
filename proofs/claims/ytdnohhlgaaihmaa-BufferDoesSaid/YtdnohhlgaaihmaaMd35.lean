import Derived.Test.YtdnohhlgaaihmaaMd34
import Derived.Test.YtdnohhlgaaihmaaMd02

/- law16: the buffer, the document's and the book, side by side, in one memory. -/
namespace Go.Proofs.Ytdnohhlgaaihmaa
open Go.RowKit

theorem Rf.lt {w : World} {g : Nat} {sv : Value} {L : List SpV} (h : Rf w g sv L) : ∀ k, SeF g sv L k → k < w.heap.size := by
  rintro k (rfl | hk | ⟨x, hx, hk⟩)
  · exact (Array.getElem?_eq_some_iff.1 h.at_).1
  · exact h.row.lt k hk
  · exact (h.apart x hx k hk).2.2

/-- The three, apart from one another and from U; all at or behind the block lo. -/
structure Dz (w : World) (p : Nat) (lv uv : Value) (l : List SpV) (us : List Und) (g : Nat) (sv : Value) (L : List SpV) (b : Nat) (V : Nat → Value) (R : Nat → List Value) (U : Nat → Prop) (lo : Nat) : Prop where
  bf : Bf w p lv l uv us
  rf : Rf w g sv L
  bc : Bc w b V R
  sy : Sync us l L
  d12 : Dj (BfF p lv l uv us) (SeF g sv L)
  d13 : Dj (BfF p lv l uv us) (BcF b V R)
  d23 : Dj (SeF g sv L) (BcF b V R)
  u1 : Dj (BfF p lv l uv us) U
  u2 : Dj (SeF g sv L) U
  u3 : Dj (BcF b V R) U
  lo : ∀ k, BfF p lv l uv us k ∨ SeF g sv L k ∨ BcF b V R k → lo ≤ k
  ul : ∀ k, U k → k < w.heap.size
  len : l.length ≤ us.length

/-- All blocks of the three. -/
def DzB (p : Nat) (lv uv : Value) (l : List SpV) (us : List Und) (g : Nat) (sv : Value) (L : List SpV) (b : Nat) (V : Nat → Value) (R : Nat → List Value) : Nat → Prop := fun k => BfF p lv l uv us k ∨ SeF g sv L k ∨ BcF b V R k

variable {w w1 w2 w3 : World} {p g b lo : Nat} {lv uv sv : Value} {l L : List SpV} {us : List Und} {V : Nat → Value} {R : Nat → List Value} {U : Nat → Prop}
theorem Dz.kept (h : Dz w p lv uv l us g sv L b V R U lo) {S : Nat → Prop} (f : Fr S w w1) (hn : ∀ k, BfF p lv l uv us k ∨ SeF g sv L k ∨ BcF b V R k → ¬ S k) : Dz w1 p lv uv l us g sv L b V R U lo :=
  ⟨h.bf.kept f (fun k hk => hn k (.inl hk)), h.rf.kept f (fun k hk => hn k (.inr (.inl hk))), h.bc.kept f (fun k hk => hn k (.inr (.inr hk))), h.sy, h.d12, h.d13, h.d23, h.u1, h.u2, h.u3, h.lo, fun k hk => Nat.lt_of_lt_of_le (h.ul k hk) f.size, h.len⟩
theorem Dz.kept0 (h : Dz w p lv uv l us g sv L b V R U lo) (f : Fr no w w1) : Dz w1 p lv uv l us g sv L b V R U lo := h.kept f (fun _ _ h => h)

/-- What a step may write. -/
def DzS (lo : Nat) (U : Nat → Prop) : Nat → Prop := fun k => lo ≤ k ∧ ¬ U k
theorem Dz.ofS (h : Dz w p lv uv l us g sv L b V R U lo) (k : Nat) (hk : BfF p lv l uv us k ∨ SeF g sv L k ∨ BcF b V R k) : DzS lo U k := ⟨h.lo k hk, fun e => by rcases hk with hk | hk | hk; exact h.u1 k hk e; exact h.u2 k hk e; exact h.u3 k hk e⟩

/-- The buffer changes: its blocks are the old ones or new. -/
theorem Dz.buf {lv' uv' : Value} {l' L' : List SpV} {us' : List Und} {T : Nat → Prop} (h : Dz w p lv uv l us g sv L b V R U lo) (hlo : lo ≤ w.heap.size) (f : Fr T w w1) (hT : ∀ k, T k → BfF p lv l uv us k) (hb : Bf w1 p lv' l' uv' us')
    (hs : ∀ k, BfF p lv' l' uv' us' k → BfF p lv l uv us k ∨ w.heap.size ≤ k) (hsy : Sync us' l' L') (hL : L' = L) (hlen : l'.length ≤ us'.length) : Dz w1 p lv' uv' l' us' g sv L b V R U lo := by
  subst hL
  have hgt : ∀ k, (SeF g sv L' k ∨ BcF b V R k ∨ U k) → k < w.heap.size := fun k hk => by rcases hk with hk | hk | hk; exact h.rf.lt k hk; exact h.bc.lt k hk; exact h.ul k hk
  exact ⟨hb, h.rf.kept f (fun k hk e => h.d12 k (hT k e) hk), h.bc.kept f (fun k hk e => h.d13 k (hT k e) hk), hsy,
    fun k hk e => by rcases hs k hk with h1 | h1; exact h.d12 k h1 e; have := hgt k (.inl e); omega,
    fun k hk e => by rcases hs k hk with h1 | h1; exact h.d13 k h1 e; have := hgt k (.inr (.inl e)); omega, h.d23,
    fun k hk e => by rcases hs k hk with h1 | h1; exact h.u1 k h1 e; have := hgt k (.inr (.inr e)); omega, h.u2, h.u3,
    fun k hk => by
      rcases hk with hk | hk
      · rcases hs k hk with h1 | h1
        · exact h.lo k (.inl h1)
        · omega
      · exact h.lo k (.inr hk), fun k hk => Nat.lt_of_lt_of_le (h.ul k hk) f.size, hlen⟩

/-- Something is said to both. -/
theorem Dz.said {x : SpV} {e1 : Ending} {kb vb : List UInt8} {o : Bool} (h : Dz w p lv uv l us g sv L b V R U lo) (hlo : lo ≤ w.heap.size) (hx : x.pr = (kb, vb, o)) (hs : Said w w1 p lv uv l us x e1) :
    ∃ lv' uv' l' u, e1 = .returned (.tuple #[]) ∧ Bf w1 p lv' l' uv' (u :: us) ∧ Rf w1 g sv L ∧ Fr (BfF p lv l uv us) w w1 ∧ l'.length ≤ l.length + 1 ∧
      ∀ (wq : World), Fr no w1 wq → ∀ (w2 : World) (e2 : Ending), Rsaid wq w2 g sv L kb vb o e2 → e2 = .returned (.tuple #[]) ∧ ∃ sv' y, Dz w2 p lv' uv' l' (u :: us) g sv' (L ++ [y]) b V R U lo ∧ Fr (SeF g sv L) wq w2 ∧ ∀ k, DzB p lv' uv' l' (u :: us) g sv' (L ++ [y]) b V R k → DzB p lv uv l us g sv L b V R k ∨ w.heap.size ≤ k := by
  obtain ⟨h0, lv', uv', u, F, T, h1, h2, h3, h4⟩ := hs
  have hT : ∀ k, (k = p ∨ lv.ownBlock = some k ∨ uv.ownBlock = some k) → BfF p lv l uv us k := fun k hk => by
    rcases hk with hk | hk | hk
    · exact .inl hk
    · exact .inr (.inl hk)
    · exact .inr (.inr (.inl hk))
  have hsz := h2.size
  refine ⟨lv', uv', _, u, h0, h1, h.rf.kept h2 (fun k hk e => h.d12 k (hT k e) hk), h2.mono (fun k _ e => hT k e), say_len _ _, fun wq fq w2 e2 hr => ?_⟩
  obtain ⟨r0, sv', F2, T2, r1, r2, r3⟩ := hr
  have hbq := h1.kept0 fq
  have hszq := fq.size
  have hB : ∀ k, BfF p lv' (sayL l ⟨F, T, x.f, x.t, x.o⟩) uv' (u :: us) k → BfF p lv l uv us k ∨ w.heap.size ≤ k := fun k hk => by
    rcases h3 k hk with e | e
    · exact .inl e
    · exact .inr e.1
  have hS : ∀ k, SeF g sv' (L ++ [⟨F2, T2, kb, vb, o⟩]) k → SeF g sv L k ∨ wq.heap.size ≤ k := fun k hk => by
    rcases r3 k hk with e | e
    · exact .inl e
    · exact .inr e.1
  have hST : ∀ k, (k = g ∨ sv.ownBlock = some k) → SeF g sv L k := fun k hk => by
    rcases hk with hk | hk
    · exact .inl hk
    · exact .inr (.inl hk)
  have hBl := hbq.lt
  have hbc := (h.bc.kept h2 (fun k hk e => h.d13 k (hT k e) hk)).kept0 fq
  have d12 : ∀ k, BfF p lv' (sayL l ⟨F, T, x.f, x.t, x.o⟩) uv' (u :: us) k → ¬ SeF g sv L k := fun k hk e => by
    rcases hB k hk with h5 | h5
    · exact h.d12 k h5 e
    · have := h.rf.lt k e; omega
  refine ⟨r0, sv', _, ⟨hbq.kept r2 (fun k hk e => d12 k hk (hST k e)), r1, hbc.kept r2 (fun k hk e => h.d23 k (hST k e) hk), h.sy.said h4 (by show (x.f, x.t, x.o) = (kb, vb, o); exact hx), fun k hk e => ?_, fun k hk e => ?_, fun k hk e => ?_, fun k hk e => ?_, fun k hk e => ?_, h.u3, fun k hk => ?_, fun k hk => ?_, ?_⟩, r2.mono (fun k _ e => hST k e), fun k hk => ?_⟩
  · rcases hS k e with h5 | h5
    · exact d12 k hk h5
    · have := hBl k hk; omega
  · rcases hB k hk with h5 | h5
    · exact h.d13 k h5 e
    · have := h.bc.lt k e; omega
  · rcases hS k hk with h5 | h5
    · exact h.d23 k h5 e
    · have := h.bc.lt k e; omega
  · rcases hB k hk with h5 | h5
    · exact h.u1 k h5 e
    · have := h.ul k e; omega
  · rcases hS k hk with h5 | h5
    · exact h.u2 k h5 e
    · have := h.ul k e; omega
  · rcases hk with hk | hk | hk
    · rcases hB k hk with h5 | h5
      · exact h.lo k (.inl h5)
      · omega
    · rcases hS k hk with h5 | h5
      · exact h.lo k (.inr (.inl h5))
      · omega
    · exact h.lo k (.inr (.inr hk))
  · have := h.ul k hk; have := r2.size; omega
  · have := say_len l ⟨F, T, x.f, x.t, x.o⟩
    have := h.len
    simp only [List.length_cons]; omega
  · rcases hk with hk | hk | hk
    · rcases hB k hk with h5 | h5
      · exact .inl (.inl h5)
      · exact .inr h5
    · rcases hS k hk with h5 | h5
      · exact .inl (.inr (.inl h5))
      · exact .inr (by omega)
    · exact .inl (.inr (.inr hk))

/-- Something is put into the book. -/
theorem Dz.book {N : Nat → Prop} {n : Nat} {e : Ending} (h : Dz w p lv uv l us g sv L b V R U lo) (hlo : lo ≤ w.heap.size) (hN : ∀ k, N k → lo ≤ k ∧ ¬ BfF p lv l uv us k ∧ ¬ SeF g sv L k ∧ ¬ U k) (hg : Grown w w1 b V R N n e) :
    e = .returned (.tuple #[]) ∧ ∃ V' R', Dz w1 p lv uv l us g sv L b V' R' U lo ∧ Fr (DzS lo U) w w1 ∧ (∀ i, (R' i).length ≤ (R i).length + n) ∧ Fr (BcF b V R) w w1 ∧ ∀ k, DzB p lv uv l us g sv L b V' R' k → DzB p lv uv l us g sv L b V R k ∨ N k ∨ w.heap.size ≤ k := by
  obtain ⟨h0, V', R', h1, h2, h3, h5, h4⟩ := hg
  have hB : ∀ k, BcF b V' R' k → BcF b V R k ∨ N k ∨ w.heap.size ≤ k := h3
  have hbl := h.bf.lt; have hrl := h.rf.lt
  refine ⟨h0, V', R', ⟨h.bf.kept h2 (fun k hk e => h.d13 k hk e.bc), h.rf.kept h2 (fun k hk e => h.d23 k hk e.bc), h1, h.sy, h.d12, fun k hk e => ?_, fun k hk e => ?_, h.u1, h.u2, fun k hk e => ?_, fun k hk => ?_, fun k hk => Nat.lt_of_lt_of_le (h.ul k hk) h2.size, h.len⟩, h2.mono (fun k _ e => h.ofS k (.inr (.inr e.bc))), h4, h2.mono (fun k _ e => e.bc), fun k hk => ?_⟩
  · rcases hB k e with h6 | h6 | h6
    · exact h.d13 k hk h6
    · exact (hN k h6).2.1 hk
    · have := hbl k hk; omega
  · rcases hB k e with h6 | h6 | h6
    · exact h.d23 k hk h6
    · exact (hN k h6).2.2.1 hk
    · have := hrl k hk; omega
  · rcases hB k hk with h6 | h6 | h6
    · exact h.u3 k h6 e
    · exact (hN k h6).2.2.2 e
    · have := h.ul k e; omega
  · rcases hk with hk | hk | hk
    · exact h.lo k (.inl hk)
    · exact h.lo k (.inr (.inl hk))
    · rcases hB k hk with h6 | h6 | h6
      · exact h.lo k (.inr (.inr h6))
      · exact (hN k h6).1
      · omega
  · rcases hk with hk | hk | hk
    · exact .inl (.inl hk)
    · exact .inl (.inr (.inl hk))
    · rcases hB k hk with h6 | h6 | h6
      · exact .inl (.inr (.inr h6))
      · exact .inr (.inl h6)
      · exact .inr (.inr h6)

/-- Both go back. -/
theorem Dz.back {m : Nat} {e1 : Ending} (h : Dz w p lv uv l us g sv L b V R U lo) (hm : m ≤ us.length) (hs : BackP w w1 p lv uv l us m e1) :
    e1 = .returned (.int .u16 0) ∧ Rf w1 g sv L ∧ Fr (BfF p lv l uv us) w w1 ∧ ∃ lv' uv' l' us', l'.length ≤ l.length ∧ us'.length = m ∧
      ∀ (w2 : World) (sv' : Value), Rf w2 g sv' (L.take m) → (∀ k, SeF g sv' (L.take m) k → SeF g sv L k) → Fr (fun k => k = g) w1 w2 → Dz w2 p lv' uv' l' us' g sv' (L.take m) b V R U lo ∧ ∀ k, DzB p lv' uv' l' us' g sv' (L.take m) b V R k → DzB p lv uv l us g sv L b V R k := by
  obtain ⟨h0, lv', uv', h1, h2, h3⟩ := hs
  have hT : ∀ k, (k = p ∨ lv.ownBlock = some k) → BfF p lv l uv us k := fun k hk => by
    rcases hk with hk | hk
    · exact .inl hk
    · exact .inr (.inl hk)
  have hlb : (backs (us.take (us.length - m)) l).length ≤ l.length := by
    have key : ∀ (us : List Und) (l : List SpV), (backs us l).length ≤ l.length := by
      intro us
      induction us with
      | nil => intro l; exact Nat.le_refl _
      | cons u us ih => intro l; exact Nat.le_trans (ih (u.back l)) (back_len u l)
    exact key _ _
  have hsy := h.sy.back m (by rw [← h.sy.1]; exact hm)
  have hll : (backs (us.take (us.length - m)) l).length ≤ (us.drop (us.length - m)).length := by
    have e1 := congrArg List.length hsy.now
    have e2 := chg_len (L.take m)
    rw [List.length_map, List.length_map] at e1
    rw [hsy.1]; omega
  refine ⟨h0, h.rf.kept h3 (fun k hk e => h.d12 k (hT k e) hk), h3.mono (fun k _ e => hT k e), lv', uv', backs (us.take (us.length - m)) l, us.drop (us.length - m), hlb, by rw [List.length_drop]; omega, fun w2 sv' r1 r2 r3 => ?_⟩
  have hg : SeF g sv L g := .inl rfl
  refine ⟨⟨h1.kept r3 (fun k hk e => h.d12 k (h2 k hk) (by have e2 : k = g := e; rw [e2]; exact hg)), r1, (h.bc.kept h3 (fun k hk e => h.d13 k (hT k e) hk)).kept r3 (fun k hk e => h.d23 k (by have e2 : k = g := e; rw [e2]; exact hg) hk), hsy, fun k hk e => h.d12 k (h2 k hk) (r2 k e), fun k hk e => h.d13 k (h2 k hk) e, fun k hk e => h.d23 k (r2 k hk) e, fun k hk e => h.u1 k (h2 k hk) e, fun k hk e => h.u2 k (r2 k hk) e, h.u3, fun k hk => h.lo k (by
    rcases hk with hk | hk | hk
    · exact .inl (h2 k hk)
    · exact .inr (.inl (r2 k hk))
    · exact .inr (.inr hk)), fun k hk => Nat.lt_of_lt_of_le (h.ul k hk) (Nat.le_trans h3.size r3.size), hll⟩, fun k hk => by
    rcases hk with hk | hk | hk
    · exact .inl (h2 k hk)
    · exact .inr (.inl (r2 k hk))
    · exact .inr (.inr hk)⟩

theorem Dz.b3 (h : Dz w p lv uv l us g sv L b V R U lo) (k : Nat) (hk : DzB p lv uv l us g sv L b V R k) : k < w.heap.size ∧ lo ≤ k ∧ ¬ U k := by
  refine ⟨?_, h.lo k hk, fun e => ?_⟩
  · rcases hk with hk | hk | hk
    · exact h.bf.lt k hk
    · exact h.rf.lt k hk
    · exact h.bc.lt k hk
  · rcases hk with hk | hk | hk
    · exact h.u1 k hk e
    · exact h.u2 k hk e
    · exact h.u3 k hk e
end Go.Proofs.Ytdnohhlgaaihmaa

/- A region that draws its order, walked in ours, where two operations may come in either order: both ways are walked. Conditions: a closed check of the region's edges. -/
namespace Go

/-- An order with forks: behind the operations of l the ways s and t part, each begins with its own operation. -/
inductive BT where
  | lin (l : List Nat)
  | fork (l : List Nat) (s t : BT)

/-- Q, but at the normal end E. -/
def atEnd (Q : Exit → Act → World → Prop) (E : Act → World → Prop) : Exit → Act → World → Prop
  | .normal, a, w => E a w
  | x, a, w => Q x a w

section
variable {P : Program} {ops : Array Oper} {Q : Exit → Act → World → Prop} {I : World → Prop} {kds : Nat → Kd} {md : Region.Mode}

def wpB (P : Program) (ops : Array Oper) (Q : Exit → Act → World → Prop) (I : World → Prop) (kds : Nat → Kd) : BT → Act → World → Prop
  | .lin l, a, w => wpX P ops Q I kds l a w
  | .fork l s t, a, w => wpX P ops (atEnd Q fun a w => wpB P ops Q I kds s a w ∧ wpB P ops Q I kds t a w) I kds l a w

theorem Oper.wp_exit {o : Oper} {a : Act} {w : World} {K : Act → World → Prop} {E : Act → World → Prop} (h : o.wp P a w K (NoPanic (atEnd Q E))) : o.wp P a w K (NoPanic Q) := by
  unfold Oper.wp at *
  generalize (execOp a.eval o).run P w = r at *
  unfold Oper.upon at *
  split at h
  · exact h
  · exact h
  · exact h
  · refine Calls.mono h ?_
    rintro e w' hh
    cases e with
    | returned v => exact hh
    | panicked c => exact (hh : False).elim
    | outgrown => exact hh
  · exact h
  · exact h
  · exact h

theorem kdOp_exit {kd : Kd} {o : Oper} {a : Act} {w : World} {K : Act → World → Prop} {E : Act → World → Prop} (hh : kdOp P (atEnd Q E) I kd o a w K) : kdOp P Q I kd o a w K := by
  cases kd with
  | p => exact hh
  | l => exact hh
  | m => exact hh
  | g => exact Oper.wp_exit hh
  | e => exact Oper.wp_exit hh

theorem xOp_exit {i : Nat} {a : Act} {w : World} {K : Act → World → Prop} {E : Act → World → Prop} (hh : xOp P ops (atEnd Q E) I kds i K a w) : xOp P ops Q I kds i K a w := by
  unfold xOp at *
  split
  · rename_i ho; simp only [ho] at hh; exact hh
  · rename_i o ho
    simp only [ho] at hh
    split
    · rename_i hw; simp only [hw, if_true] at hh; exact kdOp_exit hh
    · rename_i hw; simp only [hw] at hh; exact hh

def Region.stepB (wt : Nat → Nat → Bool) (md : Region.Mode) (ops : Array Oper) (kds : Nat → Kd) (i : Nat) (listed : Array Bool) : Bool :=
  match kds i with
  | .p | .l | .m => (Region.ready md ops listed).contains i && Region.freeX wt ops kds listed i
  | .g | .e => Region.ready md ops listed == [i]

/-- The check of the operations ahead of a fork: what is listed then. -/
def Region.ordPre (wt : Nat → Nat → Bool) (md : Region.Mode) (ops : Array Oper) (kds : Nat → Kd) : List Nat → Array Bool → Option (Array Bool)
  | [], listed => some listed
  | i :: rest, listed =>
    if Region.stepB wt md ops kds i listed = true then Region.ordPre wt md ops kds rest (listed.setIfInBounds i true) else none

def BT.head : BT → List Nat
  | .lin l => l
  | .fork l _ _ => l
def BT.tail : BT → BT
  | .lin l => .lin l.tail
  | .fork l s t => .fork l.tail s t

/-- The closed check of an order with forks (n: how many operations are left). -/
def Region.chkB (wt : Nat → Nat → Bool) (md : Region.Mode) (ops : Array Oper) (kds : Nat → Kd) : Nat → BT → Nat → Array Bool → Bool
  | _, .lin l, n, listed => l.length == n && Region.ordFrom wt md ops kds l listed
  | 0, .fork _ _ _, _, _ => false
  | fuel + 1, .fork l s t, n, listed =>
    match Region.ordPre wt md ops kds l listed with
    | none => false
    | some li =>
      match s.head, t.head with
      | i :: _, j :: _ => decide (l.length + 1 ≤ n) && !(Region.ready md ops li).isEmpty && (Region.ready md ops li).all (fun k => k == i || k == j) &&
          ((Region.ready md ops li).contains i && Region.chkB wt md ops kds fuel s.tail (n - l.length - 1) (li.setIfInBounds i true)) &&
          ((Region.ready md ops li).contains j && Region.chkB wt md ops kds fuel t.tail (n - l.length - 1) (li.setIfInBounds j true))
      | _, _ => false

theorem wpX_nil {a : Act} {w : World} : wpX P ops Q I kds [] a w ↔ Q .normal a w := by with_unfolding_all exact Iff.rfl
theorem wpX_cons {i : Nat} {r : List Nat} {a : Act} {w : World} : wpX P ops Q I kds (i :: r) a w ↔ xOp P ops Q I kds i (wpX P ops Q I kds r) a w := by with_unfolding_all exact Iff.rfl

theorem wpAnyX_pre {wt : Nat → Nat → Bool} {E : Act → World → Prop} (hwt : ∀ j i, wt j i = true → Region.Anc md ops j i) (hs : Region.noSelect ops = true) (m : Nat) (li : Array Bool) :
    ∀ (ord : List Nat) (listed : Array Bool) (a : Act) (w : World), I w → Region.Closed md ops listed →
    Region.ordPre wt md ops kds ord listed = some li → (Region.Closed md ops li → ∀ a w, I w → E a w → wpAnyX P md ops Q I kds m li a w) → wpX P ops (atEnd Q E) I kds ord a w → wpAnyX P md ops Q I kds (m + ord.length) listed a w
  | [], listed, a, w, hI, hc, hB, hE, h => by
    obtain rfl : listed = li := by simpa [Region.ordPre] using hB
    exact hE hc a w hI (wpX_nil.1 h)
  | i :: rest, listed, a, w, hI, hc, hB, hE, h => by
    unfold Region.ordPre at hB
    split at hB
    case isFalse => cases hB
    rename_i hB1
    have h : xOp P ops Q I kds i (wpX P ops (atEnd Q E) I kds rest) a w := xOp_exit (wpX_cons.1 h)
    have main : ∀ kd : Kd, kds i = kd → (kd = .p ∨ kd = .l ∨ kd = .m) → (Region.ready md ops listed).contains i = true → Region.freeX wt ops kds listed i = true → wpAnyX P md ops Q I kds (m + rest.length + 1) listed a w := by
      intro kd hk hm hr hf
      have hr' : i ∈ Region.ready md ops listed := by simpa using hr
      obtain ⟨_, oi, hoi, _⟩ := mem_ready.1 hr'
      obtain ⟨v, hy, hK⟩ := yieldsX_of_xOp hoi hk hm h
      exact wpAnyX_first hwt hoi (Region.noSelect_spec hs) hk (m + rest.length) listed a w hI hc (Region.freeX_spec hoi hk hf) hr' hy
        (wpAnyX_pre hwt hs m li rest _ _ _ hI (hc.set hr') hB hE hK)
    have lone : Region.ready md ops listed = [i] → wpAnyX P md ops Q I kds (m + rest.length + 1) listed a w := by
      intro hr
      have hr' : i ∈ Region.ready md ops listed := by rw [hr]; simp
      refine ⟨fun h0 => (by rw [hr] at h0; cases h0), fun j hj => ?_⟩
      rw [hr] at hj
      obtain rfl : j = i := by simpa using hj
      exact xOp_mono (fun a w hI hK => wpAnyX_pre hwt hs m li rest _ a w hI (hc.set hr') hB hE hK) hI h
    unfold Region.stepB at hB1
    cases hk : kds i <;> simp only [hk] at hB1
    case p => simp only [Bool.and_eq_true] at hB1; exact main _ hk (by simp) hB1.1 hB1.2
    case l => simp only [Bool.and_eq_true] at hB1; exact main _ hk (by simp) hB1.1 hB1.2
    case m => simp only [Bool.and_eq_true] at hB1; exact main _ hk (by simp) hB1.1 hB1.2
    case g => exact lone (by simpa using hB1)
    case e => exact lone (by simpa using hB1)

theorem wpB_first {i : Nat} {r : List Nat} {s : BT} (hs : s.head = i :: r) {a : Act} {w : World} (h : wpB P ops Q I kds s a w) : xOp P ops Q I kds i (wpB P ops Q I kds s.tail) a w := by
  cases s with
  | lin l =>
    simp only [BT.head] at hs
    subst hs
    exact wpX_cons.1 h
  | fork l s t =>
    simp only [BT.head] at hs
    subst hs
    exact xOp_exit (wpX_cons.1 h)

theorem wpAnyX_B {wt : Nat → Nat → Bool} (hwt : ∀ j i, wt j i = true → Region.Anc md ops j i) (hs : Region.noSelect ops = true) :
    ∀ (fuel : Nat) (b : BT) (n : Nat) (listed : Array Bool) (a : Act) (w : World), I w → Region.Closed md ops listed → Region.chkB wt md ops kds fuel b n listed = true → wpB P ops Q I kds b a w → wpAnyX P md ops Q I kds n listed a w
  | fuel, .lin l, n, listed, a, w, hI, hc, hB, h => by
    unfold Region.chkB at hB
    simp only [Bool.and_eq_true, beq_iff_eq] at hB
    rw [← hB.1]
    exact wpAnyX_ord hwt hs l listed a w hI hc hB.2 h
  | 0, .fork l s t, n, listed, a, w, hI, hc, hB, h => by simp [Region.chkB] at hB
  | fuel + 1, .fork l s t, n, listed, a, w, hI, hc, hB, h => by
    unfold Region.chkB at hB
    split at hB
    · cases hB
    rename_i li hp
    split at hB
    case h_2 => cases hB
    rename_i i ri j rj hsi htj
    simp only [Bool.and_eq_true, decide_eq_true_eq, List.all_eq_true, Bool.or_eq_true, beq_iff_eq, Bool.not_eq_true', List.isEmpty_eq_false_iff] at hB
    obtain ⟨⟨⟨⟨hn, hne⟩, hall⟩, hi, hB1⟩, hj, hB2⟩ := hB
    have hi' : i ∈ Region.ready md ops li := by simpa using hi
    have hj' : j ∈ Region.ready md ops li := by simpa using hj
    have e : n = (n - l.length - 1 + 1) + l.length := by omega
    rw [e]
    refine wpAnyX_pre hwt hs (n - l.length - 1 + 1) li l listed a w hI hc hp ?_ h
    intro hcl a w hI hE
    refine ⟨fun h0 => (hne h0).elim, fun k hk => ?_⟩
    rcases hall k hk with rfl | rfl
    · exact xOp_mono (fun a w hI hK => wpAnyX_B hwt hs fuel s.tail _ _ a w hI (hcl.set hi') hB1 hK) hI (wpB_first hsi hE.1)
    · exact xOp_mono (fun a w hI hK => wpAnyX_B hwt hs fuel t.tail _ _ a w hI (hcl.set hj') hB2 hK) hI (wpB_first htj hE.2)

def Region.forkB (md : Region.Mode) (ops : Array Oper) (kds : Nat → Kd) (b : BT) : Bool :=
  Region.noSelect ops && Region.chkB (Region.wtOf (Region.masks md ops.toList [])) md ops kds 8 b ops.size (Array.replicate ops.size false)

/-- A region that draws its order is walked in ours, on each way of our forks. -/
theorem wp_region_fork {id : Nat} {a : Act} {w : World} (I : World → Prop) (b : BT) (kds : Nat → Kd) (hm : P.follows .mixedOrders = true) (hB : Region.forkB .any ops kds b = true)
    (hI : I w.drew) (h : wpB P ops Q I kds b a w.drew) : (Code.region id ops true).wp P Q a w := by
  simp only [Region.forkB, Bool.and_eq_true] at hB
  obtain ⟨h1, h3⟩ := hB
  refine wp_region_noPanic (wp_region_any hm (wpAny_of_X (I := I) (kds := kds) _ _ _ _ hI ?_))
  have hwt : ∀ j i, Region.wtOf (Region.masks .any ops.toList []) j i = true → Region.Anc .any ops j i :=
    Region.masks_spec ops.toList 0 [] (fun j => by simp) rfl (fun j i h => by simp at h)
  exact wpAnyX_B (P := P) (Q := Q) (kds := kds) hwt h1 8 b _ _ a w.drew hI (Region.closed_none _ _ _) h3 h

/-- An operation that answers the same in any world. -/
theorem wpX_pv {i : Nat} {rest : List Nat} {a : Act} {w : World} {o : Oper} (v : Value) (hi : ops[i]? = some o) (hg : Region.wanted o (yielded ops a.tmps) = true) (hk : kds i = .p)
    (hv : ∀ w', (execOp a.eval o).run P w' = .ok (.value v) w') (h : wpX P ops Q I kds rest (a.put o.dst v) w) : wpX P ops Q I kds (i :: rest) a w := by
  refine wpX_step hi hg fun K hK => ?_
  rw [hk]
  refine ⟨v, fun w' => ?_, hK _ _ h⟩
  unfold Oper.val
  rw [hv w']
  exact ⟨rfl, rfl⟩
theorem wpB_lin {l : List Nat} {a : Act} {w : World} (h : wpX P ops Q I kds l a w) : wpB P ops Q I kds (.lin l) a w := h
theorem wpB_fork {l : List Nat} {s t : BT} {a : Act} {w : World} (h : wpX P ops (atEnd Q fun a w => wpB P ops Q I kds s a w ∧ wpB P ops Q I kds t a w) I kds l a w) : wpB P ops Q I kds (.fork l s t) a w := h
theorem wpX_fork {E F : Act → World → Prop} {a : Act} {w : World} (h1 : E a w) (h2 : F a w) : wpX P ops (atEnd Q fun a w => E a w ∧ F a w) I kds [] a w := wpX_nil.2 ⟨h1, h2⟩
end
end Go

/- law16: a call of a buffer, and of the document's: what its kinds share. (printed by mkdoes.py) -/
namespace Go.Proofs.Ytdnohhlgaaihmaa
open Go.RowKit

theorem five_cells {w : World} {g : Nat} {a b c d e : Value} {T : TypeId} (h : w.heap[g]? = some (.cells #[a, b, c, d, e] T (0, 0))) :
    w.cell? ⟨g, 0, none⟩ = some a ∧ w.cell? ⟨g, 1, none⟩ = some b ∧ w.cell? ⟨g, 2, none⟩ = some c ∧ w.cell? ⟨g, 3, none⟩ = some d ∧ w.cell? ⟨g, 4, none⟩ = some e ∧ g < w.heap.size := by
  refine ⟨?_, ?_, ?_, ?_, ?_, (Array.getElem?_eq_some_iff.1 h).1⟩ <;> simp [World.cell?, h]

/-- What a call leaves. -/
def DoesP (w w' : World) (p : Nat) (us : List Und) (g : Nat) (b : Nat) (R : Nat → List Value) (U : Nat → Prop) (lo : Nat) (e : Ending) : Prop :=
  e = .returned (.bool true) ∧ ∃ lv' uv' l' us' sv' L' V' R', Dz w' p lv' uv' l' us' g sv' L' b V' R' U lo ∧ Fr (DzS lo U) w w' ∧ us'.length ≤ us.length + 1 ∧ ∀ i, (R' i).length ≤ (R i).length + 6


theorem getD_of {r : Option SpV} {f t : List UInt8} {o : Bool} {y : SpV} (h : (r.map SpV.pr).getD ([], [], false) = (f, t, o)) (e : r = some y) : f = y.f ∧ t = y.t ∧ o = y.o := by
  subst e
  have h2 : (y.f, y.t, y.o) = (f, t, o) := h
  cases h2; exact ⟨rfl, rfl, rfl⟩

theorem chgE_form {w : World} {r : Option SpV} (h : ∀ y, r = some y → y.Good w) : ∃ (A B : Option Addr) (f t : List UInt8) (ac bc : Nat) (o is : Bool),
    chgE r = .tuple #[.agg #[.slice A f.length ac, .slice B t.length bc, .bool o], .bool is] ∧ (r.map SpV.pr).getD ([], [], false) = (f, t, o) ∧ is = r.isSome ∧ SpV.Good w ⟨.slice A f.length ac, .slice B t.length bc, f, t, o⟩ ∧ ∀ k, ((Value.slice A f.length ac).ownBlock = some k ∨ (Value.slice B t.length bc).ownBlock = some k) → ∃ y, r = some y ∧ (y.F.ownBlock = some k ∨ y.T.ownBlock = some k) := by
  rcases r with _ | y
  · exact ⟨none, none, [], [], 0, 0, false, false, rfl, rfl, rfl, ⟨⟨rfl, .inl ⟨none, rfl, rfl⟩⟩, ⟨rfl, .inl ⟨none, rfl, rfl⟩⟩, Nat.zero_le _, Nat.zero_le _⟩, fun k hk => by rcases hk with hk | hk <;> simp [Value.ownBlock] at hk⟩
  · have hg := h y rfl
    obtain ⟨A, ac, hF, _, _⟩ := hg.F.form
    obtain ⟨B, bc, hT, _, _⟩ := hg.T.form
    refine ⟨A, B, y.f, y.t, ac, bc, y.o, true, ?_, rfl, rfl, ⟨hF ▸ hg.F, hT ▸ hg.T, hg.lf, hg.lt⟩, fun k hk => ⟨y, rfl, ?_⟩⟩
    · show Value.tuple #[.agg #[y.F, y.T, .bool y.o], .bool true] = _
      rw [hF, hT]
    · rw [hF, hT]; exact hk

/-- Both say the same. -/
theorem asked_eq {r1 r2 : Option SpV} {f1 t1 f2 t2 : List UInt8} {o1 o2 i1 i2 : Bool} (h : r1.map SpV.pr = r2.map SpV.pr) (h1 : (r1.map SpV.pr).getD ([], [], false) = (f1, t1, o1)) (h2 : (r2.map SpV.pr).getD ([], [], false) = (f2, t2, o2)) (e1 : i1 = r1.isSome) (e2 : i2 = r2.isSome) :
    f2 = f1 ∧ t2 = t1 ∧ o2 = o1 ∧ i2 = i1 := by
  rw [h, h2] at h1
  have e3 : r1.isSome = r2.isSome := by have := congrArg Option.isSome h; simpa using this
  cases h1
  exact ⟨rfl, rfl, rfl, by rw [e1, e2, e3]⟩

/-- One change, in a row of one, that is its owner's. -/
theorem in_one {w : World} {vb : Nat} {A B : Option Addr} {f t : List UInt8} {o : Bool} (hv : Has w vb 36 [.slice A f.length f.length, .slice B t.length t.length, .bool o])
    (oA : Ow w 5 1 (.slice A f.length f.length) f.length (bvs f)) (oB : Ow w 5 1 (.slice B t.length t.length) t.length (bvs t))
    (nv : ∀ k, (Value.slice A f.length f.length).ownBlock = some k ∨ (Value.slice B t.length t.length).ownBlock = some k → k ≠ vb)
    (nd : ∀ k, (Value.slice A f.length f.length).ownBlock = some k → (Value.slice B t.length t.length).ownBlock ≠ some k) (lf : f.length ≤ 140737488351232) (lt : t.length ≤ 140737488351232) :
    InChanges w (.slice (some ⟨vb, 0, none⟩) 1 1) [⟨.slice A f.length f.length, .slice B t.length t.length, f, t, o⟩] := by
  refine ⟨⟨rfl, .inr ⟨vb, 1, _, rfl, hv, Nat.le_refl _, by decide, Nat.le_refl _, rfl⟩⟩, fun x hx => ?_, fun x hx => ?_, fun x hx => ?_, fun x hx k hk e => ?_, fun x hx => ?_, by simp⟩
  · cases List.mem_singleton.1 hx; exact ⟨oA, oB⟩
  · cases List.mem_singleton.1 hx; exact ⟨⟨_, _, rfl⟩, _, _, rfl⟩
  · cases List.mem_singleton.1 hx; exact ⟨lf, lt⟩
  · cases List.mem_singleton.1 hx
    have e2 : vb = k := by simpa [Value.ownBlock] using e
    exact nv k hk e2.symm
  · cases List.mem_singleton.1 hx; exact nd

theorem len_pr {us : List Und} {l L : List SpV} (h : Sync us l L) : l.length = (chgL L).length := by
  have := congrArg List.length h.now; simpa using this
/-- A change of the document's that is shown. -/
theorem chg_good {w : World} {g : Nat} {sv : Value} {L : List SpV} (h : Rf w g sv L) : ∀ y ∈ chgL L, y.Good w := fun y hy => h.good y (mem_chg L y hy)
end Go.Proofs.Ytdnohhlgaaihmaa
