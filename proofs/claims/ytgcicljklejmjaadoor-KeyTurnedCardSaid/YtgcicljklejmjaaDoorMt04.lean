import Derived.Test.YtgcicljklejmjaaDoorMt03
import Derived.Test.YtgcicljklejmjaaDoorMt02
import Derived.WalkSpells

/- A range over a function whose iterator hands out so many things of which something is known (Wh): each round is told which place it is at, and that of what it is handed. Conditions: the iterator's contract (IterR); each round leaves the loop's record and the block of its deferred calls alone. -/
namespace Go.Proofs.YtgcicljklejmjaaDoor
open Go.RowKit Go.Shelf

/-- Blocks from m on that were there lie as they lay. -/
def Above (m : Nat) (A B : World) : Prop := ∀ k, m ≤ k → k < A.heap.size → B.heap[k]? = A.heap[k]?
theorem Above.trans {m : Nat} {A B C : World} (h : Above m A B) (f : Above m B C) (hs : A.heap.size ≤ B.heap.size) : Above m A C := fun k h1 h2 => (f k h1 (Nat.lt_of_lt_of_le h2 hs)).trans (h k h1 h2)
theorem Above.of {m : Nat} {S : Nat → Prop} {A B : World} (f : Fr S A B) (h : ∀ k, m ≤ k → k < A.heap.size → ¬ S k) : Above m A B := fun k h1 h2 => f.block k h2 (h k h1 h2)

/-- What a round's body leaves; where it leaves the loop, the blocks made since lie as they lay. -/
def roundR (w W : World) (Kp : World → World → Prop) (I : World → Prop) (Ix : Code → World → Prop) : Exit → Act → World → Prop
  | .normal, _, W' => (∀ k, twoB w k → W'.heap[k]? = W.heap[k]?) ∧ Kp W W' ∧ I W'
  | .ret, _, W' => (∀ k, twoB w k → W'.heap[k]? = W.heap[k]?) ∧ Ix .ret W' ∧ Above (w.heap.size + 2) W W'
  | .exit id, _, W' => (∀ k, twoB w k → W'.heap[k]? = W.heap[k]?) ∧ Ix (.exit id) W' ∧ Above (w.heap.size + 2) W W'
  | _, _, _ => False

/-- An iterator hands out len things; of the i-th is known Wh i. -/
def IterR (n : Nat) (P : Program) (g : Nat) (lb : Array Value) (len : Nat) (Wh : Nat → Array Value → World → Prop) (Kp : World → World → Prop) (w : World) : Prop :=
  ∀ (l : Nat) (J : Nat → World → Prop) (Jx : World → Prop) (W : World), Fr no w W → w.heap.size + 2 ≤ W.heap.size → (∀ i A B, J i A → Fr (fun k => w.heap.size + 2 ≤ k) A B → J i B) → (∀ A B, Jx A → Fr (fun k => w.heap.size + 2 ≤ k) A B → Jx B) →
    (∀ i xs W1, i < len → Wh i xs W1 → J i W1 → YieldAt Fence.wide (n - 1) P l xs W1 fun e W' => (e = .returned (.bool true) ∧ J (i + 1) W' ∧ Kp W1 W') ∨ (e = .returned (.bool false) ∧ Jx W' ∧ Above (w.heap.size + 2) W1 W')) →
    J 0 W →
    CallsIn Fence.wide n P g (#[.func (.yield l) #[] #[]] ++ lb) W fun e W' => (∃ v, e = .returned v) ∧ (J len W' ∨ Jx W')

variable {P : Program} {n : Nat}
/-- The law; the assignment to the loop's variables may lay blocks. -/
theorem wpIn_range_b {g : Operand} {ps : Array Tmp} {assign body : Code} {Q : Exit → Act → World → Prop} {a : Act} {w : World} (h1 : 1 ≤ n) {gf : Nat} {lb : Array Value} (hg : a.eval g = .func (.func gf) #[] lb)
    (eg : ∀ args w, (callFunc gf args).run P w = .ok (.enter gf args) w) {len : Nat} {Wh : Nat → Array Value → World → Prop} {Kp : World → World → Prop} (hseq : IterR (n - 1) P gf lb len Wh Kp w) (hps : ∀ i xs W, Wh i xs W → xs.size = ps.size)
    (hKt : ∀ {A B C : World}, Kp A B → Kp B C → Kp A C) (hKb : ∀ (W : World) (o' : Obj), Kp W (W.putObj (w.heap.size + 1) o'))
    (I : Nat → World → Prop) (Ix : Code → World → Prop) (hI : ∀ i A B, I i A → Fr (fun k => w.heap.size ≤ k) A B → I i B) (hIx : ∀ c A B, Ix c A → Fr (fun k => w.heap.size ≤ k) A B → Ix c B) (h0 : I 0 w) 
    (hround : ∀ (l i : Nat) (xs : Array Value) (W : World), i < len → Wh i xs W → I i W → w.heap.size + 1 < W.heap.size →
      assign.wpIn (Fence.wide.inRound l) (n - 1 - 1) P (Exit.then (fun a1 W1 => Fr no W W1 ∧ Kp W W1 ∧ ∀ W2, Fr (twoB w) W1 W2 → body.wpIn (Fence.wide.inRound l) (n - 1 - 1) P (roundR w W2 Kp (I (i + 1)) Ix) a1 W2) (fun _ _ _ => False))
        { tmps := (ps.zip xs).foldl (fun t (p, v) => t.setIfInBounds p v) a.tmps, defers := [] } W)
    (hdone : ∀ W : World, I len W → w.heap.size + 1 < W.heap.size → W.heap[w.heap.size]? = some (.deferred (some [])) → Q .normal { a with defers := { target := .collected w.heap.size, args := #[] } :: a.defers } W)
    (hstop : ∀ (c : Code) (W : World), Ix c W → w.heap.size + 1 < W.heap.size → W.heap[w.heap.size]? = some (.deferred (some [])) → c.wpIn Fence.wide n P Q { a with defers := { target := .collected w.heap.size, args := #[] } :: a.defers } W) :
    (Code.rangeFunc g ps assign body).wpIn Fence.wide n P Q a w := by
  have tb : ∀ {A B : World}, Fr (twoB w) A B → Fr (fun k => w.heap.size ≤ k) A B := fun f => f.mono (fun k _ h => by
    show w.heap.size ≤ k
    rcases h with h | h <;> omega)
  refine wpIn_rangeFunc fun fn hfn => ?_
  obtain ⟨rec, hrec⟩ : ∃ rec : LoopState → Option Code → Loop, rec = fun st pe => { state := st, pending := pe, fn, tmps := a.tmps, params := ps, assign, body, defers := w.heap.size } := ⟨_, rfl⟩
  obtain ⟨W1, hW1⟩ : ∃ W1, (w.alloc (.deferred (some []))).alloc (.loop (rec .ready none)) = W1 := ⟨_, rfl⟩
  have fW1 : Fr no w W1 := by rw [← hW1]; exact ((Fr.refl no w).alloc _).alloc _
  have sW1 : W1.heap.size = w.heap.size + 2 := by rw [← hW1, World.size_alloc, World.size_alloc]
  have hL1 : W1.heap[w.heap.size + 1]? = some (.loop (rec .ready none)) := by
    rw [← hW1]; have := World.alloc_heap_new (w.alloc (.deferred (some []))) (.loop (rec .ready none)); rwa [World.size_alloc] at this
  have hK1 : W1.heap[w.heap.size]? = some (.deferred (some [])) := by
    rw [← hW1]
    exact ((Fr.refl no (w.alloc (.deferred (some [])))).alloc _).heap (World.alloc_heap_new w _) (fun h => h)
  refine ⟨w.heap.size + 1, [{ target := .collected w.heap.size, args := #[] }], W1, { target := .fn (.func gf) lb, args := #[.func (.yield (w.heap.size + 1)) #[] #[]] }, W1, gf, #[.func (.yield (w.heap.size + 1)) #[] #[]] ++ lb, W1, ?_, ?_, fun _ _ => trivial, ?_, fun _ => h1, ?_⟩
  · rw [← hW1, hrec]; exact run_enterLoop_outer _ _ _ _ _
  · simp only [resolve, hg]
    simp [go_sem]
  · simp [invoke, go_sem, eg]
  · refine (hseq (w.heap.size + 1)
      (fun i W => I i W ∧ W.heap[w.heap.size + 1]? = some (.loop (rec .ready none)) ∧ W.heap[w.heap.size]? = some (.deferred (some [])))
      (fun W => ∃ c, Ix c W ∧ W.heap[w.heap.size + 1]? = some (.loop (rec .done (some c))) ∧ W.heap[w.heap.size]? = some (.deferred (some [])))
      W1 fW1 (Nat.le_of_eq sW1.symm) ?_ ?_ ?_ ⟨hI 0 w W1 h0 (fW1.mono (fun _ _ h => h.elim)), hL1, hK1⟩).mono ?_
    · rintro i A B ⟨i1, i2, i3⟩ f
      exact ⟨hI i A B i1 (f.mono (fun k _ h => Nat.le_trans (Nat.le_add_right _ 2) h)), f.heap i2 (fun h => absurd (show w.heap.size + 2 ≤ w.heap.size + 1 from h) (by omega)), f.heap i3 (fun h => absurd (show w.heap.size + 2 ≤ w.heap.size from h) (by omega))⟩
    · rintro A B ⟨c, i1, i2, i3⟩ f
      exact ⟨c, hIx c A B i1 (f.mono (fun k _ h => Nat.le_trans (Nat.le_add_right _ 2) h)), f.heap i2 (fun h => absurd (show w.heap.size + 2 ≤ w.heap.size + 1 from h) (by omega)), f.heap i3 (fun h => absurd (show w.heap.size + 2 ≤ w.heap.size from h) (by omega))⟩
    · rintro i xs W hi hwh ⟨hii, hl, hk⟩
      have hlt : w.heap.size + 1 < W.heap.size := (Array.getElem?_eq_some_iff.1 hl).1
      have hy := run_yield (P := P) (args := xs) hl (by rw [hrec]; exact hps _ _ _ hwh)
      rw [hrec] at hy
      refine ⟨fn, _, assign, body, hy, roundIn_of_wpIn trivial (wpIn_mono (hround _ i xs W hi hwh hii hlt) ?_)⟩
      rintro e0 a1 W0 hp0
      cases e0 with
      | ret => exact hp0.elim
      | exit id => exact hp0.elim
      | goto t => exact hp0.elim
      | panic ch => exact hp0.elim
      | outgrown => exact hp0.elim
      | normal =>
      obtain ⟨fa, ka, hbd⟩ := hp0
      have hl := fa.heap hl (fun h => h)
      have hk := fa.heap hk (fun h => h)
      have hlt : w.heap.size + 1 < W0.heap.size := Nat.lt_of_lt_of_le hlt fa.size
      refine ⟨_, run_beginRound hl (by rw [hrec]), ?_⟩
      obtain ⟨W2, hW2⟩ : ∃ W2, W0.putObj (w.heap.size + 1) (.loop { rec .ready none with state := .busy }) = W2 := ⟨_, rfl⟩
      have f2 : Fr (twoB w) W0 W2 := by rw [← hW2]; exact (fr_putObj W0 _ _).mono (fun k _ h => .inr h)
      have hl2 : W2.heap[w.heap.size + 1]? = some (.loop { rec .ready none with state := .busy }) := by rw [← hW2]; exact World.putObj_heap_same hlt
      have hk2 : W2.heap[w.heap.size]? = some (.deferred (some [])) := by rw [← hW2]; exact (World.putObj_heap_other (by omega)).trans hk
      have hw2 : Kp W W2 := hKt ka (by rw [← hW2]; exact hKb _ _)
      rw [hW2]
      refine wpIn_mono (hbd W2 f2) ?_
      have fin : ∀ (jump : Option Code) (W3 : World), (∀ k, twoB w k → W3.heap[k]? = W2.heap[k]?) →
          (Instr.endRound (w.heap.size + 1) jump).run P W3 = .ok (.bool jump.isNone) (W3.putObj (w.heap.size + 1) (.loop (rec (if jump.isNone then .ready else .done) jump))) ∧
          (W3.putObj (w.heap.size + 1) (.loop (rec (if jump.isNone then .ready else .done) jump))).heap[w.heap.size + 1]? = some (.loop (rec (if jump.isNone then .ready else .done) jump)) ∧
          (W3.putObj (w.heap.size + 1) (.loop (rec (if jump.isNone then .ready else .done) jump))).heap[w.heap.size]? = some (.deferred (some [])) ∧
          Fr (twoB w) W3 (W3.putObj (w.heap.size + 1) (.loop (rec (if jump.isNone then .ready else .done) jump))) := fun jump W3 hk3 => by
        have hl3 := (hk3 _ (.inr rfl)).trans hl2
        have hk3' := (hk3 _ (.inl rfl)).trans hk2
        have := run_endRound (P := P) jump hl3
        rw [hrec] at this ⊢
        exact ⟨this, World.putObj_heap_same (Array.getElem?_eq_some_iff.1 hl3).1, (World.putObj_heap_other (by omega)).trans hk3', (fr_putObj W3 _ _).mono (fun k _ h => .inr h)⟩
      have n2 : ∀ k, w.heap.size + 2 ≤ k → ¬ twoB w k := fun k hk h => by rcases h with h | h <;> omega
      have ab : ∀ W3 W4 : World, Above (w.heap.size + 2) W2 W3 → Fr (twoB w) W3 W4 → Above (w.heap.size + 2) W W4 := fun W3 W4 h3 h4 k hk hlt => by
        have s1 := fa.size; have s2 := f2.size
        have e1 := fa.block k hlt (fun h => h)
        have e2 := f2.block k (by omega) (n2 k hk)
        have e3 := h3 k hk (by omega)
        have h9 : k < W3.heap.size := by
          rcases Nat.lt_or_ge k W3.heap.size with h | h
          · exact h
          · rw [Array.getElem?_eq_none h] at e3
            have := (Array.getElem?_eq_some_iff.1 (Array.getElem?_eq_getElem (show k < W2.heap.size by omega))).1
            rw [Array.getElem?_eq_getElem (show k < W2.heap.size by omega)] at e3
            cases e3
        rw [h4.block k h9 (n2 k hk), e3, e2, e1]
      rintro e a3 W3 hp
      cases e with
      | normal =>
        obtain ⟨hk3, hkp3, hi3⟩ := hp
        obtain ⟨hr, hl4, hk4, f4⟩ := fin none W3 hk3
        exact ⟨_, _, hr, .inl ⟨rfl, ⟨hI _ _ _ hi3 (tb f4), hl4, hk4⟩, hKt (hKt hw2 hkp3) (hKb _ _)⟩⟩
      | ret =>
        obtain ⟨hk3, hi3, ha3⟩ := hp
        obtain ⟨hr, hl4, hk4, f4⟩ := fin (some .ret) W3 hk3
        exact ⟨_, _, hr, .inr ⟨rfl, ⟨.ret, hIx _ _ _ hi3 (tb f4), hl4, hk4⟩, ab _ _ ha3 f4⟩⟩
      | exit id =>
        obtain ⟨hk3, hi3, ha3⟩ := hp
        obtain ⟨hr, hl4, hk4, f4⟩ := fin (some (.exit id)) W3 hk3
        exact ⟨_, _, hr, .inr ⟨rfl, ⟨.exit id, hIx _ _ _ hi3 (tb f4), hl4, hk4⟩, ab _ _ ha3 f4⟩⟩
      | goto t => exact hp.elim
      | panic ch => exact hp.elim
      | outgrown => exact hp.elim
    · rintro e W2 ⟨⟨v, rfl⟩, (⟨hi, hl, hk⟩ | ⟨c, hi, hl, hk⟩)⟩
      · have hlt : w.heap.size + 1 < W2.heap.size := (Array.getElem?_eq_some_iff.1 hl).1
        refine ⟨none, _, by have := run_endLoop (P := P) hl (by rw [hrec]; simp); rw [hrec] at this; exact this, hdone _ (hI _ _ _ hi (tb ((fr_putObj W2 _ _).mono (fun k _ h => .inr h)))) ?_ ((World.putObj_heap_other (by omega)).trans hk)⟩
        rw [(fr_putObj_size W2 _ _)]; exact hlt
      · have hlt : w.heap.size + 1 < W2.heap.size := (Array.getElem?_eq_some_iff.1 hl).1
        refine ⟨some c, _, by have := run_endLoop (P := P) hl (by rw [hrec]; simp); rw [hrec] at this; exact this, hstop c _ (hIx _ _ _ hi (tb ((fr_putObj W2 _ _).mono (fun k _ h => .inr h)))) ?_ ((World.putObj_heap_other (by omega)).trans hk)⟩
        rw [(fr_putObj_size W2 _ _)]; exact hlt
end Go.Proofs.YtgcicljklejmjaaDoor

/- value.walk and value.each: a value and all below it, handed out one by one. -/
namespace Go.Proofs.YtgcicljklejmjaaDoor
open Go.RowKit Go.Shelf
open Tr
attribute [local go_sem] Oper.semAt_some

/-- What is handed out: a depth and a value. -/
def encDV (p : Nat × Tr Mm) : Array Value := #[.int .i64 p.1, p.2.agg]

theorem yield_depth {P : Program} {n m l : Nat} {args : Array Value} {W : World} {R : Ending → World → Prop} (h : YieldAt Fence.wide n P l args W R) : YieldAt Fence.wide m P l args W R := by
  obtain ⟨fn, tmps, assign, body, h1, h2⟩ := h
  exact ⟨fn, tmps, assign, body, h1, h2.1, fun c cs _ => h2.2 c cs (room_wide _)⟩

theorem flat_at {α β : Type} (g : α → List β) (ys : List α) (j : Nat) (h : j < ys.length) (k : Nat) (hk : k < (g ys[j]).length) : (ys.flatMap g)[((ys.take j).flatMap g).length + k]? = (g ys[j])[k]? := by
  have e : ys = ys.take j ++ ys[j] :: ys.drop (j + 1) := by rw [← List.drop_eq_getElem_cons h, List.take_append_drop]
  conv => lhs; rw [e]
  rw [List.flatMap_append, List.getElem?_append_right (by simp only [List.take_append_of_le_length (show j ≤ (ys.take j).length by simp; omega), List.take_take, Nat.min_self]; omega), List.flatMap_cons]
  have e2 : (List.take j (List.take j ys ++ ys[j] :: List.drop (j + 1) ys)) = List.take j ys := by
    rw [← e]
  rw [e2, Nat.add_sub_cancel_left, List.getElem?_append_left hk]
theorem flat_step {α β : Type} (g : α → List β) (ys : List α) (j : Nat) (h : j < ys.length) : ((ys.take (j + 1)).flatMap g).length = ((ys.take j).flatMap g).length + (g ys[j]).length := by
  rw [List.take_succ_eq_append_getElem h, List.flatMap_append, List.length_append, List.flatMap_singleton]

/-- Who hands out: what is kept between two; S: what a round may write, all of it below nS. -/
structure Walker (l : Nat) (J : Nat → World → Prop) (Jx : World → Prop) (S : Nat → Prop) (nS : Nat) (w0 : World) (xs : List (Nat × Tr Mm)) : Prop where
  hJ : ∀ i A B, J i A → Fr no A B → J i B
  hY : ∀ i (h : i < xs.length) W1, J i W1 → YieldAt Fence.wide 0 Tryd.prog l (encDV xs[i]) W1 fun e W' => (e = .returned (.bool true) ∧ J (i + 1) W' ∧ Fr S W1 W') ∨ (e = .returned (.bool false) ∧ Jx W')
  hS : ∀ k, S k → k < nS
  deep : ∀ p ∈ xs, p.1 ≤ 1000000
  good : ∀ W, Fr S w0 W → ∀ p ∈ xs, Tr.Good W p.2

theorem _root_.Go.Fr.keep {S : Nat → Prop} {A B C : World} (h : Fr S A B) (f : Fr no B C) : Fr S A C := Fr.trans h (f.mono (fun _ _ h => h.elim)) (fun _ _ h => h)

/-- How many values lie in the first j right below. -/
def upK (d : Nat) (x : Tr Mm) (j : Nat) : Nat := ((x.kids.take j).flatMap (pre (d + 1))).length
theorem upK_zero (d : Nat) (x : Tr Mm) : upK d x 0 = 0 := rfl
theorem upK_succ (d : Nat) (x : Tr Mm) (j : Nat) (h : j < x.kids.length) : upK d x (j + 1) = upK d x j + (pre (d + 1) x.kids[j]).length := flat_step _ _ j h
theorem upK_all (d : Nat) (x : Tr Mm) : (pre d x).length = 1 + upK d x x.kids.length := by
  unfold upK
  rw [pre_eq, List.length_cons, List.take_length, Nat.add_comm]
theorem kid_sub {d i : Nat} {x : Tr Mm} {xs : List (Nat × Tr Mm)} (hsub : ∀ k, k < (pre d x).length → xs[i + k]? = (pre d x)[k]?) (j : Nat) (hj : j < x.kids.length) :
    ∀ k, k < (pre (d + 1) x.kids[j]).length → xs[i + 1 + upK d x j + k]? = (pre (d + 1) x.kids[j])[k]? := by
  intro k hk
  have h := flat_at (pre (d + 1)) x.kids j hj k hk
  have h2 : (pre d x)[1 + upK d x j + k]? = (pre (d + 1) x.kids[j])[k]? := by
    rw [pre_eq, Nat.add_assoc, Nat.add_comm 1, List.getElem?_cons_succ]; exact h
  have h3 : 1 + upK d x j + k < (pre d x).length := by
    rw [List.getElem?_eq_getElem hk] at h2
    exact (List.getElem?_eq_some_iff.1 h2).1
  have h4 := hsub _ h3
  rw [show i + (1 + upK d x j + k) = i + 1 + upK d x j + k by omega, h2] at h4
  exact h4
theorem kids_len (x : Tr Mm) : x.kids.length = x.l.length + x.f.length := by unfold kids; simp
theorem kids_l (x : Tr Mm) (j : Nat) (h : j < x.l.length) : ∃ h2 : j < x.kids.length, x.kids[j] = x.l[j] := by
  refine ⟨by rw [kids_len]; omega, ?_⟩
  unfold kids
  rw [List.getElem_append_left h]
theorem kids_f (x : Tr Mm) (j : Nat) (h : j < x.f.length) : ∃ h2 : x.l.length + j < x.kids.length, x.kids[x.l.length + j] = x.f[j].2 := by
  refine ⟨by rw [kids_len]; omega, ?_⟩
  unfold kids
  rw [List.getElem_append_right (by omega)]
  simp

set_option maxRecDepth 100000 in
set_option maxHeartbeats 4000000 in
theorem walk_in (l : Nat) (J : Nat → World → Prop) (Jx : World → Prop) (S : Nat → Prop) (nS : Nat) (w0 : World) (xs : List (Nat × Tr Mm)) (hw : Walker l J Jx S nS w0 xs) (x : Tr Mm) :
    ∀ (d i : Nat) (W : World) (_ : ∀ k, k < (pre d x).length → xs[i + k]? = (pre d x)[k]?) (_ : nS ≤ W.heap.size) (_ : J i W) (_ : Fr S w0 W),
    CallsIn Fence.wide 0 Tryd.prog 99 #[x.agg, .int .i64 d, .func (.yield l) #[] #[]] W fun e W' => (e = .returned (.bool true) ∧ J (i + (pre d x).length) W' ∧ Fr S W W') ∨ (e = .returned (.bool false) ∧ Jx W') := by
  induction x using Tr.ind with
  | h x ih =>
    intro d i W hsub hn hj hk
    have h0 := hsub 0 (pre_pos d x)
    rw [pre_eq, List.getElem?_cons_zero, Nat.add_zero] at h0
    obtain ⟨hi, hxi⟩ := List.getElem?_eq_some_iff.1 h0
    have hxm : (d, x) ∈ xs := hxi ▸ List.getElem_mem hi
    have hx : Tr.Good W x := hw.good W hk _ hxm
    obtain ⟨BA, bc, LA, lc, FA, fc, hf⟩ := hx.node.forms
    have hdd : d ≤ 1000000 := hw.deep _ hxm
    have hnl : x.l.length ≤ 140737488351232 := hx.node.l
    have hnf : x.f.length ≤ 140737488351232 := hx.node.f
    obtain ⟨W1, hW1⟩ : ∃ W1, W.alloc (.cells #[.int .u8 x.k.toNat, .bool x.b, .int .i64 x.i, .string ⟨x.t.toArray⟩, .slice BA x.bs.length bc, .slice LA x.l.length lc, .slice FA x.f.length fc] 33) = W1 := ⟨_, rfl⟩
    have fW1 : Fr no W W1 := by rw [← hW1]; exact (Fr.refl no W).alloc _
    have hy := hw.hY i hi W1 (hw.hJ _ _ _ hj fW1)
    rw [hxi] at hy
    obtain ⟨fn, tmps, assign, body, hyy, hR⟩ := hy
    have hyy : (Instr.yield l #[.int .i64 (d : Int), x.agg]).run Tryd.prog W1 = .ok (.round l fn tmps assign body) W1 := hyy
    rw [hf.agg] at hyy ⊢
    have hbox : W1.heap[W.heap.size]? = some (.cells #[.int .u8 x.k.toNat, .bool x.b, .int .i64 x.i, .string ⟨x.t.toArray⟩, .slice BA x.bs.length bc, .slice LA x.l.length lc, .slice FA x.f.length fc] 33 (0, 0)) := by rw [← hW1]; exact heap_alloc_new W _
    have hnb : ¬ S W.heap.size := fun h => by have := hw.hS _ h; omega
    have HW := Lib.hid hw; have HSUB := Lib.hid hsub; have HR := Lib.hid hR; have HFO := Lib.hid hf; have IH := Lib.hid ih; have HXM := Lib.hid hxm; have HN := Lib.hid hn
    have HF1 := Lib.hid fW1; have HK := Lib.hid hk; have HBOX := Lib.hid hbox; have HNB := Lib.hid hnb
    clear hw hsub hR ih hf hxi h0 hi hj hk hx fW1 hbox hnb hxm hn
    refine callsIn_of_wp Tryd.func99 rfl trivial ?_ rfl
    simp only [Tryd.ntmps99, List.size_toArray, List.length_cons, List.length_nil, Nat.reduceAdd, Nat.reduceSub, Array.replicate_succ, Array.replicate_zero, List.push_toArray, List.append_toArray, List.nil_append, List.cons_append]
    subst hW1
    gi_wp2_with (fail)
    refine ⟨rfl, HR.out.mono ?_⟩
    rintro e W2 (⟨rfl, hj2, hk2⟩ | ⟨rfl, hjx⟩)
    · have hb2 := hk2.heap HBOX.out HNB.out
      have F2 := Lib.hid (Fr.trans (HF1.out.mono (S' := S) (fun _ _ h => h.elim)) hk2 (fun _ _ h => h))
      have HJ2 := Lib.hid hj2; have HB2 := Lib.hid hb2
      have hbl := (Array.getElem?_eq_some_iff.1 hb2).1
      have hc5 := cell_of_row W2 W.heap.size 5 _ _ (0, 0) hb2
      simp only [List.getElem?_toArray, List.getElem?_cons_succ, List.getElem?_cons_zero] at hc5
      clear hyy hk2 hj2 hb2
      gi_wp2
      gi_loopw [19] (fun iv wr => ∃ j : Nat, j ≤ x.l.length ∧ iv = .int .i64 j ∧ J (i + 1 + upK d x j) wr ∧ Fr S W wr ∧ wr.heap[W.heap.size]? = W2.heap[W.heap.size]?) (fun iv _ => x.l.length - (intOf iv).toNat)
      case atStart => exact ⟨0, Nat.zero_le _, rfl, HJ2.out, F2.out, rfl⟩
      case round =>
        obtain ⟨j, hj, rfl, hjj, hfr, hbx⟩ := hrel
        by_cases hlt : j < x.l.length
        · obtain ⟨hkl, hke⟩ := kids_l x j hlt
          have hgx := HW.out.good wr (HK.out.trans hfr (fun _ _ h => h)) _ HXM.out
          have hin := hgx.inL; rw [HFO.out.L] at hin
          obtain ⟨b, o, KB, kb, KL, kl, KF, kf, rfl, hf, q0, q1, q2, q3, q4, q5, q6, hbl⟩ := hin.get j hlt
          have hcall := fun W' (f : Fr no wr W') => IH.out x.l[j] (List.mem_append_left _ (List.getElem_mem _)) (d + 1) (i + 1 + upK d x j) W' (by rw [← hke]; exact kid_sub HSUB.out j hkl) (Nat.le_trans HN.out (Nat.le_trans hfr.size f.size)) (HW.out.hJ _ _ _ hjj f) ((HK.out.trans hfr (fun _ _ h => h)).keep f)
          rw [hf.agg, show ((d + 1 : Nat) : Int) = (d : Int) + 1 from by omega] at hcall
          have HC := Lib.hid hcall; have HFR := Lib.hid hfr; have HBX := Lib.hid hbx; have HKE := Lib.hid hke; have HKL := Lib.hid hkl
          clear hcall hfr hbx hgx hin hf hke
          gi_wp2_with (fail)
          refine ⟨trivial, rfl, (HC.out _ (by (repeat first | exact Fr.refl _ _ | exact Fr.drewN _ _ _ | apply Fr.drew | apply Fr.alloc | apply Fr.setAt | apply Fr.moreN))).mono ?_⟩
          rintro e W3 (⟨rfl, hj3, hf3⟩ | ⟨rfl, hjx⟩)
          · have hnb := HNB.out
            have hb3 := hf3.block W.heap.size (by have h2 := (Array.getElem?_eq_some_iff.1 (HBX.out.trans HB2.out)).1; simp only [World.size_alloc]; omega) hnb
            have hf4 := Fr.trans (HFR.out.keep (by (repeat first | exact Fr.refl _ _ | exact Fr.drewN _ _ _ | apply Fr.drew | apply Fr.alloc | apply Fr.setAt | apply Fr.moreN))) hf3 (fun _ _ h => h)
            have hlw : W.heap.size < wr.heap.size := by have h1 := HFR.out.size; have h2 := (Array.getElem?_eq_some_iff.1 (HBX.out.trans HB2.out)).1; exact h2
            have HJ3 := Lib.hid hj3; have HF4 := Lib.hid hf4; have HB3 := Lib.hid hb3; have HLT := Lib.hid hlw
            clear hj3 hf3 hf4 hb3 q0 q1 q2 q3 q4 q5 q6 hnb
            gi_wp2
            go_roundw
            case rel => exact ⟨j + 1, by omega, by first | rfl | go_num, by rw [upK_succ d x j HKL.out, ← Nat.add_assoc, HKE.out]; exact HJ3.out, HF4.out, HB3.out.trans (by rw [Below.heap_alloc _ _ _ HLT.out]; exact HBX.out)⟩
            case measure => simp [intOf]; omega
          · have HJX := Lib.hid hjx; clear hjx q0 q1 q2 q3 q4 q5 q6
            gi_wp2
            refine bodyPost_ret (results_tmp rfl _ _ _) rfl ?_
            exact .inr ⟨rfl, HJX.out⟩
        · obtain rfl : j = x.l.length := by omega
          have hb3 := hbx.trans HB2.out
          have hbl3 := (Array.getElem?_eq_some_iff.1 hb3).1
          have hc6 := cell_of_row wr W.heap.size 6 _ _ (0, 0) hb3
          simp only [List.getElem?_toArray, List.getElem?_cons_succ, List.getElem?_cons_zero] at hc6
          have HFR := Lib.hid hfr; have HJJ := Lib.hid hjj; have HB3 := Lib.hid hb3; clear hfr hjj hbx hb3
          gi_wp2
          gi_loopw [33] (fun iv w5 => ∃ j : Nat, j ≤ x.f.length ∧ iv = .int .i64 j ∧ J (i + 1 + upK d x (x.l.length + j)) w5 ∧ Fr S W w5) (fun iv _ => x.f.length - (intOf iv).toNat)
          case atStart => exact ⟨0, Nat.zero_le _, rfl, HJJ.out, HFR.out⟩
          case round =>
            obtain ⟨j, hj, rfl, hjj, hfr⟩ := hrel
            by_cases hlt : j < x.f.length
            · obtain ⟨hkl, hke⟩ := kids_f x j hlt
              have hgx := HW.out.good wr (HK.out.trans hfr (fun _ _ h => h)) _ HXM.out
              have hin := hgx.inF; rw [HFO.out.F] at hin
              obtain ⟨b, o, KB, kb, KL, kl, KF, kf, rfl, hf, q0, q1, q2, q3, q4, q5, q6, q7, hbl⟩ := hin.get j hlt
              have hcall := fun W' (f : Fr no wr W') => IH.out x.f[j].2 (List.mem_append_right _ (List.mem_map_of_mem (List.getElem_mem _))) (d + 1) (i + 1 + upK d x (x.l.length + j)) W' (by rw [← hke]; exact kid_sub HSUB.out _ hkl) (Nat.le_trans HN.out (Nat.le_trans hfr.size f.size)) (HW.out.hJ _ _ _ hjj f) ((HK.out.trans hfr (fun _ _ h => h)).keep f)
              rw [hf.agg, show ((d + 1 : Nat) : Int) = (d : Int) + 1 from by omega] at hcall
              have HC := Lib.hid hcall; have HFR := Lib.hid hfr; have HKE := Lib.hid hke; have HKL := Lib.hid hkl
              clear hcall hfr hgx hin hf hke
              gi_wp2_with (fail)
              refine ⟨trivial, rfl, (HC.out _ (by (repeat first | exact Fr.refl _ _ | exact Fr.drewN _ _ _ | apply Fr.drew | apply Fr.alloc | apply Fr.setAt | apply Fr.moreN))).mono ?_⟩
              rintro e W3 (⟨rfl, hj3, hf3⟩ | ⟨rfl, hjx⟩)
              · have hf4 := Fr.trans (HFR.out.keep (by (repeat first | exact Fr.refl _ _ | exact Fr.drewN _ _ _ | apply Fr.drew | apply Fr.alloc | apply Fr.setAt | apply Fr.moreN))) hf3 (fun _ _ h => h)
                have HJ3 := Lib.hid hj3; have HF4 := Lib.hid hf4
                clear hj3 hf3 hf4 q0 q1 q2 q3 q4 q5 q6 q7
                gi_wp2
                go_roundw
                case rel => exact ⟨j + 1, by omega, by first | rfl | go_num, by rw [← Nat.add_assoc, upK_succ d x (x.l.length + j) HKL.out, ← Nat.add_assoc, HKE.out]; exact HJ3.out, HF4.out⟩
                case measure => simp [intOf]; omega
              · have HJX := Lib.hid hjx; clear hjx q0 q1 q2 q3 q4 q5 q6 q7
                gi_wp2
                refine bodyPost_ret (results_tmp rfl _ _ _) rfl ?_
                exact .inr ⟨rfl, HJX.out⟩
            · obtain rfl : j = x.f.length := by omega
              have HFR := Lib.hid hfr; have HJJ := Lib.hid hjj; clear hfr hjj
              gi_wp2
              refine bodyPost_ret (results_tmp rfl _ _ _) rfl ?_
              exact .inl ⟨rfl, by rw [upK_all, kids_len, ← Nat.add_assoc]; exact HJJ.out, HFR.out⟩
    · have HJX := Lib.hid hjx; clear hjx hyy
      gi_wp2
      refine bodyPost_ret (results_tmp rfl _ _ _) rfl ?_
      exact .inr ⟨rfl, HJX.out⟩
end Go.Proofs.YtgcicljklejmjaaDoor

/- value.each: what it hands out. -/
namespace Go.Proofs.YtgcicljklejmjaaDoor
open Go.RowKit Go.Shelf
open Tr
attribute [local go_sem] Oper.semAt_some

/-- What of the i-th is known: it is just this. -/
def isDV (x : Tr Mm) (i : Nat) (vs : Array Value) (_ : World) : Prop := ∃ h : i < (pre 1 x).length, vs = encDV (pre 1 x)[i]

theorem yield_mono {F : Fence} {P : Program} {n l : Nat} {args : Array Value} {W : World} {R R' : Ending → World → Prop} (h : YieldAt F n P l args W R) (hr : ∀ e W', R e W' → R' e W') : YieldAt F n P l args W R' := by
  obtain ⟨fn, tmps, assign, body, h1, h2⟩ := h
  exact ⟨fn, tmps, assign, body, h1, h2.mono hr⟩

set_option maxRecDepth 100000 in
set_option maxHeartbeats 2000000 in
theorem each_any (w : World) (x : Tr Mm) {BA LA FA : Option Addr} {bc lc fc : Nat} (hf : Forms x BA bc LA lc FA fc) :
    Calls Tryd.prog 79 #[x.agg] w fun e w' => e = .returned (.func (.func 98) #[] #[.pointer (some ⟨w.heap.size, 0, none⟩)]) ∧
      w' = w.alloc (.cells #[.int .u8 x.k.toNat, .bool x.b, .int .i64 x.i, .string ⟨x.t.toArray⟩, .slice BA x.bs.length bc, .slice LA x.l.length lc, .slice FA x.f.length fc] 33) := by
  rw [hf.agg]
  clear hf
  go_enter Tryd.func79, Tryd.ntmps79
  go_wp2
  go_ret
  exact ⟨rfl, rfl⟩

set_option maxRecDepth 100000 in
set_option maxHeartbeats 2000000 in
theorem each_iter (n : Nat) (w : World) (Bx : Nat) (x : Tr Mm) {BA LA FA : Option Addr} {bc lc fc : Nat} (hf : Forms x BA bc LA lc FA fc) (S : Nat → Prop)
    (hb : ∀ W, Fr S w W → W.heap[Bx]? = some (.cells #[.int .u8 x.k.toNat, .bool x.b, .int .i64 x.i, .string ⟨x.t.toArray⟩, .slice BA x.bs.length bc, .slice LA x.l.length lc, .slice FA x.f.length fc] 33 (0, 0)))
    (hg : ∀ W, Fr S w W → Tr.Good W x) (hS : ∀ k, S k → k < w.heap.size + 2) (hd : ∀ p ∈ pre 1 x, p.1 ≤ 1000000) :
    IterR n Tryd.prog 98 #[.pointer (some ⟨Bx, 0, none⟩)] (pre 1 x).length (isDV x) (Fr S) w := by
  intro l J Jx W hW hsz hJ hJx hY h0
  have hWS : Fr S w W := hW.mono (fun _ _ h => h.elim)
  have hbW := hb W hWS
  have hwk : Walker l J Jx S (w.heap.size + 2) w (pre 1 x) := ⟨fun i A B h f => hJ i A B h (f.mono (fun _ _ h => h.elim)), fun i h W1 h1 => yield_mono (yield_depth (hY i _ W1 h ⟨h, rfl⟩ h1)) (fun e W' hp => hp.imp id (fun hp => ⟨hp.1, hp.2.1⟩)), hS, hd, fun W' h p hp => (hg W' h).pre 1 p hp⟩
  have hcall := walk_in l J Jx S (w.heap.size + 2) w (pre 1 x) hwk x 1 0 W (fun k _ => by rw [Nat.zero_add]) hsz h0 hWS
  rw [hf.agg, Nat.zero_add] at hcall
  have hbl := (Array.getElem?_eq_some_iff.1 hbW).1
  have q0 := cell_of_row W Bx 0 _ _ (0, 0) hbW
  have q1 := cell_of_row W Bx 1 _ _ (0, 0) hbW
  have q2 := cell_of_row W Bx 2 _ _ (0, 0) hbW
  have q3 := cell_of_row W Bx 3 _ _ (0, 0) hbW
  have q4 := cell_of_row W Bx 4 _ _ (0, 0) hbW
  have q5 := cell_of_row W Bx 5 _ _ (0, 0) hbW
  have q6 := cell_of_row W Bx 6 _ _ (0, 0) hbW
  simp only [List.getElem?_toArray, List.getElem?_cons_succ, List.getElem?_cons_zero] at q0 q1 q2 q3 q4 q5 q6
  have HC := Lib.hid hcall
  clear hcall hwk hbW hf hg hb hJ hJx hY h0 hW hWS hS hd
  refine callsIn_of_wp Tryd.func98 rfl trivial ?_ rfl
  simp only [Tryd.ntmps98, List.size_toArray, List.length_cons, List.length_nil, Nat.reduceAdd, Nat.reduceSub, Array.replicate_succ, Array.replicate_zero, List.push_toArray, List.append_toArray, List.nil_append, List.cons_append]
  gi_wp2_with (fail)
  refine ⟨trivial, (fun h => by simp [Fence.wide] at h), (callsIn_wide.2 (callsIn_wide.1 HC.out)).mono ?_⟩
  rintro e W2 (⟨rfl, hj, _⟩ | ⟨rfl, hj⟩)
  · have HJ := Lib.hid hj; clear hj
    gi_wp2
    go_end0
    exact ⟨⟨_, rfl⟩, .inl HJ.out⟩
  · have HJ := Lib.hid hj; clear hj
    gi_wp2
    go_end0
    exact ⟨⟨_, rfl⟩, .inr HJ.out⟩
end Go.Proofs.YtgcicljklejmjaaDoor

/- append onto a row of one's own ('Ow'), with room or without: what the elder slice shows stays. General. -/
namespace Go
open Go.RowKit

/-- In the elder place, or in a new block. -/
def Stays (w w' : World) (v v' : Value) (n N : Nat) : Prop := (∃ A c, v = .slice A n c ∧ v' = .slice A N c) ∨ ∀ k, v'.ownBlock = some k → w.heap.size ≤ k ∧ k < w'.heap.size

section
variable {P : Program} {w : World} {o : Oper} {a : Act} {K : Act → World → Prop} {Q : Exit → Act → World → Prop}

theorem run_apo {t e : TypeId} {z : Value} {size bytes : Nat} (tb : Tb P t e z size bytes) (ty : TypeId) {v : Value} {n : Nat} {xs : List Value} (hs : Ow w e size v n xs)
    {x : Value} {m : Nat} {news : List Value} (hx : Sl w size x m news) (h1 : ∀ u ∈ news, u.oneCell' = true) (h63 : n + m ≤ maxLen) (hb : (n + m) * bytes ≤ 140737488355328) :
    ∃ A c w', (Builtin.append_ #[t, t] ty #[v, x]).run P w = .ok (.slice A (n + m) c) w' ∧ Ow w' e size (.slice A (n + m) c) (n + m) (xs ++ news) ∧ Ow w' e size v n xs ∧ Fr (fun k => v.ownBlock = some k) w w' ∧ Stays w w' v (.slice A (n + m) c) n (n + m) := by
  obtain ⟨i, hi, hz0, hz1, hz2⟩ := info_parts tb.info
  obtain ⟨X, cx, rfl, hcx1, hcx2⟩ := hx.form
  have hsmall : n + m ≤ 9223372036854775807 := by simp only [maxLen] at h63; omega
  have hlen : (xs ++ news).length = (n + m) * size := by rw [List.length_append, hs.1, hx.1, Nat.add_mul]
  obtain ⟨A, c, hv, hnc0⟩ : ∃ A c, v = .slice A n c ∧ n ≤ c := by
    rcases hs.2 with ⟨rfl, rfl⟩ | ⟨g, cap, cur, rfl, _, h, _⟩
    · exact ⟨_, _, rfl, Nat.le_refl _⟩
    · exact ⟨_, _, rfl, h⟩
  subst hv
  by_cases hm : m = 0
  · subst hm
    have hn : news = [] := List.eq_nil_of_length_eq_zero (by simpa using hx.1)
    subst hn
    refine ⟨A, c, w, ?_, by simpa using hs, hs, Fr.refl _ _, .inl ⟨A, c, rfl, rfl⟩⟩
    cases X with
    | none => cases A <;> simp [Builtin.append_, run_underlying tb.und, sizeOf, typeInfo, hi, Builtin.lenOf, Builtin.firstCells, storeCells, Nat.not_lt.2 hnc0]
    | some y =>
      have hf := run_firstCells_some (P := P) w i.size 0 y 0 cx [] (by simp) (by simp)
      cases A <;> simp [Builtin.append_, run_underlying tb.und, sizeOf, typeInfo, hi, Builtin.lenOf, hf, storeCells, Nat.not_lt.2 hnc0]
  · obtain ⟨b, off, cap', h2, hnews⟩ : ∃ b off cap', Value.slice X m cx = .slice (some ⟨b, off, none⟩) m cap' ∧ ∀ j u, news[j]? = some u → w.cell? ⟨b, off + j, none⟩ = some u := by
      rcases hx.2 with ⟨_, _, h2⟩ | ⟨b, off, cap', h2, _, _, hc⟩
      · omega
      · exact ⟨b, off, cap', h2, hc⟩
    have hnews' : ∀ j u, news[j]? = some u → w.cell? ((⟨b, off, none⟩ : Addr).add j) = some u := fun j u hu => by rw [Addr.add_lit]; exact hnews j u hu
    rw [h2]
    have grown : ∀ old, old < n + m → Ow (w.drew.alloc (.cells (xs.toArray ++ news.toArray ++ Builtin.zeroCells z.cells (grownCap w (n + m) old e - (n + m))) e)) e size
        (.slice (some ⟨w.heap.size, 0, none⟩) (n + m) (grownCap w (n + m) old e)) (n + m) (xs ++ news) := by
      intro old ho
      have hge := grownCap_ge w (n + m) old e
      refine ⟨hlen, .inr ⟨w.heap.size, _, _, rfl, heap_alloc_new w.drew _, hge, grownCap_le_maxLen w (n + m) old e h63, ?_, ?_⟩⟩
      · simp only [Array.size_append, List.size_toArray, size_zeroCells, tb.zs, hs.1, hx.1, ← Nat.add_mul]
        apply Nat.le_of_eq
        congr 1
        omega
      · simp only [Array.toList_append, List.append_assoc]
        rw [← List.append_assoc, ← hlen]
        exact List.take_left
    have frg : ∀ o, Fr no w (w.drew.alloc o) := fun o => Fr.alloc (Fr.drew (Fr.refl _ _)) o
    rcases hs.2 with ⟨h3, h4⟩ | ⟨g, cap, cur, h3, hg, hnc, hcm, hcs, htake⟩
    · cases h3
      have hx0 : xs = [] := List.eq_nil_of_length_eq_zero (by simpa using hs.1)
      subst hx0
      have hr := run_append_nil (P := P) w t ty e i z tb.und hi hz0 ⟨b, off, none⟩ m cap' news (by rw [hz1]; exact hx.1) hnews' (by omega) (by omega) (by simp only [Nat.zero_add] at hb; rw [hz2]; omega)
      have hgr := grown 0 (by omega)
      simp only [Nat.zero_add, List.nil_append, Array.empty_append] at hgr ⊢
      exact ⟨_, _, _, hr, hgr, ⟨by simp, .inl ⟨rfl, rfl⟩⟩, (frg _).mono (fun _ _ h => h.elim), .inr fun k hk => by
        have hk' : w.heap.size = k := by simpa [Value.ownBlock] using hk
        subst hk'
        exact ⟨Nat.le_refl _, by simp⟩⟩
    · cases h3
      by_cases hroom : n + m ≤ c
      · subst hz1
        have hfit : n * i.size + news.length ≤ cur.size := by rw [hx.1, ← Nat.add_mul]; exact Nat.le_trans (Nat.mul_le_mul_right _ hroom) hcs
        have hrun := run_append_room (P := P) w t ty e i tb.und hi g n c cur hg ⟨b, off, none⟩ m cap' news hx.1 hnews' h1 hroom hfit
        refine ⟨_, _, _, hrun, ⟨hlen, .inr ⟨g, c, _, rfl, setRow_heap w g cur _ e _ hg, hroom, hcm, ?_, ?_⟩⟩, ⟨hs.1, .inr ⟨g, c, _, rfl, setRow_heap w g cur _ e _ hg, hnc, hcm, ?_, ?_⟩⟩, ⟨rfl, rfl, rfl, by simp, fun k _ hk => setRow_other w g k _ (fun e => hk (by rw [e]; rfl))⟩, .inl ⟨_, _, rfl, rfl⟩⟩
        · simp only [List.size_toArray, List.length_append, List.length_take, List.length_drop, Array.length_toList]; omega
        · rw [htake, ← hlen]; exact List.take_left
        · simp only [List.size_toArray, List.length_append, List.length_take, List.length_drop, Array.length_toList]; omega
        · rw [htake, List.append_assoc, ← hs.1]; exact List.take_left
      · have holds : ∀ j u, xs[j]? = some u → w.cell? ((⟨g, 0, none⟩ : Addr).add j) = some u := by
          intro j u hu
          rw [Addr.add_lit, Nat.zero_add, cell_of_row w g j cur e (0, 0) hg]
          rw [← htake, List.getElem?_take] at hu
          split at hu
          · simpa using hu
          · cases hu
        have hr := run_append_grow (P := P) w t ty e i z tb.und hi hz0 ⟨g, 0, none⟩ n c xs (by rw [hz1]; exact hs.1) holds ⟨b, off, none⟩ m cap' news (by rw [hz1]; exact hx.1) hnews' (by omega) (by omega) (growslice_fits (by omega) (by rw [hz2]; exact hb))
        exact ⟨_, _, _, hr, grown c (by omega), hs.kept (frg _) (fun _ _ h => h.elim), (frg _).mono (fun _ _ h => h.elim), .inr fun k hk => by
          have hk' : w.heap.size = k := by simpa [Value.ownBlock] using hk
          subst hk'
          exact ⟨Nat.le_refl _, by simp⟩⟩

theorem wp_apo (s x : Operand) (t : TypeId) (ho : o.op = .call { callee := .builtin .append, args := #[s, x], argTypes := #[t, t] })
    {e : TypeId} {z : Value} {size bytes : Nat} (tb : Tb P t e z size bytes) {v : Value} {n : Nat} {xs : List Value} (hs : Ow w e size v n xs)
    {vx : Value} {m : Nat} {news : List Value} (hx : Sl w size vx m news) (hse : a.eval s = v) (hxe : a.eval x = vx) (h1 : ∀ u ∈ news, u.oneCell' = true) (h63 : n + m ≤ maxLen) (hb : (n + m) * bytes ≤ 140737488355328)
    (h : ∀ A N c w', N = n + m → Ow w' e size (.slice A N c) N (xs ++ news) → Ow w' e size v n xs → Fr (fun k => v.ownBlock = some k) w w' → Stays w w' v (.slice A N c) n N → K (a.put o.dst (.slice A N c)) w') : o.wp P a w K Q := by
  obtain ⟨A, c, w', hr, h2, h3, h4, h5⟩ := run_apo (P := P) tb o.type hs hx h1 h63 hb
  unfold Oper.wp execOp
  simp only [ho, resolve, invoke, builtin, Sem.run_bind, Sem.run_pure, Result.andThen_ok, List.map_toArray, List.map_cons, List.map_nil, hse, hxe, hr]
  exact h A _ c w' rfl h2 h3 h4 h5
variable {ops : Array Oper} {rest : List Oper}
theorem wpList_apo (hgd : o.guard = none) (s x : Operand) (t : TypeId) (ho : o.op = .call { callee := .builtin .append, args := #[s, x], argTypes := #[t, t] })
    {e : TypeId} {z : Value} {size bytes : Nat} (tb : Tb P t e z size bytes) {v : Value} {n : Nat} {xs : List Value} (hs : Ow w e size v n xs)
    {vx : Value} {m : Nat} {news : List Value} (hx : Sl w size vx m news) (hse : a.eval s = v) (hxe : a.eval x = vx) (h1 : ∀ u ∈ news, u.oneCell' = true) (h63 : n + m ≤ maxLen) (hb : (n + m) * bytes ≤ 140737488355328)
    (h : ∀ A N c w', N = n + m → Ow w' e size (.slice A N c) N (xs ++ news) → Ow w' e size v n xs → Fr (fun k => v.ownBlock = some k) w w' → Stays w w' v (.slice A N c) n N → wpList P ops Q rest (a.put o.dst (.slice A N c)) w') : wpList P ops Q (o :: rest) a w :=
  wpList_plain hgd fun _ hK => wp_apo s x t ho tb hs hx hse hxe h1 h63 hb fun A' N c w' h2 h3 h4 h5 h6 => hK _ _ (h A' N c w' h2 h3 h4 h5 h6)
end
end Go

/- Rws of one kind, each of its own. General. -/
namespace Go
open Go.RowKit

namespace Ow
variable {w w1 : World} {e sz n : Nat} {v : Value} {xs : List Value} {S : Nat → Prop}
theorem form (h : Ow w e sz v n xs) : ∃ A c, v = .slice A n c ∧ n ≤ c ∧ c ≤ maxLen := h.sl.form
theorem head {A : Option Addr} {c : Nat} (h : Ow w e sz (.slice A n c) n xs) (m : Nat) (hm : m ≤ n) : Ow w e sz (.slice A m c) m (xs.take (m * sz)) := by
  have hl := h.1
  have hmul : m * sz ≤ n * sz := Nat.mul_le_mul_right _ hm
  refine ⟨by rw [List.length_take]; omega, ?_⟩
  rcases h.2 with ⟨h1, h2⟩ | ⟨g, cap, cur, h1, hg, h2, h3, h4, h5⟩
  · cases h1
    obtain rfl : m = 0 := by omega
    exact .inl ⟨rfl, rfl⟩
  · cases h1
    exact .inr ⟨g, c, cur, rfl, hg, by omega, h3, h4, by rw [← h5, List.take_take, Nat.min_eq_left hmul]⟩
/-- The cells of element k. -/
theorem cells (h : Ow w e sz v n xs) (k : Nat) (hk : k < n) : ∃ g c, v = .slice (some ⟨g, 0, none⟩) n c ∧ n ≤ c ∧ c ≤ maxLen ∧ g < w.heap.size ∧ (∀ o, w.frozen? ⟨g, o, none⟩ = false) ∧
    (∀ (j : Nat) u, xs[j]? = some u → w.cell? ⟨g, j, none⟩ = some u) := by
  rcases h.2 with ⟨h1, h2⟩ | ⟨g, cap, cur, h1, hg, h2, h3, h4, h5⟩
  · omega
  · refine ⟨g, cap, h1, h2, h3, (Array.getElem?_eq_some_iff.1 hg).1, fun o => by simp [World.frozen?, hg], fun j u hu => ?_⟩
    rw [cell_of_row w g j cur e (0, 0) hg]
    rw [← h5, List.getElem?_take] at hu
    split at hu
    · simpa using hu
    · cases hu
/-- One cell of it written. -/
theorem set {g c j : Nat} (h : Ow w e sz (.slice (some ⟨g, 0, none⟩) n c) n xs) (_hj : j < xs.length) (u : Value) : Ow (w.setCell ⟨g, j, none⟩ u) e sz (.slice (some ⟨g, 0, none⟩) n c) n (xs.set j u) := by
  refine ⟨by rw [List.length_set]; exact h.1, ?_⟩
  rcases h.2 with ⟨h1, h2⟩ | ⟨g', cap, cur, h1, hg, h2, h3, h4, h5⟩
  · cases h1
  · cases h1
    refine .inr ⟨g, c, cur.setIfInBounds j u, rfl, hp_same hg j u, h2, h3, by simpa using h4, ?_⟩
    rw [Array.toList_setIfInBounds, List.take_set, h5]
end Ow

/-- The rows vs: the j-th has C j, in a block of its own. -/
structure Rws (w : World) (e : TypeId) (sz : Nat) (vs : List Value) (ns : Nat → Nat) (C : Nat → List Value) : Prop where
  row : ∀ j (h : j < vs.length), Ow w e sz vs[j] (ns j) (C j)
  apart : ∀ i j (hi : i < vs.length) (hj : j < vs.length) b, i ≠ j → vs[i].ownBlock = some b → vs[j].ownBlock ≠ some b

def InRows (vs : List Value) : Nat → Prop := fun b => ∃ v ∈ vs, v.ownBlock = some b

namespace Rws
variable {w w1 : World} {e sz : Nat} {vs : List Value} {ns : Nat → Nat} {C : Nat → List Value} {S : Nat → Prop}
theorem kept (h : Rws w e sz vs ns C) (f : Fr S w w1) (hn : ∀ b, InRows vs b → ¬ S b) : Rws w1 e sz vs ns C :=
  ⟨fun j hj => (h.row j hj).kept f (fun k hk => hn k ⟨_, List.getElem_mem hj, hk⟩), h.apart⟩
/-- One row turned. -/
theorem one (h : Rws w e sz vs ns C) (i : Nat) (hi : i < vs.length) (f : Fr (fun b => vs[i].ownBlock = some b) w w1) (c : List Value) (hr : Ow w1 e sz vs[i] (ns i) c) : Rws w1 e sz vs ns (fun j => if j = i then c else C j) := by
  refine ⟨fun j hj => ?_, h.apart⟩
  by_cases hji : j = i
  · subst hji; simpa using hr
  · simp only [hji, if_false]
    exact (h.row j hj).kept f (fun k hk => fun hk2 => h.apart i j hi hj k (fun e => hji e.symm) hk2 hk)
theorem congr {C' : Nat → List Value} (h : Rws w e sz vs ns C) (hc : ∀ j, j < vs.length → C j = C' j) : Rws w e sz vs ns C' :=
  ⟨fun j hj => by rw [← hc j hj]; exact h.row j hj, h.apart⟩
theorem lt (h : Rws w e sz vs ns C) : ∀ b, InRows vs b → b < w.heap.size := by
  rintro b ⟨v, hv, hb⟩
  obtain ⟨j, hj, rfl⟩ := List.getElem_of_mem hv
  exact (h.row j hj).lt b hb
end Rws

/-- Marks: of row i, place k. -/
def mks (m : Int → Nat → List Value) (i : Int) (n : Nat) : List Value := (List.range n).flatMap (m i)

theorem mks_succ (m : Int → Nat → List Value) (i : Int) (n : Nat) : mks m i (n + 1) = mks m i n ++ m i n := by simp [mks, List.range_succ]
theorem mks_len {m : Int → Nat → List Value} {sz : Nat} (hm : ∀ i k, (m i k).length = sz) (i : Int) (n : Nat) : (mks m i n).length = n * sz := by
  induction n with
  | zero => simp [mks]
  | succ n ih => rw [mks_succ, List.length_append, ih, hm, Nat.succ_mul]
theorem mks_take {m : Int → Nat → List Value} {sz : Nat} (hm : ∀ i k, (m i k).length = sz) (i : Int) (k n : Nat) (h : k ≤ n) : (mks m i n).take (k * sz) = mks m i k := by
  induction n with
  | zero =>
    obtain rfl : k = 0 := by omega
    simp [mks]
  | succ n ih =>
    by_cases hk : k = n + 1
    · subst hk
      exact List.take_of_length_le (by rw [mks_len hm]; exact Nat.le_refl _)
    · rw [mks_succ, List.take_append_of_le_length (by rw [mks_len hm]; exact Nat.mul_le_mul_right _ (by omega)), ih (by omega)]
theorem mks_get {m : Int → Nat → List Value} {sz : Nat} (hm : ∀ i k, (m i k).length = sz) (i : Int) (k n : Nat) (h : k < n) (j : Nat) (hj : j < sz) : (mks m i n)[k * sz + j]? = (m i k)[j]? := by
  have h1 := mks_take hm i (k + 1) n h
  have h2 : (mks m i n)[k * sz + j]? = ((mks m i n).take ((k + 1) * sz))[k * sz + j]? := by
    rw [List.getElem?_take, if_pos (by rw [Nat.succ_mul]; omega)]
  rw [h2, h1, mks_succ, List.getElem?_append_right (by rw [mks_len hm]; omega), mks_len hm]
  congr 1
  omega

end Go

/- slices.Clip, bytes.Clone of bytes. (Byt without Compare.) -/
namespace Go.Proofs.YtgcicljklejmjaaDoor
open Go.RowKit

set_option maxRecDepth 100000 in
set_option maxHeartbeats 400000 in
theorem bclip_any (w : World) (A : Option Addr) (n c : Nat) (hc : n ≤ c) :
    Calls Tryd.prog 38 #[.slice A n c] w fun e w' => e = .returned (.slice A n n) ∧ w' = w := by
  by_cases hn : n = 0
  · subst hn
    go_enter Tryd.func38, Tryd.ntmps38
    go_wp2
    go_ret
    exact ⟨rfl, rfl⟩
  · go_enter Tryd.func38, Tryd.ntmps38
    go_wp2
    go_ret
    refine ⟨?_, rfl⟩
    cases A <;> simp

set_option maxRecDepth 100000 in
set_option maxHeartbeats 400000 in
/-- bytes.Clone: nil of nil; else a row of its own. -/
theorem bclone_any (w : World) (x : Value) (l : List UInt8) (hx : Sl w 1 x l.length (bvs l)) (hl : l.length ≤ 140737488351232) :
    Calls Tryd.prog 34 #[x] w fun e w' => ∃ A c, e = .returned (.slice A l.length c) ∧ Ow w' 5 1 (.slice A l.length c) l.length (bvs l) ∧ (∀ k, Value.ownBlock (.slice A l.length c) = some k → w.heap.size ≤ k) ∧ Fr no w w' := by
  have hx2 : (x = .slice none 0 0 ∧ l.length = 0) ∨ ∃ y cap, x = .slice (some y) l.length cap ∧ l.length ≤ cap ∧ cap ≤ maxLen := by
    rcases hx.2 with ⟨Y, h1, h2⟩ | ⟨b, o, cap, h1, h2, h3, _⟩
    · cases Y with
      | none => exact .inl ⟨h1, h2⟩
      | some y => exact .inr ⟨y, 0, by rw [h1, h2], by omega, Nat.zero_le _⟩
    · exact .inr ⟨_, cap, h1, h2, h3⟩
  rcases hx2 with ⟨rfl, h0⟩ | ⟨y, cap, rfl, h1, h2⟩
  · obtain rfl : l = [] := List.eq_nil_of_length_eq_zero h0
    have hnil := fun (w : World) (a : Option Addr) (n c n' c' : Nat) => Lib.run_eql_slice_nil (P := Tryd.prog) w 22 5 a n c n' c' (by kernel_rfl)
    go_enter Tryd.func34, Tryd.ntmps34
    go_wp2
    go_ret
    exact ⟨none, 0, rfl, ⟨rfl, .inl ⟨rfl, rfl⟩⟩, by simp [Value.ownBlock], Fr.refl _ _⟩
  · have HX := Lib.hid hx; clear hx
    have hnil := fun (w : World) (a : Option Addr) (n c n' c' : Nat) => Lib.run_eql_slice_nil (P := Tryd.prog) w 22 5 a n c n' c' (by kernel_rfl)
    go_enter Tryd.func34, Tryd.ntmps34
    go_wp2_with (at_builtin; refine wpList_apo (n := 0) (xs := []) rfl (.tmp 5) (.tmp 6) 22 rfl tbB ?own (HX.out.kept0 ?fr) rfl rfl (bvs_one l) ?b1 ?b2 ?go)
    case own => exact ⟨rfl, .inr ⟨w.heap.size, 0, #[], rfl, heap_alloc_new _ _, Nat.le_refl _, Nat.zero_le _, by simp, by simp⟩⟩
    case fr => (repeat first | exact Fr.refl _ _ | apply Fr.drew | apply Fr.alloc)
    case b1 => simp only [maxLen]; omega
    case b2 => omega
    case go =>
      intro A N c w' hN ho _ hf hs
      obtain rfl : N = l.length := by omega
      have HO := Lib.hid ho; have HF := Lib.hid hf; have HS := Lib.hid hs; clear ho hf hs
      go_wp2
      go_ret
      refine ⟨A, c, rfl, HO.out, fun k hk => ?_, ?_⟩
      · rcases HS.out with ⟨A', c', h, h'⟩ | h
        · cases h; cases h'
          have : w.heap.size = k := by simpa [Value.ownBlock] using hk
          omega
        · have := h k hk; simp at this; omega
      · exact Fr.trans (S := no) (by (repeat first | exact Fr.refl _ _ | apply Fr.drew | apply Fr.alloc)) HF.out (fun k hk h => by simp [Value.ownBlock] at h; omega)
end Go.Proofs.YtgcicljklejmjaaDoor

/- slices.Clone, slices.Clip: of bytes, values, fields. (printed by mkvclone.py) -/
namespace Go.Proofs.YtgcicljklejmjaaDoor
open Go.RowKit
open Tr

theorem tbV : Tb Tryd.prog 25 33 (.agg #[.int .u8 0, .bool false, .int .i64 0, .string ⟨#[]⟩, .slice none 0 0, .slice none 0 0, .slice none 0 0]) 7 104 := ⟨by kernel_rfl, by kernel_rfl, rfl, by decide⟩
theorem tbF : Tb Tryd.prog 31 138 (.agg #[.string ⟨#[]⟩, .int .u8 0, .bool false, .int .i64 0, .string ⟨#[]⟩, .slice none 0 0, .slice none 0 0, .slice none 0 0]) 8 120 := ⟨by kernel_rfl, by kernel_rfl, rfl, by decide⟩

set_option maxRecDepth 100000 in
set_option maxHeartbeats 400000 in
theorem sclB_any (w : World) (x : Value) (n : Nat) (cs : List Value) (hx : Sl w 1 x n cs) (hl : n * 1 ≤ 140737488355328) (hn : n ≤ 140737488351232) (h1 : ∀ u ∈ cs, u.oneCell' = true) :
    Calls Tryd.prog 81 #[x] w fun e w' => ∃ A c, e = .returned (.slice A n c) ∧ Ow w' 5 1 (.slice A n c) n cs ∧ (∀ k, Value.ownBlock (.slice A n c) = some k → w.heap.size ≤ k) ∧ Fr no w w' := by
  have hx2 : (x = .slice none 0 0 ∧ n = 0) ∨ ∃ y cap, x = .slice (some y) n cap ∧ n ≤ cap ∧ cap ≤ maxLen := by
    rcases hx.2 with ⟨Y, h1, h2⟩ | ⟨b, o, cap, h1, h2, h3, _⟩
    · cases Y with
      | none => exact .inl ⟨h1, h2⟩
      | some y => exact .inr ⟨y, 0, by rw [h1, h2], by omega, Nat.zero_le _⟩
    · exact .inr ⟨_, cap, h1, h2, h3⟩
  rcases hx2 with ⟨rfl, rfl⟩ | ⟨y, cap, rfl, h2, h3⟩
  · have hcs : cs = [] := List.eq_nil_of_length_eq_zero (by rw [hx.1])
    subst hcs
    have hnil := fun (w : World) (a : Option Addr) (n c n' c' : Nat) => Lib.run_eql_slice_nil (P := Tryd.prog) w 22 5 a n c n' c' (by kernel_rfl)
    go_enter Tryd.func81, Tryd.ntmps81
    go_wp2
    go_ret
    exact ⟨none, 0, rfl, ⟨by simp, .inl ⟨rfl, rfl⟩⟩, by simp [Value.ownBlock], Fr.refl _ _⟩
  · have HX := Lib.hid hx; have H1 := Lib.hid h1; clear hx h1
    have hnil := fun (w : World) (a : Option Addr) (n c n' c' : Nat) => Lib.run_eql_slice_nil (P := Tryd.prog) w 22 5 a n c n' c' (by kernel_rfl)
    go_enter Tryd.func81, Tryd.ntmps81
    go_wp2_with (at_builtin; refine wpList_apo (n := 0) (xs := []) rfl (.tmp 5) (.tmp 6) 22 rfl tbB ?ownB (HX.out.kept0 ?frB) rfl rfl H1.out ?b1B ?b2B ?goB)
    case ownB => exact ⟨rfl, .inr ⟨w.heap.size, 0, #[], rfl, heap_alloc_new _ _, Nat.le_refl _, Nat.zero_le _, by simp, by simp⟩⟩
    case frB => (repeat first | exact Fr.refl _ _ | apply Fr.drew | apply Fr.alloc)
    case b1B => simp only [maxLen]; omega
    case b2B => omega
    case goB =>
      intro A N c w' hN ho _ hf hs
      obtain rfl : N = n := by omega
      have HO := Lib.hid ho; have HF := Lib.hid hf; have HS := Lib.hid hs; clear ho hf hs
      go_wp2
      go_ret
      refine ⟨A, c, rfl, HO.out, fun k hk => ?_, ?_⟩
      · rcases HS.out with ⟨A', c', h, h'⟩ | h
        · cases h; cases h'
          have : w.heap.size = k := by simpa [Value.ownBlock] using hk
          omega
        · have := h k hk; simp at this; omega
      · exact Fr.trans (S := no) (by (repeat first | exact Fr.refl _ _ | apply Fr.drew | apply Fr.alloc)) HF.out (fun k hk h => by simp [Value.ownBlock] at h; omega)

set_option maxRecDepth 100000 in
set_option maxHeartbeats 400000 in
theorem sclV_any (w : World) (x : Value) (n : Nat) (cs : List Value) (hx : Sl w 7 x n cs) (hl : n * 104 ≤ 140737488355328) (hn : n ≤ 140737488351232) (h1 : ∀ u ∈ cs, u.oneCell' = true) :
    Calls Tryd.prog 82 #[x] w fun e w' => ∃ A c, e = .returned (.slice A n c) ∧ Ow w' 33 7 (.slice A n c) n cs ∧ (∀ k, Value.ownBlock (.slice A n c) = some k → w.heap.size ≤ k) ∧ Fr no w w' := by
  have hx2 : (x = .slice none 0 0 ∧ n = 0) ∨ ∃ y cap, x = .slice (some y) n cap ∧ n ≤ cap ∧ cap ≤ maxLen := by
    rcases hx.2 with ⟨Y, h1, h2⟩ | ⟨b, o, cap, h1, h2, h3, _⟩
    · cases Y with
      | none => exact .inl ⟨h1, h2⟩
      | some y => exact .inr ⟨y, 0, by rw [h1, h2], by omega, Nat.zero_le _⟩
    · exact .inr ⟨_, cap, h1, h2, h3⟩
  rcases hx2 with ⟨rfl, rfl⟩ | ⟨y, cap, rfl, h2, h3⟩
  · have hcs : cs = [] := List.eq_nil_of_length_eq_zero (by rw [hx.1])
    subst hcs
    have hnil := fun (w : World) (a : Option Addr) (n c n' c' : Nat) => Lib.run_eql_slice_nil (P := Tryd.prog) w 25 33 a n c n' c' (by kernel_rfl)
    go_enter Tryd.func82, Tryd.ntmps82
    go_wp2
    go_ret
    exact ⟨none, 0, rfl, ⟨by simp, .inl ⟨rfl, rfl⟩⟩, by simp [Value.ownBlock], Fr.refl _ _⟩
  · have HX := Lib.hid hx; have H1 := Lib.hid h1; clear hx h1
    have hnil := fun (w : World) (a : Option Addr) (n c n' c' : Nat) => Lib.run_eql_slice_nil (P := Tryd.prog) w 25 33 a n c n' c' (by kernel_rfl)
    go_enter Tryd.func82, Tryd.ntmps82
    go_wp2_with (at_builtin; refine wpList_apo (n := 0) (xs := []) rfl (.tmp 5) (.tmp 6) 25 rfl tbV ?ownV (HX.out.kept0 ?frV) rfl rfl H1.out ?b1V ?b2V ?goV)
    case ownV => exact ⟨rfl, .inr ⟨w.heap.size, 0, #[], rfl, heap_alloc_new _ _, Nat.le_refl _, Nat.zero_le _, by simp, by simp⟩⟩
    case frV => (repeat first | exact Fr.refl _ _ | apply Fr.drew | apply Fr.alloc)
    case b1V => simp only [maxLen]; omega
    case b2V => omega
    case goV =>
      intro A N c w' hN ho _ hf hs
      obtain rfl : N = n := by omega
      have HO := Lib.hid ho; have HF := Lib.hid hf; have HS := Lib.hid hs; clear ho hf hs
      go_wp2
      go_ret
      refine ⟨A, c, rfl, HO.out, fun k hk => ?_, ?_⟩
      · rcases HS.out with ⟨A', c', h, h'⟩ | h
        · cases h; cases h'
          have : w.heap.size = k := by simpa [Value.ownBlock] using hk
          omega
        · have := h k hk; simp at this; omega
      · exact Fr.trans (S := no) (by (repeat first | exact Fr.refl _ _ | apply Fr.drew | apply Fr.alloc)) HF.out (fun k hk h => by simp [Value.ownBlock] at h; omega)

set_option maxRecDepth 100000 in
theorem scpV_any (w : World) (A : Option Addr) (n c : Nat) (hc : n ≤ c) :
    Calls Tryd.prog 33 #[.slice A n c] w fun e w' => e = .returned (.slice A n n) ∧ w' = w := by
  by_cases hn : n = 0
  · subst hn
    go_enter Tryd.func33, Tryd.ntmps33
    go_wp2
    go_ret
    exact ⟨rfl, rfl⟩
  · go_enter Tryd.func33, Tryd.ntmps33
    go_wp2
    go_ret
    exact ⟨rfl, rfl⟩

set_option maxRecDepth 100000 in
set_option maxHeartbeats 400000 in
theorem sclF_any (w : World) (x : Value) (n : Nat) (cs : List Value) (hx : Sl w 8 x n cs) (hl : n * 120 ≤ 140737488355328) (hn : n ≤ 140737488351232) (h1 : ∀ u ∈ cs, u.oneCell' = true) :
    Calls Tryd.prog 84 #[x] w fun e w' => ∃ A c, e = .returned (.slice A n c) ∧ Ow w' 138 8 (.slice A n c) n cs ∧ (∀ k, Value.ownBlock (.slice A n c) = some k → w.heap.size ≤ k) ∧ Fr no w w' := by
  have hx2 : (x = .slice none 0 0 ∧ n = 0) ∨ ∃ y cap, x = .slice (some y) n cap ∧ n ≤ cap ∧ cap ≤ maxLen := by
    rcases hx.2 with ⟨Y, h1, h2⟩ | ⟨b, o, cap, h1, h2, h3, _⟩
    · cases Y with
      | none => exact .inl ⟨h1, h2⟩
      | some y => exact .inr ⟨y, 0, by rw [h1, h2], by omega, Nat.zero_le _⟩
    · exact .inr ⟨_, cap, h1, h2, h3⟩
  rcases hx2 with ⟨rfl, rfl⟩ | ⟨y, cap, rfl, h2, h3⟩
  · have hcs : cs = [] := List.eq_nil_of_length_eq_zero (by rw [hx.1])
    subst hcs
    have hnil := fun (w : World) (a : Option Addr) (n c n' c' : Nat) => Lib.run_eql_slice_nil (P := Tryd.prog) w 31 138 a n c n' c' (by kernel_rfl)
    go_enter Tryd.func84, Tryd.ntmps84
    go_wp2
    go_ret
    exact ⟨none, 0, rfl, ⟨by simp, .inl ⟨rfl, rfl⟩⟩, by simp [Value.ownBlock], Fr.refl _ _⟩
  · have HX := Lib.hid hx; have H1 := Lib.hid h1; clear hx h1
    have hnil := fun (w : World) (a : Option Addr) (n c n' c' : Nat) => Lib.run_eql_slice_nil (P := Tryd.prog) w 31 138 a n c n' c' (by kernel_rfl)
    go_enter Tryd.func84, Tryd.ntmps84
    go_wp2_with (at_builtin; refine wpList_apo (n := 0) (xs := []) rfl (.tmp 5) (.tmp 6) 31 rfl tbF ?ownF (HX.out.kept0 ?frF) rfl rfl H1.out ?b1F ?b2F ?goF)
    case ownF => exact ⟨rfl, .inr ⟨w.heap.size, 0, #[], rfl, heap_alloc_new _ _, Nat.le_refl _, Nat.zero_le _, by simp, by simp⟩⟩
    case frF => (repeat first | exact Fr.refl _ _ | apply Fr.drew | apply Fr.alloc)
    case b1F => simp only [maxLen]; omega
    case b2F => omega
    case goF =>
      intro A N c w' hN ho _ hf hs
      obtain rfl : N = n := by omega
      have HO := Lib.hid ho; have HF := Lib.hid hf; have HS := Lib.hid hs; clear ho hf hs
      go_wp2
      go_ret
      refine ⟨A, c, rfl, HO.out, fun k hk => ?_, ?_⟩
      · rcases HS.out with ⟨A', c', h, h'⟩ | h
        · cases h; cases h'
          have : w.heap.size = k := by simpa [Value.ownBlock] using hk
          omega
        · have := h k hk; simp at this; omega
      · exact Fr.trans (S := no) (by (repeat first | exact Fr.refl _ _ | apply Fr.drew | apply Fr.alloc)) HF.out (fun k hk h => by simp [Value.ownBlock] at h; omega)

set_option maxRecDepth 100000 in
theorem scpF_any (w : World) (A : Option Addr) (n c : Nat) (hc : n ≤ c) :
    Calls Tryd.prog 83 #[.slice A n c] w fun e w' => e = .returned (.slice A n n) ∧ w' = w := by
  by_cases hn : n = 0
  · subst hn
    go_enter Tryd.func83, Tryd.ntmps83
    go_wp2
    go_ret
    exact ⟨rfl, rfl⟩
  · go_enter Tryd.func83, Tryd.ntmps83
    go_wp2
    go_ret
    exact ⟨rfl, rfl⟩
end Go.Proofs.YtgcicljklejmjaaDoor
