import Derived.WalkKit
import Derived.Deep.RegionHeld3

/- A region that draws its order, walked in one order of our choice: a general law over the kit's own 'wpAny'. Conditions: a closed check of the region's edges ('ordB'), each operation of the sort that is named for it. -/
namespace Go

/-- A world with more blocks behind, and other draws. -/
def World.ext (w : World) (e : Array Obj × Nat) : World := { w with heap := w.heap ++ e.1, drawn := e.2 }

theorem World.ext_ext (w : World) (e f : Array Obj × Nat) : (w.ext e).ext f = w.ext (e.1 ++ f.1, f.2) := by
  simp [World.ext, Array.append_assoc]

theorem World.ext_self (w : World) : w.ext (#[], w.drawn) = w := by simp [World.ext]

theorem World.ext_heap (w : World) (e : Array Obj × Nat) (k : Nat) (h : k < w.heap.size) : (w.ext e).heap[k]? = w.heap[k]? := by
  simp [World.ext, Array.getElem?_append, h]

theorem World.ext_cell (w : World) (e : Array Obj × Nat) (a : Addr) (h : a.block < w.heap.size) : (w.ext e).cell? a = w.cell? a := by
  simp only [World.cell?, World.ext_heap w e a.block h]

theorem World.ext_frozen (w : World) (e : Array Obj × Nat) (a : Addr) (h : a.block < w.heap.size) : (w.ext e).frozen? a = w.frozen? a := by
  simp only [World.frozen?, World.ext_heap w e a.block h]

/-- Of which sort an operation is: p: no memory; l: it reads memory that is there; m: it reads what stays as the region's own invariant I says; g: it makes memory and turns none; e: anything that keeps I. -/
inductive Kd where
  | p | l | m | g | e
  deriving DecidableEq

def valUpon (w : World) (v : Value) : Result Next → Prop
  | .ok (.value u) w' => w' = w ∧ u = v
  | .ok .skip w' => w' = w ∧ v = undef
  | _ => False

def Oper.val (P : Program) (o : Oper) (a : Act) (w : World) (v : Value) : Prop := valUpon w v ((execOp a.eval o).run P w)

def kdOp (P : Program) (Q : Exit → Act → World → Prop) (I : World → Prop) (kd : Kd) (o : Oper) (a : Act) (w : World) (K : Act → World → Prop) : Prop :=
  match kd with
  | .p => ∃ v, (∀ w', o.val P a w' v) ∧ K (a.put o.dst v) w
  | .l => ∃ v, (∀ e, o.val P a (w.ext e) v) ∧ K (a.put o.dst v) w
  | .m => ∃ v, (∀ w', I w' → o.val P a w' v) ∧ K (a.put o.dst v) w
  | .g => o.wp P a w (fun a' w' => (∃ e, w' = w.ext e) ∧ I w' ∧ K a' w') (NoPanic Q)
  | .e => o.wp P a w (fun a' w' => I w' ∧ K a' w') (NoPanic Q)

section
variable {P : Program} {ops : Array Oper} {Q : Exit → Act → World → Prop} {I : World → Prop} {kds : Nat → Kd} {md : Region.Mode}

def xOp (P : Program) (ops : Array Oper) (Q : Exit → Act → World → Prop) (I : World → Prop) (kds : Nat → Kd) (i : Nat) (K : Act → World → Prop) (a : Act) (w : World) : Prop :=
  match ops[i]? with
  | none => K a w
  | some o => if Region.wanted o (yielded ops a.tmps) then kdOp P Q I (kds i) o a w K else K (a.put o.dst undef) w

def wpAnyX (P : Program) (md : Region.Mode) (ops : Array Oper) (Q : Exit → Act → World → Prop) (I : World → Prop) (kds : Nat → Kd) : Nat → Array Bool → Act → World → Prop
  | 0, listed, a, w => Region.ready md ops listed = [] ∧ Q .normal a w
  | fuel + 1, listed, a, w =>
    (Region.ready md ops listed = [] → Q .normal a w) ∧
    ∀ i ∈ Region.ready md ops listed, xOp P ops Q I kds i (wpAnyX P md ops Q I kds fuel (listed.setIfInBounds i true)) a w

/-- The walk in our order. -/
def wpX (P : Program) (ops : Array Oper) (Q : Exit → Act → World → Prop) (I : World → Prop) (kds : Nat → Kd) : List Nat → Act → World → Prop
  | [], a, w => Q .normal a w
  | i :: rest, a, w => xOp P ops Q I kds i (wpX P ops Q I kds rest) a w

theorem Oper.val_wp {o : Oper} {a : Act} {w : World} {v : Value} {K : Act → World → Prop} {Q' : Exit → Act → World → Prop}
    (h : o.val P a w v) (hK : K (a.put o.dst v) w) : o.wp P a w K Q' := by
  unfold Oper.val at h
  unfold Oper.wp
  generalize (execOp a.eval o).run P w = r at *
  cases r with
  | ok n w' =>
    cases n <;> simp only [valUpon] at h
    case value u => obtain ⟨rfl, rfl⟩ := h; exact hK
    case skip => obtain ⟨rfl, rfl⟩ := h; exact hK
  | halt x w' => simp only [valUpon] at h

theorem Oper.val_put {o : Oper} (hs : ∀ cs b, o.op ≠ .select cs b) (a : Act) (dst : Option Tmp) (u : Value) (h : ∀ d, dst = some d → d ∉ o.looksAt ops) (w : World) (v : Value) :
    o.val P (a.put dst u) w v ↔ o.val P a w v := by
  unfold Oper.val
  rw [execOp_put o hs a dst u h]

theorem kdOp_mono {kd : Kd} {o : Oper} {a : Act} {w : World} {K K' : Act → World → Prop} (h : ∀ a w, I w → K a w → K' a w) (hI : I w) (hh : kdOp P Q I kd o a w K) : kdOp P Q I kd o a w K' := by
  cases kd with
  | p => obtain ⟨v, h1, h2⟩ := hh; exact ⟨v, h1, h _ _ hI h2⟩
  | l => obtain ⟨v, h1, h2⟩ := hh; exact ⟨v, h1, h _ _ hI h2⟩
  | m => obtain ⟨v, h1, h2⟩ := hh; exact ⟨v, h1, h _ _ hI h2⟩
  | g => exact Oper.wp_mono (K := fun a' w' => (∃ e, w' = w.ext e) ∧ I w' ∧ K a' w') (K' := fun a' w' => (∃ e, w' = w.ext e) ∧ I w' ∧ K' a' w') (fun a w ⟨h1, h2, h3⟩ => ⟨h1, h2, h _ _ h2 h3⟩) hh
  | e => exact Oper.wp_mono (K := fun a' w' => I w' ∧ K a' w') (K' := fun a' w' => I w' ∧ K' a' w') (fun a w ⟨h2, h3⟩ => ⟨h2, h _ _ h2 h3⟩) hh

theorem xOp_mono {i : Nat} {a : Act} {w : World} {K K' : Act → World → Prop} (h : ∀ a w, I w → K a w → K' a w) (hI : I w) (hh : xOp P ops Q I kds i K a w) : xOp P ops Q I kds i K' a w := by
  unfold xOp at *
  split
  · exact h _ _ hI (by simpa [*] using hh)
  · rename_i o ho
    simp only [ho] at hh
    split
    · rename_i hw; simp only [hw, if_true] at hh; exact kdOp_mono h hI hh
    · rename_i hw; simp only [hw] at hh; exact h _ _ hI hh

theorem wpOp_of_xOp {i : Nat} {a : Act} {w : World} {K K' : Act → World → Prop} (h : ∀ a w, I w → K a w → K' a w) (hI : I w) (hh : xOp P ops Q I kds i K a w) : wpOp P ops (NoPanic Q) i K' a w := by
  unfold xOp at hh
  unfold wpOp
  split
  · rename_i ho; simp only [ho] at hh; exact h _ _ hI hh
  · rename_i o ho
    simp only [ho] at hh
    split
    · rename_i hw
      simp only [hw, if_true] at hh
      refine .inl ?_
      cases hk : kds i <;> rw [hk] at hh
      case p => obtain ⟨v, h1, h2⟩ := hh; exact Oper.val_wp (h1 w) (h _ _ hI h2)
      case l => obtain ⟨v, h1, h2⟩ := hh; exact Oper.val_wp (by have := h1 (#[], w.drawn); rwa [World.ext_self] at this) (h _ _ hI h2)
      case m => obtain ⟨v, h1, h2⟩ := hh; exact Oper.val_wp (h1 w hI) (h _ _ hI h2)
      case g => exact Oper.wp_mono (fun a w hc => h _ _ hc.2.1 hc.2.2) hh
      case e => exact Oper.wp_mono (fun a w hc => h _ _ hc.1 hc.2) hh
    · rename_i hw; simp only [hw] at hh; exact h _ _ hI hh

theorem wpAny_of_X : ∀ (fuel : Nat) (listed : Array Bool) (a : Act) (w : World), I w → wpAnyX P md ops Q I kds fuel listed a w → wpAny P md ops (NoPanic Q) fuel listed a w
  | 0, _, _, _, _, h => ⟨h.1, h.2⟩
  | fuel + 1, _, _, _, hI, h => ⟨fun h0 => h.1 h0, fun i hi => wpOp_of_xOp (fun a w hI h => wpAnyX_step fuel _ a w hI h) hI (h.2 i hi)⟩
where wpAnyX_step (fuel : Nat) (listed : Array Bool) (a : Act) (w : World) (hI : I w) (h : wpAnyX P md ops Q I kds fuel listed a w) : wpAny P md ops (NoPanic Q) fuel listed a w := wpAny_of_X fuel listed a w hI h

/-- What a movable operation yields, by its sort. -/
def Movable (P : Program) (I : World → Prop) (kd : Kd) (o : Oper) (v : Value) (a : Act) (w : World) : Prop :=
  match kd with
  | .p => ∀ w', o.val P a w' v
  | .l => ∀ e, o.val P a (w.ext e) v
  | .m => ∀ w', I w' → o.val P a w' v
  | _ => False

/-- In state 'a' operation 'o' yields 'v'. -/
def YieldsX (P : Program) (ops : Array Oper) (I : World → Prop) (kd : Kd) (o : Oper) (v : Value) (a : Act) (w : World) : Prop :=
  (Region.wanted o (yielded ops a.tmps) = true ∧ Movable P I kd o v a w) ∨
  (Region.wanted o (yielded ops a.tmps) = false ∧ v = undef)

theorem YieldsX.ext {kd : Kd} {o : Oper} {v : Value} {a : Act} {w : World} (h : YieldsX P ops I kd o v a w) (e : Array Obj × Nat) : YieldsX P ops I kd o v a (w.ext e) := by
  rcases h with ⟨h1, h2⟩ | h
  · refine .inl ⟨h1, ?_⟩
    cases kd <;> simp only [Movable] at h2 ⊢
    case p => exact h2
    case l => intro f; rw [World.ext_ext]; exact h2 _
    case m => exact h2
  · exact .inr h

theorem YieldsX.any {kd : Kd} (hkd : kd ≠ .l) {o : Oper} {v : Value} {a : Act} {w : World} (h : YieldsX P ops I kd o v a w) (w' : World) : YieldsX P ops I kd o v a w' := by
  cases kd
  case l => exact absurd rfl hkd
  all_goals exact h

theorem YieldsX.put {kd : Kd} {o : Oper} {v : Value} {a : Act} {w : World} (hs : ∀ cs b, o.op ≠ .select cs b) (dst : Option Tmp) (u : Value) (h3 : ∀ d, dst = some d → d ∉ o.looksAt ops)
    (h : YieldsX P ops I kd o v a w) : YieldsX P ops I kd o v (a.put dst u) w := by
  unfold YieldsX at *
  rw [wanted_put o a dst u h3]
  cases kd <;> simp only [Movable, Oper.val_put hs a dst u h3] at h ⊢ <;> exact h

theorem YieldsX.defers {kd : Kd} {o : Oper} {v : Value} {a : Act} {w : World} (d : List Deferred) (h : YieldsX P ops I kd o v a w) : YieldsX P ops I kd o v { a with defers := d } w := h

theorem YieldsX.xOp {kd : Kd} {i : Nat} {o : Oper} {v : Value} {a : Act} {w : World} (hi : ops[i]? = some o) (hk : kds i = kd) (hy : YieldsX P ops I kd o v a w) {K : Act → World → Prop}
    (h : K (a.put o.dst v) w) : xOp P ops Q I kds i K a w := by
  unfold Go.xOp
  simp only [hi]
  rcases hy with ⟨hw, hv⟩ | ⟨hw, rfl⟩
  · simp only [hw, if_true]
    rw [hk]
    cases kd <;> simp only [Movable] at hv
    case p => exact ⟨v, hv, h⟩
    case l => exact ⟨v, hv, h⟩
    case m => exact ⟨v, hv, h⟩
  · simp only [hw, Bool.false_eq_true, if_false]; exact h

theorem Oper.wp_put {o : Oper} (hs : ∀ cs b, o.op ≠ .select cs b) {a : Act} {x : Option Tmp} {v : Value} {w : World} {K : Act → World → Prop} {Y : Act → World → Prop}
    (h1 : ∀ d, x = some d → d ∉ o.looksAt ops) (h2 : ∀ d, x = some d → o.dst ≠ some d)
    (hY : ∀ u w', Y (a.put o.dst u) w') (hYd : ∀ d u w', Y ({ a with defers := d }.put o.dst u) w')
    (h : o.wp P (a.put x v) w K (NoPanic Q)) : o.wp P a w (fun a' w' => Y a' w' ∧ K (a'.put x v) w') (NoPanic Q) := by
  unfold Oper.wp at *
  rw [execOp_put o hs a x v h1] at h
  generalize (execOp a.eval o).run P w = r at *
  cases r with
  | ok n w' =>
    cases n <;> simp only [Oper.upon] at h ⊢
    case value u => exact ⟨hY u w', by rw [← Act.put_comm a v u h2]; exact h⟩
    case skip => exact ⟨hY _ w', by rw [← Act.put_comm a v undef h2]; exact h⟩
    case defer d =>
      refine ⟨hYd _ _ w', ?_⟩
      rw [← Act.put_comm _ v undef h2, ← Act.put_defers]
      exact h
    case enter f args =>
      refine Calls.mono h fun e w'' he => ?_
      cases e with
      | returned u => exact ⟨hY u w'', by rw [← Act.put_comm a v u h2]; exact he⟩
      | panicked c => exact he
      | outgrown => exact he
    case row row args => exact Rows.mono h fun u w'' he => ⟨hY u w'', by rw [← Act.put_comm a v u h2]; exact he⟩
  | halt x w' =>
    cases x <;> simp only [Oper.upon] at h ⊢
    case panic u => exact h

/-- Whether 'oi''s value is already in its temporary makes no difference to 'oj', and it makes none to 'oi'. -/
theorem xOp_put {j : Nat} {oi oj : Oper} {v : Value} {kd : Kd} (hj : ops[j]? = some oj) (hap : oi.apart ops oj = true) (hkj : kd = .l → kds j ≠ .e)
    (hsi : ∀ cs b, oi.op ≠ .select cs b) (hsj : ∀ cs b, oj.op ≠ .select cs b) {K : Act → World → Prop} {a : Act} {w : World}
    (hy : YieldsX P ops I kd oi v a w) (h : xOp P ops Q I kds j K (a.put oi.dst v) w) :
    xOp P ops Q I kds j (fun a' w' => YieldsX P ops I kd oi v a' w' ∧ K (a'.put oi.dst v) w') a w := by
  obtain ⟨h1, h2, h3⟩ := Oper.apart_spec hap
  unfold xOp at *
  simp only [hj] at *
  rw [wanted_put oj a oi.dst v h1] at h
  split
  · rename_i hw
    simp only [hw, if_true] at h
    cases hk : kds j <;> rw [hk] at h
    case p =>
      obtain ⟨u, g1, g2⟩ := h
      exact ⟨u, fun w' => (Oper.val_put hsj a oi.dst v h1 w' u).1 (g1 w'), hy.put hsi _ _ h3, by rw [← Act.put_comm a v u h2]; exact g2⟩
    case l =>
      obtain ⟨u, g1, g2⟩ := h
      exact ⟨u, fun e => (Oper.val_put hsj a oi.dst v h1 _ u).1 (g1 e), hy.put hsi _ _ h3, by rw [← Act.put_comm a v u h2]; exact g2⟩
    case m =>
      obtain ⟨u, g1, g2⟩ := h
      exact ⟨u, fun w' hI => (Oper.val_put hsj a oi.dst v h1 w' u).1 (g1 w' hI), hy.put hsi _ _ h3, by rw [← Act.put_comm a v u h2]; exact g2⟩
    case g =>
      have h' := Oper.wp_put (ops := ops) (Y := fun a' _ => YieldsX P ops I kd oi v a' w) hsj h1 h2 (fun u _ => hy.put hsi _ _ h3) (fun d u _ => (hy.defers d).put hsi _ _ h3) h
      refine Oper.wp_mono ?_ h'
      rintro a' w' ⟨g1, ⟨e, rfl⟩, g2, g3⟩
      exact ⟨⟨e, rfl⟩, g2, g1.ext e, g3⟩
    case e =>
      have hl : kd ≠ .l := fun e => absurd hk (hkj e)
      have h' := Oper.wp_put (ops := ops) (Y := fun a' w' => YieldsX P ops I kd oi v a' w') hsj h1 h2 (fun u w' => (hy.put hsi _ _ h3).any hl w') (fun d u w' => ((hy.defers d).put hsi _ _ h3).any hl w') h
      refine Oper.wp_mono ?_ h'
      rintro a' w' ⟨g1, g2, g3⟩
      exact ⟨g2, g1, g3⟩
  · rename_i hw
    simp only [hw] at h
    exact ⟨hy.put hsi _ _ h3, by rw [← Act.put_comm a v undef h2]; exact h⟩

/-- j waits for i. -/
inductive Region.Anc (md : Region.Mode) (ops : Array Oper) : Nat → Nat → Prop where
  | one {j i : Nat} {oj : Oper} {e : Edge} (hj : ops[j]? = some oj) (he : e ∈ oj.after) (hb : Region.binds md e = true) (hi : e.on = i) : Region.Anc md ops j i
  | more {j i : Nat} {oj : Oper} {e : Edge} (hj : ops[j]? = some oj) (he : e ∈ oj.after) (hb : Region.binds md e = true) (h : Region.Anc md ops e.on i) : Region.Anc md ops j i

/-- What has come up has all that it waits for. -/
def Region.Closed (md : Region.Mode) (ops : Array Oper) (listed : Array Bool) : Prop :=
  ∀ j oj, ops[j]? = some oj → listed.getD j false = true → ∀ e ∈ oj.after, Region.binds md e = true → listed.getD e.on false = true

theorem Region.Closed.anc {listed : Array Bool} (hc : Region.Closed md ops listed) {j i : Nat} (h : Region.Anc md ops j i) : listed.getD j false = true → listed.getD i false = true := by
  induction h with
  | one hj he hb hi => intro hl; rw [← hi]; exact hc _ _ hj hl _ he hb
  | more hj he hb _ ih => intro hl; exact ih (hc _ _ hj hl _ he hb)

theorem Region.Closed.ready {listed : Array Bool} (hc : Region.Closed md ops listed) {i j : Nat} (hj : j ∈ Region.ready md ops listed) (h : Region.Anc md ops j i) : listed.getD i false = true := by
  obtain ⟨_, oj, hoj, hall⟩ := mem_ready.1 hj
  cases h with
  | one hj he hb hi =>
    rw [hoj] at hj; cases hj
    rw [← hi]; exact hall _ he hb
  | more hj he hb h =>
    rw [hoj] at hj; cases hj
    exact hc.anc h (hall _ he hb)

theorem Region.Closed.set {listed : Array Bool} (hc : Region.Closed md ops listed) {i : Nat} (hi : i ∈ Region.ready md ops listed) : Region.Closed md ops (listed.setIfInBounds i true) := by
  obtain ⟨_, oi, hoi, hall⟩ := mem_ready.1 hi
  intro j oj hj hl e he hb
  by_cases hij : i = j
  · subst hij
    have : oj = oi := Option.some.inj (hj.symm.trans hoi)
    subst this
    exact getD_set_true (hall e he hb)
  · rw [getD_set_ne false hij] at hl
    exact getD_set_true (hc j oj hj hl e he hb)

theorem getD_false_of {listed : Array Bool} {i : Nat} (h : listed.getD i true = false) : listed.getD i false = false := by
  rcases Nat.lt_or_ge i listed.size with h' | h'
  · simp [h'] at h ⊢; exact h
  · simp [Array.getElem?_eq_none h'] at h

theorem getD_none_listed (m j : Nat) : (Array.replicate m false).getD j false = false := by
  rcases Nat.lt_or_ge j m with h | h
  · simp [h]
  · simp [h]

theorem Region.closed_none (md : Region.Mode) (ops : Array Oper) (n : Nat) : Region.Closed md ops (Array.replicate n false) := by
  intro j oj _ hl
  rw [getD_none_listed] at hl
  cases hl

theorem wpAnyX_first {kd : Kd} {i : Nat} {oi : Oper} {v : Value} {wt : Nat → Nat → Bool} (hwt : ∀ j i, wt j i = true → Region.Anc md ops j i) (hi : ops[i]? = some oi) (hsel : ∀ (j : Nat) (o : Oper) cs b, ops[j]? = some o → o.op ≠ .select cs b) (hk : kds i = kd) :
    ∀ (fuel : Nat) (listed : Array Bool) (a : Act) (w : World), I w → Region.Closed md ops listed →
      (∀ j oj, ops[j]? = some oj → j ≠ i → listed.getD j true = false → wt j i = false → oi.apart ops oj = true ∧ (kd = .l → kds j ≠ .e)) →
      i ∈ Region.ready md ops listed → YieldsX P ops I kd oi v a w →
      wpAnyX P md ops Q I kds fuel (listed.setIfInBounds i true) (a.put oi.dst v) w → wpAnyX P md ops Q I kds (fuel + 1) listed a w := by
  intro fuel
  induction fuel with
  | zero =>
    intro listed a w _ _ _ hr hy H
    refine ⟨fun h => (by rw [h] at hr; cases hr), fun j hj => ?_⟩
    by_cases hji : j = i
    · subst hji; exact hy.xOp hi hk H
    · have := ready_mono hj hji
      rw [H.1] at this
      cases this
  | succ fuel ih =>
    intro listed a w hI hc hfree hr hy H
    refine ⟨fun h => (by rw [h] at hr; cases hr), fun j hj => ?_⟩
    by_cases hji : j = i
    · subst hji; exact hy.xOp hi hk H
    · have h1 := H.2 j (ready_mono hj hji)
      obtain ⟨hjun, oj, hoj, hall⟩ := mem_ready.1 hj
      have hiun := (mem_ready.1 hr).1
      have hnot : wt j i = false := by
        cases ha : wt j i with
        | false => rfl
        | true => have h2 := hc.ready hj (hwt _ _ ha); rw [getD_false_of hiun] at h2; cases h2
      obtain ⟨hap, hke⟩ := hfree j oj hoj hji hjun hnot
      have h2 := xOp_put hoj hap hke (fun cs b => hsel i oi cs b hi) (fun cs b => hsel j oj cs b hoj) hy h1
      have hfree' : ∀ k ok, ops[k]? = some ok → k ≠ i → (listed.setIfInBounds j true).getD k true = false →
          wt k i = false → oi.apart ops ok = true ∧ (kd = .l → kds k ≠ .e) := fun k ok hk hki hun hno => by
        refine hfree k ok hk hki ?_ hno
        by_cases hjk : j = k
        · subst hjk; exact hjun
        · rw [getD_set_ne true hjk] at hun; exact hun
      refine xOp_mono (fun a' w' hI' h3 => ih (listed.setIfInBounds j true) a' w' hI' (hc.set hj) hfree' (ready_mono hr (Ne.symm hji)) h3.1 ?_) hI h2
      rw [Array.setIfInBounds_comm _ _ hji]
      exact h3.2

/-- The masks of what each operation waits for. -/
def Region.maskOf (md : Region.Mode) (acc : List Nat) (es : List Edge) : Nat :=
  es.foldl (fun m e => if Region.binds md e then m ||| (1 <<< e.on) ||| acc.getD e.on 0 else m) 0

def Region.masks (md : Region.Mode) : List Oper → List Nat → List Nat
  | [], acc => acc
  | o :: r, acc => Region.masks md r (acc ++ [Region.maskOf md acc o.after.toList])

theorem Region.maskOf_spec {acc : List Nat} {j : Nat} {oj : Oper} (hj : ops[j]? = some oj) (hacc : ∀ k i, (acc.getD k 0).testBit i = true → Region.Anc md ops k i) :
    ∀ (es : List Edge), (∀ e ∈ es, e ∈ oj.after) → ∀ (m : Nat), (∀ i, m.testBit i = true → Region.Anc md ops j i) → ∀ i, (es.foldl (fun m e => if Region.binds md e then m ||| (1 <<< e.on) ||| acc.getD e.on 0 else m) m).testBit i = true → Region.Anc md ops j i
  | [], _, m, hm, i, h => hm i h
  | e :: es, hes, m, hm, i, h => by
    simp only [List.foldl_cons] at h
    refine Region.maskOf_spec hj hacc es (fun e he => hes e (List.mem_cons_of_mem _ he)) _ ?_ i h
    intro i' h'
    split at h'
    · rename_i hb
      rw [Nat.testBit_or, Nat.testBit_or, Bool.or_eq_true, Bool.or_eq_true] at h'
      have hin : e ∈ oj.after := hes e (List.mem_cons_self ..)
      rcases h' with (h' | h') | h'
      · exact hm i' h'
      · rw [Nat.testBit_shiftLeft, Bool.and_eq_true, decide_eq_true_eq] at h'
        have h0 : i' - e.on = 0 := by
          by_cases hz : i' - e.on = 0
          · exact hz
          · obtain ⟨k, hk⟩ : ∃ k, i' - e.on = k + 1 := ⟨i' - e.on - 1, by omega⟩
            rw [hk] at h'
            simp [Nat.testBit_succ] at h'
        exact .one hj hin hb (by omega)
      · exact .more hj hin hb (hacc _ _ h')
    · exact hm i' h'

theorem Region.masks_spec : ∀ (l : List Oper) (k : Nat) (acc : List Nat), (∀ j, l[j]? = ops[k + j]?) → acc.length = k → (∀ j i, (acc.getD j 0).testBit i = true → Region.Anc md ops j i) →
    ∀ j i, ((Region.masks md l acc).getD j 0).testBit i = true → Region.Anc md ops j i
  | [], _, _, _, _, h, j, i, hb => h j i hb
  | o :: r, k, acc, hl, hk, h, j, i, hb => by
    have h0 : ops[k]? = some o := by simpa using (hl 0).symm
    refine Region.masks_spec r (k + 1) _ (fun j => by have := hl (j + 1); simpa [Nat.add_assoc, Nat.add_comm 1 j] using this) (by simp [hk]) ?_ j i hb
    intro j' i' hb'
    by_cases hlt : j' < acc.length
    · rw [List.getD_eq_getElem?_getD, List.getElem?_append_left hlt, ← List.getD_eq_getElem?_getD] at hb'
      exact h _ _ hb'
    · by_cases he : j' = acc.length
      · subst he
        rw [List.getD_eq_getElem?_getD, List.getElem?_append_right (Nat.le_refl _), Nat.sub_self] at hb'
        simp only [List.getElem?_cons_zero, Option.getD_some] at hb'
        rw [hk]
        exact Region.maskOf_spec h0 h o.after.toList (fun e he => by simpa using he) 0 (fun i hi => by simp at hi) i' hb'
      · rw [List.getD_eq_getElem?_getD, List.getElem?_eq_none (by simp; omega)] at hb'
        simp at hb'

def Region.freeX (wt : Nat → Nat → Bool) (ops : Array Oper) (kds : Nat → Kd) (listed : Array Bool) (i : Nat) : Bool :=
  match ops[i]? with
  | none => false
  | some oi => (List.range ops.size).all fun j => j == i || listed.getD j true || wt j i ||
      (match ops[j]? with | some oj => oi.apart ops oj && (decide (kds i ≠ .l) || decide (kds j ≠ .e)) | none => true)

/-- The closed check of an order of ours. -/
def Region.ordFrom (wt : Nat → Nat → Bool) (md : Region.Mode) (ops : Array Oper) (kds : Nat → Kd) : List Nat → Array Bool → Bool
  | [], listed => (Region.ready md ops listed).isEmpty
  | i :: rest, listed =>
    (match kds i with
      | .p | .l | .m => (Region.ready md ops listed).contains i && Region.freeX wt ops kds listed i
      | .g | .e => Region.ready md ops listed == [i]) && Region.ordFrom wt md ops kds rest (listed.setIfInBounds i true)

def Region.wtOf (ms : List Nat) (j i : Nat) : Bool := (ms.getD j 0).testBit i

def Region.ordB (md : Region.Mode) (ops : Array Oper) (kds : Nat → Kd) (ord : List Nat) : Bool :=
  Region.noSelect ops && decide (ord.length = ops.size) && Region.ordFrom (Region.wtOf (Region.masks md ops.toList [])) md ops kds ord (Array.replicate ops.size false)

theorem yieldsX_of_xOp {kd : Kd} {i : Nat} {o : Oper} {a : Act} {w : World} {K : Act → World → Prop} (hi : ops[i]? = some o) (hk : kds i = kd) (hm : kd = .p ∨ kd = .l ∨ kd = .m) (h : xOp P ops Q I kds i K a w) :
    ∃ v, YieldsX P ops I kd o v a w ∧ K (a.put o.dst v) w := by
  unfold xOp at h
  simp only [hi] at h
  by_cases hw : Region.wanted o (yielded ops a.tmps) = true
  · simp only [hw, if_true] at h
    rw [hk] at h
    rcases hm with rfl | rfl | rfl
    all_goals
      obtain ⟨v, h1, h2⟩ := h
      exact ⟨v, .inl ⟨hw, h1⟩, h2⟩
  · simp only [hw] at h
    exact ⟨undef, .inr ⟨by simpa using hw, rfl⟩, h⟩

theorem Region.freeX_spec {kd : Kd} {i : Nat} {oi : Oper} {listed : Array Bool} {wt : Nat → Nat → Bool} (hi : ops[i]? = some oi) (hk : kds i = kd) (h : Region.freeX wt ops kds listed i = true) (j : Nat) (oj : Oper) (hj : ops[j]? = some oj)
    (hji : j ≠ i) (hun : listed.getD j true = false) (hno : wt j i = false) : oi.apart ops oj = true ∧ (kd = .l → kds j ≠ .e) := by
  unfold Region.freeX at h
  simp only [hi, List.all_eq_true, List.mem_range] at h
  have hlt : j < ops.size := (Array.getElem?_eq_some_iff.1 hj).1
  have h1 := h j hlt
  simp only [hj, hun, hno, Bool.or_false, Bool.or_eq_true, beq_iff_eq, hji, false_or, Bool.and_eq_true, decide_eq_true_eq] at h1
  refine ⟨h1.1, fun hp => ?_⟩
  rcases h1.2 with h2 | h2
  · exact absurd (hk.trans hp) h2
  · exact h2

theorem wpAnyX_ord {wt : Nat → Nat → Bool} (hwt : ∀ j i, wt j i = true → Region.Anc md ops j i) (hs : Region.noSelect ops = true) : ∀ (ord : List Nat) (listed : Array Bool) (a : Act) (w : World), I w → Region.Closed md ops listed →
    Region.ordFrom wt md ops kds ord listed = true → wpX P ops Q I kds ord a w → wpAnyX P md ops Q I kds ord.length listed a w
  | [], _, _, _, _, _, hB, h => ⟨by simpa [Region.ordFrom] using hB, h⟩
  | i :: rest, listed, a, w, hI, hc, hB, h => by
    simp only [Region.ordFrom, Bool.and_eq_true] at hB
    obtain ⟨hB1, hB2⟩ := hB
    have main : ∀ kd : Kd, kds i = kd → (kd = .p ∨ kd = .l ∨ kd = .m) → (Region.ready md ops listed).contains i = true → Region.freeX wt ops kds listed i = true → wpAnyX P md ops Q I kds (rest.length + 1) listed a w := by
      intro kd hk hm hr hf
      have hr' : i ∈ Region.ready md ops listed := by simpa using hr
      obtain ⟨_, oi, hoi, _⟩ := mem_ready.1 hr'
      obtain ⟨v, hy, hK⟩ := yieldsX_of_xOp hoi hk hm h
      exact wpAnyX_first hwt hoi (Region.noSelect_spec hs) hk rest.length listed a w hI hc (Region.freeX_spec hoi hk hf) hr' hy
        (wpAnyX_ord hwt hs rest _ _ _ hI (hc.set hr') hB2 hK)
    have lone : Region.ready md ops listed = [i] → wpAnyX P md ops Q I kds (rest.length + 1) listed a w := by
      intro hr
      have hr' : i ∈ Region.ready md ops listed := by rw [hr]; simp
      refine ⟨fun h0 => (by rw [hr] at h0; cases h0), fun j hj => ?_⟩
      rw [hr] at hj
      obtain rfl : j = i := by simpa using hj
      exact xOp_mono (fun a w hI hK => wpAnyX_ord hwt hs rest _ a w hI (hc.set hr') hB2 hK) hI h
    cases hk : kds i <;> rw [hk] at hB1
    case p => simp only [Bool.and_eq_true] at hB1; exact main _ hk (by simp) hB1.1 hB1.2
    case l => simp only [Bool.and_eq_true] at hB1; exact main _ hk (by simp) hB1.1 hB1.2
    case m => simp only [Bool.and_eq_true] at hB1; exact main _ hk (by simp) hB1.1 hB1.2
    case g => exact lone (by simpa using hB1)
    case e => exact lone (by simpa using hB1)

/-- A region that draws its order is walked in ours; I holds all the way. -/
theorem wp_region_inv {id : Nat} {a : Act} {w : World} (I : World → Prop) (ord : List Nat) (kds : Nat → Kd) (hm : P.follows .mixedOrders = true) (hB : Region.ordB .any ops kds ord = true)
    (hI : I w.drew) (h : wpX P ops Q I kds ord a w.drew) : (Code.region id ops true).wp P Q a w := by
  simp only [Region.ordB, Bool.and_eq_true, decide_eq_true_eq] at hB
  obtain ⟨⟨h1, h2⟩, h3⟩ := hB
  refine wp_region_noPanic (wp_region_any hm (wpAny_of_X (I := I) (kds := kds) _ _ _ _ hI ?_))
  have hwt : ∀ j i, Region.wtOf (Region.masks .any ops.toList []) j i = true → Region.Anc .any ops j i :=
    Region.masks_spec ops.toList 0 [] (fun j => by simp) rfl (fun j i h => by simp at h)
  have := wpAnyX_ord (P := P) (Q := Q) (kds := kds) hwt h1 ord _ a w.drew hI (Region.closed_none _ _ _) h3 h
  rw [h2] at this
  exact this

def anyW : World → Prop := fun _ => True

/-- A region that draws its order is walked in ours. -/
theorem wp_region_ord {id : Nat} {a : Act} {w : World} (ord : List Nat) (kds : Nat → Kd) (hm : P.follows .mixedOrders = true) (hB : Region.ordB .any ops kds ord = true)
    (h : wpX P ops Q anyW kds ord a w.drew) : (Code.region id ops true).wp P Q a w := wp_region_inv anyW ord kds hm hB True.intro h

/-- One operation of our walk. -/
theorem wpX_step {i : Nat} {rest : List Nat} {o : Oper} {a : Act} {w : World} (hi : ops[i]? = some o) (hw : Region.wanted o (yielded ops a.tmps) = true)
    (h : ∀ K : Act → World → Prop, (∀ a w, wpX P ops Q I kds rest a w → K a w) → kdOp P Q I (kds i) o a w K) : wpX P ops Q I kds (i :: rest) a w := by
  show xOp P ops Q I kds i (wpX P ops Q I kds rest) a w
  unfold xOp
  simp only [hi, hw, if_true]
  exact h _ (fun _ _ h => h)

/-- One operation that hangs on another's answer. -/
theorem wpX_guard {i : Nat} {rest : List Nat} {o : Oper} {a : Act} {w : World} (hi : ops[i]? = some o)
    (h : ∀ K : Act → World → Prop, (∀ a w, wpX P ops Q I kds rest a w → K a w) → if Region.wanted o (yielded ops a.tmps) then kdOp P Q I (kds i) o a w K else K (a.put o.dst undef) w) : wpX P ops Q I kds (i :: rest) a w := by
  show xOp P ops Q I kds i (wpX P ops Q I kds rest) a w
  unfold xOp
  simp only [hi]
  exact h _ (fun _ _ h => h)

theorem wpX_done {a : Act} {w : World} (h : Q .normal a w) : wpX P ops Q I kds [] a w := h
end
attribute [irreducible] wpX
theorem World.ext_drew (w : World) (e : Array Obj × Nat) : w.drew.ext e = w.ext e := rfl
attribute [go_sem] World.ext_drew kdOp Oper.val valUpon World.ext_cell World.ext_frozen
end Go

/- Of which sort the operations of a region are: what yields a value without memory, what only reads, what only makes memory. General; no condition. -/
namespace Go

/-- It yields its value in every world, and leaves each as it is. -/
def Sem.Pu {α : Type} (P : Program) (s : Sem α) : Prop := ∀ w v w', s.run P w = .ok v w' → w' = w ∧ ∀ w2, s.run P w2 = .ok v w2
/-- It yields its value in every longer world, and leaves each as it is. -/
def Sem.Rd {α : Type} (P : Program) (s : Sem α) : Prop := ∀ w v w', s.run P w = .ok v w' → w' = w ∧ ∀ e, s.run P (w.ext e) = .ok v (w.ext e)
/-- It leaves a longer world. -/
def Sem.Gr {α : Type} (P : Program) (s : Sem α) : Prop := ∀ w v w', s.run P w = .ok v w' → ∃ x, w' = w.ext x

section
variable {α β : Type} {P : Program}

theorem Sem.Pu.rd {s : Sem α} (h : s.Pu P) : s.Rd P := fun w v w' hr => ⟨(h w v w' hr).1, fun _ => (h w v w' hr).2 _⟩
theorem Sem.Rd.gr {s : Sem α} (h : s.Rd P) : s.Gr P := fun w v w' hr => ⟨(#[], w.drawn), by rw [World.ext_self]; exact (h w v w' hr).1⟩

theorem andThen_ok_iff {r : Result α} {f : α → World → Result β} {v : β} {w : World} : r.andThen f = .ok v w ↔ ∃ a w1, r = .ok a w1 ∧ f a w1 = .ok v w := by
  cases r with
  | ok a w1 => exact ⟨fun h => ⟨a, w1, rfl, h⟩, fun ⟨_, _, h1, h2⟩ => by cases h1; exact h2⟩
  | halt h w1 => exact ⟨fun h => (by cases h), fun ⟨_, _, h1, _⟩ => (by cases h1)⟩

theorem Sem.Pu.bind {s : Sem α} {f : α → Sem β} (hs : s.Pu P) (hf : ∀ a, (f a).Pu P) : (s >>= f).Pu P := by
  intro w v w' hr
  rw [Sem.run_bind, andThen_ok_iff] at hr
  obtain ⟨a, w1, h1, h2⟩ := hr
  obtain ⟨rfl, h3⟩ := hs _ _ _ h1
  obtain ⟨rfl, h4⟩ := hf a _ _ _ h2
  refine ⟨rfl, fun w2 => ?_⟩
  rw [Sem.run_bind, h3 w2]
  exact h4 w2

theorem Sem.Rd.bind {s : Sem α} {f : α → Sem β} (hs : s.Rd P) (hf : ∀ a, (f a).Rd P) : (s >>= f).Rd P := by
  intro w v w' hr
  rw [Sem.run_bind, andThen_ok_iff] at hr
  obtain ⟨a, w1, h1, h2⟩ := hr
  obtain ⟨rfl, h3⟩ := hs _ _ _ h1
  obtain ⟨rfl, h4⟩ := hf a _ _ _ h2
  refine ⟨rfl, fun e => ?_⟩
  rw [Sem.run_bind, h3 e]
  exact h4 e

theorem Sem.Gr.bind {s : Sem α} {f : α → Sem β} (hs : s.Gr P) (hf : ∀ a, (f a).Gr P) : (s >>= f).Gr P := by
  intro w v w' hr
  rw [Sem.run_bind, andThen_ok_iff] at hr
  obtain ⟨a, w1, h1, h2⟩ := hr
  obtain ⟨e, rfl⟩ := hs _ _ _ h1
  obtain ⟨f', rfl⟩ := hf a _ _ _ h2
  exact ⟨_, World.ext_ext _ _ _⟩

theorem Sem.Pu.pure (a : α) : (Pure.pure a : Sem α).Pu P := by
  intro w v w' hr
  rw [Sem.run_pure] at hr
  injection hr with h1 h2
  subst h1; subst h2
  exact ⟨rfl, fun w2 => Sem.run_pure _ _ _⟩

theorem Sem.Pu.halt (h : Halt) : (Sem.halt h : Sem α).Pu P := by intro w v w' hr; simp [Sem.run] at hr
theorem Sem.Pu.program : (Go.program).Pu P := by
  intro w v w' hr
  simp only [Go.program, Sem.run] at hr
  injection hr with h1 h2
  subst h1; subst h2
  exact ⟨rfl, fun w2 => rfl⟩

/-- What never comes to a value is of every sort. -/
theorem Sem.Pu.never {s : Sem α} (h : ∀ w v w', s.run P w ≠ .ok v w') : s.Pu P := fun w v w' hr => absurd hr (h w v w')

theorem runtimePanic_never (e : RuntimeError) (w : World) (v : α) (w' : World) : (runtimePanic e : Sem α).run P w ≠ .ok v w' := by
  cases e <;> simp [runtimePanic, Go.program, goPanic, Sem.run_bind, Sem.run, Result.andThen] <;> (split <;> (try split) <;> simp)

theorem Sem.Pu.panic (e : RuntimeError) : (runtimePanic e : Sem α).Pu P := .never (runtimePanic_never e)

theorem bind_never {s : Sem α} {f : α → Sem β} (h : ∀ a w v w', (f a).run P w ≠ .ok v w') : ∀ w v w', (s >>= f).run P w ≠ .ok v w' := by
  intro w v w' hr
  rw [Sem.run_bind, andThen_ok_iff] at hr
  obtain ⟨a, w1, _, h2⟩ := hr
  exact h _ _ _ _ h2

theorem bounds_never (k : IntKind) (x y : Int) (c : BoundsCode) : ∀ (w : World) (v : α) (w' : World), (boundsPanic k x y c : Sem α).run P w ≠ .ok v w' := by
  unfold boundsPanic
  intro w v w'
  simp only []
  split
  · exact bind_never (fun a w v w' => runtimePanic_never _ w v w') w v w'
  · exact bind_never (fun a w v w' => runtimePanic_never _ w v w') w v w'

theorem Sem.Pu.bounds (k : IntKind) (x y : Int) (c : BoundsCode) : (boundsPanic k x y c : Sem α).Pu P := .never (bounds_never k x y c)

theorem Sem.Pu.ite {c : Prop} [Decidable c] {s t : Sem α} (hs : s.Pu P) (ht : t.Pu P) : (if c then s else t).Pu P := by split <;> assumption
theorem Sem.Gr.ite {c : Prop} [Decidable c] {s t : Sem α} (hs : s.Gr P) (ht : t.Gr P) : (if c then s else t).Gr P := by split <;> assumption

theorem Sem.Pu.typeInfo (t : TypeId) : (Go.typeInfo t).Pu P := .bind .program fun p => by split <;> first | exact .pure _ | exact .halt _
theorem Sem.Pu.underlying (t : TypeId) : (Go.underlying t).Pu P := .bind .program fun p => by split <;> first | exact .pure _ | exact .halt _
theorem Sem.Pu.sizeOf (t : TypeId) : (Go.sizeOf t).Pu P := .bind (.typeInfo t) fun _ => .pure _
theorem Sem.Pu.zeroValue (t : TypeId) : (Go.zeroValue t).Pu P := .bind (.typeInfo t) fun _ => by split <;> first | exact .pure _ | exact .halt _
theorem Sem.Pu.isAgg (t : TypeId) : (Go.isAgg t).Pu P := by
  unfold Go.isAgg
  refine .bind (.underlying t) fun d => ?_
  split <;> exact .pure _

theorem Sem.Rd.load (a : Addr) : (Go.load a).Rd P := by
  intro w v w' hr
  simp only [Go.load, Sem.run] at hr
  cases hc : w.cell? a with
  | some u =>
    rw [hc] at hr
    simp only [Result.ok.injEq] at hr
    obtain ⟨rfl, rfl⟩ := hr
    have hlt := World.block_lt_of_cell? w a hc
    refine ⟨rfl, fun e => ?_⟩
    simp only [Go.load, Sem.run, World.ext_cell w e a hlt, hc]
  | none =>
    rw [hc] at hr
    simp only at hr
    cases hf : World.farLoad P w a (Mode.plain == Mode.atomic) with
    | error h => rw [hf] at hr; simp at hr
    | ok r =>
      rw [hf] at hr
      obtain ⟨u, l⟩ := r
      simp only [Result.ok.injEq] at hr
      obtain ⟨rfl, rfl⟩ := hr
      refine ⟨rfl, fun e => ?_⟩
      have key : (w.ext e).cell? a = none ∧ World.farLoad P (w.ext e) a (Mode.plain == Mode.atomic) = .ok (u, l) := by
        unfold World.farLoad at hf ⊢
        cases hb : w.heap[a.block]? with
        | none => rw [hb] at hf; simp at hf
        | some o =>
          have hlt := (Array.getElem?_eq_some_iff.1 hb).1
          refine ⟨by rw [World.ext_cell w e a hlt]; exact hc, ?_⟩
          rw [World.ext_heap w e a.block hlt, hb]
          rw [hb] at hf
          cases o <;> simp only at hf ⊢ <;> try (simp at hf; done)
          rename_i at_ u'
          have hseen : ∀ k at', (∃ r, World.seen P w at_ u' k at' = .ok r) → World.seen P (w.ext e) at_ u' k at' = World.seen P w at_ u' k at' := by
            intro k at' ⟨r, hr⟩
            cases hv : w.heap[at_.block]? with
            | none =>
              exfalso
              unfold World.seen at hr
              rw [hv] at hr
              revert hr
              repeat' (first | split | (intro hr; cases hr; done))
              all_goals (intro hr; first | contradiction | (simp at hr; done))
            | some o =>
              have hlt' := (Array.getElem?_eq_some_iff.1 hv).1
              unfold World.seen
              rw [World.ext_heap w e at_.block hlt', hv]
          unfold World.viewLoad at hf ⊢
          cases hs : World.seen P w at_ u' a (Mode.plain == Mode.atomic) with
          | error x => rw [hs] at hf; exact absurd hf (by intro h; cases h)
          | ok r => rw [hseen _ _ ⟨r, hs⟩]; exact hf
      simp only [Go.load, Sem.run, key.1, key.2]

theorem Sem.Rd.loadCellsFrom (a : Addr) : ∀ (n i : Nat) (acc : Array Value), (Go.loadCellsFrom a i n acc).Rd P
  | 0, _, _ => (Sem.Pu.pure _).rd
  | n + 1, _, _ => .bind (.load _) fun _ => Sem.Rd.loadCellsFrom a n _ _

theorem Sem.Rd.loadVar (t : TypeId) (a : Addr) : (Go.loadVar t a).Rd P := by
  unfold Go.loadVar
  refine .bind (Sem.Pu.isAgg t).rd fun b => ?_
  split
  · exact .bind (Sem.Pu.sizeOf t).rd fun n => .bind (Sem.Rd.loadCellsFrom a _ _ _) fun c => (Sem.Pu.pure _).rd
  · exact .load a

theorem Sem.Gr.newObj (o : Obj) : (Go.newObj o).Gr P := by
  intro w v w' hr
  simp only [Go.newObj, Sem.run] at hr
  injection hr with h1 h2
  subst h2
  exact ⟨(#[o], w.drawn), by simp [World.ext]⟩

theorem Sem.Gr.newRow (t : TypeId) (c : Array Value) : (Go.newRow t c).Gr P := .bind (.newObj _) fun _ => (Sem.Pu.pure _).rd.gr
theorem Sem.Gr.newVar (t : TypeId) (v : Value) : (Go.newVar t v).Gr P := .newRow _ _

theorem Sem.Rd.ite {c : Prop} [Decidable c] {s t : Sem α} (hs : s.Rd P) (ht : t.Rd P) : (if c then s else t).Rd P := by split <;> assumption

/-! ### Operations -/
variable {ρ : Operand → Value}

/-- .. and what it yields is a value. -/
def Sem.PuN (P : Program) (s : Sem Next) : Prop := ∀ w n w', s.run P w = .ok n w' → (∃ v, n = .value v) ∧ w' = w ∧ ∀ w2, s.run P w2 = .ok n w2
def Sem.RdN (P : Program) (s : Sem Next) : Prop := ∀ w n w', s.run P w = .ok n w' → (∃ v, n = .value v) ∧ w' = w ∧ ∀ e, s.run P (w.ext e) = .ok n (w.ext e)
def Sem.GrN (P : Program) (s : Sem Next) : Prop := ∀ w n w', s.run P w = .ok n w' → (∃ v, n = .value v) ∧ ∃ x, w' = w.ext x

theorem isval_v {s : Sem Value} {w : World} {n : Next} {w' : World} (hr : (do Pure.pure (Next.value (← s)) : Sem Next).run P w = .ok n w') : ∃ v, n = .value v := by
  rw [Sem.run_bind, andThen_ok_iff] at hr
  obtain ⟨a, w1, _, h2⟩ := hr
  rw [Sem.run_pure] at h2
  injection h2 with h3 h4
  exact ⟨a, h3.symm⟩

theorem pu_value (v : Value) : (Pure.pure (Next.value v) : Sem Next).PuN P := fun w n w' hr => ⟨by rw [Sem.run_pure] at hr; injection hr with h1 h2; exact ⟨v, h1.symm⟩, Sem.Pu.pure _ w n w' hr⟩
theorem pu_v {s : Sem Value} (h : s.Pu P) : (do Pure.pure (Next.value (← s)) : Sem Next).PuN P := fun w n w' hr => ⟨isval_v hr, Sem.Pu.bind h (fun _ => .pure _) w n w' hr⟩
theorem rd_v {s : Sem Value} (h : s.Rd P) : (do Pure.pure (Next.value (← s)) : Sem Next).RdN P := fun w n w' hr => ⟨isval_v hr, Sem.Rd.bind h (fun _ => (Sem.Pu.pure _).rd) w n w' hr⟩
theorem gr_v {s : Sem Value} (h : s.Gr P) : (do Pure.pure (Next.value (← s)) : Sem Next).GrN P := fun w n w' hr => ⟨isval_v hr, Sem.Gr.bind h (fun _ => (Sem.Pu.pure _).rd.gr) w n w' hr⟩

variable {o : Oper}

theorem pu_move {x : Operand} (h : o.op = .move x) : (execOp ρ o).PuN P := by unfold execOp; rw [h]; exact pu_value _
theorem pu_assign {x : Operand} (h : o.op = .assign x) : (execOp ρ o).PuN P := by unfold execOp; rw [h]; exact pu_value _
theorem pu_nilCheck {x : Operand} {a : Option Addr} (h : o.op = .nilCheck x) (hx : ρ x = .pointer a) : (execOp ρ o).PuN P := by
  unfold execOp; rw [h]; simp only [hx]
  cases a with
  | none => intro w n w' hr; exact absurd hr (runtimePanic_never _ _ _ _)
  | some a => exact pu_value _

theorem pu_intArith (op : BinOp) (k : IntKind) (x y : Int) : (Op.intArith op k x y).Pu P := by
  unfold Op.intArith; split <;> first | exact .pure _ | exact .halt _
theorem pu_intDiv (op : BinOp) (k : IntKind) (x y : Int) : (Op.intDiv op k x y).Pu P := by
  unfold Op.intDiv; split
  · exact .panic _
  · split <;> first | exact .pure _ | exact .halt _
theorem pu_intBits (op : BinOp) (k : IntKind) (x y : Int) : (Op.intBits op k x y).Pu P := by
  unfold Op.intBits; simp only []; split <;> first | exact .pure _ | exact .halt _
theorem pu_intCmp (op : BinOp) (x y : Int) : (Op.intCmp op x y).Pu P := by
  unfold Op.intCmp; split <;> first | exact .pure _ | exact .halt _
theorem pu_shift (op : BinOp) (k : IntKind) (x : Int) (yk : IntKind) (y : Int) : (Op.shift op k x yk y).Pu P := by
  unfold Op.shift; split
  · exact .panic _
  · simp only []; split <;> first | exact .pure _ | exact .halt _
theorem pu_stringOp (op : BinOp) (x y : ByteArray) : (Op.stringOp op x y).Pu P := by
  unfold Op.stringOp; simp only []; split <;> first | exact .pure _ | exact .halt _ | (split <;> first | exact .pure _ | exact .halt _)

theorem pu_binInt {op : BinOp} {t t' : TypeId} {x y : Operand} {k k' : IntKind} {m n : Int} (h : o.op = .binOp op t x y t') (hx : ρ x = .int k m) (hy : ρ y = .int k' n) : (execOp ρ o).PuN P := by
  unfold execOp; rw [h]; simp only [hx, hy]
  refine pu_v (.bind ?_ fun _ => ?_)
  · unfold eqGuard; split <;> exact .pure _
  · cases op <;> simp only [binOp] <;> first
      | exact pu_shift _ _ _ _ _
      | (split <;> first | exact .halt _ | exact pu_intArith _ _ _ _ | exact pu_intDiv _ _ _ _ | exact pu_intBits _ _ _ _ | exact pu_intCmp _ _ _)

theorem pu_binStr {op : BinOp} {t t' : TypeId} {x y : Operand} {m n : ByteArray} (h : o.op = .binOp op t x y t') (hx : ρ x = .string m) (hy : ρ y = .string n) : (execOp ρ o).PuN P := by
  unfold execOp; rw [h]; simp only [hx, hy]
  refine pu_v (.bind ?_ fun _ => ?_)
  · unfold eqGuard; split <;> exact .pure _
  · cases op <;> simp only [binOp] <;> exact pu_stringOp _ _ _

theorem pu_unary (op : UnOp) (x : Value) : (Op.unary op x).Pu P := by
  unfold Op.unary; split <;> first | exact .pure _ | exact .halt _ | exact pu_intArith _ _ _ _ | exact pu_intBits _ _ _ _
theorem pu_unOp {op : UnOp} {t : TypeId} {x : Operand} (h : o.op = .unOp op t x) : (execOp ρ o).PuN P := by
  unfold execOp; rw [h]; exact pu_v (pu_unary _ _)

theorem pu_convInt {s d : TypeId} {x : Operand} {k k' : IntKind} {n : Int} (h : o.op = .convert s d x) (hx : ρ x = .int k n) (hd : P.underlying d = some (.int k')) : (execOp ρ o).PuN P := by
  unfold execOp; rw [h]; simp only [hx]
  refine pu_v ?_
  intro w v w' hr
  unfold convert at hr ⊢
  simp only [Sem.run_bind, run_underlying hd] at hr ⊢
  cases hs : P.underlying s with
  | none =>
    exfalso
    rw [andThen_ok_iff] at hr
    obtain ⟨a, w1, h1, _⟩ := hr
    simp [Go.underlying, Go.program, Sem.run_bind, Sem.run, Result.andThen, hs, stuck] at h1
  | some e =>
    simp only [run_underlying hs, Result.andThen_ok, Conv.intToInt, Sem.run_pure, Result.ok.injEq] at hr ⊢
    obtain ⟨rfl, rfl⟩ := hr
    exact ⟨rfl, fun _ => by simp⟩

theorem rd_load {t : TypeId} {x : Operand} (h : o.op = .load t x) : (execOp ρ o).RdN P := by
  unfold execOp; rw [h]
  refine rd_v (Sem.Rd.bind ?_ fun a => .loadVar _ _)
  unfold Instr.sureAddr
  split <;> first | exact (Sem.Pu.pure _).rd | exact (Sem.Pu.halt _).rd

/-- A field's place: of a type that is told, at a field that has a cell. -/
theorem pu_field {s : TypeId} {x : Operand} {f : Nat} {fs : Array Field} {fd : Field} {i : TypeInfo} (h : o.op = .fieldAddr s x f) (hs : P.underlying s = some (.struct fs)) (hf : fs[f]? = some fd) (hi : P.info? fd.type = some i) (hz : i.size ≠ 0) : (execOp ρ o).PuN P := by
  unfold execOp; rw [h]
  refine pu_v ?_
  intro w v w' hr
  unfold Instr.fieldAt at hr ⊢
  simp only [Sem.run_bind, run_underlying hs, Result.andThen_ok, hf] at hr ⊢
  revert hr
  unfold Instr.sureAddr
  split
  · intro hr
    simp only [Sem.run_bind, Sem.run_pure, Result.andThen_ok, fieldPlace, sizeOf, typeInfo, Go.program, Sem.run, hi, hz, if_false, Result.ok.injEq] at hr ⊢
    obtain ⟨rfl, rfl⟩ := hr
    exact ⟨rfl, fun _ => by simp⟩
  · intro hr; simp [stuck, Result.andThen] at hr

theorem pu_indexAddr {t e : TypeId} {x y : Operand} {a : Option Addr} {l c : Nat} {k : IntKind} {n : Int} {i : TypeInfo} (h : o.op = .indexAddr t x y) (hx : ρ x = .slice a l c) (hy : ρ y = .int k n) (ht : P.underlying t = some (.slice e)) (hi : P.info? e = some i) : (execOp ρ o).PuN P := by
  unfold execOp; rw [h]; simp only [hx, hy]
  refine pu_v ?_
  intro w v w' hr
  unfold Instr.indexAt at hr ⊢
  simp only [Sem.run_bind, run_underlying ht, asIntOf, Sem.run_pure, Result.andThen_ok] at hr ⊢
  cases a with
  | none => exact absurd hr (by simpa using bounds_never _ _ _ _ w v w')
  | some a =>
    simp only [] at hr ⊢
    by_cases hb : 0 ≤ n ∧ n < (l : Int)
    · simp only [hb, and_self, if_true, Sem.run_bind, sizeOf, typeInfo, Go.program, Sem.run, hi, Sem.run_pure, Result.andThen_ok, Result.ok.injEq] at hr ⊢
      obtain ⟨rfl, rfl⟩ := hr
      exact ⟨rfl, fun _ => by simp⟩
    · simp only [hb, if_false, Bool.and_false, Bool.false_eq_true] at hr
      exact absurd hr (bounds_never _ _ _ _ w v w')

theorem gr_alloc {t : TypeId} (h : o.op = .alloc t) : (execOp ρ o).GrN P := by
  unfold execOp; rw [h]
  refine gr_v ?_
  unfold Instr.alloc
  exact .bind (Sem.Pu.zeroValue t).rd.gr fun z => .bind (.newVar _ _) fun _ => (Sem.Pu.pure _).rd.gr
theorem gr_box {t : TypeId} {x : Operand} (h : o.op = .box t x) : (execOp ρ o).GrN P := by
  unfold execOp; rw [h]
  exact gr_v (.bind (.newVar _ _) fun _ => (Sem.Pu.pure _).rd.gr)

theorem gr_buildSlice {t : TypeId} {n : Nat} {ps : Array (Nat × Operand)} (h : o.op = .buildSlice t n ps) : (execOp ρ o).GrN P := by
  unfold execOp; rw [h]
  refine gr_v ?_
  unfold Instr.buildSlice
  refine .bind (Sem.Pu.underlying t).rd.gr fun d => ?_
  split
  · rename_i e
    refine .bind (Sem.Pu.sizeOf e).rd.gr fun s => ?_
    have key : ∀ (zero : Array Value), Sem.Gr P (match Instr.fill (fun i => some (i * s, s)) ((Array.range (n * s)).map (zero[· % zero.size]!)) (ps.map fun (i, x) => (i, ρ x)).toList with
        | some cells => do pure (.slice (some (← newRow e cells)) n n)
        | _ => stuck "buildSlice: a part of the wrong size" : Sem Value) := by
      intro zero
      split
      · exact .bind (.newRow _ _) fun _ => (Sem.Pu.pure _).rd.gr
      · exact (Sem.Pu.halt _).rd.gr
    have key2 : Sem.Gr P (if n * s = 0 then (do let zero ← pure #[]; (match Instr.fill (fun i => some (i * s, s)) ((Array.range (n * s)).map (zero[· % zero.size]!)) (ps.map fun (i, x) => (i, ρ x)).toList with
        | some cells => do pure (.slice (some (← newRow e cells)) n n)
        | _ => stuck "buildSlice: a part of the wrong size" : Sem Value)) else (do let z ← zeroValue e; let zero ← pure z.cells; (match Instr.fill (fun i => some (i * s, s)) ((Array.range (n * s)).map (zero[· % zero.size]!)) (ps.map fun (i, x) => (i, ρ x)).toList with
        | some cells => do pure (.slice (some (← newRow e cells)) n n)
        | _ => stuck "buildSlice: a part of the wrong size" : Sem Value))) := by
      split
      · exact .bind (Sem.Pu.pure _).rd.gr key
      · exact .bind (Sem.Pu.zeroValue _).rd.gr fun _ => .bind (Sem.Pu.pure _).rd.gr key
    simp only []
    split
    · exact .bind (Sem.Pu.halt _).rd.gr fun _ => key2
    · exact key2
  · exact (Sem.Pu.halt _).rd.gr

/-! ### The same, what is asked of the tables as one closed Bool -/

def Program.intB (P : Program) (t : TypeId) : Bool := match P.underlying t with | some (.int _) => true | _ => false
def Program.fieldB (P : Program) (s : TypeId) (f : Nat) : Bool := match P.underlying s with
  | some (.struct fs) => (match fs[f]? with | some fd => (match P.info? fd.type with | some i => i.size != 0 | none => false) | none => false)
  | _ => false
def Program.sliceB (P : Program) (t : TypeId) : Bool := match P.underlying t with | some (.slice e) => (P.info? e).isSome | _ => false

theorem pu_conv {s d : TypeId} {x : Operand} {k : IntKind} {n : Int} (h : o.op = .convert s d x) (hx : ρ x = .int k n) (hd : P.intB d = true) : (execOp ρ o).PuN P := by
  unfold Program.intB at hd
  split at hd
  · rename_i hu; exact pu_convInt h hx hu
  · cases hd

theorem pu_fld {s : TypeId} {x : Operand} {f : Nat} (h : o.op = .fieldAddr s x f) (hd : P.fieldB s f = true) : (execOp ρ o).PuN P := by
  unfold Program.fieldB at hd
  split at hd
  · rename_i hu
    split at hd
    · rename_i hf
      split at hd
      · rename_i hi; exact pu_field h hu hf hi (by simpa using hd)
      · cases hd
    · cases hd
  · cases hd

theorem pu_ix {t : TypeId} {x y : Operand} {a : Option Addr} {l c : Nat} {k : IntKind} {n : Int} (h : o.op = .indexAddr t x y) (hx : ρ x = .slice a l c) (hy : ρ y = .int k n) (hd : P.sliceB t = true) : (execOp ρ o).PuN P := by
  unfold Program.sliceB at hd
  split at hd
  · rename_i hu
    obtain ⟨i, hi⟩ := Option.isSome_iff_exists.1 hd
    exact pu_indexAddr h hx hy hu hi
  · cases hd

theorem pu_len_ (ts : Array TypeId) (ty : TypeId) {x : Value} (hx : (∃ a l c, x = .slice a l c) ∨ ∃ s, x = .string s) : (Builtin.len_ ts ty #[x]).Pu P := by
  unfold Builtin.len_
  simp only [List.getElem?_toArray, List.getElem?_cons_zero]
  cases ts[0]? with
  | none => exact .halt _
  | some t =>
    simp only []
    refine .bind (.underlying t) fun d => ?_
    rcases hx with ⟨a, l, c, rfl⟩ | ⟨s, rfl⟩
    · cases d <;> simp only [] <;> first | exact .pure _ | exact .halt _ | (refine .bind (.underlying _) fun d => ?_; split <;> first | exact .pure _ | exact .halt _)
    · cases d <;> simp only [] <;> first | exact .pure _ | exact .halt _ | (refine .bind (.underlying _) fun d => ?_; split <;> first | exact .pure _ | exact .halt _)

theorem pu_len {x : Operand} {ts : Array TypeId} {a : Option Addr} {l c : Nat} (h : o.op = .call { callee := .builtin .len, args := #[x], argTypes := ts }) (hx : ρ x = .slice a l c) : (execOp ρ o).PuN P := by
  have e : execOp ρ o = (do pure (Next.value (← Builtin.len_ ts o.type #[ρ x]))) := by
    obtain ⟨dst, op, ty, pos, after, guard⟩ := o
    simp only at h
    subst h
    rw [BigFrame.execOp_builtin, BigFrame.builtin_len]
    simp
  rw [e]
  exact pu_v (pu_len_ ts o.type (.inl ⟨a, l, c, hx⟩))

theorem pu_lens {x : Operand} {ts : Array TypeId} {s : ByteArray} (h : o.op = .call { callee := .builtin .len, args := #[x], argTypes := ts }) (hx : ρ x = .string s) : (execOp ρ o).PuN P := by
  have e : execOp ρ o = (do pure (Next.value (← Builtin.len_ ts o.type #[ρ x]))) := by
    obtain ⟨dst, op, ty, pos, after, guard⟩ := o
    simp only at h
    subst h
    rw [BigFrame.execOp_builtin, BigFrame.builtin_len]
    simp
  rw [e]
  exact pu_v (pu_len_ ts o.type (.inr ⟨s, hx⟩))

theorem pu_pick {c x y : Operand} (h : o.op = .pick c x y) : (execOp ρ o).PuN P := by
  unfold execOp; rw [h]
  have e : (do pure (Next.value (if ← asBool (ρ c) then ρ x else ρ y)) : Sem Next) = (do pure (Next.value (← (do pure (if ← asBool (ρ c) then ρ x else ρ y) : Sem Value)))) := by
    unfold asBool
    split <;> rfl
  show Sem.PuN P (do pure (Next.value (if ← asBool (ρ c) then ρ x else ρ y)) : Sem Next)
  rw [e]
  refine pu_v (.bind ?_ fun _ => .pure _)
  unfold asBool
  split <;> first | exact .pure _ | exact .halt _

theorem pu_bound (x : Value) (y : Nat) (c : BoundsCode) : (Instr.sliceBound x y c).Pu P := by
  unfold Instr.sliceBound
  refine .bind ?_ fun ki => ?_
  · unfold asIntOf; split <;> first | exact .pure _ | exact .halt _
  · simp only []
    split
    · exact .pure _
    · exact .bounds _ _ _ _

theorem pu_bounds (b : Bool) (n c : Nat) (lo hi mx : Option Value) : (Instr.sliceBounds b n c lo hi mx).Pu P := by
  unfold Instr.sliceBounds
  simp only []
  cases mx <;> cases hi <;> cases lo <;> simp only [] <;>
    refine .bind (by first | exact pu_bound _ _ _ | exact .pure _ | exact .halt _) fun m => .bind (by first | exact pu_bound _ _ _ | exact .pure _ | exact .halt _) fun h => .bind (by first | exact pu_bound _ _ _ | exact .pure _ | exact .halt _) fun l => .pure _

theorem pu_sliceOf (t : TypeId) (a : Option Addr) (l c : Nat) (lo hi mx : Option Value) : (Instr.slice t (.slice a l c) lo hi mx).Pu P := by
  unfold Instr.slice
  refine .bind (.underlying t) fun d => ?_
  cases d <;> simp only [] <;> first
    | exact .halt _
    | exact .bind (pu_bounds _ _ _ _ _ _) fun _ => .bind (.sizeOf _) fun _ => .pure _
    | exact .bind (.halt _) fun _ => .bind (.underlying _) fun d => by split <;> first | exact .halt _ | exact .bind (pu_bounds _ _ _ _ _ _) fun _ => .bind (.sizeOf _) fun _ => .pure _

theorem pu_slice {t : TypeId} {x : Operand} {lo hi mx : Option Operand} {a : Option Addr} {l c : Nat} (h : o.op = .slice t x lo hi mx) (hx : ρ x = .slice a l c) : (execOp ρ o).PuN P := by
  unfold execOp; rw [h]; simp only [hx]
  refine pu_v ?_
  unfold Instr.sliceAt
  refine .bind (.underlying t) fun d => ?_
  split
  · exact .bind (.halt _) fun _ => .bind (pu_bounds _ _ _ _ _ _) fun _ => .bind (.sizeOf _) fun _ => .pure _
  · exact pu_sliceOf _ _ _ _ _ _ _

/-! ### What the walk in our order asks -/
section
variable {ops : Array Oper} {Q : Exit → Act → World → Prop} {I : World → Prop} {kds : Nat → Kd} {i : Nat} {rest : List Nat} {a : Act} {w : World}

/-- The walk of one operation as the kit's walk has it; its sort from the laws above. -/
theorem wpX_pu (hi : ops[i]? = some o) (hg : Region.wanted o (yielded ops a.tmps) = true) (hk : kds i = .p) (hp : (execOp a.eval o).PuN P)
    (h : ∀ K : Act → World → Prop, (∀ a w, wpX P ops Q I kds rest a w → K a w) → o.wp P a w K (NoPanic Q)) : wpX P ops Q I kds (i :: rest) a w := by
  refine wpX_step hi hg fun K hK => ?_
  rw [hk]
  have h1 := h K hK
  unfold Oper.wp at h1
  cases hr : (execOp a.eval o).run P w with
  | ok n w' =>
    rw [hr] at h1
    obtain ⟨⟨v, rfl⟩, rfl, h3⟩ := hp _ _ _ hr
    refine ⟨v, fun w2 => ?_, h1⟩
    unfold Oper.val
    rw [h3 w2]
    exact ⟨rfl, rfl⟩
  | halt x w' =>
    rw [hr] at h1
    cases x <;> simp only [Oper.upon] at h1
    exact h1.elim

theorem wpX_rd (hi : ops[i]? = some o) (hg : Region.wanted o (yielded ops a.tmps) = true) (hk : kds i = .l) (hp : (execOp a.eval o).RdN P)
    (h : ∀ K : Act → World → Prop, (∀ a w, wpX P ops Q I kds rest a w → K a w) → o.wp P a w K (NoPanic Q)) : wpX P ops Q I kds (i :: rest) a w := by
  refine wpX_step hi hg fun K hK => ?_
  rw [hk]
  have h1 := h K hK
  unfold Oper.wp at h1
  cases hr : (execOp a.eval o).run P w with
  | ok n w' =>
    rw [hr] at h1
    obtain ⟨⟨v, rfl⟩, rfl, h3⟩ := hp _ _ _ hr
    refine ⟨v, fun e => ?_, h1⟩
    unfold Oper.val
    rw [h3 e]
    exact ⟨rfl, rfl⟩
  | halt x w' =>
    rw [hr] at h1
    cases x <;> simp only [Oper.upon] at h1
    exact h1.elim

theorem wpX_gr (hi : ops[i]? = some o) (hg : Region.wanted o (yielded ops a.tmps) = true) (hk : kds i = .g) (hp : (execOp a.eval o).GrN P)
    (h : ∀ K : Act → World → Prop, (∀ a w, wpX P ops Q anyW kds rest a w → K a w) → o.wp P a w K (NoPanic Q)) : wpX P ops Q anyW kds (i :: rest) a w := by
  refine wpX_step hi hg fun K hK => ?_
  rw [hk]
  have h1 := h K hK
  unfold Oper.wp at h1
  show o.wp P a w _ _
  unfold Oper.wp
  cases hr : (execOp a.eval o).run P w with
  | ok n w' =>
    rw [hr] at h1
    obtain ⟨⟨v, rfl⟩, h3⟩ := hp _ _ _ hr
    exact ⟨h3, True.intro, h1⟩
  | halt x w' =>
    rw [hr] at h1
    cases x <;> simp only [Oper.upon] at h1 ⊢
    exact h1

theorem wpX_ex (hi : ops[i]? = some o) (hg : Region.wanted o (yielded ops a.tmps) = true) (hk : kds i = .e)
    (h : ∀ K : Act → World → Prop, (∀ a w, wpX P ops Q anyW kds rest a w → K a w) → o.wp P a w K (NoPanic Q)) : wpX P ops Q anyW kds (i :: rest) a w := by
  refine wpX_step hi hg fun K hK => ?_
  rw [hk]
  exact Oper.wp_mono (fun a w h => ⟨True.intro, h⟩) (h K hK)

/-- .. that keeps the region's invariant. -/
theorem wpX_es (hi : ops[i]? = some o) (hg : Region.wanted o (yielded ops a.tmps) = true) (hk : kds i = .e)
    (h : ∀ K : Act → World → Prop, (∀ a w, I w → wpX P ops Q I kds rest a w → K a w) → o.wp P a w K (NoPanic Q)) : wpX P ops Q I kds (i :: rest) a w := by
  refine wpX_step hi hg fun K hK => ?_
  rw [hk]
  exact h _ (fun a w hI hx => ⟨hI, hK _ _ hx⟩)

/-- It reads what the invariant tells. -/
theorem wpX_md (v : Value) {d : Nat} (hi : ops[i]? = some o) (hg : Region.wanted o (yielded ops a.tmps) = true) (hk : kds i = .m) (hp : (execOp a.eval o).RdN P) (hd : o.dst = some d) (hs : d < a.tmps.size)
    (hv : ∀ w', I w' → o.wp P a w' (fun a' w'' => a' = a.put o.dst v ∧ w'' = w') (NoPanic Q))
    (h : wpX P ops Q I kds rest (a.put o.dst v) w) : wpX P ops Q I kds (i :: rest) a w := by
  refine wpX_step hi hg fun K hK => ?_
  rw [hk]
  refine ⟨v, fun w' hI => ?_, hK _ _ h⟩
  have h1 := hv w' hI
  unfold Oper.wp at h1
  unfold Oper.val
  cases hr : (execOp a.eval o).run P w' with
  | ok n w'' =>
    rw [hr] at h1
    obtain ⟨⟨u, rfl⟩, rfl, h3⟩ := hp _ _ _ hr
    refine ⟨rfl, ?_⟩
    have h2 := congrArg (fun a : Act => a.tmps[d]?) h1.1
    simp only [hd, Act.put, Array.getElem?_setIfInBounds_self_of_lt hs] at h2
    exact Option.some.inj h2
  | halt x w'' =>
    rw [hr] at h1
    cases x <;> simp only [Oper.upon] at h1
    exact h1.elim

/-- A call that turns nothing of what was there. -/
theorem wpX_ca (hi : ops[i]? = some o) (hg : Region.wanted o (yielded ops a.tmps) = true) (hk : kds i = .g)
    (h : ∀ K : Act → World → Prop, (∀ a w, wpX P ops Q anyW kds rest a w → K a w) → o.wp P a w (fun a' w' => (∃ e, w' = w.ext e) ∧ K a' w') (NoPanic Q)) : wpX P ops Q anyW kds (i :: rest) a w := by
  refine wpX_step hi hg fun K hK => ?_
  rw [hk]
  exact Oper.wp_mono (fun a w h => ⟨h.1, True.intro, h.2⟩) (h K hK)

/-- What hangs on an answer and is not wanted. -/
theorem wpX_un (hi : ops[i]? = some o) (hw : Region.wanted o (yielded ops a.tmps) = false) (h : wpX P ops Q I kds rest (a.put o.dst undef) w) : wpX P ops Q I kds (i :: rest) a w := by
  refine wpX_guard hi fun K hK => ?_
  simp only [hw, Bool.false_eq_true, if_false]
  exact hK _ _ h
end
end
end Go
