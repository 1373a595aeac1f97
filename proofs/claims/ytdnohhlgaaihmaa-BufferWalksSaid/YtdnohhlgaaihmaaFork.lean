/- A region that draws its order, walked in ours, where two operations may come in either order: both ways are walked. Conditions: a closed check of the region's edges. -/
import Derived.Test.YtdnohhlgaaihmaaSort
namespace Go

/-- An order with forks: behind the operations of l the ways s and t part, each begins with its own operation. -/
inductive BT where
  | lin (l : List Nat)
  | fork (l : List Nat) (s t : BT)

/-- Q, but at the normal end E. -/
def atEnd (Q : Exit → Act → World → Prop) (E : Act → World → Prop) : Exit → Act → World → Prop
  | .normal, a, w => E a w
  | x, a, w => Q x a w

section
variable {P : Program} {ops : Array Oper} {Q : Exit → Act → World → Prop} {I : World → Prop} {kds : Nat → Kd} {md : Region.Mode}

def wpB (P : Program) (ops : Array Oper) (Q : Exit → Act → World → Prop) (I : World → Prop) (kds : Nat → Kd) : BT → Act → World → Prop
  | .lin l, a, w => wpX P ops Q I kds l a w
  | .fork l s t, a, w => wpX P ops (atEnd Q fun a w => wpB P ops Q I kds s a w ∧ wpB P ops Q I kds t a w) I kds l a w

theorem Oper.wp_exit {o : Oper} {a : Act} {w : World} {K : Act → World → Prop} {E : Act → World → Prop} (h : o.wp P a w K (NoPanic (atEnd Q E))) : o.wp P a w K (NoPanic Q) := by
  unfold Oper.wp at *
  generalize (execOp a.eval o).run P w = r at *
  unfold Oper.upon at *
  split at h
  · exact h
  · exact h
  · exact h
  · refine Calls.mono h ?_
    rintro e w' hh
    cases e with
    | returned v => exact hh
    | panicked c => exact (hh : False).elim
    | outgrown => exact hh
  · exact h
  · exact h
  · exact h

theorem kdOp_exit {kd : Kd} {o : Oper} {a : Act} {w : World} {K : Act → World → Prop} {E : Act → World → Prop} (hh : kdOp P (atEnd Q E) I kd o a w K) : kdOp P Q I kd o a w K := by
  cases kd with
  | p => exact hh
  | l => exact hh
  | m => exact hh
  | g => exact Oper.wp_exit hh
  | e => exact Oper.wp_exit hh

theorem xOp_exit {i : Nat} {a : Act} {w : World} {K : Act → World → Prop} {E : Act → World → Prop} (hh : xOp P ops (atEnd Q E) I kds i K a w) : xOp P ops Q I kds i K a w := by
  unfold xOp at *
  split
  · rename_i ho; simp only [ho] at hh; exact hh
  · rename_i o ho
    simp only [ho] at hh
    split
    · rename_i hw; simp only [hw, if_true] at hh; exact kdOp_exit hh
    · rename_i hw; simp only [hw] at hh; exact hh

def Region.stepB (wt : Nat → Nat → Bool) (md : Region.Mode) (ops : Array Oper) (kds : Nat → Kd) (i : Nat) (listed : Array Bool) : Bool :=
  match kds i with
  | .p | .l | .m => (Region.ready md ops listed).contains i && Region.freeX wt ops kds listed i
  | .g | .e => Region.ready md ops listed == [i]

/-- The check of the operations ahead of a fork: what is listed then. -/
def Region.ordPre (wt : Nat → Nat → Bool) (md : Region.Mode) (ops : Array Oper) (kds : Nat → Kd) : List Nat → Array Bool → Option (Array Bool)
  | [], listed => some listed
  | i :: rest, listed =>
    if Region.stepB wt md ops kds i listed = true then Region.ordPre wt md ops kds rest (listed.setIfInBounds i true) else none

def BT.head : BT → List Nat
  | .lin l => l
  | .fork l _ _ => l
def BT.tail : BT → BT
  | .lin l => .lin l.tail
  | .fork l s t => .fork l.tail s t

/-- The closed check of an order with forks (n: how many operations are left). -/
def Region.chkB (wt : Nat → Nat → Bool) (md : Region.Mode) (ops : Array Oper) (kds : Nat → Kd) : Nat → BT → Nat → Array Bool → Bool
  | _, .lin l, n, listed => l.length == n && Region.ordFrom wt md ops kds l listed
  | 0, .fork _ _ _, _, _ => false
  | fuel + 1, .fork l s t, n, listed =>
    match Region.ordPre wt md ops kds l listed with
    | none => false
    | some li =>
      match s.head, t.head with
      | i :: _, j :: _ => decide (l.length + 1 ≤ n) && !(Region.ready md ops li).isEmpty && (Region.ready md ops li).all (fun k => k == i || k == j) &&
          ((Region.ready md ops li).contains i && Region.chkB wt md ops kds fuel s.tail (n - l.length - 1) (li.setIfInBounds i true)) &&
          ((Region.ready md ops li).contains j && Region.chkB wt md ops kds fuel t.tail (n - l.length - 1) (li.setIfInBounds j true))
      | _, _ => false

theorem wpX_nil {a : Act} {w : World} : wpX P ops Q I kds [] a w ↔ Q .normal a w := by with_unfolding_all exact Iff.rfl
theorem wpX_cons {i : Nat} {r : List Nat} {a : Act} {w : World} : wpX P ops Q I kds (i :: r) a w ↔ xOp P ops Q I kds i (wpX P ops Q I kds r) a w := by with_unfolding_all exact Iff.rfl

theorem wpAnyX_pre {wt : Nat → Nat → Bool} {E : Act → World → Prop} (hwt : ∀ j i, wt j i = true → Region.Anc md ops j i) (hs : Region.noSelect ops = true) (m : Nat) (li : Array Bool) :
    ∀ (ord : List Nat) (listed : Array Bool) (a : Act) (w : World), I w → Region.Closed md ops listed →
    Region.ordPre wt md ops kds ord listed = some li → (Region.Closed md ops li → ∀ a w, I w → E a w → wpAnyX P md ops Q I kds m li a w) → wpX P ops (atEnd Q E) I kds ord a w → wpAnyX P md ops Q I kds (m + ord.length) listed a w
  | [], listed, a, w, hI, hc, hB, hE, h => by
    obtain rfl : listed = li := by simpa [Region.ordPre] using hB
    exact hE hc a w hI (wpX_nil.1 h)
  | i :: rest, listed, a, w, hI, hc, hB, hE, h => by
    unfold Region.ordPre at hB
    split at hB
    case isFalse => cases hB
    rename_i hB1
    have h : xOp P ops Q I kds i (wpX P ops (atEnd Q E) I kds rest) a w := xOp_exit (wpX_cons.1 h)
    have main : ∀ kd : Kd, kds i = kd → (kd = .p ∨ kd = .l ∨ kd = .m) → (Region.ready md ops listed).contains i = true → Region.freeX wt ops kds listed i = true → wpAnyX P md ops Q I kds (m + rest.length + 1) listed a w := by
      intro kd hk hm hr hf
      have hr' : i ∈ Region.ready md ops listed := by simpa using hr
      obtain ⟨_, oi, hoi, _⟩ := mem_ready.1 hr'
      obtain ⟨v, hy, hK⟩ := yieldsX_of_xOp hoi hk hm h
      exact wpAnyX_first hwt hoi (Region.noSelect_spec hs) hk (m + rest.length) listed a w hI hc (Region.freeX_spec hoi hk hf) hr' hy
        (wpAnyX_pre hwt hs m li rest _ _ _ hI (hc.set hr') hB hE hK)
    have lone : Region.ready md ops listed = [i] → wpAnyX P md ops Q I kds (m + rest.length + 1) listed a w := by
      intro hr
      have hr' : i ∈ Region.ready md ops listed := by rw [hr]; simp
      refine ⟨fun h0 => (by rw [hr] at h0; cases h0), fun j hj => ?_⟩
      rw [hr] at hj
      obtain rfl : j = i := by simpa using hj
      exact xOp_mono (fun a w hI hK => wpAnyX_pre hwt hs m li rest _ a w hI (hc.set hr') hB hE hK) hI h
    unfold Region.stepB at hB1
    cases hk : kds i <;> simp only [hk] at hB1
    case p => simp only [Bool.and_eq_true] at hB1; exact main _ hk (by simp) hB1.1 hB1.2
    case l => simp only [Bool.and_eq_true] at hB1; exact main _ hk (by simp) hB1.1 hB1.2
    case m => simp only [Bool.and_eq_true] at hB1; exact main _ hk (by simp) hB1.1 hB1.2
    case g => exact lone (by simpa using hB1)
    case e => exact lone (by simpa using hB1)

theorem wpB_first {i : Nat} {r : List Nat} {s : BT} (hs : s.head = i :: r) {a : Act} {w : World} (h : wpB P ops Q I kds s a w) : xOp P ops Q I kds i (wpB P ops Q I kds s.tail) a w := by
  cases s with
  | lin l =>
    simp only [BT.head] at hs
    subst hs
    exact wpX_cons.1 h
  | fork l s t =>
    simp only [BT.head] at hs
    subst hs
    exact xOp_exit (wpX_cons.1 h)

theorem wpAnyX_B {wt : Nat → Nat → Bool} (hwt : ∀ j i, wt j i = true → Region.Anc md ops j i) (hs : Region.noSelect ops = true) :
    ∀ (fuel : Nat) (b : BT) (n : Nat) (listed : Array Bool) (a : Act) (w : World), I w → Region.Closed md ops listed → Region.chkB wt md ops kds fuel b n listed = true → wpB P ops Q I kds b a w → wpAnyX P md ops Q I kds n listed a w
  | fuel, .lin l, n, listed, a, w, hI, hc, hB, h => by
    unfold Region.chkB at hB
    simp only [Bool.and_eq_true, beq_iff_eq] at hB
    rw [← hB.1]
    exact wpAnyX_ord hwt hs l listed a w hI hc hB.2 h
  | 0, .fork l s t, n, listed, a, w, hI, hc, hB, h => by simp [Region.chkB] at hB
  | fuel + 1, .fork l s t, n, listed, a, w, hI, hc, hB, h => by
    unfold Region.chkB at hB
    split at hB
    · cases hB
    rename_i li hp
    split at hB
    case h_2 => cases hB
    rename_i i ri j rj hsi htj
    simp only [Bool.and_eq_true, decide_eq_true_eq, List.all_eq_true, Bool.or_eq_true, beq_iff_eq, Bool.not_eq_true', List.isEmpty_eq_false_iff] at hB
    obtain ⟨⟨⟨⟨hn, hne⟩, hall⟩, hi, hB1⟩, hj, hB2⟩ := hB
    have hi' : i ∈ Region.ready md ops li := by simpa using hi
    have hj' : j ∈ Region.ready md ops li := by simpa using hj
    have e : n = (n - l.length - 1 + 1) + l.length := by omega
    rw [e]
    refine wpAnyX_pre hwt hs (n - l.length - 1 + 1) li l listed a w hI hc hp ?_ h
    intro hcl a w hI hE
    refine ⟨fun h0 => (hne h0).elim, fun k hk => ?_⟩
    rcases hall k hk with rfl | rfl
    · exact xOp_mono (fun a w hI hK => wpAnyX_B hwt hs fuel s.tail _ _ a w hI (hcl.set hi') hB1 hK) hI (wpB_first hsi hE.1)
    · exact xOp_mono (fun a w hI hK => wpAnyX_B hwt hs fuel t.tail _ _ a w hI (hcl.set hj') hB2 hK) hI (wpB_first htj hE.2)

def Region.forkB (md : Region.Mode) (ops : Array Oper) (kds : Nat → Kd) (b : BT) : Bool :=
  Region.noSelect ops && Region.chkB (Region.wtOf (Region.masks md ops.toList [])) md ops kds 8 b ops.size (Array.replicate ops.size false)

/-- A region that draws its order is walked in ours, on each way of our forks. -/
theorem wp_region_fork {id : Nat} {a : Act} {w : World} (I : World → Prop) (b : BT) (kds : Nat → Kd) (hm : P.follows .mixedOrders = true) (hB : Region.forkB .any ops kds b = true)
    (hI : I w.drew) (h : wpB P ops Q I kds b a w.drew) : (Code.region id ops true).wp P Q a w := by
  simp only [Region.forkB, Bool.and_eq_true] at hB
  obtain ⟨h1, h3⟩ := hB
  refine wp_region_noPanic (wp_region_any hm (wpAny_of_X (I := I) (kds := kds) _ _ _ _ hI ?_))
  have hwt : ∀ j i, Region.wtOf (Region.masks .any ops.toList []) j i = true → Region.Anc .any ops j i :=
    Region.masks_spec ops.toList 0 [] (fun j => by simp) rfl (fun j i h => by simp at h)
  exact wpAnyX_B (P := P) (Q := Q) (kds := kds) hwt h1 8 b _ _ a w.drew hI (Region.closed_none _ _ _) h3 h

/-- An operation that answers the same in any world. -/
theorem wpX_pv {i : Nat} {rest : List Nat} {a : Act} {w : World} {o : Oper} (v : Value) (hi : ops[i]? = some o) (hg : Region.wanted o (yielded ops a.tmps) = true) (hk : kds i = .p)
    (hv : ∀ w', (execOp a.eval o).run P w' = .ok (.value v) w') (h : wpX P ops Q I kds rest (a.put o.dst v) w) : wpX P ops Q I kds (i :: rest) a w := by
  refine wpX_step hi hg fun K hK => ?_
  rw [hk]
  refine ⟨v, fun w' => ?_, hK _ _ h⟩
  unfold Oper.val
  rw [hv w']
  exact ⟨rfl, rfl⟩
theorem wpB_lin {l : List Nat} {a : Act} {w : World} (h : wpX P ops Q I kds l a w) : wpB P ops Q I kds (.lin l) a w := h
theorem wpB_fork {l : List Nat} {s t : BT} {a : Act} {w : World} (h : wpX P ops (atEnd Q fun a w => wpB P ops Q I kds s a w ∧ wpB P ops Q I kds t a w) I kds l a w) : wpB P ops Q I kds (.fork l s t) a w := h
theorem wpX_fork {E F : Act → World → Prop} {a : Act} {w : World} (h1 : E a w) (h2 : F a w) : wpX P ops (atEnd Q fun a w => E a w ∧ F a w) I kds [] a w := wpX_nil.2 ⟨h1, h2⟩
end
end Go
