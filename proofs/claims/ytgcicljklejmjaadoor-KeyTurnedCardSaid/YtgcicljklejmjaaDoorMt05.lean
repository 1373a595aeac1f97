import Derived.Test.YtgcicljklejmjaaDoorMt04
import Derived.Test.YtgcicljklejmjaaDoorMt02
import Derived.Lib.Bytealg
import Derived.Test.YtgcicljklejmjaaDoorMt03

/- Values of one's own: trees whose lists are rows of their own, none shared. -/
namespace Go.Proofs.YtgcicljklejmjaaDoor
open Go.RowKit
open Tr
namespace Tr
/-- The blocks of a value's lists, and of all below. -/
inductive Blk : Tr Mm → Nat → Prop
  | B (x : Tr Mm) (k : Nat) (h : x.B.ownBlock = some k) : Blk x k
  | L (x : Tr Mm) (k : Nat) (h : x.L.ownBlock = some k) : Blk x k
  | F (x : Tr Mm) (k : Nat) (h : x.F.ownBlock = some k) : Blk x k
  | kid (x y : Tr Mm) (k : Nat) (h : y ∈ x.kids) (hk : Blk y k) : Blk x k
theorem Blk.cases {x : Tr Mm} {k : Nat} (h : Blk x k) : x.B.ownBlock = some k ∨ x.L.ownBlock = some k ∨ x.F.ownBlock = some k ∨ ∃ y ∈ x.kids, Blk y k := by
  match h with
  | .B _ _ h => exact .inl h
  | .L _ _ h => exact .inr (.inl h)
  | .F _ _ h => exact .inr (.inr (.inl h))
  | .kid _ y _ h hk => exact .inr (.inr (.inr ⟨y, h, hk⟩))

/-- Nothing of a value's own lists is shared with one another, nor with those below. -/
structure Apart1 (x : Tr Mm) : Prop where
  bl : ∀ k, x.B.ownBlock = some k → x.L.ownBlock ≠ some k
  bf : ∀ k, x.B.ownBlock = some k → x.F.ownBlock ≠ some k
  lf : ∀ k, x.L.ownBlock = some k → x.F.ownBlock ≠ some k
  kid : ∀ y ∈ x.kids, ∀ k, Blk y k → x.B.ownBlock ≠ some k ∧ x.L.ownBlock ≠ some k ∧ x.F.ownBlock ≠ some k
  kids : x.kids.Pairwise fun y z => ∀ k, Blk y k → ¬ Blk z k

/-- A value whose lists are its own. -/
inductive Own (w : World) : Tr Mm → Prop
  | mk (x : Tr Mm) (B : Ow w 5 1 x.B x.bs.length (bvs x.bs)) (L : Ow w 33 7 x.L x.l.length (x.l.flatMap cells)) (F : Ow w 138 8 x.F x.f.length (x.f.flatMap fcells))
      (ap : Apart1 x) (kids : ∀ y ∈ x.kids, Own w y) : Own w x
theorem Own.B {w : World} {x : Tr Mm} : Own w x → Ow w 5 1 x.B x.bs.length (bvs x.bs) | .mk _ h _ _ _ _ => h
theorem Own.L {w : World} {x : Tr Mm} : Own w x → Ow w 33 7 x.L x.l.length (x.l.flatMap cells) | .mk _ _ h _ _ _ => h
theorem Own.F {w : World} {x : Tr Mm} : Own w x → Ow w 138 8 x.F x.f.length (x.f.flatMap fcells) | .mk _ _ _ h _ _ => h
theorem Own.ap {w : World} {x : Tr Mm} : Own w x → Apart1 x | .mk _ _ _ _ h _ => h
theorem Own.kids {w : World} {x : Tr Mm} : Own w x → ∀ y ∈ x.kids, Own w y | .mk _ _ _ _ _ h => h
theorem Own.lt {w : World} {x : Tr Mm} (h : Own w x) : ∀ k, Blk x k → k < w.heap.size := by
  induction x using Tr.ind with
  | h x ih =>
    intro k hk
    rcases hk.cases with hk | hk | hk | ⟨y, hy, hk⟩
    · exact h.B.lt k hk
    · exact h.L.lt k hk
    · exact h.F.lt k hk
    · exact ih y hy (h.kids y hy) k hk
theorem Own.kept {w w1 : World} {S : Nat → Prop} {x : Tr Mm} (h : Own w x) (f : Fr S w w1) (hS : ∀ k, Blk x k → ¬ S k) : Own w1 x := by
  induction x using Tr.ind with
  | h x ih =>
    exact ⟨x, h.B.kept f (fun k hk => hS k (.B x k hk)), h.L.kept f (fun k hk => hS k (.L x k hk)), h.F.kept f (fun k hk => hS k (.F x k hk)), h.ap, fun y hy => ih y hy (h.kids y hy) (fun k hk => hS k (.kid x y k hy hk))⟩
theorem Own.kept0 {w w1 : World} {x : Tr Mm} (h : Own w x) (f : Fr no w w1) : Own w1 x := h.kept f (fun _ _ h => h)

/-- A copy of a value that is as it should be is so too. -/
theorem Own.good {w w1 : World} {x y : Tr Mm} (h : Own w1 y) (hb : bare y = bare x) (hg : Good w x) : Good w1 y := by
  induction x using Tr.ind generalizing y with
  | h x ih =>
    have e1 : y.bs = x.bs := by rw [← bare_bs y, ← bare_bs x, hb]
    have e2 : y.t = x.t := by rw [← bare_t y, ← bare_t x, hb]
    have e3 : y.i = x.i := by rw [← bare_i y, ← bare_i x, hb]
    have e4 : y.l.map bare = x.l.map bare := by rw [← bare_l y, ← bare_l x, hb]
    have e5 : (y.f.map fun p => (p.1, bare p.2)) = x.f.map fun p => (p.1, bare p.2) := by rw [← bare_f y, ← bare_f x, hb]
    have l4 : y.l.length = x.l.length := by have := congrArg List.length e4; simpa using this
    have l5 : y.f.length = x.f.length := by have := congrArg List.length e5; simpa using this
    have n5 : y.f.map (·.1) = x.f.map (·.1) := by
      have := congrArg (List.map (·.1)) e5
      simpa [List.map_map, Function.comp_def] using this
    have hk : y.kids.map bare = x.kids.map bare := by rw [← bare_kids y, ← bare_kids x, hb]
    have nd := hg.node
    refine ⟨y, ⟨h.B.sl, h.L.sl, h.F.sl, e3 ▸ nd.i, e2 ▸ nd.t, e1 ▸ nd.bs, l4 ▸ nd.l, l5 ▸ nd.f, fun p hp => ?_, l4 ▸ nd.lw, l5 ▸ nd.fw⟩, fun z hz => ?_⟩
    · have : p.1 ∈ x.f.map (·.1) := by rw [← n5]; exact List.mem_map_of_mem hp
      obtain ⟨q, hq, e⟩ := List.mem_map.1 this
      rw [← e]; exact nd.n q hq
    · have : bare z ∈ x.kids.map bare := by rw [← hk]; exact List.mem_map_of_mem hz
      obtain ⟨q, hq, e⟩ := List.mem_map.1 this
      exact ih q hq (h.kids z hz) e.symm (hg.kids q hq)

theorem flat_put7 (l : List (Tr Mm)) (i : Nat) (x : Tr Mm) (h : i < l.length) :
    (((((((l.flatMap cells).set (i * 7) (.int .u8 x.k.toNat)).set (i * 7 + 1) (.bool x.b)).set (i * 7 + 2) (.int .i64 x.i)).set (i * 7 + 3) (.string ⟨x.t.toArray⟩)).set (i * 7 + 4) x.B).set (i * 7 + 5) x.L).set (i * 7 + 6) x.F = (l.set i x).flatMap cells := by
  induction l generalizing i with
  | nil => simp at h
  | cons a l ih =>
    cases i with
    | zero => simp [cells]
    | succ i =>
      have := ih i (by simpa using h)
      rw [List.set_cons_succ, List.flatMap_cons, List.flatMap_cons, ← this]
      rw [show (i + 1) * 7 = i * 7 + 7 by omega]
      simp [cells, Nat.add_right_comm]
theorem flat_put8 (l : List (List UInt8 × Tr Mm)) (i : Nat) (x : Tr Mm) (h : i < l.length) :
    (((((((l.flatMap fcells).set (i * 8 + 1) (.int .u8 x.k.toNat)).set (i * 8 + 1 + 1) (.bool x.b)).set (i * 8 + 1 + 2) (.int .i64 x.i)).set (i * 8 + 1 + 3) (.string ⟨x.t.toArray⟩)).set (i * 8 + 1 + 4) x.B).set (i * 8 + 1 + 5) x.L).set (i * 8 + 1 + 6) x.F = (l.set i (l[i].1, x)).flatMap fcells := by
  induction l generalizing i with
  | nil => simp at h
  | cons a l ih =>
    cases i with
    | zero => simp [fcells, cells]
    | succ i =>
      have := ih i (by simpa using h)
      rw [List.set_cons_succ, List.flatMap_cons, List.flatMap_cons, List.getElem_cons_succ, ← this]
      rw [show (i + 1) * 8 = i * 8 + 8 by omega]
      simp [fcells, cells, Nat.add_right_comm]

/-- Seven cells written into a block. -/
def put7 (w : World) (g o : Nat) (x : Tr Mm) : World :=
  (((((((w.setCell ⟨g, o, none⟩ (.int .u8 x.k.toNat)).setCell ⟨g, o + 1, none⟩ (.bool x.b)).setCell ⟨g, o + 2, none⟩ (.int .i64 x.i)).setCell ⟨g, o + 3, none⟩ (.string ⟨x.t.toArray⟩)).setCell ⟨g, o + 4, none⟩ x.B).setCell ⟨g, o + 5, none⟩ x.L).setCell ⟨g, o + 6, none⟩ x.F)
theorem put7_fr (w : World) (g o : Nat) (x : Tr Mm) : Fr (fun k => k = g) w (put7 w g o x) := by
  unfold put7
  have h0 := Fr.setCell (Fr.refl (fun k => k = g) w) ⟨g, o, none⟩ (.int .u8 x.k.toNat) (fun _ => rfl)
  have h1 := Fr.setCell h0 ⟨g, o + 1, none⟩ (.bool x.b) (fun _ => rfl)
  have h2 := Fr.setCell h1 ⟨g, o + 2, none⟩ (.int .i64 x.i) (fun _ => rfl)
  have h3 := Fr.setCell h2 ⟨g, o + 3, none⟩ (.string ⟨x.t.toArray⟩) (fun _ => rfl)
  have h4 := Fr.setCell h3 ⟨g, o + 4, none⟩ x.B (fun _ => rfl)
  have h5 := Fr.setCell h4 ⟨g, o + 5, none⟩ x.L (fun _ => rfl)
  exact Fr.setCell h5 ⟨g, o + 6, none⟩ x.F (fun _ => rfl)
theorem here {w : World} {e : TypeId} {sz g og n c : Nat} {xs : List Value} (h : Ow w e sz (.slice (some ⟨g, og, none⟩) n c) n xs) :
    og = 0 ∧ ∃ cur, w.heap[g]? = some (.cells cur e (0, 0)) ∧ n ≤ c ∧ c ≤ maxLen ∧ c * sz ≤ cur.size ∧ cur.toList.take (n * sz) = xs := by
  rcases h.2 with ⟨h1, _⟩ | ⟨g', cap, cur, h1, h2, h3, h4, h5, h6⟩
  · cases h1
  · cases h1; exact ⟨rfl, cur, h2, h3, h4, h5, h6⟩
theorem here_some {w : World} {e : TypeId} {sz n c : Nat} {A : Option Addr} {xs : List Value} (h : Ow w e sz (.slice A n c) n xs) (hn : 0 < n) : ∃ g, A = some ⟨g, 0, none⟩ := by
  rcases h.2 with ⟨h1, h2⟩ | ⟨g', cap, cur, h1, _⟩
  · simp only [Value.slice.injEq] at h1; omega
  · simp only [Value.slice.injEq] at h1; exact ⟨g', h1.1⟩
theorem ow_put7 {w : World} {e : TypeId} {g n c i : Nat} {l : List (Tr Mm)} (x : Tr Mm) (h : Ow w e 7 (.slice (some ⟨g, 0, none⟩) n c) n (l.flatMap cells)) (hi : i < l.length) :
    Ow (put7 w g (i * 7) x) e 7 (.slice (some ⟨g, 0, none⟩) n c) n ((l.set i x).flatMap cells) := by
  obtain ⟨_, cur, h2, h3, h4, h5, h6⟩ := here h
  have hlen : ((l.set i x).flatMap cells).length = n * 7 := by
    rw [← flat_put7 l i x hi]; simp only [List.length_set]; exact h.1
  refine ⟨hlen, .inr ⟨g, c, _, rfl, hp_same (hp_same (hp_same (hp_same (hp_same (hp_same (hp_same h2 _ _) _ _) _ _) _ _) _ _) _ _) _ _, h3, h4, by simpa using h5, ?_⟩⟩
  simp only [Array.toList_setIfInBounds, List.take_set, h6]
  exact flat_put7 l i x hi
theorem ow_put8 {w : World} {e : TypeId} {g n c i : Nat} {l : List (List UInt8 × Tr Mm)} (x : Tr Mm) (h : Ow w e 8 (.slice (some ⟨g, 0, none⟩) n c) n (l.flatMap fcells)) (hi : i < l.length) :
    Ow (put7 w g (i * 8 + 1) x) e 8 (.slice (some ⟨g, 0, none⟩) n c) n ((l.set i (l[i].1, x)).flatMap fcells) := by
  obtain ⟨_, cur, h2, h3, h4, h5, h6⟩ := here h
  have hlen : ((l.set i (l[i].1, x)).flatMap fcells).length = n * 8 := by
    rw [← flat_put8 l i x hi]; simp only [List.length_set]; exact h.1
  refine ⟨hlen, .inr ⟨g, c, _, rfl, hp_same (hp_same (hp_same (hp_same (hp_same (hp_same (hp_same h2 _ _) _ _) _ _) _ _) _ _) _ _) _ _, h3, h4, by simpa using h5, ?_⟩⟩
  simp only [Array.toList_setIfInBounds, List.take_set, h6]
  exact flat_put8 l i x hi
end Tr
end Go.Proofs.YtgcicljklejmjaaDoor

/- Bytes compared: the number that bytes.Compare says. -/
namespace Go.Proofs.YtgcicljklejmjaaDoor
open Go.RowKit

/-- Bytes compared. -/
def cb (l k : List UInt8) : Int := Lib.compareBytes l k

theorem cb_range (l k : List UInt8) : cb l k = -1 ∨ cb l k = 0 ∨ cb l k = 1 := by
  unfold cb
  induction l generalizing k with
  | nil => cases k <;> simp [Lib.compareBytes]
  | cons a l ih =>
    cases k with
    | nil => simp [Lib.compareBytes]
    | cons b k =>
      simp only [Lib.compareBytes]
      split
      · exact .inl rfl
      · split
        · exact .inr (.inr rfl)
        · exact ih k
end Go.Proofs.YtgcicljklejmjaaDoor

/- The order of bytes; strings compared. (Cb without what it says of regions and spans.) -/
namespace Go.Proofs.YtgcicljklejmjaaDoor
open Go.RowKit

theorem cb_self (l : List UInt8) : cb l l = 0 := by
  unfold cb
  induction l with
  | nil => rfl
  | cons a l ih => simp [Lib.compareBytes, ih]
theorem cb_eq {l k : List UInt8} (h : cb l k = 0) : l = k := by
  unfold cb at h
  induction l generalizing k with
  | nil => cases k <;> simp_all [Lib.compareBytes]
  | cons a l ih =>
    cases k with
    | nil => simp [Lib.compareBytes] at h
    | cons b k =>
      simp only [Lib.compareBytes] at h
      split at h
      · omega
      · split at h
        · omega
        · rename_i h1 h2
          rw [ih h, UInt8.le_antisymm (UInt8.not_lt.1 h2) (UInt8.not_lt.1 h1)]
theorem cb_swap (l k : List UInt8) : cb k l = - cb l k := by
  unfold cb
  induction l generalizing k with
  | nil => cases k <;> simp [Lib.compareBytes]
  | cons a l ih =>
    cases k with
    | nil => simp [Lib.compareBytes]
    | cons b k =>
      simp only [Lib.compareBytes]
      by_cases h1 : a < b
      · have h2 : ¬ b < a := UInt8.not_lt.2 (UInt8.le_of_lt h1)
        simp [h1, h2]
      · by_cases h2 : b < a <;> simp [h1, h2, ih]
theorem cb_trans {a b c : List UInt8} (h1 : cb a b ≤ 0) (h2 : cb b c ≤ 0) : cb a c ≤ 0 ∧ (cb a b < 0 ∨ cb b c < 0 → cb a c < 0) := by
  unfold cb at *
  induction a generalizing b c with
  | nil =>
    cases c with
    | nil => cases b with
      | nil => simp [Lib.compareBytes]
      | cons b bs => simp [Lib.compareBytes] at h2
    | cons c cs => simp [Lib.compareBytes]
  | cons a us ih =>
    cases b with
    | nil => simp [Lib.compareBytes] at h1
    | cons b bs =>
      cases c with
      | nil => simp [Lib.compareBytes] at h2
      | cons c cs =>
        simp only [Lib.compareBytes] at h1 h2 ⊢
        by_cases ab : a < b
        · by_cases bc : b < c
          · have ac := UInt8.lt_trans ab bc
            simp [ac]
          · by_cases cb' : c < b
            · simp [bc, cb'] at h2
            · have e : b = c := UInt8.le_antisymm (UInt8.not_lt.1 cb') (UInt8.not_lt.1 bc)
              subst e
              simp [ab]
        · by_cases ba : b < a
          · simp [ab, ba] at h1
          · have e : a = b := UInt8.le_antisymm (UInt8.not_lt.1 ba) (UInt8.not_lt.1 ab)
            subst e
            by_cases bc : a < c
            · simp [bc]
            · by_cases cb' : c < a
              · simp [bc, cb'] at h2
              · simp only [bc, cb', if_false, if_neg ab] at h1 h2 ⊢
                exact ih h1 h2

/-- No later than. -/
def le (a b : List UInt8) : Prop := cb a b ≤ 0
/-- Sooner than. -/
def lt (a b : List UInt8) : Prop := cb a b < 0
theorem le_rfl (a : List UInt8) : le a a := by unfold le; rw [cb_self]; omega
theorem lt_irrefl {a : List UInt8} (h : lt a a) : False := by unfold lt at h; rw [cb_self] at h; omega
theorem lt_le {a b : List UInt8} (h : lt a b) : le a b := by unfold lt at h; unfold le; omega
theorem le_trans {a b c : List UInt8} (h1 : le a b) (h2 : le b c) : le a c := (cb_trans h1 h2).1
theorem lt_le_trans {a b c : List UInt8} (h1 : lt a b) (h2 : le b c) : lt a c := (cb_trans (lt_le h1) h2).2 (.inl h1)
theorem le_lt_trans {a b c : List UInt8} (h1 : le a b) (h2 : lt b c) : lt a c := (cb_trans h1 (lt_le h2)).2 (.inr h2)
theorem lt_trans {a b c : List UInt8} (h1 : lt a b) (h2 : lt b c) : lt a c := lt_le_trans h1 (lt_le h2)
theorem le_or {a b : List UInt8} : le a b ∨ lt b a := by unfold le lt; have := cb_swap a b; omega
theorem not_lt {a b : List UInt8} (h : ¬ lt a b) : le b a := by unfold lt at h; unfold le; have := cb_swap a b; omega
theorem not_le {a b : List UInt8} (h : ¬ le a b) : lt b a := by unfold le at h; unfold lt; have := cb_swap a b; omega
theorem le_antisymm {a b : List UInt8} (h1 : le a b) (h2 : le b a) : a = b := by
  refine cb_eq ?_
  unfold le at *
  have := cb_swap a b; omega
theorem lt_not_le {a b : List UInt8} (h : lt a b) (h2 : le b a) : False := lt_irrefl (lt_le_trans h h2)

theorem less_cb (l k : List UInt8) : Op.bytesLess l k = decide (cb l k < 0) := by
  unfold cb
  induction l generalizing k with
  | nil => cases k <;> simp [Op.bytesLess, Lib.compareBytes]
  | cons a l ih =>
    cases k with
    | nil => simp [Op.bytesLess, Lib.compareBytes]
    | cons b k =>
      simp only [Op.bytesLess, Lib.compareBytes, ih]
      by_cases h1 : a < b
      · simp [h1]
      · by_cases h2 : b < a
        · have h3 : a ≠ b := fun e => by subst e; exact h1 h2
          simp [h1, h2, h3]
        · have h3 : a = b := UInt8.le_antisymm (UInt8.not_lt.1 h2) (UInt8.not_lt.1 h1)
          subst h3
          simp [h1]
theorem leq_cb (l k : List UInt8) : (Op.bytesLess l k || l == k) = decide (cb l k ≤ 0) := by
  rw [less_cb]
  have := cb_range l k
  by_cases h : l = k
  · subst h; simp [cb_self]
  · have h2 : cb l k ≠ 0 := fun e => h (cb_eq e)
    have h3 : (l == k) = false := by simpa using h
    rw [h3, Bool.or_false, decide_eq_decide]
    omega

@[go_sem] theorem strs_leq (t : TypeId) (l k : List UInt8) : binOp .leq t (.string ⟨l.toArray⟩) (.string ⟨k.toArray⟩) = pure (.bool (decide (cb l k ≤ 0))) := by
  simp only [binOp, Op.stringOp, ByteArray.toList_mk, leq_cb]
@[go_sem] theorem strs_gtr (t : TypeId) (l k : List UInt8) : binOp .gtr t (.string ⟨l.toArray⟩) (.string ⟨k.toArray⟩) = pure (.bool !(decide (cb l k ≤ 0))) := by
  simp only [binOp, Op.stringOp, ByteArray.toList_mk, leq_cb]
@[go_sem] theorem strs_geq (t : TypeId) (l k : List UInt8) : binOp .geq t (.string ⟨l.toArray⟩) (.string ⟨k.toArray⟩) = pure (.bool !(decide (cb l k < 0))) := by
  simp only [binOp, Op.stringOp, ByteArray.toList_mk, less_cb]
@[go_sem] theorem strs_lss (t : TypeId) (l k : List UInt8) : binOp .lss t (.string ⟨l.toArray⟩) (.string ⟨k.toArray⟩) = pure (.bool (decide (cb l k < 0))) := by
  simp only [binOp, Op.stringOp, ByteArray.toList_mk, less_cb]
end Go.Proofs.YtgcicljklejmjaaDoor

/- Keys without a program: the bytes of a value, and how they compare. -/
namespace Go.Proofs.YtgcicljklejmjaaDoor
open Go.RowKit

/-- Two rows of bytes that part at some place within both: v says which is the lesser. -/
def Diff (a b : List UInt8) (v : Int) : Prop := ∃ p c d ra rb, a = p ++ c :: ra ∧ b = p ++ d :: rb ∧ ((c < d ∧ v = -1) ∨ (d < c ∧ v = 1))
theorem Diff.cb {a b : List UInt8} {v : Int} (h : Diff a b v) : cb a b = v := by
  obtain ⟨p, c, d, ra, rb, rfl, rfl, h⟩ := h
  unfold Proofs.YtgcicljklejmjaaDoor.cb
  induction p with
  | nil =>
    rcases h with ⟨h, rfl⟩ | ⟨h, rfl⟩
    · simp [Lib.compareBytes, h]
    · have : ¬ c < d := UInt8.not_lt.2 (UInt8.le_of_lt h)
      simp [Lib.compareBytes, h, this]
  | cons x p ih => simpa [Lib.compareBytes] using ih
theorem Diff.pre {a b : List UInt8} {v : Int} (h : Diff a b v) (p : List UInt8) : Diff (p ++ a) (p ++ b) v := by
  obtain ⟨q, c, d, ra, rb, rfl, rfl, h⟩ := h
  exact ⟨p ++ q, c, d, ra, rb, by simp, by simp, h⟩
theorem Diff.post {a b : List UInt8} {v : Int} (h : Diff a b v) (s t : List UInt8) : Diff (a ++ s) (b ++ t) v := by
  obtain ⟨q, c, d, ra, rb, rfl, rfl, h⟩ := h
  exact ⟨q, c, d, ra ++ s, rb ++ t, by simp, by simp, h⟩
theorem Diff.swap {a b : List UInt8} {v : Int} (h : Diff a b v) : Diff b a (-v) := by
  obtain ⟨q, c, d, ra, rb, rfl, rfl, h⟩ := h
  exact ⟨q, d, c, rb, ra, rfl, rfl, h.elim (fun ⟨h, e⟩ => .inr ⟨h, by rw [e]; rfl⟩) (fun ⟨h, e⟩ => .inl ⟨h, by rw [e]⟩)⟩
theorem Diff.head {c d : UInt8} (h : c ≠ d) (s t : List UInt8) : Diff (c :: s) (d :: t) (if c < d then -1 else 1) := by
  refine ⟨[], c, d, s, t, rfl, rfl, ?_⟩
  by_cases hc : c < d
  · exact .inl ⟨hc, if_pos hc⟩
  · exact .inr ⟨(UInt8.lt_or_lt_of_ne h).elim (fun h => absurd h hc) (fun h => h), if_neg hc⟩
/-- Each byte turned over. -/
def turn (l : List UInt8) : List UInt8 := l.map (~~~·)
theorem not_lt_iff (c d : UInt8) : ~~~c < ~~~d ↔ d < c := by
  rw [UInt8.lt_iff_toNat_lt, UInt8.lt_iff_toNat_lt, UInt8.toNat_not, UInt8.toNat_not]
  have := c.toNat_lt
  have := d.toNat_lt
  simp only [UInt8.size] at *
  omega
theorem Diff.turn {a b : List UInt8} {v : Int} (h : Diff a b v) : Diff (turn a) (turn b) (-v) := by
  obtain ⟨q, c, d, ra, rb, rfl, rfl, h⟩ := h
  refine ⟨Proofs.YtgcicljklejmjaaDoor.turn q, ~~~c, ~~~d, Proofs.YtgcicljklejmjaaDoor.turn ra, Proofs.YtgcicljklejmjaaDoor.turn rb, by simp [Proofs.YtgcicljklejmjaaDoor.turn], by simp [Proofs.YtgcicljklejmjaaDoor.turn], ?_⟩
  rcases h with ⟨h, rfl⟩ | ⟨h, rfl⟩
  · exact .inr ⟨(not_lt_iff d c).2 h, rfl⟩
  · exact .inl ⟨(not_lt_iff c d).2 h, rfl⟩
theorem turn_turn (l : List UInt8) : turn (turn l) = l := by
  unfold turn; rw [List.map_map]; conv => rhs; rw [← List.map_id l]
  congr 1; funext c; simp
theorem turn_len (l : List UInt8) : (turn l).length = l.length := by simp [turn]

/-- Bytes with each 0 marked. -/
def esc (l : List UInt8) : List UInt8 := l.flatMap fun c => if c = 0 then [0, 255] else [c]
theorem esc_cons (c : UInt8) (l : List UInt8) : esc (c :: l) = (if c = 0 then [0, 255] else [c]) ++ esc l := rfl
theorem esc_diff : ∀ (t u : List UInt8), cb t u ≠ 0 → Diff (esc t ++ [0, 1]) (esc u ++ [0, 1]) (cb t u)
  | [], [], h => absurd (cb_self []) h
  | [], c :: u, _ => by
    rw [esc_cons]
    by_cases hc : c = 0
    · subst hc
      exact ⟨[0], 1, 255, [], esc u ++ [0, 1], rfl, by simp, .inl ⟨by decide, rfl⟩⟩
    · rw [if_neg hc]
      refine ⟨[], 0, c, [1], esc u ++ [0, 1], rfl, by simp, .inl ⟨?_, rfl⟩⟩
      exact UInt8.pos_iff_ne_zero.2 hc
  | c :: t, [], _ => by
    rw [esc_cons]
    by_cases hc : c = 0
    · subst hc
      exact ⟨[0], 255, 1, esc t ++ [0, 1], [], by simp, rfl, .inr ⟨by decide, rfl⟩⟩
    · rw [if_neg hc]
      refine ⟨[], c, 0, esc t ++ [0, 1], [1], by simp, rfl, .inr ⟨?_, rfl⟩⟩
      exact UInt8.pos_iff_ne_zero.2 hc
  | c :: t, d :: u, h => by
    by_cases hcd : c = d
    · subst hcd
      have e : cb (c :: t) (c :: u) = cb t u := by unfold cb; simp [Lib.compareBytes]
      rw [e] at h ⊢
      rw [esc_cons, esc_cons, List.append_assoc, List.append_assoc]
      exact (esc_diff t u h).pre _
    · have e : cb (c :: t) (d :: u) = if c < d then -1 else 1 := by
        unfold cb
        by_cases h1 : c < d
        · simp [Lib.compareBytes, h1]
        · have h2 : d < c := (UInt8.lt_or_lt_of_ne hcd).elim (fun h => absurd h h1) (fun h => h)
          simp [Lib.compareBytes, h1, h2]
      rw [e, esc_cons, esc_cons]
      by_cases hc : c = 0
      · subst hc
        rw [if_pos rfl, if_neg (fun e => hcd e.symm)]
        exact Diff.head hcd _ _
      · rw [if_neg hc]
        by_cases hd : d = 0
        · subst hd
          rw [if_pos rfl]
          exact Diff.head hcd _ _
        · rw [if_neg hd]
          exact Diff.head hcd _ _

/-- A number of n bytes, the greatest first. -/
def be : Nat → Nat → List UInt8
  | 0, _ => []
  | n + 1, x => UInt8.ofNat (x / 256 ^ n) :: be n (x % 256 ^ n)
theorem be_len : ∀ (n x : Nat), (be n x).length = n
  | 0, _ => rfl
  | n + 1, x => by simp [be, be_len n]
theorem be_diff : ∀ (n x y : Nat), x < 256 ^ n → y < 256 ^ n → x ≠ y → Diff (be n x) (be n y) (if x < y then -1 else 1)
  | 0, x, y, hx, hy, h => absurd (show x = y by simp at hx hy; omega) h
  | n + 1, x, y, hx, hy, h => by
    have hp : 0 < 256 ^ n := Nat.pow_pos (by omega)
    have q1 : x / 256 ^ n < 256 := Nat.div_lt_of_lt_mul (by rw [Nat.pow_succ, Nat.mul_comm] at hx; rw [Nat.mul_comm]; simpa [Nat.mul_comm] using hx)
    have q2 : y / 256 ^ n < 256 := Nat.div_lt_of_lt_mul (by rw [Nat.pow_succ, Nat.mul_comm] at hy; rw [Nat.mul_comm]; simpa [Nat.mul_comm] using hy)
    have ex := Nat.div_add_mod x (256 ^ n)
    have ey := Nat.div_add_mod y (256 ^ n)
    have rx := Nat.mod_lt x hp
    have ry := Nat.mod_lt y hp
    unfold be
    by_cases hq : x / 256 ^ n = y / 256 ^ n
    · have hr : x % 256 ^ n ≠ y % 256 ^ n := fun e => h (by rw [← ex, ← ey, hq, e])
      rw [hq]
      have := (be_diff n _ _ rx ry hr).pre [UInt8.ofNat (y / 256 ^ n)]
      have e : (x < y) = (x % 256 ^ n < y % 256 ^ n) := by
        have h1 : x < y ↔ x % 256 ^ n < y % 256 ^ n := by
          rw [hq] at ex
          constructor <;> intro h2 <;> omega
        exact propext h1
      simp only [e]
      exact this
    · have hne : UInt8.ofNat (x / 256 ^ n) ≠ UInt8.ofNat (y / 256 ^ n) := fun e => hq (by
        have h5 := congrArg UInt8.toNat e
        rw [UInt8.toNat_ofNat', UInt8.toNat_ofNat'] at h5
        exact ((Nat.mod_eq_of_lt q1).symm.trans h5).trans (Nat.mod_eq_of_lt q2))
      have := Diff.head hne (be n (x % 256 ^ n)) (be n (y % 256 ^ n))
      have e : (x < y) = (UInt8.ofNat (x / 256 ^ n) < UInt8.ofNat (y / 256 ^ n)) := by
        refine propext ?_
        have t1 : (UInt8.ofNat (x / 256 ^ n)).toNat = x / 256 ^ n := by rw [UInt8.toNat_ofNat']; exact Nat.mod_eq_of_lt q1
        have t2 : (UInt8.ofNat (y / 256 ^ n)).toNat = y / 256 ^ n := by rw [UInt8.toNat_ofNat']; exact Nat.mod_eq_of_lt q2
        rw [UInt8.lt_iff_toNat_lt, t1, t2]
        constructor
        · intro h2
          have h3 : x / 256 ^ n ≤ y / 256 ^ n := Nat.div_le_div_right (Nat.le_of_lt h2)
          exact Nat.lt_of_le_of_ne h3 hq
        · intro h2
          refine Nat.lt_of_not_le fun h3 => ?_
          have h4 : y / 256 ^ n ≤ x / 256 ^ n := Nat.div_le_div_right h3
          exact absurd h2 (Nat.not_lt.2 h4)
      simp only [e]
      exact this
end Go.Proofs.YtgcicljklejmjaaDoor

/- Keys without a program: the bytes of a value compare as the values do. -/
namespace Go.Proofs.YtgcicljklejmjaaDoor
open Go.RowKit
namespace Tr
variable {α β : Type}

/-- A whole number, made to rise. -/
def ofs (i : Int) : Nat := (i + 9223372036854775808).toNat
theorem ofs_lt {i : Int} (h : I64 i) : ofs i < 256 ^ 8 := by have := h.lo; have := h.hi; unfold ofs; omega
theorem ofs_lt_iff {i j : Int} (hi : I64 i) (hj : I64 j) : ofs i < ofs j ↔ i < j := by have := hi.lo; have := hj.lo; unfold ofs; omega
theorem ofs_inj {i j : Int} (hi : I64 i) (hj : I64 j) (h : ofs i = ofs j) : i = j := by have := hi.lo; have := hj.lo; unfold ofs at h; omega

/-- The bytes of a value. -/
def enc (x : Tr α) : List UInt8 :=
  if x.k = 1 then [16] else if x.k = 2 then [if x.b then 33 else 32] else if x.k = 3 then 48 :: be 8 (ofs x.i)
  else if x.k = 4 then 64 :: (esc x.t ++ [0, 1]) else if x.k = 5 then 80 :: (esc x.bs ++ [0, 1])
  else if x.k = 6 then 96 :: ((x.l.attach.flatMap fun y => enc y.1) ++ [1]) else []
termination_by SizeOf.sizeOf x
decreasing_by exact mem_l_lt y.2
theorem enc_eq (x : Tr α) : enc x = if x.k = 1 then [16] else if x.k = 2 then [if x.b then 33 else 32] else if x.k = 3 then 48 :: be 8 (ofs x.i)
    else if x.k = 4 then 64 :: (esc x.t ++ [0, 1]) else if x.k = 5 then 80 :: (esc x.bs ++ [0, 1])
    else if x.k = 6 then 96 :: (x.l.flatMap enc ++ [1]) else [] := by
  rw [enc, List.flatMap_subtype (g := enc) (fun _ _ => rfl), List.unattach_attach]

mutual
/-- The order of values. -/
def cmp (x : Tr α) (y : Tr β) : Int :=
  if x.k ≠ y.k then (if x.k < y.k then -1 else 1)
  else if x.k = 2 then (if x.b = y.b then 0 else if y.b then -1 else 1)
  else if x.k = 3 then (if x.i < y.i then -1 else if y.i < x.i then 1 else 0)
  else if x.k = 4 then cb x.t y.t
  else if x.k = 5 then cb x.bs y.bs
  else if x.k = 6 then cmpL x.l y.l
  else if x.k = 7 then cmpF x.f y.f
  else 0
termination_by SizeOf.sizeOf x
decreasing_by
  · cases x; simp only [l, mk.sizeOf_spec]; omega
  · cases x; simp only [f, mk.sizeOf_spec]; omega
def cmpL : List (Tr α) → List (Tr β) → Int
  | [], [] => 0
  | [], _ :: _ => -1
  | _ :: _, [] => 1
  | x :: l, y :: k => if cmp x y ≠ 0 then cmp x y else cmpL l k
termination_by l => SizeOf.sizeOf l
def cmpF : List (List UInt8 × Tr α) → List (List UInt8 × Tr β) → Int
  | [], [] => 0
  | [], _ :: _ => -1
  | _ :: _, [] => 1
  | (n, x) :: l, (m, y) :: k => if cb n m ≠ 0 then cb n m else if cmp x y ≠ 0 then cmp x y else cmpF l k
termination_by l => SizeOf.sizeOf l
end

/-- Of a kind that has a key's bytes. -/
def Keyed (x : Tr α) : Prop := (x.k = 1 ∨ x.k = 2 ∨ x.k = 3 ∨ x.k = 4 ∨ x.k = 5 ∨ x.k = 6) ∧ I64 x.i
/-- All of it is. -/
inductive KeyedAll : Tr α → Prop
  | mk (x : Tr α) (h : Keyed x) (hl : ∀ y ∈ x.l, KeyedAll y) : KeyedAll x
theorem KeyedAll.here {x : Tr α} : KeyedAll x → Keyed x | .mk _ h _ => h
theorem KeyedAll.l {x : Tr α} : KeyedAll x → ∀ y ∈ x.l, KeyedAll y | .mk _ _ h => h

/-- The first byte of a kind. -/
def tag (k : UInt8) (b : Bool) : UInt8 := if k = 2 ∧ b = true then 33 else k * 16
theorem enc_head {x : Tr α} (h : Keyed x) : ∃ r, enc x = tag x.k x.b :: r := by
  rw [enc_eq]
  rcases h.1 with h | h | h | h | h | h <;> rw [h] <;> simp [tag]
theorem tag_lt {k j : UInt8} {b c : Bool} (hk : k = 1 ∨ k = 2 ∨ k = 3 ∨ k = 4 ∨ k = 5 ∨ k = 6) (hj : j = 1 ∨ j = 2 ∨ j = 3 ∨ j = 4 ∨ j = 5 ∨ j = 6) (h : k ≠ j) : tag k b ≠ tag j c ∧ (tag k b < tag j c ↔ k < j) ∧ 1 < tag k b ∧ 1 < tag j c := by
  rcases hk with rfl | rfl | rfl | rfl | rfl | rfl <;> rcases hj with rfl | rfl | rfl | rfl | rfl | rfl <;> cases b <;> cases c <;> first | exact absurd rfl h | decide
theorem one_lt_tag {k : UInt8} {b : Bool} (hk : k = 1 ∨ k = 2 ∨ k = 3 ∨ k = 4 ∨ k = 5 ∨ k = 6) : 1 < tag k b := by
  rcases hk with rfl | rfl | rfl | rfl | rfl | rfl <;> cases b <;> decide

/-- As one: bytes as the values compare. -/
def AsOne (a b : List UInt8) (v : Int) : Prop := (v = 0 → a = b) ∧ (v ≠ 0 → Diff a b v)

theorem list_asone : ∀ (l : List (Tr α)) (k : List (Tr β)), (∀ x ∈ l, Keyed x) → (∀ y ∈ k, Keyed y) → (∀ x ∈ l, ∀ y ∈ k, AsOne (enc x) (enc y) (cmp x y)) → AsOne (l.flatMap enc ++ [1]) (k.flatMap enc ++ [1]) (cmpL l k)
  | [], [], _, _, _ => by rw [cmpL]; exact ⟨fun _ => rfl, fun h => absurd rfl h⟩
  | [], y :: k, _, hk, _ => by
    rw [cmpL]
    refine ⟨fun h => absurd h (by decide), fun _ => ?_⟩
    obtain ⟨r, hr⟩ := enc_head (hk y (List.mem_cons_self ..))
    rw [List.flatMap_cons, hr]
    have h1 := one_lt_tag (b := y.b) (hk y (List.mem_cons_self ..)).1
    exact ⟨[], 1, tag y.k y.b, [], r ++ (k.flatMap enc) ++ [1], rfl, by simp, .inl ⟨h1, rfl⟩⟩
  | x :: l, [], hl, _, _ => by
    rw [cmpL]
    refine ⟨fun h => absurd h (by decide), fun _ => ?_⟩
    obtain ⟨r, hr⟩ := enc_head (hl x (List.mem_cons_self ..))
    rw [List.flatMap_cons, hr]
    have h1 := one_lt_tag (b := x.b) (hl x (List.mem_cons_self ..)).1
    exact ⟨[], tag x.k x.b, 1, r ++ (l.flatMap enc) ++ [1], [], by simp, rfl, .inr ⟨h1, rfl⟩⟩
  | x :: l, y :: k, hl, hk, h => by
    rw [cmpL, List.flatMap_cons, List.flatMap_cons, List.append_assoc, List.append_assoc]
    have h1 := h x (List.mem_cons_self ..) y (List.mem_cons_self ..)
    have ih := list_asone l k (fun x hx => hl x (List.mem_cons_of_mem _ hx)) (fun y hy => hk y (List.mem_cons_of_mem _ hy)) (fun x hx y hy => h x (List.mem_cons_of_mem _ hx) y (List.mem_cons_of_mem _ hy))
    by_cases hc : cmp x y = 0
    · rw [if_neg (by rw [hc]; exact fun h => h rfl), h1.1 hc]
      exact ⟨fun e => by rw [ih.1 e], fun e => (ih.2 e).pre _⟩
    · rw [if_pos hc]
      exact ⟨fun e => absurd e hc, fun e => (h1.2 e).post _ _⟩

/-- The bytes of values compare as they do; none begins with another's. -/
theorem enc_asone (x : Tr α) (y : Tr β) (hx : KeyedAll x) (hy : KeyedAll y) : AsOne (enc x) (enc y) (cmp x y) := by
  induction x using Tr.ind generalizing y with
  | h x ih =>
    rw [cmp]
    by_cases hk : x.k = y.k
    · rw [if_neg (fun h => h hk)]
      rw [enc_eq x, enc_eq y, ← hk]
      rcases hx.here.1 with h | h | h | h | h | h <;> rw [h]
      · simp only [if_true, show ((1 : UInt8) = 2) = False from by decide, show ((1 : UInt8) = 3) = False from by decide, show ((1 : UInt8) = 4) = False from by decide, show ((1 : UInt8) = 5) = False from by decide, show ((1 : UInt8) = 6) = False from by decide, show ((1 : UInt8) = 7) = False from by decide, if_false]
        exact ⟨fun _ => rfl, fun h => absurd rfl h⟩
      · simp only [show ((2 : UInt8) = 1) = False from by decide, if_true, if_false]
        cases x.b <;> cases y.b <;> simp only [if_true, if_false, Bool.false_eq_true, Bool.true_eq_false]
        · exact ⟨fun _ => rfl, fun h => absurd rfl h⟩
        · exact ⟨fun h => absurd h (by decide), fun _ => ⟨[], 32, 33, [], [], rfl, rfl, .inl ⟨by decide, rfl⟩⟩⟩
        · exact ⟨fun h => absurd h (by decide), fun _ => ⟨[], 33, 32, [], [], rfl, rfl, .inr ⟨by decide, rfl⟩⟩⟩
        · exact ⟨fun _ => rfl, fun h => absurd rfl h⟩
      · simp only [show ((3 : UInt8) = 1) = False from by decide, show ((3 : UInt8) = 2) = False from by decide, if_true, if_false]
        have i1 := hx.here.2
        have i2 := hy.here.2
        by_cases hi : x.i = y.i
        · rw [hi, if_neg (by omega), if_neg (by omega)]
          exact ⟨fun _ => rfl, fun h => absurd rfl h⟩
        · have hne : ofs x.i ≠ ofs y.i := fun e => hi (ofs_inj i1 i2 e)
          have hd := (be_diff 8 _ _ (ofs_lt i1) (ofs_lt i2) hne).pre [48]
          have e : (if x.i < y.i then (-1 : Int) else if y.i < x.i then 1 else 0) = if ofs x.i < ofs y.i then -1 else 1 := by
            by_cases h1 : x.i < y.i
            · rw [if_pos h1, if_pos ((ofs_lt_iff i1 i2).2 h1)]
            · rw [if_neg h1, if_pos (by omega), if_neg (fun h => h1 ((ofs_lt_iff i1 i2).1 h))]
          rw [e]
          refine ⟨fun h => ?_, fun _ => hd⟩
          split at h <;> exact absurd h (by decide)
      · simp only [show ((4 : UInt8) = 1) = False from by decide, show ((4 : UInt8) = 2) = False from by decide, show ((4 : UInt8) = 3) = False from by decide, if_true, if_false]
        exact ⟨fun e => by rw [cb_eq e], fun e => (esc_diff _ _ e).pre [64]⟩
      · simp only [show ((5 : UInt8) = 1) = False from by decide, show ((5 : UInt8) = 2) = False from by decide, show ((5 : UInt8) = 3) = False from by decide, show ((5 : UInt8) = 4) = False from by decide, if_true, if_false]
        exact ⟨fun e => by rw [cb_eq e], fun e => (esc_diff _ _ e).pre [80]⟩
      · simp only [show ((6 : UInt8) = 1) = False from by decide, show ((6 : UInt8) = 2) = False from by decide, show ((6 : UInt8) = 3) = False from by decide, show ((6 : UInt8) = 4) = False from by decide, show ((6 : UInt8) = 5) = False from by decide, if_true, if_false]
        have hl := list_asone x.l y.l (fun z hz => (hx.l z hz).here) (fun z hz => (hy.l z hz).here) (fun z hz z' hz' => ih z (List.mem_append_left _ hz) z' (hx.l z hz) (hy.l z' hz'))
        exact ⟨fun e => by rw [hl.1 e], fun e => (hl.2 e).pre [96]⟩
    · rw [if_pos hk]
      obtain ⟨r, hr⟩ := enc_head hx.here
      obtain ⟨s, hs⟩ := enc_head hy.here
      obtain ⟨t1, t2, _⟩ := tag_lt (b := x.b) (c := y.b) hx.here.1 hy.here.1 hk
      rw [hr, hs]
      have hd := Diff.head t1 r s
      have e : (if x.k < y.k then (-1 : Int) else 1) = if tag x.k x.b < tag y.k y.b then -1 else 1 := by simp only [t2]
      rw [e]
      exact ⟨fun h => (by split at h <;> exact absurd h (by decide)), fun _ => hd⟩
end Tr
end Go.Proofs.YtgcicljklejmjaaDoor

/- Keys without a program: bytes read as a value; and back. -/
namespace Go.Proofs.YtgcicljklejmjaaDoor
open Go.RowKit

/-- Bytes up to their end, and what stands behind. -/
def unesc : List UInt8 → Option (List UInt8 × List UInt8)
  | [] => none
  | c :: r => if c ≠ 0 then (unesc r).map fun p => (c :: p.1, p.2) else
    match r with
    | [] => none
    | d :: r' => if d = 1 then some ([], r') else if d = 255 then (unesc r').map fun p => (0 :: p.1, p.2) else none

theorem unesc_ne {c : UInt8} {r : List UInt8} (h : c ≠ 0) : unesc (c :: r) = (unesc r).map fun p => (c :: p.1, p.2) := by
  conv => lhs; unfold unesc
  rw [if_pos h]
theorem unesc_zero {d : UInt8} {r : List UInt8} : unesc (0 :: d :: r) = if d = 1 then some ([], r) else if d = 255 then (unesc r).map fun p => (0 :: p.1, p.2) else none := by
  conv => lhs; unfold unesc
  rw [if_neg (fun h => h rfl)]
theorem unesc_esc (t s : List UInt8) : unesc (esc t ++ 0 :: 1 :: s) = some (t, s) := by
  induction t with
  | nil => show unesc (0 :: 1 :: s) = _; rw [unesc_zero]; rfl
  | cons c t ih =>
    rw [esc_cons]
    by_cases h : c = 0
    · subst h
      show unesc (0 :: 255 :: (esc t ++ 0 :: 1 :: s)) = _
      rw [unesc_zero, if_neg (by decide), if_pos rfl, ih]; rfl
    · rw [if_neg h]
      show unesc (c :: (esc t ++ 0 :: 1 :: s)) = _
      rw [unesc_ne h, ih]; rfl
theorem esc_unesc : ∀ (n : Nat) (b t s : List UInt8), b.length ≤ n → unesc b = some (t, s) → b = esc t ++ 0 :: 1 :: s
  | 0, b, t, s, hn, h => by
    have : b = [] := List.eq_nil_of_length_eq_zero (by omega)
    subst this; cases h
  | n + 1, [], t, s, _, h => by cases h
  | n + 1, c :: r, t, s, hn, h => by
    simp only [List.length_cons] at hn
    by_cases hc : c = 0
    · subst hc
      cases r with
      | nil => unfold unesc at h; rw [if_neg (fun h => h rfl)] at h; cases h
      | cons d r =>
        rw [unesc_zero] at h
        by_cases h1 : d = 1
        · subst h1; rw [if_pos rfl] at h; cases h; rfl
        · rw [if_neg h1] at h
          by_cases h2 : d = 255
          · subst h2
            rw [if_pos rfl, Option.map_eq_some_iff] at h
            obtain ⟨⟨t', s'⟩, h3, h4⟩ := h
            cases h4
            have := esc_unesc n r t' s' (by simp only [List.length_cons] at hn; omega) h3
            rw [esc_cons, if_pos rfl, this]; rfl
          · rw [if_neg h2] at h; cases h
    · rw [unesc_ne hc, Option.map_eq_some_iff] at h
      obtain ⟨⟨t', s'⟩, h3, h4⟩ := h
      cases h4
      have := esc_unesc n r t' s' (by omega) h3
      rw [esc_cons, if_neg hc, this]; rfl

/-- Bytes as a number, the greatest first. -/
def un (n : Nat) : List UInt8 → Nat
  | [] => n
  | c :: r => un (n * 256 + c.toNat) r
theorem un_add : ∀ (l : List UInt8) (n : Nat), un n l = n * 256 ^ l.length + un 0 l
  | [], n => by simp [un]
  | c :: r, n => by
    show un (n * 256 + c.toNat) r = n * 256 ^ (r.length + 1) + un (0 * 256 + c.toNat) r
    rw [un_add r (n * 256 + c.toNat), un_add r (0 * 256 + c.toNat), Nat.pow_succ, Nat.add_mul, Nat.zero_mul, Nat.zero_add, Nat.mul_assoc, Nat.mul_comm 256, Nat.add_assoc]
theorem un_lt : ∀ (l : List UInt8), un 0 l < 256 ^ l.length
  | [] => by simp [un]
  | c :: r => by
    show un (0 * 256 + c.toNat) r < 256 ^ (r.length + 1)
    rw [un_add, Nat.zero_mul, Nat.zero_add, Nat.pow_succ]
    have h1 := un_lt r
    have h2 := c.toNat_lt
    have h3 : c.toNat * 256 ^ r.length + 256 ^ r.length ≤ 256 ^ r.length * 256 := by
      rw [Nat.mul_comm (256 ^ r.length) 256, ← Nat.succ_mul]
      exact Nat.mul_le_mul_right _ (by omega)
    omega
theorem un_be : ∀ (n x : Nat), x < 256 ^ n → un 0 (be n x) = x
  | 0, x, h => by simp at h; subst h; rfl
  | n + 1, x, h => by
    have hp : 0 < 256 ^ n := Nat.pow_pos (by omega)
    have q1 : x / 256 ^ n < 256 := Nat.div_lt_of_lt_mul (by rw [Nat.pow_succ] at h; exact h)
    show un (0 * 256 + (UInt8.ofNat (x / 256 ^ n)).toNat) (be n (x % 256 ^ n)) = x
    have t1 : (UInt8.ofNat (x / 256 ^ n)).toNat = x / 256 ^ n := by rw [UInt8.toNat_ofNat']; exact Nat.mod_eq_of_lt q1
    rw [un_add, be_len, un_be n _ (Nat.mod_lt _ hp), t1, Nat.zero_mul, Nat.zero_add, Nat.mul_comm]
    exact Nat.div_add_mod x (256 ^ n)
theorem be_un : ∀ (l : List UInt8), be l.length (un 0 l) = l
  | [] => rfl
  | c :: r => by
    have h1 := un_lt r
    have hp : 0 < 256 ^ r.length := Nat.pow_pos (by omega)
    have e : un 0 (c :: r) = c.toNat * 256 ^ r.length + un 0 r := by
      show un (0 * 256 + c.toNat) r = _
      rw [un_add, Nat.zero_mul, Nat.zero_add]
    rw [List.length_cons]
    unfold be
    have e1 : un 0 (c :: r) / 256 ^ r.length = c.toNat := by
      rw [e, Nat.mul_comm, Nat.mul_add_div hp, Nat.div_eq_of_lt h1, Nat.add_zero]
    have e2 : un 0 (c :: r) % 256 ^ r.length = un 0 r := by
      rw [e, Nat.mul_comm, Nat.mul_add_mod, Nat.mod_eq_of_lt h1]
    rw [e1, e2, be_un r]
    congr 1
    exact UInt8.ofNat_toNat

namespace Tr
/-- A number as a whole one. -/
def ios (n : Nat) : Int := (n : Int) - 9223372036854775808
theorem ios_ofs {i : Int} (h : I64 i) : ios (ofs i) = i := by have := h.lo; unfold ios ofs; omega
theorem ofs_ios {n : Nat} (_ : n < 256 ^ 8) : ofs (ios n) = n := by unfold ios ofs; omega
theorem ios_i64 {n : Nat} (h : n < 256 ^ 8) : I64 (ios n) := by
  have e : (256 : Nat) ^ 8 = 18446744073709551616 := by decide
  rw [e] at h
  unfold ios
  exact ⟨by omega, by omega⟩

/-- A value of nothing but its kind. -/
def only (k : UInt8) : Tr Unit := .mk k false 0 [] [] () [] []
def decL (g : List UInt8 → Option (Tr Unit × List UInt8)) : Nat → List UInt8 → Option (List (Tr Unit) × List UInt8)
  | 0, _ => none
  | _ + 1, [] => none
  | n + 1, c :: r => if c = 1 then some ([], r) else
    match g (c :: r) with
    | none => none
    | some (x, s) => (decL g n s).map fun p => (x :: p.1, p.2)
/-- The value that bytes begin with, no deeper than that, and what stands behind. -/
def dec : Nat → List UInt8 → Option (Tr Unit × List UInt8)
  | 0, _ => none
  | _ + 1, [] => none
  | d + 1, c :: r =>
    if c = 16 then some (only 1, r) else if c = 32 then some (only 2, r) else if c = 33 then some (.mk 2 true 0 [] [] () [] [], r)
    else if c = 48 then (if r.length < 8 then none else some (.mk 3 false (ios (un 0 (r.take 8))) [] [] () [] [], r.drop 8))
    else if c = 64 then (unesc r).map fun p => (.mk 4 false 0 p.1 [] () [] [], p.2)
    else if c = 80 then (unesc r).map fun p => (.mk 5 false 0 [] p.1 () [] [], p.2)
    else if c = 96 then (decL (dec d) (r.length + 1) r).map fun p => (.mk 6 false 0 [] [] () p.1 [], p.2)
    else none

/-- What is there but for its kind is nothing. -/
structure Plain {α : Type} (x : Tr α) : Prop where
  b : x.k ≠ 2 → x.b = false
  i : x.k ≠ 3 → x.i = 0
  t : x.k ≠ 4 → x.t = []
  bs : x.k ≠ 5 → x.bs = []
  l : x.k ≠ 6 → x.l = []
  f : x.f = []
inductive PlainAll {α : Type} : Tr α → Prop
  | mk (x : Tr α) (h : Plain x) (hl : ∀ y ∈ x.l, PlainAll y) : PlainAll x
theorem PlainAll.here {α : Type} {x : Tr α} : PlainAll x → Plain x | .mk _ h _ => h
theorem PlainAll.l {α : Type} {x : Tr α} : PlainAll x → ∀ y ∈ x.l, PlainAll y | .mk _ _ h => h

theorem tr_ext {x y : Tr Unit} (hk : x.k = y.k) (hb : x.b = y.b) (hi : x.i = y.i) (ht : x.t = y.t) (hs : x.bs = y.bs) (hl : x.l = y.l) (hf : x.f = y.f) : x = y := by
  cases x; cases y
  simp only [k, b, i, t, bs, l, f] at *
  subst hk hb hi ht hs hl hf; rfl

theorem decL_enc {α : Type} {g : List UInt8 → Option (Tr Unit × List UInt8)} : ∀ (l : List (Tr α)) (n : Nat) (s : List UInt8), (∀ x ∈ l, Keyed x) → (∀ x ∈ l, ∀ s, g (enc x ++ s) = some (bare x, s)) → l.length < n → decL g n (l.flatMap enc ++ 1 :: s) = some (l.map bare, s)
  | [], n + 1, s, _, _, _ => by simp [decL]
  | x :: l, n + 1, s, hk, hg, hn => by
    obtain ⟨r, hr⟩ := enc_head (hk x (List.mem_cons_self ..))
    have h1 := one_lt_tag (b := x.b) (hk x (List.mem_cons_self ..)).1
    have h2 := hg x (List.mem_cons_self ..) (l.flatMap enc ++ 1 :: s)
    rw [List.flatMap_cons, List.append_assoc]
    rw [hr, List.cons_append] at h2 ⊢
    unfold decL
    rw [if_neg (fun e => by rw [e] at h1; exact absurd h1 (by decide)), h2]
    simp only [decL_enc l n s (fun x hx => hk x (List.mem_cons_of_mem _ hx)) (fun x hx => hg x (List.mem_cons_of_mem _ hx)) (by simp only [List.length_cons] at hn; omega), Option.map_some, List.map_cons]
  | l, 0, s, _, _, hn => by omega

theorem len_flat_enc {α : Type} : ∀ (l : List (Tr α)), (∀ x ∈ l, Keyed x) → l.length ≤ (l.flatMap enc).length
  | [], _ => by simp
  | x :: l, h => by
    obtain ⟨r, hr⟩ := enc_head (h x (List.mem_cons_self ..))
    rw [List.flatMap_cons, hr, List.length_append, List.length_cons, List.length_cons]
    have := len_flat_enc l (fun x hx => h x (List.mem_cons_of_mem _ hx))
    omega

/-- What is written is read as it was. -/
theorem dec_enc {α : Type} (d : Nat) (x : Tr α) (s : List UInt8) (hk : KeyedAll x) (hp : PlainAll x) (hd : deep d x = false) : dec d (enc x ++ s) = some (bare x, s) := by
  induction d generalizing x s with
  | zero => simp [deep] at hd
  | succ d ih =>
    rw [enc_eq]
    have p := hp.here
    have hb : ∀ {y : Tr Unit}, y.k = x.k → y.b = x.b → y.i = x.i → y.t = x.t → y.bs = x.bs → y.l = x.l.map bare → y.f = [] → y = bare x := fun h1 h2 h3 h4 h5 h6 h7 => tr_ext (by rw [h1, bare_k]) (by rw [h2, bare_b]) (by rw [h3, bare_i]) (by rw [h4, bare_t]) (by rw [h5, bare_bs]) (by rw [h6, bare_l]) (by rw [h7, bare_f, p.f]; rfl)
    rcases hk.here.1 with h | h | h | h | h | h <;> rw [h]
    · have e := hb (y := only 1) h.symm (p.b (by rw [h]; decide)).symm (p.i (by rw [h]; decide)).symm (p.t (by rw [h]; decide)).symm (p.bs (by rw [h]; decide)).symm (by rw [p.l (by rw [h]; decide)]; rfl) rfl
      rw [← e]; rfl
    · cases hbv : x.b with
      | false =>
        have e := hb (y := only 2) h.symm hbv.symm (p.i (by rw [h]; decide)).symm (p.t (by rw [h]; decide)).symm (p.bs (by rw [h]; decide)).symm (by rw [p.l (by rw [h]; decide)]; rfl) rfl
        rw [← e]; rfl
      | true =>
        have e := hb (y := .mk 2 true 0 [] [] () [] []) h.symm hbv.symm (p.i (by rw [h]; decide)).symm (p.t (by rw [h]; decide)).symm (p.bs (by rw [h]; decide)).symm (by rw [p.l (by rw [h]; decide)]; rfl) rfl
        rw [← e]; rfl
    · have hl := be_len 8 (ofs x.i)
      have e := hb (y := .mk 3 false (ios (un 0 (be 8 (ofs x.i)))) [] [] () [] []) h.symm (p.b (by rw [h]; decide)).symm (by rw [un_be 8 _ (ofs_lt hk.here.2)]; exact ios_ofs hk.here.2) (p.t (by rw [h]; decide)).symm (p.bs (by rw [h]; decide)).symm (by rw [p.l (by rw [h]; decide)]; rfl) rfl
      rw [← e]
      show dec (d + 1) (48 :: (be 8 (ofs x.i) ++ s)) = _
      unfold dec
      rw [if_neg (by decide), if_neg (by decide), if_neg (by decide), if_pos rfl, if_neg (by rw [List.length_append, hl]; omega), List.take_left' hl, List.drop_left' hl]
    · have e := hb (y := .mk 4 false 0 x.t [] () [] []) h.symm (p.b (by rw [h]; decide)).symm (p.i (by rw [h]; decide)).symm rfl (p.bs (by rw [h]; decide)).symm (by rw [p.l (by rw [h]; decide)]; rfl) rfl
      rw [← e]
      show dec (d + 1) (64 :: (esc x.t ++ [0, 1] ++ s)) = _
      unfold dec
      rw [if_neg (by decide), if_neg (by decide), if_neg (by decide), if_neg (by decide), if_pos rfl, List.append_assoc]
      show (unesc (esc x.t ++ 0 :: 1 :: s)).map _ = _
      rw [unesc_esc]; rfl
    · have e := hb (y := .mk 5 false 0 [] x.bs () [] []) h.symm (p.b (by rw [h]; decide)).symm (p.i (by rw [h]; decide)).symm (p.t (by rw [h]; decide)).symm rfl (by rw [p.l (by rw [h]; decide)]; rfl) rfl
      rw [← e]
      show dec (d + 1) (80 :: (esc x.bs ++ [0, 1] ++ s)) = _
      unfold dec
      rw [if_neg (by decide), if_neg (by decide), if_neg (by decide), if_neg (by decide), if_neg (by decide), if_pos rfl, List.append_assoc]
      show (unesc (esc x.bs ++ 0 :: 1 :: s)).map _ = _
      rw [unesc_esc]; rfl
    · have e := hb (y := .mk 6 false 0 [] [] () (x.l.map bare) []) h.symm (p.b (by rw [h]; decide)).symm (p.i (by rw [h]; decide)).symm (p.t (by rw [h]; decide)).symm (p.bs (by rw [h]; decide)).symm rfl rfl
      rw [← e]
      show dec (d + 1) (96 :: (x.l.flatMap enc ++ [1] ++ s)) = _
      have hdl : ∀ y ∈ x.l, deep d y = false := fun y hy => by
        simp only [deep, List.any_eq_false] at hd
        simpa using hd y (List.mem_append_left _ hy)
      have hkl : ∀ y ∈ x.l, Keyed y := fun y hy => (hk.l y hy).here
      have hln := len_flat_enc x.l hkl
      unfold dec
      rw [if_neg (by decide), if_neg (by decide), if_neg (by decide), if_neg (by decide), if_neg (by decide), if_neg (by decide), if_pos rfl, List.append_assoc]
      show (decL (dec d) _ (x.l.flatMap enc ++ 1 :: s)).map _ = _
      rw [decL_enc x.l _ s hkl (fun y hy s => ih y s (hk.l y hy) (hp.l y hy) (hdl y hy)) (by rw [List.length_append]; omega)]
      rfl

/-- Bytes that are read are those of what is read. -/
theorem decL_some {g : List UInt8 → Option (Tr Unit × List UInt8)} {Q : Tr Unit → Prop} (hg : ∀ b x s, g b = some (x, s) → b = enc x ++ s ∧ Q x) : ∀ (n : Nat) (b : List UInt8) (l : List (Tr Unit)) (s : List UInt8), decL g n b = some (l, s) → b = l.flatMap enc ++ 1 :: s ∧ ∀ x ∈ l, Q x
  | 0, _, _, _, h => by cases h
  | n + 1, [], _, _, h => by cases h
  | n + 1, c :: r, l, s, h => by
    unfold decL at h
    by_cases hc : c = 1
    · rw [if_pos hc] at h; cases h; subst hc
      exact ⟨rfl, fun _ h => nomatch h⟩
    · rw [if_neg hc] at h
      cases hgc : g (c :: r) with
      | none => rw [hgc] at h; cases h
      | some p =>
        obtain ⟨x, s1⟩ := p
        rw [hgc] at h
        simp only [Option.map_eq_some_iff] at h
        obtain ⟨⟨l2, s2⟩, h3, h4⟩ := h
        cases h4
        obtain ⟨e1, e2⟩ := hg _ _ _ hgc
        obtain ⟨e3, e4⟩ := decL_some hg n s1 l2 s2 h3
        refine ⟨by rw [List.flatMap_cons, List.append_assoc, ← e3]; exact e1, fun y hy => ?_⟩
        rcases List.mem_cons.1 hy with rfl | hy
        · exact e2
        · exact e4 y hy
theorem dec_some (d : Nat) : ∀ (b : List UInt8) (x : Tr Unit) (s : List UInt8), dec d b = some (x, s) → b = enc x ++ s ∧ KeyedAll x ∧ PlainAll x ∧ deep d x = false := by
  induction d with
  | zero => intro b x s h; cases h
  | succ d ih =>
    intro b x s h
    have nol : ∀ y ∈ ([] : List (Tr Unit)), KeyedAll y := fun _ h => nomatch h
    have nol2 : ∀ y ∈ ([] : List (Tr Unit)), PlainAll y := fun _ h => nomatch h
    have z : I64 0 := ⟨by decide, by decide⟩
    cases b with
    | nil => cases h
    | cons c r =>
      unfold dec at h
      by_cases h1 : c = 16
      · rw [if_pos h1] at h; cases h; subst h1
        exact ⟨by rw [enc_eq]; rfl, ⟨_, ⟨.inl rfl, z⟩, nol⟩, ⟨_, ⟨fun _ => rfl, fun _ => rfl, fun _ => rfl, fun _ => rfl, fun _ => rfl, rfl⟩, nol2⟩, rfl⟩
      rw [if_neg h1] at h
      by_cases h1 : c = 32
      · rw [if_pos h1] at h; cases h; subst h1
        exact ⟨by rw [enc_eq]; rfl, ⟨_, ⟨.inr (.inl rfl), z⟩, nol⟩, ⟨_, ⟨fun _ => rfl, fun _ => rfl, fun _ => rfl, fun _ => rfl, fun _ => rfl, rfl⟩, nol2⟩, rfl⟩
      rw [if_neg h1] at h
      by_cases h1 : c = 33
      · rw [if_pos h1] at h; cases h; subst h1
        exact ⟨by rw [enc_eq]; rfl, ⟨_, ⟨.inr (.inl rfl), z⟩, nol⟩, ⟨_, ⟨fun h => absurd rfl h, fun _ => rfl, fun _ => rfl, fun _ => rfl, fun _ => rfl, rfl⟩, nol2⟩, rfl⟩
      rw [if_neg h1] at h
      by_cases h1 : c = 48
      · rw [if_pos h1] at h
        by_cases h2 : r.length < 8
        · rw [if_pos h2] at h; cases h
        · rw [if_neg h2] at h; cases h; subst h1
          have hl : (r.take 8).length = 8 := by rw [List.length_take]; omega
          have hlt := un_lt (r.take 8)
          rw [hl] at hlt
          refine ⟨?_, ⟨_, ⟨.inr (.inr (.inl rfl)), ios_i64 hlt⟩, nol⟩, ⟨_, ⟨fun _ => rfl, fun h => absurd rfl h, fun _ => rfl, fun _ => rfl, fun _ => rfl, rfl⟩, nol2⟩, rfl⟩
          rw [enc_eq]
          show 48 :: r = (48 :: be 8 (ofs (ios (un 0 (r.take 8))))) ++ r.drop 8
          rw [ofs_ios hlt]
          have hb := be_un (r.take 8)
          rw [hl] at hb
          rw [hb, List.cons_append, List.take_append_drop]
      rw [if_neg h1] at h
      by_cases h1 : c = 64
      · rw [if_pos h1, Option.map_eq_some_iff] at h
        obtain ⟨⟨t, s'⟩, h3, h4⟩ := h
        cases h4; subst h1
        refine ⟨?_, ⟨_, ⟨.inr (.inr (.inr (.inl rfl))), z⟩, nol⟩, ⟨_, ⟨fun _ => rfl, fun _ => rfl, fun h => absurd rfl h, fun _ => rfl, fun _ => rfl, rfl⟩, nol2⟩, rfl⟩
        rw [enc_eq]
        show 64 :: r = 64 :: (esc t ++ [0, 1]) ++ s'
        rw [esc_unesc _ r t s' (Nat.le_refl _) h3]; simp
      rw [if_neg h1] at h
      by_cases h1 : c = 80
      · rw [if_pos h1, Option.map_eq_some_iff] at h
        obtain ⟨⟨t, s'⟩, h3, h4⟩ := h
        cases h4; subst h1
        refine ⟨?_, ⟨_, ⟨.inr (.inr (.inr (.inr (.inl rfl)))), z⟩, nol⟩, ⟨_, ⟨fun _ => rfl, fun _ => rfl, fun _ => rfl, fun h => absurd rfl h, fun _ => rfl, rfl⟩, nol2⟩, rfl⟩
        rw [enc_eq]
        show 80 :: r = 80 :: (esc t ++ [0, 1]) ++ s'
        rw [esc_unesc _ r t s' (Nat.le_refl _) h3]; simp
      rw [if_neg h1] at h
      by_cases h1 : c = 96
      · rw [if_pos h1, Option.map_eq_some_iff] at h
        obtain ⟨⟨l, s'⟩, h3, h4⟩ := h
        cases h4; subst h1
        obtain ⟨e1, e2⟩ := decL_some (Q := fun x => KeyedAll x ∧ PlainAll x ∧ deep d x = false) ih _ r l s' h3
        refine ⟨?_, ⟨_, ⟨.inr (.inr (.inr (.inr (.inr rfl)))), z⟩, fun y hy => (e2 y hy).1⟩, ⟨_, ⟨fun _ => rfl, fun _ => rfl, fun _ => rfl, fun _ => rfl, fun h => absurd rfl h, rfl⟩, fun y hy => (e2 y hy).2.1⟩, ?_⟩
        · rw [enc_eq]
          show 96 :: r = 96 :: (l.flatMap enc ++ [1]) ++ s'
          rw [e1]; simp
        · simp only [deep, kids, Tr.l, Tr.f, List.map_nil, List.append_nil, List.any_eq_false]
          exact fun y hy => by rw [(e2 y hy).2.2]; exact Bool.false_ne_true
      rw [if_neg h1] at h; cases h
end Tr
end Go.Proofs.YtgcicljklejmjaaDoor
