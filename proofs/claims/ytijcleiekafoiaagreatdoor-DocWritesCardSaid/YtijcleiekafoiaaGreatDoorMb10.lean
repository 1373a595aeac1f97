import Derived.Test.YtijcleiekafoiaaGreatDoorMb09
import Derived.Test.YtijcleiekafoiaaGreatDoorMb04

/- Values of one's own: trees whose lists are rows of their own, none shared. -/
namespace Go.Proofs.YtijcleiekafoiaaGreatDoor
open Go.RowKit
open Tr
namespace Tr
/-- The blocks of a value's lists, and of all below. -/
inductive Blk : Tr Mm → Nat → Prop
  | B (x : Tr Mm) (k : Nat) (h : x.B.ownBlock = some k) : Blk x k
  | L (x : Tr Mm) (k : Nat) (h : x.L.ownBlock = some k) : Blk x k
  | F (x : Tr Mm) (k : Nat) (h : x.F.ownBlock = some k) : Blk x k
  | kid (x y : Tr Mm) (k : Nat) (h : y ∈ x.kids) (hk : Blk y k) : Blk x k
theorem Blk.cases {x : Tr Mm} {k : Nat} (h : Blk x k) : x.B.ownBlock = some k ∨ x.L.ownBlock = some k ∨ x.F.ownBlock = some k ∨ ∃ y ∈ x.kids, Blk y k := by
  match h with
  | .B _ _ h => exact .inl h
  | .L _ _ h => exact .inr (.inl h)
  | .F _ _ h => exact .inr (.inr (.inl h))
  | .kid _ y _ h hk => exact .inr (.inr (.inr ⟨y, h, hk⟩))

/-- Nothing of a value's own lists is shared with one another, nor with those below. -/
structure Apart1 (x : Tr Mm) : Prop where
  bl : ∀ k, x.B.ownBlock = some k → x.L.ownBlock ≠ some k
  bf : ∀ k, x.B.ownBlock = some k → x.F.ownBlock ≠ some k
  lf : ∀ k, x.L.ownBlock = some k → x.F.ownBlock ≠ some k
  kid : ∀ y ∈ x.kids, ∀ k, Blk y k → x.B.ownBlock ≠ some k ∧ x.L.ownBlock ≠ some k ∧ x.F.ownBlock ≠ some k
  kids : x.kids.Pairwise fun y z => ∀ k, Blk y k → ¬ Blk z k

/-- A value whose lists are its own. -/
inductive Own (w : World) : Tr Mm → Prop
  | mk (x : Tr Mm) (B : Ow w 5 1 x.B x.bs.length (bvs x.bs)) (L : Ow w 27 7 x.L x.l.length (x.l.flatMap cells)) (F : Ow w 87 8 x.F x.f.length (x.f.flatMap fcells))
      (ap : Apart1 x) (kids : ∀ y ∈ x.kids, Own w y) : Own w x
theorem Own.B {w : World} {x : Tr Mm} : Own w x → Ow w 5 1 x.B x.bs.length (bvs x.bs) | .mk _ h _ _ _ _ => h
theorem Own.L {w : World} {x : Tr Mm} : Own w x → Ow w 27 7 x.L x.l.length (x.l.flatMap cells) | .mk _ _ h _ _ _ => h
theorem Own.F {w : World} {x : Tr Mm} : Own w x → Ow w 87 8 x.F x.f.length (x.f.flatMap fcells) | .mk _ _ _ h _ _ => h
theorem Own.ap {w : World} {x : Tr Mm} : Own w x → Apart1 x | .mk _ _ _ _ h _ => h
theorem Own.kids {w : World} {x : Tr Mm} : Own w x → ∀ y ∈ x.kids, Own w y | .mk _ _ _ _ _ h => h
theorem Own.lt {w : World} {x : Tr Mm} (h : Own w x) : ∀ k, Blk x k → k < w.heap.size := by
  induction x using Tr.ind with
  | h x ih =>
    intro k hk
    rcases hk.cases with hk | hk | hk | ⟨y, hy, hk⟩
    · exact h.B.lt k hk
    · exact h.L.lt k hk
    · exact h.F.lt k hk
    · exact ih y hy (h.kids y hy) k hk
theorem Own.kept {w w1 : World} {S : Nat → Prop} {x : Tr Mm} (h : Own w x) (f : Fr S w w1) (hS : ∀ k, Blk x k → ¬ S k) : Own w1 x := by
  induction x using Tr.ind with
  | h x ih =>
    exact ⟨x, h.B.kept f (fun k hk => hS k (.B x k hk)), h.L.kept f (fun k hk => hS k (.L x k hk)), h.F.kept f (fun k hk => hS k (.F x k hk)), h.ap, fun y hy => ih y hy (h.kids y hy) (fun k hk => hS k (.kid x y k hy hk))⟩
theorem Own.kept0 {w w1 : World} {x : Tr Mm} (h : Own w x) (f : Fr no w w1) : Own w1 x := h.kept f (fun _ _ h => h)

/-- A copy of a value that is as it should be is so too. -/
theorem Own.good {w w1 : World} {x y : Tr Mm} (h : Own w1 y) (hb : bare y = bare x) (hg : Good w x) : Good w1 y := by
  induction x using Tr.ind generalizing y with
  | h x ih =>
    have e1 : y.bs = x.bs := by rw [← bare_bs y, ← bare_bs x, hb]
    have e2 : y.t = x.t := by rw [← bare_t y, ← bare_t x, hb]
    have e3 : y.i = x.i := by rw [← bare_i y, ← bare_i x, hb]
    have e4 : y.l.map bare = x.l.map bare := by rw [← bare_l y, ← bare_l x, hb]
    have e5 : (y.f.map fun p => (p.1, bare p.2)) = x.f.map fun p => (p.1, bare p.2) := by rw [← bare_f y, ← bare_f x, hb]
    have l4 : y.l.length = x.l.length := by have := congrArg List.length e4; simpa using this
    have l5 : y.f.length = x.f.length := by have := congrArg List.length e5; simpa using this
    have n5 : y.f.map (·.1) = x.f.map (·.1) := by
      have := congrArg (List.map (·.1)) e5
      simpa [List.map_map, Function.comp_def] using this
    have hk : y.kids.map bare = x.kids.map bare := by rw [← bare_kids y, ← bare_kids x, hb]
    have nd := hg.node
    refine ⟨y, ⟨h.B.sl, h.L.sl, h.F.sl, e3 ▸ nd.i, e2 ▸ nd.t, e1 ▸ nd.bs, l4 ▸ nd.l, l5 ▸ nd.f, fun p hp => ?_, l4 ▸ nd.lw, l5 ▸ nd.fw⟩, fun z hz => ?_⟩
    · have : p.1 ∈ x.f.map (·.1) := by rw [← n5]; exact List.mem_map_of_mem hp
      obtain ⟨q, hq, e⟩ := List.mem_map.1 this
      rw [← e]; exact nd.n q hq
    · have : bare z ∈ x.kids.map bare := by rw [← hk]; exact List.mem_map_of_mem hz
      obtain ⟨q, hq, e⟩ := List.mem_map.1 this
      exact ih q hq (h.kids z hz) e.symm (hg.kids q hq)

theorem flat_put7 (l : List (Tr Mm)) (i : Nat) (x : Tr Mm) (h : i < l.length) :
    (((((((l.flatMap cells).set (i * 7) (.int .u8 x.k.toNat)).set (i * 7 + 1) (.bool x.b)).set (i * 7 + 2) (.int .i64 x.i)).set (i * 7 + 3) (.string ⟨x.t.toArray⟩)).set (i * 7 + 4) x.B).set (i * 7 + 5) x.L).set (i * 7 + 6) x.F = (l.set i x).flatMap cells := by
  induction l generalizing i with
  | nil => simp at h
  | cons a l ih =>
    cases i with
    | zero => simp [cells]
    | succ i =>
      have := ih i (by simpa using h)
      rw [List.set_cons_succ, List.flatMap_cons, List.flatMap_cons, ← this]
      rw [show (i + 1) * 7 = i * 7 + 7 by omega]
      simp [cells, Nat.add_right_comm]
theorem flat_put8 (l : List (List UInt8 × Tr Mm)) (i : Nat) (x : Tr Mm) (h : i < l.length) :
    (((((((l.flatMap fcells).set (i * 8 + 1) (.int .u8 x.k.toNat)).set (i * 8 + 1 + 1) (.bool x.b)).set (i * 8 + 1 + 2) (.int .i64 x.i)).set (i * 8 + 1 + 3) (.string ⟨x.t.toArray⟩)).set (i * 8 + 1 + 4) x.B).set (i * 8 + 1 + 5) x.L).set (i * 8 + 1 + 6) x.F = (l.set i (l[i].1, x)).flatMap fcells := by
  induction l generalizing i with
  | nil => simp at h
  | cons a l ih =>
    cases i with
    | zero => simp [fcells, cells]
    | succ i =>
      have := ih i (by simpa using h)
      rw [List.set_cons_succ, List.flatMap_cons, List.flatMap_cons, List.getElem_cons_succ, ← this]
      rw [show (i + 1) * 8 = i * 8 + 8 by omega]
      simp [fcells, cells, Nat.add_right_comm]

/-- Seven cells written into a block. -/
def put7 (w : World) (g o : Nat) (x : Tr Mm) : World :=
  (((((((w.setCell ⟨g, o, none⟩ (.int .u8 x.k.toNat)).setCell ⟨g, o + 1, none⟩ (.bool x.b)).setCell ⟨g, o + 2, none⟩ (.int .i64 x.i)).setCell ⟨g, o + 3, none⟩ (.string ⟨x.t.toArray⟩)).setCell ⟨g, o + 4, none⟩ x.B).setCell ⟨g, o + 5, none⟩ x.L).setCell ⟨g, o + 6, none⟩ x.F)
theorem put7_fr (w : World) (g o : Nat) (x : Tr Mm) : Fr (fun k => k = g) w (put7 w g o x) := by
  unfold put7
  have h0 := Fr.setCell (Fr.refl (fun k => k = g) w) ⟨g, o, none⟩ (.int .u8 x.k.toNat) (fun _ => rfl)
  have h1 := Fr.setCell h0 ⟨g, o + 1, none⟩ (.bool x.b) (fun _ => rfl)
  have h2 := Fr.setCell h1 ⟨g, o + 2, none⟩ (.int .i64 x.i) (fun _ => rfl)
  have h3 := Fr.setCell h2 ⟨g, o + 3, none⟩ (.string ⟨x.t.toArray⟩) (fun _ => rfl)
  have h4 := Fr.setCell h3 ⟨g, o + 4, none⟩ x.B (fun _ => rfl)
  have h5 := Fr.setCell h4 ⟨g, o + 5, none⟩ x.L (fun _ => rfl)
  exact Fr.setCell h5 ⟨g, o + 6, none⟩ x.F (fun _ => rfl)
theorem here {w : World} {e : TypeId} {sz g og n c : Nat} {xs : List Value} (h : Ow w e sz (.slice (some ⟨g, og, none⟩) n c) n xs) :
    og = 0 ∧ ∃ cur, w.heap[g]? = some (.cells cur e (0, 0)) ∧ n ≤ c ∧ c ≤ maxLen ∧ c * sz ≤ cur.size ∧ cur.toList.take (n * sz) = xs := by
  rcases h.2 with ⟨h1, _⟩ | ⟨g', cap, cur, h1, h2, h3, h4, h5, h6⟩
  · cases h1
  · cases h1; exact ⟨rfl, cur, h2, h3, h4, h5, h6⟩
theorem here_some {w : World} {e : TypeId} {sz n c : Nat} {A : Option Addr} {xs : List Value} (h : Ow w e sz (.slice A n c) n xs) (hn : 0 < n) : ∃ g, A = some ⟨g, 0, none⟩ := by
  rcases h.2 with ⟨h1, h2⟩ | ⟨g', cap, cur, h1, _⟩
  · simp only [Value.slice.injEq] at h1; omega
  · simp only [Value.slice.injEq] at h1; exact ⟨g', h1.1⟩
theorem ow_put7 {w : World} {e : TypeId} {g n c i : Nat} {l : List (Tr Mm)} (x : Tr Mm) (h : Ow w e 7 (.slice (some ⟨g, 0, none⟩) n c) n (l.flatMap cells)) (hi : i < l.length) :
    Ow (put7 w g (i * 7) x) e 7 (.slice (some ⟨g, 0, none⟩) n c) n ((l.set i x).flatMap cells) := by
  obtain ⟨_, cur, h2, h3, h4, h5, h6⟩ := here h
  have hlen : ((l.set i x).flatMap cells).length = n * 7 := by
    rw [← flat_put7 l i x hi]; simp only [List.length_set]; exact h.1
  refine ⟨hlen, .inr ⟨g, c, _, rfl, hp_same (hp_same (hp_same (hp_same (hp_same (hp_same (hp_same h2 _ _) _ _) _ _) _ _) _ _) _ _) _ _, h3, h4, by simpa using h5, ?_⟩⟩
  simp only [Array.toList_setIfInBounds, List.take_set, h6]
  exact flat_put7 l i x hi
theorem ow_put8 {w : World} {e : TypeId} {g n c i : Nat} {l : List (List UInt8 × Tr Mm)} (x : Tr Mm) (h : Ow w e 8 (.slice (some ⟨g, 0, none⟩) n c) n (l.flatMap fcells)) (hi : i < l.length) :
    Ow (put7 w g (i * 8 + 1) x) e 8 (.slice (some ⟨g, 0, none⟩) n c) n ((l.set i (l[i].1, x)).flatMap fcells) := by
  obtain ⟨_, cur, h2, h3, h4, h5, h6⟩ := here h
  have hlen : ((l.set i (l[i].1, x)).flatMap fcells).length = n * 8 := by
    rw [← flat_put8 l i x hi]; simp only [List.length_set]; exact h.1
  refine ⟨hlen, .inr ⟨g, c, _, rfl, hp_same (hp_same (hp_same (hp_same (hp_same (hp_same (hp_same h2 _ _) _ _) _ _) _ _) _ _) _ _) _ _, h3, h4, by simpa using h5, ?_⟩⟩
  simp only [Array.toList_setIfInBounds, List.take_set, h6]
  exact flat_put8 l i x hi
end Tr
end Go.Proofs.YtijcleiekafoiaaGreatDoor

/- value.Clone: a value with memory of its own. -/
namespace Go.Proofs.YtijcleiekafoiaaGreatDoor
open Go.RowKit
open Tr

/-- A row of one's own, clipped. -/
theorem own_clip {w : World} {e : TypeId} {sz n c : Nat} {A : Option Addr} {xs : List Value} (h : Ow w e sz (.slice A n c) n xs) : Ow w e sz (.slice A n n) n xs := by
  refine ⟨h.1, ?_⟩
  rcases h.2 with ⟨h1, h2⟩ | ⟨g, cap, cur, h1, h2, h3, h4, h5, h6⟩
  · simp only [Value.slice.injEq] at h1
    obtain ⟨rfl, h3, _⟩ := h1
    subst h2
    exact .inl ⟨rfl, rfl⟩
  · simp only [Value.slice.injEq] at h1
    obtain ⟨rfl, _, rfl⟩ := h1
    exact .inr ⟨g, n, cur, rfl, h2, Nat.le_refl _, Nat.le_trans h3 h4, Nat.le_trans (Nat.mul_le_mul_right _ h3) h5, h6⟩

theorem _root_.Go.Fr.aft {S : Nat → Prop} {w w1 w2 : World} (h : Fr no w w1) (f : Fr S w1 w2) (hS : ∀ k, S k → w.heap.size ≤ k) : Fr no w w2 :=
  h.trans f (fun k hk h => absurd (hS k h) (by omega))
/-- What Clone hands out. -/
def Cloned (w w' : World) (x : Tr Mm) (e : Ending) : Prop := ∃ y : Tr Mm, e = .returned y.agg ∧ bare y = bare x ∧ Tr.Own w' y ∧ (∀ k, Blk y k → w.heap.size ≤ k) ∧ Fr no w w'

theorem seven_cells {w : World} {g : Nat} {a b c d e f h : Value} {T : TypeId} (hr : w.heap[g]? = some (.cells #[a, b, c, d, e, f, h] T (0, 0))) :
    w.cell? ⟨g, 0, none⟩ = some a ∧ w.cell? ⟨g, 1, none⟩ = some b ∧ w.cell? ⟨g, 2, none⟩ = some c ∧ w.cell? ⟨g, 3, none⟩ = some d ∧ w.cell? ⟨g, 4, none⟩ = some e ∧ w.cell? ⟨g, 5, none⟩ = some f ∧ w.cell? ⟨g, 6, none⟩ = some h ∧
      (∀ o, w.frozen? ⟨g, o, none⟩ = false) ∧ g < w.heap.size := by
  have hc : ∀ i, w.cell? ⟨g, i, none⟩ = (#[a, b, c, d, e, f, h] : Array Value)[i]? := fun i => by rw [cell_of_row w g i _ _ (0, 0) hr]
  exact ⟨hc 0, hc 1, hc 2, hc 3, hc 4, hc 5, hc 6, fun o => by simp [World.frozen?, hr], (Array.getElem?_eq_some_iff.1 hr).1⟩
theorem cells_one (l : List (Tr Mm)) (h : ∀ y ∈ l, ∃ BA bc LA lc FA fc, Forms y BA bc LA lc FA fc) : ∀ u ∈ l.flatMap cells, u.oneCell' = true := by
  intro u hu
  obtain ⟨y, hy, hu⟩ := List.mem_flatMap.1 hu
  obtain ⟨BA, bc, LA, lc, FA, fc, hf⟩ := h y hy
  simp only [cells, hf.B, hf.L, hf.F, List.mem_cons, List.not_mem_nil, or_false] at hu
  rcases hu with rfl | rfl | rfl | rfl | rfl | rfl | rfl <;> rfl
theorem fcells_one (l : List (List UInt8 × Tr Mm)) (h : ∀ p ∈ l, ∃ BA bc LA lc FA fc, Forms p.2 BA bc LA lc FA fc) : ∀ u ∈ l.flatMap fcells, u.oneCell' = true := by
  intro u hu
  obtain ⟨y, hy, hu⟩ := List.mem_flatMap.1 hu
  obtain ⟨BA, bc, LA, lc, FA, fc, hf⟩ := h y hy
  simp only [fcells, cells, hf.B, hf.L, hf.F, List.mem_cons, List.not_mem_nil, or_false] at hu
  rcases hu with rfl | rfl | rfl | rfl | rfl | rfl | rfl | rfl <;> rfl

theorem clone_fin {w w0 w1 w2 w3 w4 wr wz : World} {x : Tr Mm} {B1 L1 F1 : Option Addr} {ys : List (Tr Mm)} {fs : List (List UInt8 × Tr Mm)}
    (z1 : w.heap.size + 2 ≤ w0.heap.size) (z2 : w0.heap.size ≤ w1.heap.size) (z3 : w1.heap.size ≤ w2.heap.size) (z4 : w2.heap.size ≤ w3.heap.size) (z5 : w3.heap.size ≤ w4.heap.size)
    (nB : ∀ k, Value.ownBlock (.slice B1 x.bs.length x.bs.length) = some k → w0.heap.size ≤ k ∧ k < w1.heap.size) (nL : ∀ k, Value.ownBlock (.slice L1 x.l.length x.l.length) = some k → w1.heap.size ≤ k ∧ k < w2.heap.size)
    (nF : ∀ k, Value.ownBlock (.slice F1 x.f.length x.f.length) = some k → w2.heap.size ≤ k ∧ k < w3.heap.size)
    (oB : Ow w4 5 1 (.slice B1 x.bs.length x.bs.length) x.bs.length (bvs x.bs)) (oL : Ow w4 27 7 (.slice L1 x.l.length x.l.length) x.l.length (ys.flatMap cells))
    (oF : Ow wr 87 8 (.slice F1 x.f.length x.f.length) x.f.length (fs.flatMap fcells)) (hfr : Fr (fun k => Value.ownBlock (.slice F1 x.f.length x.f.length) = some k) w4 wr) (hsf : Fr (fun k => k = w.heap.size + 1) wr wz) (fin : Fr no w wz)
    (yl : ys.length = x.l.length) (yb : ys.map bare = x.l.map bare) (yo : ∀ y ∈ ys, Tr.Own w4 y) (yp : ys.Pairwise fun y z => ∀ k, Blk y k → ¬ Blk z k) (yn : ∀ y ∈ ys, ∀ k, Blk y k → w3.heap.size ≤ k)
    (zl : fs.length = x.f.length) (zb : (fs.map fun p => (p.1, bare p.2)) = x.f.map fun p => (p.1, bare p.2)) (zo : ∀ p ∈ fs, Tr.Own wr p.2) (zp : fs.Pairwise fun y z => ∀ k, Blk y.2 k → ¬ Blk z.2 k) (zn : ∀ p ∈ fs, ∀ k, Blk p.2 k → w4.heap.size ≤ k) :
    Cloned w wz x (.returned (.agg #[.int .u8 x.k.toNat, .bool x.b, .int .i64 x.i, .string ⟨x.t.toArray⟩, .slice B1 x.bs.length x.bs.length, .slice L1 x.l.length x.l.length, .slice F1 x.f.length x.f.length])) := by
  obtain ⟨y, hy⟩ : ∃ y : Tr Mm, y = .mk x.k x.b x.i x.t x.bs (.slice B1 x.bs.length x.bs.length, .slice L1 x.l.length x.l.length, .slice F1 x.f.length x.f.length) ys fs := ⟨_, rfl⟩
  have yk : y.k = x.k := by rw [hy]; rfl
  have yB : y.B = .slice B1 x.bs.length x.bs.length := by rw [hy]; rfl
  have yL : y.L = .slice L1 x.l.length x.l.length := by rw [hy]; rfl
  have yF : y.F = .slice F1 x.f.length x.f.length := by rw [hy]; rfl
  have ybs : y.bs = x.bs := by rw [hy]; rfl
  have yll : y.l = ys := by rw [hy]; rfl
  have yff : y.f = fs := by rw [hy]; rfl
  have yag : y.agg = .agg #[.int .u8 x.k.toNat, .bool x.b, .int .i64 x.i, .string ⟨x.t.toArray⟩, .slice B1 x.bs.length x.bs.length, .slice L1 x.l.length x.l.length, .slice F1 x.f.length x.f.length] := by rw [hy]; rfl
  have hbare : bare y = bare x := tr_ext (by rw [bare_k, bare_k, yk]) (by rw [bare_b, bare_b, hy]; rfl) (by rw [bare_i, bare_i, hy]; rfl) (by rw [bare_t, bare_t, hy]; rfl) (by rw [bare_bs, bare_bs, ybs]) (by rw [bare_l, bare_l, yll, yb]) (by rw [bare_f, bare_f, yff, zb])
  have hk : ∀ z ∈ y.kids, z ∈ ys ∨ ∃ p ∈ fs, p.2 = z := fun z hz => by
    unfold kids at hz
    rw [yll, yff] at hz
    rcases List.mem_append.1 hz with hz | hz
    · exact .inl hz
    · exact .inr (List.mem_map.1 hz)
  have hkn : ∀ z ∈ y.kids, ∀ k, Blk z k → w3.heap.size ≤ k := fun z hz k hkb => by
    rcases hk z hz with hz | ⟨p, hp, rfl⟩
    · exact yn z hz k hkb
    · have := zn p hp k hkb; omega
  have hsn : ∀ k, w.heap.size + 2 ≤ k → ¬ k = w.heap.size + 1 := fun k h => by omega
  have hown : Tr.Own wz y := by
    refine ⟨y, ?_, ?_, ?_, ⟨fun k h1 h2 => ?_, fun k h1 h2 => ?_, fun k h1 h2 => ?_, fun z hz k hkb => ?_, ?_⟩, fun z hz => ?_⟩
    · rw [yB, ybs]
      exact (oB.kept hfr (fun k h1 h2 => by have a := nB k h1; have b := nF k h2; omega)).kept hsf (fun k h1 => hsn k (by have a := nB k h1; omega))
    · rw [yL, yll, yl]
      exact (oL.kept hfr (fun k h1 h2 => by have a := nL k h1; have b := nF k h2; omega)).kept hsf (fun k h1 => hsn k (by have a := nL k h1; omega))
    · rw [yF, yff, zl]
      exact oF.kept hsf (fun k h1 => hsn k (by have a := nF k h1; omega))
    · rw [yB] at h1; rw [yL] at h2; have a := nB k h1; have b := nL k h2; omega
    · rw [yB] at h1; rw [yF] at h2; have a := nB k h1; have b := nF k h2; omega
    · rw [yL] at h1; rw [yF] at h2; have a := nL k h1; have b := nF k h2; omega
    · have c := hkn z hz k hkb
      rw [yB, yL, yF]
      exact ⟨fun h => by have a := nB k h; omega, fun h => by have a := nL k h; omega, fun h => by have a := nF k h; omega⟩
    · unfold kids
      rw [yll, yff]
      refine List.pairwise_append.2 ⟨yp, List.pairwise_map.2 zp, fun z hz z' hz' k h1 h2 => ?_⟩
      obtain ⟨p, hp, rfl⟩ := List.mem_map.1 hz'
      have a := (yo z hz).lt k h1; have b := zn p hp k h2; omega
    · have hn9 : ∀ k, Blk z k → ¬ (k = w.heap.size + 1) := fun k h => hsn k (by have := hkn z hz k h; omega)
      rcases hk z hz with hz2 | ⟨p, hp, rfl⟩
      · exact ((yo z hz2).kept hfr (fun k h1 h2 => by have a := hkn z hz k h1; have b := nF k h2; omega)).kept hsf hn9
      · exact (zo p hp).kept hsf hn9
  refine ⟨y, by rw [yag], hbare, hown, fun k hkb => ?_, fin⟩
  rcases hkb.cases with h | h | h | ⟨z, hz, h⟩
  · rw [yB] at h; have a := nB k h; omega
  · rw [yL] at h; have a := nL k h; omega
  · rw [yF] at h; have a := nF k h; omega
  · have := hkn z hz k h; omega
def set7 (w : World) (g : Nat) (a b c d e f h : Value) : World :=
  ((((((w.setCell ⟨g, 0, none⟩ a).setCell ⟨g, 1, none⟩ b).setCell ⟨g, 2, none⟩ c).setCell ⟨g, 3, none⟩ d).setCell ⟨g, 4, none⟩ e).setCell ⟨g, 5, none⟩ f).setCell ⟨g, 6, none⟩ h
theorem set7_row {w : World} {g : Nat} {a b c d e f h a' b' c' d' e' f' h' : Value} {T : TypeId} (hr : w.heap[g]? = some (.cells #[a', b', c', d', e', f', h'] T (0, 0))) : (set7 w g a b c d e f h).heap[g]? = some (.cells #[a, b, c, d, e, f, h] T (0, 0)) := by
  have h7 := hp_same (hp_same (hp_same (hp_same (hp_same (hp_same (hp_same hr 0 a) 1 b) 2 c) 3 d) 4 e) 5 f) 6 h
  simp only [List.setIfInBounds_toArray, List.set_cons_zero, List.set_cons_succ] at h7
  exact h7
theorem set7_fr (w : World) (g : Nat) (a b c d e f h : Value) : Fr (fun k => k = g) w (set7 w g a b c d e f h) := by
  unfold set7
  have h0 := Fr.setCell (Fr.refl (fun k => k = g) w) ⟨g, 0, none⟩ a (fun _ => rfl)
  have h1 := Fr.setCell h0 ⟨g, 1, none⟩ b (fun _ => rfl)
  have h2 := Fr.setCell h1 ⟨g, 2, none⟩ c (fun _ => rfl)
  have h3 := Fr.setCell h2 ⟨g, 3, none⟩ d (fun _ => rfl)
  have h4 := Fr.setCell h3 ⟨g, 4, none⟩ e (fun _ => rfl)
  have h5 := Fr.setCell h4 ⟨g, 5, none⟩ f (fun _ => rfl)
  exact Fr.setCell h5 ⟨g, 6, none⟩ h (fun _ => rfl)
theorem put_next {α : Type} {ys l : List α} {j : Nat} {y : α} (h : ys.length = j) (hj : j < l.length) : (ys ++ [y]) ++ l.drop (j + 1) = (ys ++ l.drop j).set j y := by
  rw [List.drop_eq_getElem_cons hj, List.set_append_right _ _ (by omega), h, Nat.sub_self, List.set_cons_zero, List.append_assoc]; rfl

set_option maxRecDepth 100000 in
set_option maxHeartbeats 8000000 in
theorem clone_any (x : Tr Mm) : ∀ (w : World) (_ : Tr.Good w x), Calls Tryz.prog 61 #[x.agg] w (fun e w' => Cloned w w' x e) := by
  induction x using Tr.ind with
  | h x ih =>
    intro w hx
    obtain ⟨BA, bc, LA, lc, FA, fc, hf⟩ := hx.node.forms
    have nd := hx.node
    have hB := nd.B; have hL := nd.L; have hF := nd.F
    rw [hf.B] at hB; rw [hf.L] at hL; rw [hf.F] at hF
    have hl1 := cells_one x.l (fun y hy => (hx.l y hy).node.forms)
    have hf1 := fcells_one x.f (fun y hy => (hx.f y hy).node.forms)
    have hnb : x.bs.length ≤ 140737488351232 := nd.bs
    have hnl : x.l.length ≤ 140737488351232 := nd.l
    have hnf : x.f.length ≤ 140737488351232 := nd.f
    have hlw : x.l.length * 104 ≤ 140737488351232 := nd.lw
    have hfw : x.f.length * 120 ≤ 140737488351232 := nd.fw
    rw [hf.agg]
    have HX := Lib.hid hx; have HFO := Lib.hid hf; have HBS := Lib.hid hB; have HLS := Lib.hid hL; have HFS := Lib.hid hF; have IH := Lib.hid ih; have HL1 := Lib.hid hl1; have HF1 := Lib.hid hf1
    clear hx hf hB hL hF ih hl1 hf1 nd
    go_enter Tryz.func61, Tryz.ntmps61
    go_wp2_with fail
    have hb0 : ((w.alloc (.cells #[.int .u8 x.k.toNat, .bool x.b, .int .i64 x.i, .string ⟨x.t.toArray⟩, .slice BA x.bs.length bc, .slice LA x.l.length lc, .slice FA x.f.length fc] 27)).alloc (.cells #[.int .u8 0, .bool false, .int .i64 0, .string ⟨#[]⟩, .slice none 0 0, .slice none 0 0, .slice none 0 0] 27)).heap[w.heap.size]? = some (.cells #[.int .u8 x.k.toNat, .bool x.b, .int .i64 x.i, .string ⟨x.t.toArray⟩, .slice BA x.bs.length bc, .slice LA x.l.length lc, .slice FA x.f.length fc] 27) := ((Fr.refl no _).alloc _).heap (heap_alloc_new w _) (fun h => h)
    have hr0 := heap_alloc_new (w.alloc (.cells #[.int .u8 x.k.toNat, .bool x.b, .int .i64 x.i, .string ⟨x.t.toArray⟩, .slice BA x.bs.length bc, .slice LA x.l.length lc, .slice FA x.f.length fc] 27)) (.cells #[.int .u8 0, .bool false, .int .i64 0, .string ⟨#[]⟩, .slice none 0 0, .slice none 0 0, .slice none 0 0] 27)
    have fz : Fr no w ((w.alloc (.cells #[.int .u8 x.k.toNat, .bool x.b, .int .i64 x.i, .string ⟨x.t.toArray⟩, .slice BA x.bs.length bc, .slice LA x.l.length lc, .slice FA x.f.length fc] 27)).alloc (.cells #[.int .u8 0, .bool false, .int .i64 0, .string ⟨#[]⟩, .slice none 0 0, .slice none 0 0, .slice none 0 0] 27)) := ((Fr.refl no w).alloc _).alloc _
    have hz : w.heap.size + 2 ≤ ((w.alloc (.cells #[.int .u8 x.k.toNat, .bool x.b, .int .i64 x.i, .string ⟨x.t.toArray⟩, .slice BA x.bs.length bc, .slice LA x.l.length lc, .slice FA x.f.length fc] 27)).alloc (.cells #[.int .u8 0, .bool false, .int .i64 0, .string ⟨#[]⟩, .slice none 0 0, .slice none 0 0, .slice none 0 0] 27)).heap.size := by rw [World.size_alloc, World.size_alloc]; omega
    rw [World.size_alloc] at hr0
    generalize (w.alloc (.cells #[.int .u8 x.k.toNat, .bool x.b, .int .i64 x.i, .string ⟨x.t.toArray⟩, .slice BA x.bs.length bc, .slice LA x.l.length lc, .slice FA x.f.length fc] 27)).alloc (.cells #[.int .u8 0, .bool false, .int .i64 0, .string ⟨#[]⟩, .slice none 0 0, .slice none 0 0, .slice none 0 0] 27) = w0 at hb0 hr0 fz hz ⊢
    have HB0 := Lib.hid hb0; have HR0 := Lib.hid hr0; have FR0 := Lib.hid fz; have HZ0 := Lib.hid hz
    clear hb0 hr0 fz hz
    refine (sclB_any w0 _ x.bs.length (bvs x.bs) (HBS.out.kept0 FR0.out) (by omega) hnb (bvs_one _)).mono ?_
    rintro e v1 ⟨B1, c1, rfl, ow1, nb1, f1⟩
    have hb0 := f1.heap HB0.out (fun h => h)
    have hr0 := f1.heap HR0.out (fun h => h)
    have fa := FR0.out.trans f1 (fun _ _ h => h)
    have hc : x.bs.length ≤ c1 := by
      obtain ⟨A', c', h1, h2, _⟩ := ow1.sl.form
      cases h1; exact h2
    have hnew : ∀ k, Value.ownBlock (.slice B1 x.bs.length x.bs.length) = some k → w0.heap.size ≤ k := fun k hk => nb1 k (by cases B1 <;> exact hk)
    have ob := own_clip ow1
    obtain ⟨b0, b1, b2, b3, b4, b5, b6, bz, bl⟩ := seven_cells hb0
    have HB0 := Lib.hid hb0; have HR0 := Lib.hid hr0; have FRA := Lib.hid fa; have NB1 := Lib.hid hnew; have OB := Lib.hid ob
    have hfs := f1.size
    clear hb0 hr0 fa hnew ob ow1 nb1 f1
    go_wp2_with fail
    refine (bclip_any v1 B1 _ c1 hc).mono ?_
    rintro e v' ⟨rfl, hw⟩
    subst v'
    clear hc
    go_wp2_with fail
    have hs1 := Fr.setCell (Fr.refl (fun k => k = w.heap.size) v1) ⟨w.heap.size, 4, none⟩ (.slice B1 x.bs.length x.bs.length) (fun _ => rfl)
    have hb1 : (v1.setCell ⟨w.heap.size, 4, none⟩ (.slice B1 x.bs.length x.bs.length)).heap[w.heap.size]? = some (.cells #[.int .u8 x.k.toNat, .bool x.b, .int .i64 x.i, .string ⟨x.t.toArray⟩, .slice B1 x.bs.length x.bs.length, .slice LA x.l.length lc, .slice FA x.f.length fc] 27 (0, 0)) := hp_same HB0.out 4 _
    have hr1 := hs1.heap HR0.out (fun h => by have h : w.heap.size + 1 = w.heap.size := h; omega)
    have hg : w.heap.size + 2 ≤ w0.heap.size := HZ0.out
    have hz : w.heap.size + 2 ≤ (v1.setCell ⟨w.heap.size, 4, none⟩ (.slice B1 x.bs.length x.bs.length)).heap.size := Nat.le_trans (Nat.le_trans hg hfs) hs1.size
    have hm := Nat.le_trans hfs hs1.size
    have ob2 := OB.out.kept hs1 (fun k hk h => by have := NB1.out k hk; have h : k = w.heap.size := h; omega)
    have fb := FRA.out.aft hs1 (fun k h => by have h : k = w.heap.size := h; omega)
    generalize v1.setCell ⟨w.heap.size, 4, none⟩ (.slice B1 x.bs.length x.bs.length) = w1 at hb1 hr1 ob2 fb hz hm  ⊢
    have LT1 := Lib.hid ob2.lt; have HM1 := Lib.hid hm; clear hm
    have FR1 := Lib.hid fb; have OW1 := Lib.hid ob2; have HB1 := Lib.hid hb1; have HR1 := Lib.hid hr1; have HZ1 := Lib.hid hz
    clear hfs hs1 hb1 hr1 ob2 fb hz hg b0 b1 b2 b3 b4 b5 b6 bz bl HB0 HR0 OB FRA
    refine (sclV_any w1 _ x.l.length (x.l.flatMap cells) (HLS.out.kept0 FR1.out) (by omega) hnl HL1.out).mono ?_
    rintro e v2 ⟨L1, c2, rfl, ow2, nb2, f2⟩
    have hb0 := f2.heap HB1.out (fun h => h)
    have hr0 := f2.heap HR1.out (fun h => h)
    have fa := FR1.out.trans f2 (fun _ _ h => h)
    have hc : x.l.length ≤ c2 := by
      obtain ⟨A', c', h1, h2, _⟩ := ow2.sl.form
      cases h1; exact h2
    have hnew : ∀ k, Value.ownBlock (.slice L1 x.l.length x.l.length) = some k → w1.heap.size ≤ k := fun k hk => nb2 k (by cases L1 <;> exact hk)
    have ob := own_clip ow2
    obtain ⟨b0, b1, b2, b3, b4, b5, b6, bz, bl⟩ := seven_cells hb0
    have HB0 := Lib.hid hb0; have HR0 := Lib.hid hr0; have FRA := Lib.hid fa; have NB2 := Lib.hid hnew; have OB := Lib.hid ob
    have P1 := Lib.hid (OW1.out.kept0 f2); clear OW1
    have hfs := f2.size
    clear hb0 hr0 fa hnew ob ow2 nb2 f2 HB1 HR1 FR1
    go_wp2_with fail
    refine (scpV_any v2 L1 _ c2 hc).mono ?_
    rintro e v' ⟨rfl, hw⟩
    subst v'
    clear hc
    go_wp2_with fail
    have hs1 := Fr.setCell (Fr.refl (fun k => k = w.heap.size) v2) ⟨w.heap.size, 5, none⟩ (.slice L1 x.l.length x.l.length) (fun _ => rfl)
    have hb1 : (v2.setCell ⟨w.heap.size, 5, none⟩ (.slice L1 x.l.length x.l.length)).heap[w.heap.size]? = some (.cells #[.int .u8 x.k.toNat, .bool x.b, .int .i64 x.i, .string ⟨x.t.toArray⟩, .slice B1 x.bs.length x.bs.length, .slice L1 x.l.length x.l.length, .slice FA x.f.length fc] 27 (0, 0)) := hp_same HB0.out 5 _
    have hr1 := hs1.heap HR0.out (fun h => by have h : w.heap.size + 1 = w.heap.size := h; omega)
    have hg : w.heap.size + 2 ≤ w1.heap.size := HZ1.out
    have hz : w.heap.size + 2 ≤ (v2.setCell ⟨w.heap.size, 5, none⟩ (.slice L1 x.l.length x.l.length)).heap.size := Nat.le_trans (Nat.le_trans hg hfs) hs1.size
    have hm := Nat.le_trans hfs hs1.size
    have ob2 := OB.out.kept hs1 (fun k hk h => by have := NB2.out k hk; have h : k = w.heap.size := h; omega)
    have fb := FRA.out.aft hs1 (fun k h => by have h : k = w.heap.size := h; omega)
    have o1 := P1.out.kept hs1 (fun k hk h => by have := NB1.out k hk; have := HZ0.out; have h : k = w.heap.size := h; omega); clear P1
    generalize v2.setCell ⟨w.heap.size, 5, none⟩ (.slice L1 x.l.length x.l.length) = w2 at hb1 hr1 ob2 fb hz hm o1 ⊢
    have LT2 := Lib.hid ob2.lt; have HM2 := Lib.hid hm; clear hm
    have FR2 := Lib.hid fb; have OW2 := Lib.hid ob2; have HB2 := Lib.hid hb1; have HR2 := Lib.hid hr1; have HZ2 := Lib.hid hz
    have OW1 := Lib.hid o1; clear o1
    clear hfs hs1 hb1 hr1 ob2 fb hz hg b0 b1 b2 b3 b4 b5 b6 bz bl HB0 HR0 OB FRA
    refine (sclF_any w2 _ x.f.length (x.f.flatMap fcells) (HFS.out.kept0 FR2.out) (by omega) hnf HF1.out).mono ?_
    rintro e v3 ⟨F1, c3, rfl, ow3, nb3, f3⟩
    have hb0 := f3.heap HB2.out (fun h => h)
    have hr0 := f3.heap HR2.out (fun h => h)
    have fa := FR2.out.trans f3 (fun _ _ h => h)
    have hc : x.f.length ≤ c3 := by
      obtain ⟨A', c', h1, h2, _⟩ := ow3.sl.form
      cases h1; exact h2
    have hnew : ∀ k, Value.ownBlock (.slice F1 x.f.length x.f.length) = some k → w2.heap.size ≤ k := fun k hk => nb3 k (by cases F1 <;> exact hk)
    have ob := own_clip ow3
    obtain ⟨b0, b1, b2, b3, b4, b5, b6, bz, bl⟩ := seven_cells hb0
    have HB0 := Lib.hid hb0; have HR0 := Lib.hid hr0; have FRA := Lib.hid fa; have NB3 := Lib.hid hnew; have OB := Lib.hid ob
    have P1 := Lib.hid (OW1.out.kept0 f3); clear OW1
    have P2 := Lib.hid (OW2.out.kept0 f3); clear OW2
    have hfs := f3.size
    clear hb0 hr0 fa hnew ob ow3 nb3 f3 HB2 HR2 FR2
    go_wp2_with fail
    refine (scpF_any v3 F1 _ c3 hc).mono ?_
    rintro e v' ⟨rfl, hw⟩
    subst v'
    clear hc
    go_wp2_with fail
    have hs1 := Fr.setCell (Fr.refl (fun k => k = w.heap.size) v3) ⟨w.heap.size, 6, none⟩ (.slice F1 x.f.length x.f.length) (fun _ => rfl)
    have hb1 : (v3.setCell ⟨w.heap.size, 6, none⟩ (.slice F1 x.f.length x.f.length)).heap[w.heap.size]? = some (.cells #[.int .u8 x.k.toNat, .bool x.b, .int .i64 x.i, .string ⟨x.t.toArray⟩, .slice B1 x.bs.length x.bs.length, .slice L1 x.l.length x.l.length, .slice F1 x.f.length x.f.length] 27 (0, 0)) := hp_same HB0.out 6 _
    have hr1 := hs1.heap HR0.out (fun h => by have h : w.heap.size + 1 = w.heap.size := h; omega)
    have hg : w.heap.size + 2 ≤ w2.heap.size := HZ2.out
    have hz : w.heap.size + 2 ≤ (v3.setCell ⟨w.heap.size, 6, none⟩ (.slice F1 x.f.length x.f.length)).heap.size := Nat.le_trans (Nat.le_trans hg hfs) hs1.size
    have hm := Nat.le_trans hfs hs1.size
    have ob2 := OB.out.kept hs1 (fun k hk h => by have := NB3.out k hk; have h : k = w.heap.size := h; omega)
    have fb := FRA.out.aft hs1 (fun k h => by have h : k = w.heap.size := h; omega)
    have o1 := P1.out.kept hs1 (fun k hk h => by have := NB1.out k hk; have := HZ0.out; have h : k = w.heap.size := h; omega); clear P1
    have o2 := P2.out.kept hs1 (fun k hk h => by have := NB2.out k hk; have := HZ1.out; have h : k = w.heap.size := h; omega); clear P2
    generalize v3.setCell ⟨w.heap.size, 6, none⟩ (.slice F1 x.f.length x.f.length) = w3 at hb1 hr1 ob2 fb hz hm o1 o2 ⊢
    have LT3 := Lib.hid ob2.lt; have HM3 := Lib.hid hm; clear hm
    have FR3 := Lib.hid fb; have OW3 := Lib.hid ob2; have HB3 := Lib.hid hb1; have HR3 := Lib.hid hr1; have HZ3 := Lib.hid hz
    have OW1 := Lib.hid o1; clear o1
    have OW2 := Lib.hid o2; clear o2
    clear hfs hs1 hb1 hr1 ob2 fb hz hg b0 b1 b2 b3 b4 b5 b6 bz bl HB0 HR0 OB FRA
    go_loopw [25] (fun iv wr => ∃ (j : Nat) (ys : List (Tr Mm)), j ≤ x.l.length ∧ iv = .int .i64 j ∧ ys.length = j ∧ ys.map bare = (x.l.take j).map bare ∧ (∀ y ∈ ys, Tr.Own wr y) ∧ (ys.Pairwise fun y z => ∀ k, Blk y k → ¬ Blk z k) ∧ (∀ y ∈ ys, ∀ k, Blk y k → w3.heap.size ≤ k) ∧
      Ow wr 27 7 (.slice L1 x.l.length x.l.length) x.l.length ((ys ++ x.l.drop j).flatMap cells) ∧ Fr (fun k => Value.ownBlock (.slice L1 x.l.length x.l.length) = some k) w3 wr) (fun iv _ => x.l.length - (intOf iv).toNat)
    case atStart => exact ⟨0, [], Nat.zero_le _, rfl, rfl, rfl, (fun _ h => nomatch h), List.Pairwise.nil, (fun _ h => nomatch h), OW2.out, Fr.refl _ _⟩
    case round =>
      obtain ⟨j, ys, hj, rfl, hyl, hyb, hyo, hyp, hyn, how, hfr⟩ := hrel
      have hcl : (ys ++ x.l.drop j).length = x.l.length := by rw [List.length_append, hyl, List.length_drop]; omega
      have hb3 := hfr.heap HB3.out (fun h => by have h1 := NB2.out _ h; have := HZ1.out; omega)
      obtain ⟨b0, b1, b2, b3, b4, b5, b6, bz, bl⟩ := seven_cells hb3
      by_cases hlt : j < x.l.length
      · obtain ⟨g, hg⟩ := here_some how (by omega)
        have hgb : Value.ownBlock (.slice L1 x.l.length x.l.length) = some g := by rw [hg]; rfl
        have hcj : j < (ys ++ x.l.drop j).length := by omega
        have hce : (ys ++ x.l.drop j)[j] = x.l[j] := by
          rw [List.getElem_append_right (by omega)]; simp [hyl]
        have how2 := how
        rw [hg] at how2
        have hsl : Sl wr 7 (.slice (some ⟨g, 0, none⟩) x.l.length x.l.length) (ys ++ x.l.drop j).length ((ys ++ x.l.drop j).flatMap cells) := by rw [hcl]; exact how2.sl
        obtain ⟨g', o', hA, q0, q1, q2, q3, q4, q5, q6⟩ := In.at hsl j hcj
        simp only [Option.some.injEq, Addr.mk.injEq, and_true] at hA
        obtain ⟨rfl, rfl⟩ := hA
        obtain ⟨KB, kb, KL, kl, KF, kf, hfj⟩ := (HX.out.l x.l[j] (List.getElem_mem _)).node.forms
        rw [hce] at q0 q1 q2 q3 q4 q5 q6
        rw [hfj.B] at q4; rw [hfj.L] at q5; rw [hfj.F] at q6
        simp only [Nat.zero_add] at q0 q1 q2 q3 q4 q5 q6
        have hgl := World.block_lt_of_cell? wr _ q0
        obtain ⟨_, cur, hcu, -⟩ := here how2
        have gz : ∀ q, wr.frozen? ⟨g, q, none⟩ = false := fun q => by simp [World.frozen?, hcu]
        have hcall := fun W (f : Fr no w W) => IH.out x.l[j] (List.mem_append_left _ (List.getElem_mem _)) W ((HX.out.l _ (List.getElem_mem _)).kept0 f)
        rw [hfj.agg] at hcall
        have FWR := Lib.hid (FR3.out.aft hfr (fun k h => by have h1 := NB2.out _ h; have := HZ1.out; omega))
        have HC := Lib.hid hcall; have HYL := Lib.hid hyl; have HYB := Lib.hid hyb; have HYO := Lib.hid hyo; have HYP := Lib.hid hyp; have HYN := Lib.hid hyn; have HOW := Lib.hid how2; have HFR := Lib.hid hfr; have HCL := Lib.hid hcl; have HGB := Lib.hid hgb; have HG := Lib.hid hg
        subst hg
        clear hcall hyl hyb hyo hyp hyn how how2 hfr hcl hgb hsl hcj hce hcu hb3 hfj
        go_wp2_with fail
        refine wp_region_ord (List.range 7) (fun i => [Kd.p, Kd.l, Kd.p, Kd.l, Kd.g, Kd.p, Kd.e].getD i .e) (by kernel_rfl) (by kernel_rfl) ?_
        iterate 4
          first | refine wpX_pu rfl rfl rfl (by first | exact pu_move rfl | exact pu_assign rfl | exact pu_nilCheck rfl rfl | exact pu_binInt rfl rfl rfl | exact pu_conv rfl rfl (by kernel_rfl) | exact pu_fld rfl (by kernel_rfl) | exact pu_ix rfl rfl rfl (by kernel_rfl) | exact pu_unOp rfl | exact pu_binStr rfl rfl rfl | exact pu_len rfl rfl | exact pu_lens rfl rfl | exact pu_pick rfl | exact pu_slice rfl rfl) (fun K hK => ?_) | refine wpX_rd rfl rfl rfl (rd_load rfl) (fun K hK => ?_) | refine wpX_gr rfl rfl rfl (by first | exact gr_buildSlice rfl | exact gr_box rfl | exact gr_alloc rfl) (fun K hK => ?_) | refine wpX_ex rfl rfl rfl (fun K hK => ?_)
          try go_wp2
        refine wpX_ca rfl rfl rfl (fun K hK => ?_)
        go_wp2_with fail
        refine (HC.out _ (FWR.out.trans (by (repeat first | exact Fr.refl _ _ | exact Fr.drewN _ _ _ | apply Fr.drew | apply Fr.alloc | apply Fr.setAt | apply Fr.moreN) : Fr no wr _) (fun _ _ h => h))).mono ?_
        rintro e w5 ⟨y, rfl, hby, hoy, hny, fy⟩
        obtain ⟨YB, yb, YL, yl, YF, yf, hfy⟩ := (hoy.good hby ((HX.out.l x.l[j] (List.getElem_mem _)).kept0 FWR.out)).node.forms
        have hfw := (by (repeat first | exact Fr.refl _ _ | exact Fr.drewN _ _ _ | apply Fr.drew | apply Fr.alloc | apply Fr.setAt | apply Fr.moreN) : Fr no wr _).trans fy (fun _ _ h => h)
        rw [hfy.agg]
        have q0 := hfw.cell q0 (fun h => h); have q1 := hfw.cell q1 (fun h => h); have q2 := hfw.cell q2 (fun h => h); have q3 := hfw.cell q3 (fun h => h)
        have q4 := hfw.cell q4 (fun h => h); have q5 := hfw.cell q5 (fun h => h); have q6 := hfw.cell q6 (fun h => h)
        have hgl5 := Nat.lt_of_lt_of_le hgl hfw.size
        have gz5 : ∀ q, w5.frozen? ⟨g, q, none⟩ = false := fun q => (hfw.frozen (a := ⟨g, q, none⟩) hgl (fun h => h)).trans (gz q)
        have hny' : ∀ k, Blk y k → wr.heap.size ≤ k := fun k hk => Nat.le_trans (by (repeat first | exact Fr.refl _ _ | exact Fr.drewN _ _ _ | apply Fr.drew | apply Fr.alloc | apply Fr.setAt | apply Fr.moreN) : Fr no wr _).size (hny k hk)
        have FY0 := Lib.hid fy; have HBY := Lib.hid hby; have HOY := Lib.hid hoy; have HNY := Lib.hid hny'; have FY := Lib.hid hfw; have HFY := Lib.hid hfy
        clear hby hoy hny hny' fy hfw hfy
        go_wp2
        obtain ⟨⟨xa, xb⟩, hext⟩ := FY0.out.ext
        refine ⟨⟨xa, xb, hext⟩, hK _ _ ?_⟩
        clear hK K hext xa xb
        first | refine wpX_pu rfl rfl rfl (by first | exact pu_move rfl | exact pu_assign rfl | exact pu_nilCheck rfl rfl | exact pu_binInt rfl rfl rfl | exact pu_conv rfl rfl (by kernel_rfl) | exact pu_fld rfl (by kernel_rfl) | exact pu_ix rfl rfl rfl (by kernel_rfl) | exact pu_unOp rfl | exact pu_binStr rfl rfl rfl | exact pu_len rfl rfl | exact pu_lens rfl rfl | exact pu_pick rfl | exact pu_slice rfl rfl) (fun K hK => ?_) | refine wpX_rd rfl rfl rfl (rd_load rfl) (fun K hK => ?_) | refine wpX_gr rfl rfl rfl (by first | exact gr_buildSlice rfl | exact gr_box rfl | exact gr_alloc rfl) (fun K hK => ?_) | refine wpX_ex rfl rfl rfl (fun K hK => ?_)
        try go_wp2
        refine wpX_ex rfl rfl rfl (fun K hK => ?_)
        go_simp
        refine hK _ _ ?_
        clear hK K
        refine wpX_done ?_
        have hput := ow_put7 y (HOW.out.kept0 FY.out) (i := j) (by rw [HCL.out]; exact hlt)
        have hpf := put7_fr w5 g (j * 7) y
        unfold put7 at hput hpf
        rw [HFY.out.B, HFY.out.L, HFY.out.F] at hput hpf
        have HPUT := Lib.hid hput; have HPF := Lib.hid hpf
        clear hput hpf
        have hg3 : g < w3.heap.size := OW2.out.lt g HGB.out
        have HG3 := Lib.hid hg3; clear hg3 q0 q1 q2 q3 q4 q5 q6 gz5 hgl5
        go_wp2
        go_roundw
        case rel => exact ⟨j + 1, ys ++ [y], by omega, by first | rfl | go_num, by rw [List.length_append, HYL.out]; rfl, by
            rw [List.map_append, HYB.out, List.take_succ_eq_append_getElem hlt, List.map_append, List.map_singleton, List.map_singleton, HBY.out], fun z hz => by
            rcases List.mem_append.1 hz with hz | hz
            · exact ((HYO.out z hz).kept0 FY.out).kept HPF.out (fun k hk h => by have h1 := HYN.out z hz k hk; have h2 := HG3.out; have h : k = g := h; omega)
            · rw [List.mem_singleton.1 hz]; exact HOY.out.kept HPF.out (fun k hk h => by have h1 := HNY.out k hk; have h2 := HG3.out; have h3 := HFR.out.size; have h : k = g := h; omega),
          List.pairwise_append.2 ⟨HYP.out, List.pairwise_singleton _ _, fun z hz y' hy' k hk hk2 => by
            rw [List.mem_singleton.1 hy'] at hk2
            have h1 := (HYO.out z hz).lt k hk; have h2 := HNY.out k hk2; omega⟩, fun z hz k hk => by
            rcases List.mem_append.1 hz with hz | hz
            · exact HYN.out z hz k hk
            · rw [List.mem_singleton.1 hz] at hk; exact Nat.le_trans HFR.out.size (HNY.out k hk),
          by rw [put_next HYL.out hlt]; exact HPUT.out, (HFR.out.trans (FY.out.mono (fun _ _ h => h.elim)) (fun _ _ h => h)).trans (HPF.out.mono (fun k _ h => by have h : k = g := h; rw [h]; exact HGB.out)) (fun _ _ h => h)⟩
        case measure => simp [intOf]; omega
      · obtain rfl : j = x.l.length := by omega
        rw [List.drop_length, List.append_nil] at how
        rw [List.take_length] at hyb
        have hr3 := hfr.heap HR3.out (fun h => by have h1 := NB2.out _ h; have := HZ1.out; omega)
        have o1 := OW1.out.kept hfr (fun k hk h => by have h1 := LT1.out k hk; have h2 := NB2.out k h; omega)
        have o3 := OW3.out.kept hfr (fun k hk h => by have h1 := LT2.out k h; have h2 := NB3.out k hk; omega)
        have f4 := FR3.out.aft hfr (fun k h => by have h1 := NB2.out _ h; have := HZ1.out; omega)
        have hs4 := hfr.size
        obtain ⟨w4, rfl⟩ : ∃ w4, w4 = wr := ⟨wr, rfl⟩
        have HB4 := Lib.hid hb3; have HR4 := Lib.hid hr3; have OW4 := Lib.hid o1; have OW5 := Lib.hid o3; have FR4 := Lib.hid f4; have HS4 := Lib.hid hs4
        have HYL := Lib.hid hyl; have HYB := Lib.hid hyb; have HYO := Lib.hid hyo; have HYP := Lib.hid hyp; have HYN := Lib.hid hyn; have OWL := Lib.hid how
        clear hb3 hr3 o1 o3 f4 hs4 hyl hyb hyo hyp hyn how hfr hcl
        go_wp2
        go_loopw [40] (fun iv wr => ∃ (j : Nat) (fs : List (List UInt8 × Tr Mm)), j ≤ x.f.length ∧ iv = .int .i64 j ∧ fs.length = j ∧ (fs.map fun p => (p.1, bare p.2)) = ((x.f.take j).map fun p => (p.1, bare p.2)) ∧ (∀ p ∈ fs, Tr.Own wr p.2) ∧ (fs.Pairwise fun y z => ∀ k, Blk y.2 k → ¬ Blk z.2 k) ∧ (∀ p ∈ fs, ∀ k, Blk p.2 k → w4.heap.size ≤ k) ∧
          Ow wr 87 8 (.slice F1 x.f.length x.f.length) x.f.length ((fs ++ x.f.drop j).flatMap fcells) ∧ Fr (fun k => Value.ownBlock (.slice F1 x.f.length x.f.length) = some k) w4 wr) (fun iv _ => x.f.length - (intOf iv).toNat)
        case atStart => exact ⟨0, [], Nat.zero_le _, rfl, rfl, rfl, (fun _ h => nomatch h), List.Pairwise.nil, (fun _ h => nomatch h), OW5.out, Fr.refl _ _⟩
        case round =>
          clear b0 b1 b2 b3 b4 b5 b6 bz bl
          obtain ⟨j, fs, hj, rfl, hyl, hyb, hyo, hyp, hyn, how, hfr⟩ := hrel
          have hcl : (fs ++ x.f.drop j).length = x.f.length := by rw [List.length_append, hyl, List.length_drop]; omega
          have hb3 := hfr.heap HB4.out (fun h => by have h1 := NB3.out _ h; have := HZ2.out; omega)
          obtain ⟨b0, b1, b2, b3, b4, b5, b6, bz, bl⟩ := seven_cells hb3
          by_cases hlt : j < x.f.length
          · obtain ⟨g, hg⟩ := here_some how (by omega)
            have hgb : Value.ownBlock (.slice F1 x.f.length x.f.length) = some g := by rw [hg]; rfl
            have hcj : j < (fs ++ x.f.drop j).length := by omega
            have hce : (fs ++ x.f.drop j)[j] = x.f[j] := by
              rw [List.getElem_append_right (by omega)]; simp [hyl]
            have how2 := how
            rw [hg] at how2
            have hsl : Sl wr 8 (.slice (some ⟨g, 0, none⟩) x.f.length x.f.length) (fs ++ x.f.drop j).length ((fs ++ x.f.drop j).flatMap fcells) := by rw [hcl]; exact how2.sl
            obtain ⟨g', o', hA, n0, q0, q1, q2, q3, q4, q5, q6⟩ := InF.at hsl j hcj
            simp only [Option.some.injEq, Addr.mk.injEq, and_true] at hA
            obtain ⟨rfl, rfl⟩ := hA
            obtain ⟨KB, kb, KL, kl, KF, kf, hfj⟩ := (HX.out.f x.f[j] (List.getElem_mem _)).node.forms
            have HCE := Lib.hid hce
            rw [hce] at n0 q0 q1 q2 q3 q4 q5 q6
            rw [hfj.B] at q4; rw [hfj.L] at q5; rw [hfj.F] at q6
            simp only [Nat.zero_add] at n0 q0 q1 q2 q3 q4 q5 q6
            have hgl := World.block_lt_of_cell? wr _ q0
            obtain ⟨_, cur, hcu, -⟩ := here how2
            have gz : ∀ q, wr.frozen? ⟨g, q, none⟩ = false := fun q => by simp [World.frozen?, hcu]
            have hcall := fun W (f : Fr no w W) => IH.out x.f[j].2 (List.mem_append_right _ (List.mem_map_of_mem (List.getElem_mem _))) W ((HX.out.f _ (List.getElem_mem _)).kept0 f)
            rw [hfj.agg] at hcall
            have FWR := Lib.hid (FR4.out.aft hfr (fun k h => by have h1 := NB3.out _ h; have := HZ2.out; omega))
            have HC := Lib.hid hcall; have HZL := Lib.hid hyl; have HZB := Lib.hid hyb; have HZO := Lib.hid hyo; have HZP := Lib.hid hyp; have HZN := Lib.hid hyn; have HOW := Lib.hid how2; have HFR := Lib.hid hfr; have HCL := Lib.hid hcl; have HGB := Lib.hid hgb; have HG := Lib.hid hg
            subst hg
            clear hcall hyl hyb hyo hyp hyn how how2 hfr hcl hgb hsl hce hcu hb3 hfj
            go_wp2_with fail
            refine wp_region_ord (List.range 9) (fun i => [Kd.p, Kd.l, Kd.p, Kd.p, Kd.l, Kd.g, Kd.p, Kd.p, Kd.e].getD i .e) (by kernel_rfl) (by kernel_rfl) ?_
            iterate 5
              first | refine wpX_pu rfl rfl rfl (by first | exact pu_move rfl | exact pu_assign rfl | exact pu_nilCheck rfl rfl | exact pu_binInt rfl rfl rfl | exact pu_conv rfl rfl (by kernel_rfl) | exact pu_fld rfl (by kernel_rfl) | exact pu_ix rfl rfl rfl (by kernel_rfl) | exact pu_unOp rfl | exact pu_binStr rfl rfl rfl | exact pu_len rfl rfl | exact pu_lens rfl rfl | exact pu_pick rfl | exact pu_slice rfl rfl) (fun K hK => ?_) | refine wpX_rd rfl rfl rfl (rd_load rfl) (fun K hK => ?_) | refine wpX_gr rfl rfl rfl (by first | exact gr_buildSlice rfl | exact gr_box rfl | exact gr_alloc rfl) (fun K hK => ?_) | refine wpX_ex rfl rfl rfl (fun K hK => ?_)
              try go_wp2
            refine wpX_ca rfl rfl rfl (fun K hK => ?_)
            go_wp2_with fail
            refine (HC.out _ (FWR.out.trans (by (repeat first | exact Fr.refl _ _ | exact Fr.drewN _ _ _ | apply Fr.drew | apply Fr.alloc | apply Fr.setAt | apply Fr.moreN) : Fr no wr _) (fun _ _ h => h))).mono ?_
            rintro e w5 ⟨y, rfl, hby, hoy, hny, fy⟩
            obtain ⟨YB, yb, YL, yl, YF, yf, hfy⟩ := (hoy.good hby ((HX.out.f x.f[j] (List.getElem_mem _)).kept0 FWR.out)).node.forms
            have hfw := (by (repeat first | exact Fr.refl _ _ | exact Fr.drewN _ _ _ | apply Fr.drew | apply Fr.alloc | apply Fr.setAt | apply Fr.moreN) : Fr no wr _).trans fy (fun _ _ h => h)
            rw [hfy.agg]
            have q0 := hfw.cell q0 (fun h => h); have q1 := hfw.cell q1 (fun h => h); have q2 := hfw.cell q2 (fun h => h); have q3 := hfw.cell q3 (fun h => h)
            have q4 := hfw.cell q4 (fun h => h); have q5 := hfw.cell q5 (fun h => h); have q6 := hfw.cell q6 (fun h => h)
            have hgl5 := Nat.lt_of_lt_of_le hgl hfw.size
            have gz5 : ∀ q, w5.frozen? ⟨g, q, none⟩ = false := fun q => (hfw.frozen (a := ⟨g, q, none⟩) hgl (fun h => h)).trans (gz q)
            have hny' : ∀ k, Blk y k → wr.heap.size ≤ k := fun k hk => Nat.le_trans (by (repeat first | exact Fr.refl _ _ | exact Fr.drewN _ _ _ | apply Fr.drew | apply Fr.alloc | apply Fr.setAt | apply Fr.moreN) : Fr no wr _).size (hny k hk)
            have FY0 := Lib.hid fy; have HBY := Lib.hid hby; have HOY := Lib.hid hoy; have HNY := Lib.hid hny'; have FY := Lib.hid hfw; have HFY := Lib.hid hfy
            clear hby hoy hny hny' fy hfw hfy
            go_wp2
            obtain ⟨⟨xa, xb⟩, hext⟩ := FY0.out.ext
            refine ⟨⟨xa, xb, hext⟩, hK _ _ ?_⟩
            clear hK K hext xa xb
            iterate 2
              first | refine wpX_pu rfl rfl rfl (by first | exact pu_move rfl | exact pu_assign rfl | exact pu_nilCheck rfl rfl | exact pu_binInt rfl rfl rfl | exact pu_conv rfl rfl (by kernel_rfl) | exact pu_fld rfl (by kernel_rfl) | exact pu_ix rfl rfl rfl (by kernel_rfl) | exact pu_unOp rfl | exact pu_binStr rfl rfl rfl | exact pu_len rfl rfl | exact pu_lens rfl rfl | exact pu_pick rfl | exact pu_slice rfl rfl) (fun K hK => ?_) | refine wpX_rd rfl rfl rfl (rd_load rfl) (fun K hK => ?_) | refine wpX_gr rfl rfl rfl (by first | exact gr_buildSlice rfl | exact gr_box rfl | exact gr_alloc rfl) (fun K hK => ?_) | refine wpX_ex rfl rfl rfl (fun K hK => ?_)
              try go_wp2
            refine wpX_ex rfl rfl rfl (fun K hK => ?_)
            go_simp
            refine hK _ _ ?_
            clear hK K
            refine wpX_done ?_
            have hput := ow_put8 y (HOW.out.kept0 FY.out) (i := j) (by rw [HCL.out]; exact hlt)
            have hpf := put7_fr w5 g (j * 8 + 1) y
            unfold put7 at hput hpf
            rw [HFY.out.B, HFY.out.L, HFY.out.F, HCE.out] at hput
            rw [HFY.out.B, HFY.out.L, HFY.out.F] at hpf
            have HPUT := Lib.hid hput; have HPF := Lib.hid hpf
            clear hput hpf
            have hg3 : g < w4.heap.size := OW5.out.lt g HGB.out
            have HG3 := Lib.hid hg3; clear hg3 n0 q0 q1 q2 q3 q4 q5 q6 gz5 hgl5
            go_wp2
            go_roundw
            case rel => exact ⟨j + 1, fs ++ [(x.f[j].1, y)], by omega, by first | rfl | go_num, by rw [List.length_append, HZL.out]; rfl, by
                rw [List.map_append, HZB.out, List.take_succ_eq_append_getElem hlt, List.map_append, List.map_singleton, List.map_singleton]; simp only [HBY.out], fun z hz => by
                rcases List.mem_append.1 hz with hz | hz
                · exact ((HZO.out z hz).kept0 FY.out).kept HPF.out (fun k hk h => by have h1 := HZN.out z hz k hk; have h2 := HG3.out; have h : k = g := h; omega)
                · rw [List.mem_singleton.1 hz]; exact HOY.out.kept HPF.out (fun k hk h => by have h1 := HNY.out k hk; have h2 := HG3.out; have h3 := HFR.out.size; have h : k = g := h; omega),
              List.pairwise_append.2 ⟨HZP.out, List.pairwise_singleton _ _, fun z hz y' hy' k hk hk2 => by
                rw [List.mem_singleton.1 hy'] at hk2
                have h1 := (HZO.out z hz).lt k hk; have h2 := HNY.out k hk2; omega⟩, fun z hz k hk => by
                rcases List.mem_append.1 hz with hz | hz
                · exact HZN.out z hz k hk
                · rw [List.mem_singleton.1 hz] at hk; exact Nat.le_trans HFR.out.size (HNY.out k hk),
              by rw [put_next HZL.out hlt]; exact HPUT.out, (HFR.out.trans (FY.out.mono (fun _ _ h => h.elim)) (fun _ _ h => h)).trans (HPF.out.mono (fun k _ h => by have h : k = g := h; rw [h]; exact HGB.out)) (fun _ _ h => h)⟩
            case measure => simp [intOf]; omega
          · obtain rfl : j = x.f.length := by omega
            rw [List.drop_length, List.append_nil] at how
            rw [List.take_length] at hyb
            have hr4 := hfr.heap HR4.out (fun h => by have h1 := NB3.out _ h; have := HZ2.out; omega)
            have f5 := FR4.out.aft hfr (fun k h => by have h1 := NB3.out _ h; have := HZ2.out; omega)
            have rz : ∀ o, wr.frozen? ⟨w.heap.size + 1, o, none⟩ = false := fun o => by simp [World.frozen?, hr4]
            have rl := (Array.getElem?_eq_some_iff.1 hr4).1
            have rc : ∀ i, wr.cell? ⟨w.heap.size + 1, i, none⟩ = _ := fun i => cell_of_row wr _ i _ _ (0, 0) hr4
            have r0 := rc 0; have r1 := rc 1; have r2 := rc 2; have r3 := rc 3; have r4 := rc 4; have r5 := rc 5; have r6 := rc 6
            simp only [List.getElem?_toArray, List.getElem?_cons_succ, List.getElem?_cons_zero] at r0 r1 r2 r3 r4 r5 r6
            have HRW := Lib.hid hr4; have FR5 := Lib.hid f5; have HOWF := Lib.hid how; have HFR := Lib.hid hfr
            have HZL := Lib.hid hyl; have HZB := Lib.hid hyb; have HZO := Lib.hid hyo; have HZP := Lib.hid hyp; have HZN := Lib.hid hyn
            clear hr4 f5 rc how hfr hyl hyb hyo hyp hyn hcl hb3
            go_wp2
            have hset := set7_row (a := .int .u8 x.k.toNat) (b := .bool x.b) (c := .int .i64 x.i) (d := .string ⟨x.t.toArray⟩) (e := .slice B1 x.bs.length x.bs.length) (f := .slice L1 x.l.length x.l.length) (h := .slice F1 x.f.length x.f.length) HRW.out
            have hsf := set7_fr wr (w.heap.size + 1) (.int .u8 x.k.toNat) (.bool x.b) (.int .i64 x.i) (.string ⟨x.t.toArray⟩) (.slice B1 x.bs.length x.bs.length) (.slice L1 x.l.length x.l.length) (.slice F1 x.f.length x.f.length)
            unfold set7 at hset hsf
            refine bodyPost_ret (results_cell_row (P := Tryz.prog) rfl _ _ (w.heap.size + 1) 27 _ (0, 0) _ rfl hset Tryz.underlying27 rfl (by kernel_rfl)) rfl ?_
            exact clone_fin HZ0.out HM1.out HM2.out HM3.out HS4.out (fun k hk => ⟨NB1.out k hk, LT1.out k hk⟩) (fun k hk => ⟨NB2.out k hk, LT2.out k hk⟩) (fun k hk => ⟨NB3.out k hk, LT3.out k hk⟩) OW4.out OWL.out HOWF.out HFR.out hsf
              (FR5.out.aft hsf (fun k h => by have h : k = w.heap.size + 1 := h; omega)) HYL.out HYB.out HYO.out HYP.out HYN.out HZL.out HZB.out HZO.out HZP.out HZN.out
end Go.Proofs.YtijcleiekafoiaaGreatDoor

/- Values of their own: leaves, bytes, lists. -/
namespace Go.Proofs.YtijcleiekafoiaaGreatDoor
open Go.RowKit
open Tr

theorem len_mem_flat {β : Type} {f : β → List UInt8} {y : β} {l : List β} (h : y ∈ l) : (f y).length ≤ (l.flatMap f).length := by
  induction l with
  | nil => cases h
  | cons a l ih =>
    rw [List.flatMap_cons, List.length_append]
    rcases List.mem_cons.1 h with rfl | h
    · omega
    · have := ih h; omega

theorem stays_own {w w' : World} {v v' : Value} {n N : Nat} (h : Stays w w' v v' n N) : ∀ k, v'.ownBlock = some k → v.ownBlock = some k ∨ w.heap.size ≤ k := by
  intro k hk
  rcases h with ⟨A, c, rfl, rfl⟩ | h
  · exact .inl (by cases A <;> exact hk)
  · exact .inr (h k hk).1

/-- No lists. -/
def nil3 : Mm := (.slice none 0 0, .slice none 0 0, .slice none 0 0)
theorem ow_none (w : World) (e : TypeId) (sz : Nat) : Ow w e sz (.slice none 0 0) 0 [] := ⟨by simp, .inl ⟨rfl, rfl⟩⟩
theorem own_leaf (w : World) (k : UInt8) (b : Bool) (i : Int) (t : List UInt8) : Tr.Own w (.mk k b i t [] nil3 [] []) :=
  ⟨_, ow_none w _ 1, ow_none w _ 7, ow_none w _ 8, ⟨fun _ h => (nomatch h), fun _ h => (nomatch h), fun _ h => (nomatch h), fun _ h => (nomatch h), List.Pairwise.nil⟩, fun _ h => (nomatch h)⟩
theorem blk_leaf {k : UInt8} {b : Bool} {i : Int} {t : List UInt8} {j : Nat} : ¬ Blk (.mk k b i t [] nil3 [] []) j := fun h => by
  rcases h.cases with h | h | h | ⟨y, h, _⟩ <;> cases h
theorem own_raw {w : World} {v : Value} {t : List UInt8} (h : Ow w 5 1 v t.length (bvs t)) (k : UInt8) (b : Bool) (i : Int) : Tr.Own w (.mk k b i [] t (v, .slice none 0 0, .slice none 0 0) [] []) :=
  ⟨_, h, ow_none w _ 7, ow_none w _ 8, ⟨fun _ _ h => (nomatch h), fun _ _ h => (nomatch h), fun _ h => (nomatch h), fun _ h => (nomatch h), List.Pairwise.nil⟩, fun _ h => (nomatch h)⟩
theorem blk_raw {v : Value} {t : List UInt8} {k : UInt8} {b : Bool} {i : Int} {j : Nat} (h : Blk (.mk k b i [] t (v, .slice none 0 0, .slice none 0 0) [] []) j) : v.ownBlock = some j := by
  rcases h.cases with h | h | h | ⟨y, h, _⟩
  · exact h
  · cases h
  · cases h
  · cases h
theorem kids_list {v : Value} {ys : List (Tr Mm)} {k : UInt8} {b : Bool} {i : Int} : Tr.kids (.mk k b i [] [] (.slice none 0 0, v, .slice none 0 0) ys []) = ys := by
  simp [kids, Tr.l, Tr.f]
theorem own_list {w : World} {v : Value} {ys : List (Tr Mm)} (h : Ow w 27 7 v ys.length (ys.flatMap cells)) (hy : ∀ y ∈ ys, Tr.Own w y) (hp : ys.Pairwise fun y z => ∀ k, Blk y k → ¬ Blk z k) (hn : ∀ y ∈ ys, ∀ k, Blk y k → v.ownBlock ≠ some k) (k : UInt8) (b : Bool) (i : Int) :
    Tr.Own w (.mk k b i [] [] (.slice none 0 0, v, .slice none 0 0) ys []) := by
  refine ⟨_, ow_none w _ 1, h, ow_none w _ 8, ⟨fun _ h => (nomatch h), fun _ h => (nomatch h), fun _ _ h => (nomatch h), fun y hy' j hj => ⟨fun h => (nomatch h), ?_, fun h => (nomatch h)⟩, ?_⟩, ?_⟩
  · rw [kids_list] at hy'; exact hn y hy' j hj
  · rw [kids_list]; exact hp
  · rw [kids_list]; exact hy
theorem blk_list {v : Value} {ys : List (Tr Mm)} {k : UInt8} {b : Bool} {i : Int} {j : Nat} (h : Blk (.mk k b i [] [] (.slice none 0 0, v, .slice none 0 0) ys []) j) : v.ownBlock = some j ∨ ∃ y ∈ ys, Blk y j := by
  rcases h.cases with h | h | h | ⟨y, h, hb⟩
  · cases h
  · exact .inl h
  · cases h
  · rw [kids_list] at h; exact .inr ⟨y, h, hb⟩
end Go.Proofs.YtijcleiekafoiaaGreatDoor

/- Rows of cells just laid, as slices. -/
namespace Go.Proofs.YtijcleiekafoiaaGreatDoor
open Go.RowKit
open Tr

theorem built7 (w : World) (a b c d e f h : Value) (T : TypeId) : Sl (w.alloc (.cells #[a, b, c, d, e, f, h] T)) 7 (.slice (some ⟨w.heap.size, 0, none⟩) 1 1) 1 [a, b, c, d, e, f, h] := by
  refine ⟨rfl, .inr ⟨w.heap.size, 0, 1, rfl, by omega, by simp [maxLen], fun j u hu => ?_⟩⟩
  rw [cell_of_row _ _ _ _ _ (0, 0) (heap_alloc_new w _)]
  simpa using hu
/-- A row of cells, as a slice. -/
theorem sl_cells {w : World} {g : Nat} {cs : Array Value} {T : TypeId} {fr : Nat × Nat} (h : w.heap[g]? = some (.cells cs T fr)) (sz n : Nat) (hc : cs.size = n * sz) (hn : n ≤ maxLen) : Sl w sz (.slice (some ⟨g, 0, none⟩) n n) n cs.toList := by
  refine ⟨by simpa using hc, .inr ⟨g, 0, n, rfl, Nat.le_refl _, hn, fun j u hu => ?_⟩⟩
  rw [cell_of_row w g (0 + j) _ _ fr h, Nat.zero_add]
  simpa using hu
theorem good_leaf (w : World) {k : UInt8} {b : Bool} {i : Int} {t : List UInt8} (hi : I64 i) (ht : t.length ≤ reachBytes) : Tr.Good w (.mk k b i t [] nil3 [] []) :=
  ⟨_, ⟨Sl.nil _ _, Sl.nil _ _, Sl.nil _ _, hi, ht, by simp [Tr.bs], by simp [Tr.l], by simp [Tr.f], (fun _ h => nomatch h), by simp [Tr.l], by simp [Tr.f]⟩, fun _ h => nomatch h⟩
theorem two_allocs (w : World) (a b : Obj) : ((w.alloc a).alloc b).heap[w.heap.size]? = some a ∧ ((w.alloc a).alloc b).heap[w.heap.size + 1]? = some b := by
  have h1 := heap_alloc_new (w.alloc a) b
  rw [World.size_alloc] at h1
  exact ⟨((Fr.refl no _).alloc b).heap (heap_alloc_new w a) (fun h => h), h1⟩
end Go.Proofs.YtijcleiekafoiaaGreatDoor
