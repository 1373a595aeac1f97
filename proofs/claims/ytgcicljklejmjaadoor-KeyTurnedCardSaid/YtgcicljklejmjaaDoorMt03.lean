import Derived.Test.YtgcicljklejmjaaDoorMt02
import Derived.ProofKit
import Derived.ChangeMaps5
import Derived.OpenShut
import Derived.Test.YtgcicljklejmjaaDoorProg
import Derived.KernelRfl
import Derived.Lib.Hide
import Derived.Ground.NamesProg
import Derived.Shelf.Unicode.ValidAny
import Derived.Shelf.Utf8.RuneCount
import Derived.RangeFuncNested
import Derived.RangeFuncBound
import Derived.RangeFuncCalls
import Derived.RangeFuncLeaves
import Derived.Shelf.Abstract
import Derived.Shelf.RegionOpen
import Derived.OwnWalkIn
import Derived.TacticsInMore
import Derived.LoopNIn
import Derived.LoopIn

/- Values as they lie in memory: a tree, and where its lists lie. -/
namespace Go.Proofs.YtgcicljklejmjaaDoor
open Go.RowKit

/-- Where the bytes, the list and the fields of a value lie. -/
abbrev Mm := Value × Value × Value
abbrev Vv := Tr Mm

structure I64 (i : Int) : Prop where
  lo : -9223372036854775808 ≤ i
  hi : i ≤ 9223372036854775807

namespace Tr
def B (x : Tr Mm) : Value := x.m.1
def L (x : Tr Mm) : Value := x.m.2.1
def F (x : Tr Mm) : Value := x.m.2.2
def cells (x : Tr Mm) : List Value := [.int .u8 x.k.toNat, .bool x.b, .int .i64 x.i, .string ⟨x.t.toArray⟩, x.B, x.L, x.F]
def agg (x : Tr Mm) : Value := .agg #[.int .u8 x.k.toNat, .bool x.b, .int .i64 x.i, .string ⟨x.t.toArray⟩, x.B, x.L, x.F]
def fcells (p : List UInt8 × Tr Mm) : List Value := .string ⟨p.1.toArray⟩ :: p.2.cells
def fagg (p : List UInt8 × Tr Mm) : Value := .agg #[.string ⟨p.1.toArray⟩, .int .u8 p.2.k.toNat, .bool p.2.b, .int .i64 p.2.i, .string ⟨p.2.t.toArray⟩, p.2.B, p.2.L, p.2.F]
theorem cells_len (x : Tr Mm) : x.cells.length = 7 := rfl
theorem fcells_len (p : List UInt8 × Tr Mm) : (fcells p).length = 8 := rfl

/-- One value, as it lies. -/
structure Node (w : World) (x : Tr Mm) : Prop where
  B : Sl w 1 x.B x.bs.length (bvs x.bs)
  L : Sl w 7 x.L x.l.length (x.l.flatMap cells)
  F : Sl w 8 x.F x.f.length (x.f.flatMap fcells)
  i : I64 x.i
  t : x.t.length ≤ reachBytes
  bs : x.bs.length ≤ reachBytes
  l : x.l.length ≤ reachBytes
  f : x.f.length ≤ reachBytes
  n : ∀ p ∈ x.f, p.1.length ≤ reachBytes
  lw : x.l.length * 104 ≤ reachBytes
  fw : x.f.length * 120 ≤ reachBytes
theorem Node.kept0 {w w1 : World} {x : Tr Mm} (h : Node w x) (f : Fr no w w1) : Node w1 x :=
  ⟨h.B.kept0 f, h.L.kept0 f, h.F.kept0 f, h.i, h.t, h.bs, h.l, h.f, h.n, h.lw, h.fw⟩

/-- It and all below, as they lie. -/
inductive Good (w : World) : Tr Mm → Prop
  | mk (x : Tr Mm) (node : Node w x) (kids : ∀ y ∈ x.kids, Good w y) : Good w x
theorem Good.node {w : World} {x : Tr Mm} : Good w x → Node w x | .mk _ h _ => h
theorem Good.kids {w : World} {x : Tr Mm} : Good w x → ∀ y ∈ x.kids, Good w y | .mk _ _ h => h
theorem Good.l {w : World} {x : Tr Mm} (h : Good w x) : ∀ y ∈ x.l, Good w y := fun y hy => h.kids y (List.mem_append_left _ hy)
theorem Good.f {w : World} {x : Tr Mm} (h : Good w x) : ∀ p ∈ x.f, Good w p.2 := fun p hp => h.kids p.2 (List.mem_append_right _ (List.mem_map_of_mem hp))
theorem Good.kept0 {w w1 : World} {x : Tr Mm} (h : Good w x) (f : Fr no w w1) : Good w1 x := by
  induction x using Tr.ind with
  | h x ih => exact ⟨x, h.node.kept0 f, fun y hy => ih y hy (h.kids y hy)⟩
theorem Good.pre {w : World} {x : Tr Mm} (h : Good w x) (d : Nat) : ∀ p ∈ pre d x, Good w p.2 := pre_all (P := Good w) (fun _ h => h.kids) d x h

/-- A list of values that came in. -/
structure In (w : World) (v : Value) (l : List (Tr Mm)) : Prop where
  sl : Sl w 7 v l.length (l.flatMap cells)
  good : ∀ y ∈ l, Good w y
  n : l.length ≤ reachBytes
  nw : l.length * 104 ≤ reachBytes
theorem In.kept0 {w w1 : World} {v : Value} {l : List (Tr Mm)} (h : In w v l) (f : Fr no w w1) : In w1 v l := ⟨h.sl.kept0 f, fun y hy => (h.good y hy).kept0 f, h.n, h.nw⟩
theorem Good.inL {w : World} {x : Tr Mm} (h : Good w x) : In w x.L x.l := ⟨h.node.L, h.l, h.node.l, h.node.lw⟩
/-- A list of fields. -/
structure InF (w : World) (v : Value) (l : List (List UInt8 × Tr Mm)) : Prop where
  sl : Sl w 8 v l.length (l.flatMap fcells)
  good : ∀ p ∈ l, Good w p.2
  n : l.length ≤ reachBytes
  nm : ∀ p ∈ l, p.1.length ≤ reachBytes
  nw : l.length * 120 ≤ reachBytes
theorem InF.kept0 {w w1 : World} {v : Value} {l : List (List UInt8 × Tr Mm)} (h : InF w v l) (f : Fr no w w1) : InF w1 v l := ⟨h.sl.kept0 f, fun y hy => (h.good y hy).kept0 f, h.n, h.nm, h.nw⟩
theorem Good.inF {w : World} {x : Tr Mm} (h : Good w x) : InF w x.F x.f := ⟨h.node.F, h.f, h.node.f, h.node.n, h.node.fw⟩

/-- The cells of the j-th of a list. -/
theorem flat7 (l : List (Tr Mm)) (j : Nat) (h : j < l.length) (i : Nat) (hi : i < 7) : (l.flatMap cells)[j * 7 + i]? = l[j].cells[i]? := by
  induction l generalizing j with
  | nil => simp at h
  | cons a l ih =>
    rw [List.flatMap_cons]
    cases j with
    | zero => rw [List.getElem?_append_left (by rw [cells_len]; omega)]; simp
    | succ j =>
      rw [List.getElem?_append_right (by rw [cells_len]; omega), cells_len, show (j + 1) * 7 + i - 7 = j * 7 + i by omega, ih j (by simpa using h)]
      rfl
theorem flat8 (l : List (List UInt8 × Tr Mm)) (j : Nat) (h : j < l.length) (i : Nat) (hi : i < 8) : (l.flatMap fcells)[j * 8 + i]? = (fcells l[j])[i]? := by
  induction l generalizing j with
  | nil => simp at h
  | cons a l ih =>
    rw [List.flatMap_cons]
    cases j with
    | zero => rw [List.getElem?_append_left (by rw [fcells_len]; omega)]; simp
    | succ j =>
      rw [List.getElem?_append_right (by rw [fcells_len]; omega), fcells_len, show (j + 1) * 8 + i - 8 = j * 8 + i by omega, ih j (by simpa using h)]
      rfl

theorem In.at {w : World} {A : Option Addr} {n c : Nat} {l : List (Tr Mm)} (h : Sl w 7 (.slice A n c) l.length (l.flatMap cells)) (j : Nat) (hj : j < l.length) :
    ∃ b o, A = some ⟨b, o, none⟩ ∧ w.cell? ⟨b, o + j * 7, none⟩ = some (.int .u8 l[j].k.toNat) ∧ w.cell? ⟨b, o + j * 7 + 1, none⟩ = some (.bool l[j].b) ∧ w.cell? ⟨b, o + j * 7 + 2, none⟩ = some (.int .i64 l[j].i) ∧
      w.cell? ⟨b, o + j * 7 + 3, none⟩ = some (.string ⟨l[j].t.toArray⟩) ∧ w.cell? ⟨b, o + j * 7 + 4, none⟩ = some l[j].B ∧ w.cell? ⟨b, o + j * 7 + 5, none⟩ = some l[j].L ∧ w.cell? ⟨b, o + j * 7 + 6, none⟩ = some l[j].F := by
  rcases h.2 with ⟨_, h1, h2⟩ | ⟨b, o, cap, h1, _, _, h4⟩
  · simp only [Value.slice.injEq] at h1
    have := h1.2.1
    have h3 := h2
    omega
  · simp only [Value.slice.injEq] at h1
    obtain ⟨rfl, rfl, rfl⟩ := h1
    refine ⟨b, o, rfl, ?_⟩
    have g : ∀ i u, l[j].cells[i]? = some u → i < 7 → w.cell? ⟨b, o + j * 7 + i, none⟩ = some u := fun i u hu hi => by
      rw [Nat.add_assoc]; exact h4 _ u (by rw [flat7 l j hj i hi]; exact hu)
    exact ⟨g 0 _ rfl (by omega), g 1 _ rfl (by omega), g 2 _ rfl (by omega), g 3 _ rfl (by omega), g 4 _ rfl (by omega), g 5 _ rfl (by omega), g 6 _ rfl (by omega)⟩
theorem InF.at {w : World} {A : Option Addr} {n c : Nat} {l : List (List UInt8 × Tr Mm)} (h : Sl w 8 (.slice A n c) l.length (l.flatMap fcells)) (j : Nat) (hj : j < l.length) :
    ∃ b o, A = some ⟨b, o, none⟩ ∧ w.cell? ⟨b, o + j * 8, none⟩ = some (.string ⟨l[j].1.toArray⟩) ∧ w.cell? ⟨b, o + j * 8 + 1, none⟩ = some (.int .u8 l[j].2.k.toNat) ∧ w.cell? ⟨b, o + j * 8 + 2, none⟩ = some (.bool l[j].2.b) ∧ w.cell? ⟨b, o + j * 8 + 3, none⟩ = some (.int .i64 l[j].2.i) ∧
      w.cell? ⟨b, o + j * 8 + 4, none⟩ = some (.string ⟨l[j].2.t.toArray⟩) ∧ w.cell? ⟨b, o + j * 8 + 5, none⟩ = some l[j].2.B ∧ w.cell? ⟨b, o + j * 8 + 6, none⟩ = some l[j].2.L ∧ w.cell? ⟨b, o + j * 8 + 7, none⟩ = some l[j].2.F := by
  rcases h.2 with ⟨_, h1, h2⟩ | ⟨b, o, cap, h1, _, _, h4⟩
  · simp only [Value.slice.injEq] at h1
    have := h1.2.1
    have h3 := h2
    omega
  · simp only [Value.slice.injEq] at h1
    obtain ⟨rfl, rfl, rfl⟩ := h1
    refine ⟨b, o, rfl, ?_⟩
    have g : ∀ i u, (fcells l[j])[i]? = some u → i < 8 → w.cell? ⟨b, o + j * 8 + i, none⟩ = some u := fun i u hu hi => by
      rw [Nat.add_assoc]; exact h4 _ u (by rw [flat8 l j hj i hi]; exact hu)
    exact ⟨g 0 _ rfl (by omega), g 1 _ rfl (by omega), g 2 _ rfl (by omega), g 3 _ rfl (by omega), g 4 _ rfl (by omega), g 5 _ rfl (by omega), g 6 _ rfl (by omega), g 7 _ rfl (by omega)⟩
end Tr
end Go.Proofs.YtgcicljklejmjaaDoor
namespace Go.Proofs.YtgcicljklejmjaaDoor
open Go.RowKit
namespace Tr
/-- A value's lists in the walk's own form. -/
structure Forms (x : Tr Mm) (BA : Option Addr) (bc : Nat) (LA : Option Addr) (lc : Nat) (FA : Option Addr) (fc : Nat) : Prop where
  B : x.B = .slice BA x.bs.length bc
  L : x.L = .slice LA x.l.length lc
  F : x.F = .slice FA x.f.length fc
  bl : x.bs.length ≤ bc
  ll : x.l.length ≤ lc
  fl : x.f.length ≤ fc
  bm : bc ≤ maxLen
  lm : lc ≤ maxLen
  fm : fc ≤ maxLen
theorem Node.forms {w : World} {x : Tr Mm} (h : Node w x) : ∃ BA bc LA lc FA fc, Forms x BA bc LA lc FA fc := by
  obtain ⟨BA, bc, e1, a1, b1⟩ := h.B.form
  obtain ⟨LA, lc, e2, a2, b2⟩ := h.L.form
  obtain ⟨FA, fc, e3, a3, b3⟩ := h.F.form
  exact ⟨BA, bc, LA, lc, FA, fc, e1, e2, e3, a1, a2, a3, b1, b2, b3⟩
theorem Forms.agg {x : Tr Mm} {BA LA FA : Option Addr} {bc lc fc : Nat} (h : Forms x BA bc LA lc FA fc) :
    x.agg = .agg #[.int .u8 x.k.toNat, .bool x.b, .int .i64 x.i, .string ⟨x.t.toArray⟩, .slice BA x.bs.length bc, .slice LA x.l.length lc, .slice FA x.f.length fc] := by
  unfold Tr.agg; rw [h.B, h.L, h.F]
/-- The cells of the j-th of a list, in the walk's own form. -/
theorem In.get {w : World} {A : Option Addr} {n c : Nat} {l : List (Tr Mm)} (h : In w (.slice A n c) l) (j : Nat) (hj : j < l.length) :
    ∃ b o BA bc LA lc FA fc, A = some ⟨b, o, none⟩ ∧ Forms l[j] BA bc LA lc FA fc ∧
      w.cell? ⟨b, o + j * 7, none⟩ = some (.int .u8 l[j].k.toNat) ∧ w.cell? ⟨b, o + j * 7 + 1, none⟩ = some (.bool l[j].b) ∧ w.cell? ⟨b, o + j * 7 + 2, none⟩ = some (.int .i64 l[j].i) ∧
      w.cell? ⟨b, o + j * 7 + 3, none⟩ = some (.string ⟨l[j].t.toArray⟩) ∧ w.cell? ⟨b, o + j * 7 + 4, none⟩ = some (.slice BA l[j].bs.length bc) ∧ w.cell? ⟨b, o + j * 7 + 5, none⟩ = some (.slice LA l[j].l.length lc) ∧
      w.cell? ⟨b, o + j * 7 + 6, none⟩ = some (.slice FA l[j].f.length fc) ∧ b < w.heap.size := by
  obtain ⟨b, o, e, q0, q1, q2, q3, q4, q5, q6⟩ := In.at h.sl j hj
  obtain ⟨BA, bc, LA, lc, FA, fc, hf⟩ := (h.good l[j] (List.getElem_mem _)).node.forms
  rw [hf.B] at q4; rw [hf.L] at q5; rw [hf.F] at q6
  exact ⟨b, o, BA, bc, LA, lc, FA, fc, e, hf, q0, q1, q2, q3, q4, q5, q6, World.block_lt_of_cell? w _ q0⟩
theorem InF.get {w : World} {A : Option Addr} {n c : Nat} {l : List (List UInt8 × Tr Mm)} (h : InF w (.slice A n c) l) (j : Nat) (hj : j < l.length) :
    ∃ b o BA bc LA lc FA fc, A = some ⟨b, o, none⟩ ∧ Forms l[j].2 BA bc LA lc FA fc ∧ w.cell? ⟨b, o + j * 8, none⟩ = some (.string ⟨l[j].1.toArray⟩) ∧
      w.cell? ⟨b, o + j * 8 + 1, none⟩ = some (.int .u8 l[j].2.k.toNat) ∧ w.cell? ⟨b, o + j * 8 + 2, none⟩ = some (.bool l[j].2.b) ∧ w.cell? ⟨b, o + j * 8 + 3, none⟩ = some (.int .i64 l[j].2.i) ∧
      w.cell? ⟨b, o + j * 8 + 4, none⟩ = some (.string ⟨l[j].2.t.toArray⟩) ∧ w.cell? ⟨b, o + j * 8 + 5, none⟩ = some (.slice BA l[j].2.bs.length bc) ∧ w.cell? ⟨b, o + j * 8 + 6, none⟩ = some (.slice LA l[j].2.l.length lc) ∧
      w.cell? ⟨b, o + j * 8 + 7, none⟩ = some (.slice FA l[j].2.f.length fc) ∧ b < w.heap.size := by
  obtain ⟨b, o, e, q0, q1, q2, q3, q4, q5, q6, q7⟩ := InF.at h.sl j hj
  obtain ⟨BA, bc, LA, lc, FA, fc, hf⟩ := (h.good l[j] (List.getElem_mem _)).node.forms
  rw [hf.B] at q5; rw [hf.L] at q6; rw [hf.F] at q7
  exact ⟨b, o, BA, bc, LA, lc, FA, fc, e, hf, q0, q1, q2, q3, q4, q5, q6, q7, World.block_lt_of_cell? w _ q0⟩

def firstOf {β : Type} (q : β → Bool) (l : List β) : Int := match l.findIdx? q with | some i => i | none => -1
theorem firstOf_any {β : Type} (q : β → Bool) (l : List β) : decide (0 ≤ firstOf q l) = l.any q := by
  unfold firstOf
  cases h : l.findIdx? q with
  | none =>
    rw [List.findIdx?_eq_none_iff] at h
    have : l.any q = false := by rw [List.any_eq_false]; intro x hx; rw [h x hx]; exact Bool.false_ne_true
    rw [this]; rfl
  | some i =>
    obtain ⟨hi, hq, _⟩ := List.findIdx?_eq_some_iff_getElem.1 h
    have : l.any q = true := List.any_eq_true.2 ⟨_, List.getElem_mem hi, hq⟩
    rw [this]
    exact decide_eq_true (by simp only; omega)
theorem firstOf_at {β : Type} {q : β → Bool} {l : List β} {j : Nat} (hlt : j < l.length) (h : q l[j] = true) (hno : ∀ k (hk : k < l.length), k < j → q l[k] = false) : firstOf q l = j := by
  unfold firstOf
  rw [List.findIdx?_eq_some_iff_getElem.2 ⟨hlt, h, fun k hk => by rw [hno k (by omega) hk]; simp⟩]
theorem firstOf_none {β : Type} {q : β → Bool} {l : List β} (hno : ∀ k (hk : k < l.length), q l[k] = false) : firstOf q l = -1 := by
  unfold firstOf
  rw [List.findIdx?_eq_none_iff.2 (fun x hx => by obtain ⟨k, hk, rfl⟩ := List.getElem_of_mem hx; exact hno k hk)]
end Tr
end Go.Proofs.YtgcicljklejmjaaDoor

/- Arguments that are bools, texts and small numbers, opened. -/
namespace Go.Proofs.YtgcicljklejmjaaDoor
open Go.RowKit Go.WideShapes
theorem open_bool_row {H : Type} {enc : TypeId × Value → H} {P : Program} {w : World} {base : Nat} {sp : Nat → Bool} {held : Bool} {r : Reach} {b0 : Nat} {t : TypeId} {v : Value} {d : DataW H} {ps : List MemPlace} (ht : P.underlying t = some .bool) (hval : Value.okWide P w r b0 t v) (hd : DataW.Trod enc P w base sp held t v d ps) :
    ∃ b, v = .bool b ∧ d = .lit (.bool b) ∧ ps = [] := by
  obtain ⟨b, rfl⟩ := okWide_bool ht hval
  obtain ⟨fuel, hf⟩ := hd
  obtain ⟨b', h, hx⟩ := DataW.trod_bool ht hf
  simp [Value.cells] at h
  subst h
  simp only [Prod.mk.injEq] at hx
  exact ⟨b, rfl, hx.1, hx.2⟩
theorem u16_of_wf {n : Int} (h : (Lit.int .u16 n).wf = true) : 0 ≤ n ∧ n < 65536 := by
  simp only [Lit.wf, Bool.and_eq_true, IntKind.min, IntKind.max, IntKind.signed, IntKind.bits] at h
  simp at h
  omega
theorem u32_of_wf {n : Int} (h : (Lit.int .u32 n).wf = true) : 0 ≤ n ∧ n < 4294967296 := by
  simp only [Lit.wf, Bool.and_eq_true, IntKind.min, IntKind.max, IntKind.signed, IntKind.bits] at h
  simp at h
  omega
end Go.Proofs.YtgcicljklejmjaaDoor

/- Values that were handed in, opened: what reads as data of the type api.Value is a tree. -/
namespace Go.Proofs.YtgcicljklejmjaaDoor
open Go.RowKit Go.WideShapes
open Tr

theorem u8_is {n : Int} (h : (Lit.int .u8 n).wf = true) : ∃ k : UInt8, n = k.toNat := by
  obtain ⟨h1, h2⟩ := u8_of_wf h
  exact ⟨UInt8.ofNat n.toNat, by rw [UInt8.toNat_ofNat_of_lt' (show n.toNat < 256 by omega)]; omega⟩
theorem str_is (s : ByteArray) : ∃ t : List UInt8, s = ⟨t.toArray⟩ ∧ t.length = s.size := ⟨s.data.toList, rfl, Array.length_toList⟩

/-- Lists of trees out of lists of cells. -/
theorem trees_of {β : Type} {Q : β → Prop} {g : β → List Value} : ∀ (css : List (List Value)) (_ : ∀ c ∈ css, ∃ x : β, c = g x ∧ Q x), ∃ l : List β, css.flatten = l.flatMap g ∧ l.length = css.length ∧ ∀ x ∈ l, Q x
  | [], _ => ⟨[], rfl, rfl, by simp⟩
  | c :: css, h => by
    obtain ⟨x, rfl, hq⟩ := h c (.head _)
    obtain ⟨l, h1, h2, h3⟩ := trees_of css (fun c hc => h c (.tail _ hc))
    refine ⟨x :: l, by simp [h1], by simp [h2], fun y hy => ?_⟩
    rcases List.mem_cons.1 hy with rfl | hy
    · exact hq
    · exact h3 y hy

set_option maxRecDepth 100000 in
theorem td_bytes {w : World} {cs : List Value} (h : Td Tryd.prog w 22 cs) : ∃ (v : Value) (l : List UInt8), cs = [v] ∧ Sl w 1 v l.length (bvs l) ∧ l.length ≤ reachBytes := Td.bytes (e := 5) rfl rfl rfl rfl h

set_option maxRecDepth 100000 in
theorem tdn_value : ∀ (n fuel : Nat) (_ : fuel ≤ n) (w : World) (cs : List Value), TdN Tryd.prog w fuel 33 cs → ∃ x : Tr Mm, cs = x.cells ∧ Tr.Good w x := by
  intro n
  induction n with
  | zero =>
    intro fuel hf w cs h
    obtain rfl : fuel = 0 := by omega
    exact (TdN.zero h).elim
  | succ n ih =>
    intro fuel hfu w cs h
    cases fuel with
    | zero => exact (TdN.zero h).elim
    | succ m =>
    obtain ⟨hl, hf⟩ := TdN.struct rfl h
    have hl : cs.length = 7 := hl
    obtain ⟨c0, c1, c2, c3, c4, c5, c6, rfl⟩ : ∃ c0 c1 c2 c3 c4 c5 c6, cs = [c0, c1, c2, c3, c4, c5, c6] := by
      match cs, hl with
      | [c0, c1, c2, c3, c4, c5, c6], _ => exact ⟨_, _, _, _, _, _, _, rfl⟩
    have h0 := (hf 0 _ rfl).td
    have h1 := (hf 1 _ rfl).td
    have h2 := (hf 2 _ rfl).td
    have h3 := (hf 3 _ rfl).td
    have h4 := (hf 4 _ rfl).td
    have h5 := hf 5 _ rfl
    have h6 := hf 6 _ rfl
    obtain ⟨k0, e0, wf0⟩ := Td.int (k := .u8) rfl h0
    obtain ⟨b1, e1⟩ := Td.bool rfl h1
    obtain ⟨i2, e2, wf2⟩ := Td.int (k := .i64) rfl h2
    obtain ⟨s3, e3, hs3⟩ := Td.str rfl h3
    obtain ⟨v4, bs, e4, hb, hbl⟩ := td_bytes h4
    obtain ⟨v5, css, e5, hs5, hc5, hz5⟩ := TdN.slice (e := 33) rfl (by decide +kernel) h5
    obtain ⟨v6, fss, e6, hs6, hc6, hz6⟩ := TdN.slice (e := 138) rfl (by decide +kernel) h6
    have q0 : c0 = .int .u8 k0 := (List.cons.inj (show [c0] = _ from e0)).1
    have q1 : c1 = .bool b1 := (List.cons.inj (show [c1] = _ from e1)).1
    have q2 : c2 = .int .i64 i2 := (List.cons.inj (show [c2] = _ from e2)).1
    have q3 : c3 = .string s3 := (List.cons.inj (show [c3] = _ from e3)).1
    have q4 : c4 = v4 := (List.cons.inj (show [c4] = _ from e4)).1
    have q5 : c5 = v5 := (List.cons.inj (show [c5] = _ from e5)).1
    have q6 : c6 = v6 := (List.cons.inj (show [c6] = _ from e6)).1
    clear e0 e1 e2 e3 e4 e5 e6
    subst q0; subst q1; subst q2; subst q3; subst q4; subst q5; subst q6
    obtain ⟨k, rfl⟩ := u8_is wf0
    obtain ⟨t, rfl, htl⟩ := str_is s3
    obtain ⟨l, g1, g2, g3⟩ := trees_of (Q := fun x => Tr.Good w x) (g := cells) css (fun c hc => ih _ (by omega) w c (hc5 c hc).2)
    obtain ⟨f, g4, g5, g6⟩ := trees_of (Q := fun p : List UInt8 × Tr Mm => p.1.length ≤ reachBytes ∧ Tr.Good w p.2) (g := fcells) fss (fun c hc => by
      obtain ⟨hl7, hf7⟩ := TdN.struct rfl (hc6 c hc).2
      have hl7 : c.length = 8 := hl7
      obtain ⟨d0, ds, rfl⟩ : ∃ d0 ds, c = d0 :: ds := by
        match c, hl7 with
        | d0 :: ds, _ => exact ⟨_, _, rfl⟩
      have k0 := (hf7 0 _ rfl).td
      have k1 := hf7 1 _ rfl
      obtain ⟨s, e7, hs7⟩ := Td.str rfl k0
      have e7 : d0 = .string s := (List.cons.inj (show [d0] = _ from e7)).1
      subst e7
      obtain ⟨nm, rfl, hnl⟩ := str_is s
      obtain ⟨x, hx, hg⟩ := ih _ (by omega) w _ k1
      have hx : ds.take 7 = x.cells := hx
      rw [List.take_of_length_le (by simp at hl7; omega)] at hx
      exact ⟨(nm, x), by rw [hx]; rfl, by simp only; omega, hg⟩)
    refine ⟨.mk k b1 i2 t bs (c4, c5, c6) l f, rfl, _, ⟨hb, ?_, ?_, ?_, ?_, hbl, ?_, ?_, ?_, ?_, ?_⟩, fun y hy => ?_⟩
    · show Sl w 7 c5 l.length (l.flatMap cells)
      rw [g2, ← g1]; exact hs5
    · show Sl w 8 c6 f.length (f.flatMap fcells)
      rw [g5, ← g4]; exact hs6
    · obtain ⟨q1, q2⟩ := i64_of_wf wf2
      exact ⟨q1, q2⟩
    · show t.length ≤ reachBytes
      omega
    · show l.length ≤ reachBytes
      have : css.length * 104 ≤ reachBytes := hz5
      omega
    · show f.length ≤ reachBytes
      have : fss.length * 120 ≤ reachBytes := hz6
      omega
    · exact fun p hp => (g6 p hp).1
    · show l.length * 104 ≤ reachBytes
      rw [g2]; exact hz5
    · show f.length * 120 ≤ reachBytes
      rw [g5]; exact hz6
    · rcases List.mem_append.1 hy with hy | hy
      · exact g3 y hy
      · obtain ⟨p, hp, rfl⟩ := List.mem_map.1 hy
        exact (g6 p hp).2

theorem open_value {w : World} {cs : List Value} (h : Td Tryd.prog w 33 cs) : ∃ x : Tr Mm, cs = x.cells ∧ Tr.Good w x := by
  obtain ⟨fuel, h⟩ := h.at_depth
  exact tdn_value fuel fuel (Nat.le_refl _) w cs h

set_option maxRecDepth 100000 in
theorem open_values {w : World} {cs : List Value} (h : Td Tryd.prog w 25 cs) : ∃ (v : Value) (l : List (Tr Mm)), cs = [v] ∧ In w v l := by
  obtain ⟨v, css, e1, h1, h2, h3⟩ := Td.slice (e := 33) rfl (by decide +kernel) h
  obtain ⟨l, g1, g2, g3⟩ := trees_of (Q := fun x => Tr.Good w x) (g := cells) css (fun c hc => open_value (h2 c hc).2)
  have h3 : css.length * 104 ≤ reachBytes := h3
  refine ⟨v, l, e1, ⟨?_, g3, by omega, by rw [g2]; exact h3⟩⟩
  rw [g2, ← g1]; exact h1

/-- Bools that came in. -/
def bls (l : List Bool) : List Value := l.map .bool
set_option maxRecDepth 100000 in
theorem open_bools {w : World} {cs : List Value} (h : Td Tryd.prog w 23 cs) : ∃ (v : Value) (l : List Bool), cs = [v] ∧ Sl w 1 v l.length (bls l) ∧ l.length ≤ reachBytes := by
  obtain ⟨v, css, e1, h1, h2, h3⟩ := Td.slice (e := 4) rfl (by decide +kernel) h
  obtain ⟨l, g1, g2, g3⟩ := trees_of (β := Bool) (Q := fun _ => True) (g := fun b => [.bool b]) css (fun c hc => by
    obtain ⟨b, e⟩ := Td.bool rfl (h2 c hc).2
    exact ⟨b, e, trivial⟩)
  have h3 : css.length * 1 ≤ reachBytes := h3
  refine ⟨v, l, e1, ?_, by omega⟩
  have e : l.flatMap (fun b => [Value.bool b]) = bls l := by
    unfold bls
    clear g1 g2 g3
    induction l with
    | nil => rfl
    | cons a l ih => rw [List.flatMap_cons, ih]; rfl
  rw [g2, ← e, ← g1]; exact h1
end Go.Proofs.YtgcicljklejmjaaDoor

/- What all walks need of memory. -/
namespace Go.Proofs.YtgcicljklejmjaaDoor
open Go.RowKit

theorem tbB : Tb Tryd.prog 22 5 (.int .u8 0) 1 1 := ⟨by kernel_rfl, by kernel_rfl, rfl, by decide⟩

theorem one_cells {w : World} {p : Nat} {v : Value} {T : TypeId} (h : w.heap[p]? = some (.cells #[v] T (0, 0))) : w.cell? ⟨p, 0, none⟩ = some v ∧ (∀ o, w.frozen? ⟨p, o, none⟩ = false) ∧ p < w.heap.size := by
  refine ⟨by simp [World.cell?, h], fun o => by simp [World.frozen?, h], (Array.getElem?_eq_some_iff.1 h).1⟩

theorem four_cells {w : World} {p : Nat} {a b c d : Value} {T : TypeId} (h : w.heap[p]? = some (.cells #[a, b, c, d] T (0, 0))) :
    w.cell? ⟨p, 0, none⟩ = some a ∧ w.cell? ⟨p, 1, none⟩ = some b ∧ w.cell? ⟨p, 2, none⟩ = some c ∧ w.cell? ⟨p, 3, none⟩ = some d ∧ (∀ o, w.frozen? ⟨p, o, none⟩ = false) ∧ p < w.heap.size := by
  refine ⟨by simp [World.cell?, h], by simp [World.cell?, h], by simp [World.cell?, h], by simp [World.cell?, h], fun o => by simp [World.frozen?, h], (Array.getElem?_eq_some_iff.1 h).1⟩

def At (p : Nat) : Nat → Prop := fun k => k = p

theorem _root_.Go.Fr.setAt {p : Nat} {w w1 : World} (h : Fr (At p) w w1) (o : Nat) (v : Value) : Fr (At p) w (w1.setCell ⟨p, o, none⟩ v) := h.setCell _ _ (fun _ => rfl)

theorem fr_sooner {w w1 w2 : World} {S : Nat → Prop} (f : Fr no w w1) (g : Fr S w1 w2) : Fr S w w2 := (f.mono (fun _ _ h => h.elim)).trans g (fun _ _ h => h)

theorem results_tmp4 {fn : Func} {t u v x : Tmp} (h : fn.results = #[.tmp t, .tmp u, .tmp v, .tmp x]) (tmps : Array Value) (P : Program) (w : World) :
    (results fn tmps).run P w = .ok (.tuple #[tmps.getD t undef, tmps.getD u undef, tmps.getD v undef, tmps.getD x undef]) w := by
  simp [results, h]

theorem below_by {w0 w w1 : World} {S : Nat → Prop} (h : Below w0.heap.size w0 w) (f : Fr S w w1) (hS : ∀ k, S k → w0.heap.size ≤ k) : Below w0.heap.size w0 w1 := by
  have s := h.size
  exact ⟨f.os.trans h.os, f.tape.trans h.tape, f.output.trans h.output, Nat.le_trans s f.size, fun k hk => (f.block k (by omega) (fun h2 => by have := hS k h2; omega)).trans (h.block k hk)⟩

end Go.Proofs.YtgcicljklejmjaaDoor

/- Texts: whether one is UTF-8, and how many runes it has: the kit's contracts, laid at this program. -/
namespace Go.Proofs.YtgcicljklejmjaaDoor
open Go.RowKit Go.Shelf

def valid_ren : Ren := ⟨fun | 196 => 102 | 259 => 110 | n => n,
  fun | 9 => 9 | 4 => 4 | 3 => 3 | 5 => 5 | 12 => 12 | 119 => 194 | 0 => 0 | 46 => 131 | 139 => 197 | 138 => 196 | 53 => 130 | n => n,
  fun | 3 => 0 | 4 => 1 | n => n⟩
theorem lays_valid : Lays.n196 Tryd.prog valid_ren :=
  { mixed := by kernel_rfl, f196 := Tryd.func102.trans (congrArg some (by kernel_rfl)), f259 := Tryd.func110.trans (congrArg some (by kernel_rfl)),
    t0 := Tryd.underlying0, a0 := Tryd.isAgg0, z0 := Tryd.sizeOf0, v0 := Tryd.zeroValue0, t3 := Tryd.underlying3, a3 := Tryd.isAgg3, z3 := Tryd.sizeOf3, v3 := Tryd.zeroValue3,
    t4 := Tryd.underlying4, a4 := Tryd.isAgg4, z4 := Tryd.sizeOf4, v4 := Tryd.zeroValue4, t5 := Tryd.underlying5, a5 := Tryd.isAgg5, z5 := Tryd.sizeOf5, v5 := Tryd.zeroValue5,
    t9 := Tryd.underlying9, a9 := Tryd.isAgg9, z9 := Tryd.sizeOf9, v9 := Tryd.zeroValue9, t12 := Tryd.underlying12, a12 := Tryd.isAgg12, z12 := Tryd.sizeOf12, v12 := Tryd.zeroValue12,
    t46 := Tryd.underlying131, a46 := Tryd.isAgg131, z46 := Tryd.sizeOf131, v46 := Tryd.zeroValue131, t53 := Tryd.underlying130, a53 := Tryd.isAgg130, z53 := Tryd.sizeOf130, v53 := Tryd.zeroValue130,
    t119 := Tryd.underlying194, a119 := Tryd.isAgg194, z119 := Tryd.sizeOf194, t138 := Tryd.underlying196, a138 := Tryd.isAgg196, z138 := Tryd.sizeOf196, v138 := Tryd.zeroValue196,
    t139 := Tryd.underlying197, a139 := Tryd.isAgg197, z139 := Tryd.sizeOf197, v139 := Tryd.zeroValue197, g3 := by kernel_rfl, g4 := by kernel_rfl }
def runes_ren : Ren := ⟨fun | 195 => 103 | n => n, fun | 9 => 9 | 3 => 3 | 0 => 0 | 4 => 4 | n => n, fun n => n⟩
theorem lays_runes : Lays.n195 Tryd.prog runes_ren :=
  { mixed := by kernel_rfl, f195 := Tryd.func103.trans (congrArg some (by kernel_rfl)),
    t0 := Tryd.underlying0, a0 := Tryd.isAgg0, z0 := Tryd.sizeOf0, v0 := Tryd.zeroValue0, t3 := Tryd.underlying3, a3 := Tryd.isAgg3, z3 := Tryd.sizeOf3, v3 := Tryd.zeroValue3,
    t4 := Tryd.underlying4, a4 := Tryd.isAgg4, z4 := Tryd.sizeOf4, v4 := Tryd.zeroValue4, t9 := Tryd.underlying9, a9 := Tryd.isAgg9, z9 := Tryd.sizeOf9, v9 := Tryd.zeroValue9 }

/-- The two tables of unicode/utf8 lie as its text lays them. -/
def Tabs (w : World) : Prop := Lib.Utf8Tabs 0 1 w
theorem Tabs.kept0 {w w1 : World} (h : Tabs w) (f : Fr no w w1) : Tabs w1 :=
  ⟨fun c hc => f.cell (h.1 c hc) (fun h => h), fun i hi => ⟨f.cell (h.2 i hi).1 (fun h => h), f.cell (h.2 i hi).2 (fun h => h)⟩⟩

theorem fr_below {w w1 : World} (h : Below w.heap.size w w1) : Fr no w w1 := ⟨h.os, h.tape, h.output, h.size, fun k hk _ => h.block k hk⟩

theorem valid_any (w : World) (s : List UInt8) (hs : s.length ≤ reachBytes) (hT : Tabs w) :
    Calls Tryd.prog 102 #[.string ⟨s.toArray⟩] w fun e w' => e = .returned (.bool (Lib.validD s)) ∧ Fr no w w' := by
  have h : s.length ≤ 9223372036854775807 := Nat.le_trans hs (by decide)
  exact (Any.utf8_ValidString lays_valid ⟨s.toArray⟩ w h hT).mono fun e w' ⟨h1, h2⟩ => ⟨h1, fr_below h2⟩
theorem runes_any (w : World) (s : List UInt8) (hs : s.length ≤ reachBytes) :
    Calls Tryd.prog 103 #[.string ⟨s.toArray⟩] w fun e w' => e = .returned (.int .i64 (Lib.runeCountL s)) ∧ Fr no w w' := by
  have h : s.length < 9223372036854775807 := Nat.lt_of_le_of_lt hs (by decide)
  exact (Any.utf8_RuneCountInString lays_runes ⟨s.toArray⟩ w h).mono fun e w' ⟨h1, pos, h2⟩ => ⟨h1, by rw [h2]; exact (Fr.refl no w).alloc _⟩
theorem runes_le (s : List UInt8) : Lib.runeCountL s ≤ s.length := Lib.runeCount_le ⟨s.toArray⟩
end Go.Proofs.YtgcicljklejmjaaDoor

/- value.deep: are there values deeper than so many? (printed by mkdeep.py) -/
namespace Go.Proofs.YtgcicljklejmjaaDoor
open Go.RowKit
open Tr
theorem ffagg {p : List UInt8 × Tr Mm} {BA LA FA : Option Addr} {bc lc fc : Nat} (h : Forms p.2 BA bc LA lc FA fc) :
    fagg p = .agg #[.string ⟨p.1.toArray⟩, .int .u8 p.2.k.toNat, .bool p.2.b, .int .i64 p.2.i, .string ⟨p.2.t.toArray⟩, .slice BA p.2.bs.length bc, .slice LA p.2.l.length lc, .slice FA p.2.f.length fc] := by
  unfold fagg; rw [h.B, h.L, h.F]

set_option maxRecDepth 100000 in
set_option maxHeartbeats 2000000 in
theorem deepidxv_any (w : World) (p : Nat) (A : Option Addr) (c : Nat) (l : List (Tr Mm)) (hl : In w (.slice A l.length c) l) (q : Tr Mm → Bool)
    (hp : ∀ w', Fr no w w' → ∀ y ∈ l, Calls Tryd.prog 95 #[y.agg, .pointer (some ⟨p, 0, none⟩)] w' fun e w'' => e = .returned (.bool (q y)) ∧ Fr no w' w'') :
    Calls Tryd.prog 107 #[.slice A l.length c, .func (.func 95) #[] #[.pointer (some ⟨p, 0, none⟩)]] w fun e w' => e = .returned (.int .i64 (firstOf q l)) ∧ Fr no w w' := by
  have hn : l.length ≤ 140737488351232 := hl.n
  have HL := Lib.hid hl; have HP := Lib.hid hp; clear hl hp
  go_enter Tryd.func107, Tryd.ntmps107
  go_wp2
  go_loopw [8] (fun i wr => ∃ j : Nat, j ≤ l.length ∧ i = .int .i64 j ∧ Fr no w wr ∧ ∀ k (hk : k < l.length), k < j → q l[k] = false) (fun i _ => l.length - (intOf i).toNat)
  case atStart => exact ⟨0, Nat.zero_le _, rfl, Fr.refl _ _, fun k _ h => by omega⟩
  case round =>
    obtain ⟨j, hj, rfl, hf, hno⟩ := hrel
    have HF := Lib.hid hf; have HNO := Lib.hid hno; clear hf hno
    by_cases hlt : j < l.length
    · obtain ⟨b, o, BA, bc, LA, lc, FA, fc, rfl, hf, q0, q1, q2, q3, q4, q5, q6, hbl⟩ := (HL.out.kept0 HF.out).get j hlt
      have hcall := HP.out wr HF.out l[j] (List.getElem_mem _)
      rw [hf.agg] at hcall
      have HC := Lib.hid hcall; clear hcall hf
      cases hpj : q l[j] with
      | true =>
        have HPJ := Lib.hid hpj; clear hpj
        go_wp2_with fail
        refine HC.out.mono ?_
        rintro e w1 ⟨rfl, hf1⟩
        rw [HPJ.out]
        have HF1 := Lib.hid hf1; clear hf1
        go_wp2
        go_ret
        rw [firstOf_at hlt HPJ.out HNO.out]
        exact ⟨rfl, HF.out.trans HF1.out (fun _ _ h => h)⟩
      | false =>
        have HPJ := Lib.hid hpj; clear hpj
        go_wp2_with fail
        refine HC.out.mono ?_
        rintro e w1 ⟨rfl, hf1⟩
        rw [HPJ.out]
        have HF1 := Lib.hid hf1; clear hf1
        go_wp2
        go_roundw
        case rel =>
          refine ⟨j + 1, hlt, by go_num, HF.out.trans HF1.out (fun _ _ h => h), fun k hk hkj => ?_⟩
          by_cases h : k = j
          · subst h; exact HPJ.out
          · exact HNO.out k hk (by omega)
        case measure => simp [intOf]; omega
    · go_wp2
      go_ret
      rw [firstOf_none (fun k hk => HNO.out k hk (by omega))]
      exact ⟨rfl, HF.out⟩

set_option maxRecDepth 100000 in
set_option maxHeartbeats 2000000 in
theorem deephasv_any (w : World) (p : Nat) (A : Option Addr) (c : Nat) (l : List (Tr Mm)) (hl : In w (.slice A l.length c) l) (q : Tr Mm → Bool)
    (hp : ∀ w', Fr no w w' → ∀ y ∈ l, Calls Tryd.prog 95 #[y.agg, .pointer (some ⟨p, 0, none⟩)] w' fun e w'' => e = .returned (.bool (q y)) ∧ Fr no w' w'') :
    Calls Tryd.prog 94 #[.slice A l.length c, .func (.func 95) #[] #[.pointer (some ⟨p, 0, none⟩)]] w fun e w' => e = .returned (.bool (l.any q)) ∧ Fr no w w' := by
  go_enter Tryd.func94, Tryd.ntmps94
  go_wp2_with fail
  refine (deepidxv_any w p A c l hl q hp).mono ?_
  rintro e w1 ⟨rfl, hf⟩
  have HF := Lib.hid hf; clear hf hl hp
  go_wp2
  go_ret
  rw [← firstOf_any q l]
  exact ⟨rfl, HF.out⟩

set_option maxRecDepth 100000 in
set_option maxHeartbeats 2000000 in
theorem deepidxf_any (w : World) (p : Nat) (A : Option Addr) (c : Nat) (l : List (List UInt8 × Tr Mm)) (hl : InF w (.slice A l.length c) l) (q : List UInt8 × Tr Mm → Bool)
    (hp : ∀ w', Fr no w w' → ∀ y ∈ l, Calls Tryd.prog 97 #[fagg y, .pointer (some ⟨p, 0, none⟩)] w' fun e w'' => e = .returned (.bool (q y)) ∧ Fr no w' w'') :
    Calls Tryd.prog 108 #[.slice A l.length c, .func (.func 97) #[] #[.pointer (some ⟨p, 0, none⟩)]] w fun e w' => e = .returned (.int .i64 (firstOf q l)) ∧ Fr no w w' := by
  have hn : l.length ≤ 140737488351232 := hl.n
  have HL := Lib.hid hl; have HP := Lib.hid hp; clear hl hp
  go_enter Tryd.func108, Tryd.ntmps108
  go_wp2
  go_loopw [8] (fun i wr => ∃ j : Nat, j ≤ l.length ∧ i = .int .i64 j ∧ Fr no w wr ∧ ∀ k (hk : k < l.length), k < j → q l[k] = false) (fun i _ => l.length - (intOf i).toNat)
  case atStart => exact ⟨0, Nat.zero_le _, rfl, Fr.refl _ _, fun k _ h => by omega⟩
  case round =>
    obtain ⟨j, hj, rfl, hf, hno⟩ := hrel
    have HF := Lib.hid hf; have HNO := Lib.hid hno; clear hf hno
    by_cases hlt : j < l.length
    · obtain ⟨b, o, BA, bc, LA, lc, FA, fc, rfl, hf, q0, q1, q2, q3, q4, q5, q6, q7, hbl⟩ := (HL.out.kept0 HF.out).get j hlt
      have hcall := HP.out wr HF.out l[j] (List.getElem_mem _)
      rw [ffagg hf] at hcall
      have HC := Lib.hid hcall; clear hcall hf
      cases hpj : q l[j] with
      | true =>
        have HPJ := Lib.hid hpj; clear hpj
        go_wp2_with fail
        refine HC.out.mono ?_
        rintro e w1 ⟨rfl, hf1⟩
        rw [HPJ.out]
        have HF1 := Lib.hid hf1; clear hf1
        go_wp2
        go_ret
        rw [firstOf_at hlt HPJ.out HNO.out]
        exact ⟨rfl, HF.out.trans HF1.out (fun _ _ h => h)⟩
      | false =>
        have HPJ := Lib.hid hpj; clear hpj
        go_wp2_with fail
        refine HC.out.mono ?_
        rintro e w1 ⟨rfl, hf1⟩
        rw [HPJ.out]
        have HF1 := Lib.hid hf1; clear hf1
        go_wp2
        go_roundw
        case rel =>
          refine ⟨j + 1, hlt, by go_num, HF.out.trans HF1.out (fun _ _ h => h), fun k hk hkj => ?_⟩
          by_cases h : k = j
          · subst h; exact HPJ.out
          · exact HNO.out k hk (by omega)
        case measure => simp [intOf]; omega
    · go_wp2
      go_ret
      rw [firstOf_none (fun k hk => HNO.out k hk (by omega))]
      exact ⟨rfl, HF.out⟩

set_option maxRecDepth 100000 in
set_option maxHeartbeats 2000000 in
theorem deephasf_any (w : World) (p : Nat) (A : Option Addr) (c : Nat) (l : List (List UInt8 × Tr Mm)) (hl : InF w (.slice A l.length c) l) (q : List UInt8 × Tr Mm → Bool)
    (hp : ∀ w', Fr no w w' → ∀ y ∈ l, Calls Tryd.prog 97 #[fagg y, .pointer (some ⟨p, 0, none⟩)] w' fun e w'' => e = .returned (.bool (q y)) ∧ Fr no w' w'') :
    Calls Tryd.prog 96 #[.slice A l.length c, .func (.func 97) #[] #[.pointer (some ⟨p, 0, none⟩)]] w fun e w' => e = .returned (.bool (l.any q)) ∧ Fr no w w' := by
  go_enter Tryd.func96, Tryd.ntmps96
  go_wp2_with fail
  refine (deepidxf_any w p A c l hl q hp).mono ?_
  rintro e w1 ⟨rfl, hf⟩
  have HF := Lib.hid hf; clear hf hl hp
  go_wp2
  go_ret
  rw [← firstOf_any q l]
  exact ⟨rfl, HF.out⟩

set_option maxRecDepth 100000 in
set_option maxHeartbeats 2000000 in
theorem deepcv_any (n : Nat) (hn : n ≤ 1000) (ih : ∀ (w : World) (x : Tr Mm) (_ : Tr.Good w x), Calls Tryd.prog 78 #[x.agg, .int .i64 n] w fun e w' => e = .returned (.bool (deep n x)) ∧ Fr no w w')
    (w : World) (p : Nat) (y : Tr Mm) (hg : Tr.Good w y) (hp : w.cell? ⟨p, 0, none⟩ = some (.int .i64 ((n : Int) + 1))) :
    Calls Tryd.prog 95 #[y.agg, .pointer (some ⟨p, 0, none⟩)] w fun e w' => e = .returned (.bool (deep n y)) ∧ Fr no w w' := by
  obtain ⟨BA, bc, LA, lc, FA, fc, hf⟩ := hg.node.forms
  have hpl := World.block_lt_of_cell? w _ hp
  have hc : ∀ W, Fr no w W → _ := fun W f => ih W y (hg.kept0 f)
  rw [hf.agg] at hc
  rw [hf.agg]
  have HC := Lib.hid hc
  clear hf hg ih hc
  go_enter Tryd.func95, Tryd.ntmps95
  go_wp2_with fail
  refine (HC.out _ (by (repeat first | exact Fr.refl _ _ | exact Fr.drewN _ _ _ | apply Fr.drew | apply Fr.alloc | apply Fr.setAt | apply Fr.moreN))).mono ?_
  rintro e w1 ⟨rfl, f1⟩
  have F1 := Lib.hid (Fr.trans (by (repeat first | exact Fr.refl _ _ | exact Fr.drewN _ _ _ | apply Fr.drew | apply Fr.alloc | apply Fr.setAt | apply Fr.moreN) : Fr no w _) f1 (fun _ _ h => h)); clear f1
  go_wp2
  go_ret
  exact ⟨rfl, F1.out⟩

set_option maxRecDepth 100000 in
set_option maxHeartbeats 2000000 in
theorem deepcf_any (n : Nat) (hn : n ≤ 1000) (ih : ∀ (w : World) (x : Tr Mm) (_ : Tr.Good w x), Calls Tryd.prog 78 #[x.agg, .int .i64 n] w fun e w' => e = .returned (.bool (deep n x)) ∧ Fr no w w')
    (w : World) (p : Nat) (y : List UInt8 × Tr Mm) (hg : Tr.Good w y.2) (hp : w.cell? ⟨p, 0, none⟩ = some (.int .i64 ((n : Int) + 1))) :
    Calls Tryd.prog 97 #[fagg y, .pointer (some ⟨p, 0, none⟩)] w fun e w' => e = .returned (.bool (deep n y.2)) ∧ Fr no w w' := by
  obtain ⟨BA, bc, LA, lc, FA, fc, hf⟩ := hg.node.forms
  have hpl := World.block_lt_of_cell? w _ hp
  have hc : ∀ W, Fr no w W → _ := fun W f => ih W y.2 (hg.kept0 f)
  rw [hf.agg] at hc
  rw [ffagg hf]
  have HC := Lib.hid hc
  clear hf hg ih hc
  go_enter Tryd.func97, Tryd.ntmps97
  go_wp2_with fail
  refine (HC.out _ (by (repeat first | exact Fr.refl _ _ | exact Fr.drewN _ _ _ | apply Fr.drew | apply Fr.alloc | apply Fr.setAt | apply Fr.moreN))).mono ?_
  rintro e w1 ⟨rfl, f1⟩
  have F1 := Lib.hid (Fr.trans (by (repeat first | exact Fr.refl _ _ | exact Fr.drewN _ _ _ | apply Fr.drew | apply Fr.alloc | apply Fr.setAt | apply Fr.moreN) : Fr no w _) f1 (fun _ _ h => h)); clear f1
  go_wp2
  go_ret
  exact ⟨rfl, F1.out⟩

theorem alloc2_cell (w : World) (o : Obj) (v : Value) (T : TypeId) : ((w.alloc o).alloc (.cells #[v] T)).cell? ⟨w.heap.size + 1, 0, none⟩ = some v := by
  have h := heap_alloc_new (w.alloc o) (.cells #[v] T)
  rw [World.size_alloc] at h
  exact (one_cells h).1
theorem deep_split (n : Nat) (x : Tr Mm) : deep (n + 1) x = (x.l.any (deep n) || x.f.any fun p => deep n p.2) := by
  simp only [deep, kids, List.any_append, List.any_map]; rfl

set_option maxRecDepth 100000 in
set_option maxHeartbeats 2000000 in
theorem deep_any (n : Nat) : ∀ (w : World) (x : Tr Mm) (_ : Tr.Good w x) (_ : n ≤ 1000), Calls Tryd.prog 78 #[x.agg, .int .i64 n] w fun e w' => e = .returned (.bool (deep n x)) ∧ Fr no w w' := by
  induction n with
  | zero =>
    intro w x hx _
    obtain ⟨BA, bc, LA, lc, FA, fc, hf⟩ := hx.node.forms
    rw [hf.agg]
    clear hf hx
    go_enter Tryd.func78, Tryd.ntmps78
    go_wp2
    go_ret
    exact ⟨rfl, by (repeat first | exact Fr.refl _ _ | exact Fr.drewN _ _ _ | apply Fr.drew | apply Fr.alloc | apply Fr.setAt | apply Fr.moreN)⟩
  | succ n ih =>
    intro w x hx hn
    obtain ⟨BA, bc, LA, lc, FA, fc, hf⟩ := hx.node.forms
    rw [hf.agg, deep_split]
    have HX := Lib.hid hx; have HFO := Lib.hid hf; have IH := Lib.hid ih; clear hf hx ih
    go_enter Tryd.func78, Tryd.ntmps78
    have hl := HX.out.inL; rw [HFO.out.L] at hl
    have hff := HX.out.inF; rw [HFO.out.F] at hff
    have HL := Lib.hid hl; have HFF := Lib.hid hff; clear hl hff
    rw [show ((n + 1 : Nat) : Int) = (n : Int) + 1 from by omega]
    go_wp2_with fail
    refine (deephasv_any _ (w.heap.size + 1) LA lc x.l (HL.out.kept0 (by (repeat first | exact Fr.refl _ _ | exact Fr.drewN _ _ _ | apply Fr.drew | apply Fr.alloc | apply Fr.setAt | apply Fr.moreN))) (deep n) (fun W f y hy => deepcv_any n (by omega) (fun w x h => IH.out w x h (by omega)) W _ y ((HX.out.l y hy).kept0 (Fr.trans (by (repeat first | exact Fr.refl _ _ | exact Fr.drewN _ _ _ | apply Fr.drew | apply Fr.alloc | apply Fr.setAt | apply Fr.moreN)) f (fun _ _ h => h))) (f.cell (alloc2_cell _ _ _ _) (fun h => h)))).mono ?_
    rintro e w1 ⟨rfl, f1⟩
    cases hv : x.l.any (deep n) with
    | true =>
      have F1 := Lib.hid (Fr.trans (by (repeat first | exact Fr.refl _ _ | exact Fr.drewN _ _ _ | apply Fr.drew | apply Fr.alloc | apply Fr.setAt | apply Fr.moreN) : Fr no w _) f1 (fun _ _ h => h)); have HV := Lib.hid hv; clear f1 hv
      go_wp2
      go_ret
      rw [HV.out, Bool.true_or]
      exact ⟨rfl, F1.out⟩
    | false =>
      have hcell := f1.cell (alloc2_cell w (.cells #[.int .u8 x.k.toNat, .bool x.b, .int .i64 x.i, .string ⟨x.t.toArray⟩, .slice BA x.bs.length bc, .slice LA x.l.length lc, .slice FA x.f.length fc] 33) (.int .i64 ((n : Int) + 1)) 3) (fun h => h)
      have F1 := Lib.hid (Fr.trans (by (repeat first | exact Fr.refl _ _ | exact Fr.drewN _ _ _ | apply Fr.drew | apply Fr.alloc | apply Fr.setAt | apply Fr.moreN) : Fr no w _) f1 (fun _ _ h => h))
      have HCE := Lib.hid hcell
      have hb0 := f1.heap (((Fr.refl no _).alloc _).heap (heap_alloc_new w (.cells #[.int .u8 x.k.toNat, .bool x.b, .int .i64 x.i, .string ⟨x.t.toArray⟩, .slice BA x.bs.length bc, .slice LA x.l.length lc, .slice FA x.f.length fc] 33)) (fun h => h)) (fun h => h)
      have hb := cell_of_row w1 w.heap.size 6 _ _ (0, 0) hb0
      have hbl := (Array.getElem?_eq_some_iff.1 hb0).1
      have HV := Lib.hid hv
      clear f1 hv hcell hb0
      go_wp2_with fail
      refine (deephasf_any w1 (w.heap.size + 1) FA fc x.f (HFF.out.kept0 F1.out) (fun p => deep n p.2) (fun W f y hy => deepcf_any n (by omega) (fun w x h => IH.out w x h (by omega)) W _ y ((HX.out.f y hy).kept0 (Fr.trans F1.out f (fun _ _ h => h))) (f.cell HCE.out (fun h => h)))).mono ?_
      rintro e w2 ⟨rfl, f2⟩
      have F2 := Lib.hid (Fr.trans F1.out f2 (fun _ _ h => h)); clear f2
      go_wp2
      go_ret
      rw [HV.out, Bool.false_or]
      exact ⟨rfl, F2.out⟩
end Go.Proofs.YtgcicljklejmjaaDoor

/- A range over a function whose iterator hands out a list that is known: each round is told which place it is at. Conditions: the iterator's contract (IterAt); each round leaves the loop's record and the block of its deferred calls alone. -/
namespace Go.Proofs.YtgcicljklejmjaaDoor
open Go.RowKit Go.Shelf

/-- The two blocks of a loop that begins at w. -/
def twoB (w : World) : Nat → Prop := fun k => k = w.heap.size ∨ k = w.heap.size + 1

/-- How a round may be left. -/
def roundAt (w W : World) (Kp : World → World → Prop) (I : World → Prop) (Ix : Code → World → Prop) : Exit → Act → World → Prop
  | .normal, _, W' => (∀ k, twoB w k → W'.heap[k]? = W.heap[k]?) ∧ Kp W W' ∧ I W'
  | .ret, _, W' => (∀ k, twoB w k → W'.heap[k]? = W.heap[k]?) ∧ Ix .ret W'
  | .exit id, _, W' => (∀ k, twoB w k → W'.heap[k]? = W.heap[k]?) ∧ Ix (.exit id) W'
  | _, _, _ => False

/-- An iterator hands out the list xs, whatever a round does that keeps Kp. -/
def IterAt {α : Type} (n : Nat) (P : Program) (g : Nat) (lb : Array Value) (encs : α → Array Value) (xs : List α) (Kp : World → World → Prop) (w : World) : Prop :=
  ∀ (l : Nat) (J : Nat → World → Prop) (Jx : World → Prop) (W : World), Fr no w W → (∀ i A B, J i A → Fr no A B → J i B) → (∀ A B, Jx A → Fr no A B → Jx B) →
    (∀ i (h : i < xs.length) W1, J i W1 → YieldAt Fence.wide (n - 1) P l (encs xs[i]) W1 fun e W' => (e = .returned (.bool true) ∧ J (i + 1) W' ∧ Kp W1 W') ∨ (e = .returned (.bool false) ∧ Jx W')) →
    J 0 W →
    CallsIn Fence.wide n P g (#[.func (.yield l) #[] #[]] ++ lb) W fun e W' => (∃ v, e = .returned v) ∧ (J xs.length W' ∨ Jx W')

theorem fr_putObj (W : World) (l : Nat) (o : Obj) : Fr (fun k => k = l) W (W.putObj l o) :=
  ⟨rfl, rfl, rfl, by simp, fun k _ hk => World.putObj_heap_other hk⟩

theorem fr_putObj_size (W : World) (l : Nat) (o : Obj) : (W.putObj l o).heap.size = W.heap.size := by simp [World.putObj]
variable {P : Program} {n : Nat}
theorem wpIn_range_at {α : Type} {g : Operand} {ps : Array Tmp} {assign body : Code} {Q : Exit → Act → World → Prop} {a : Act} {w : World} (h1 : 1 ≤ n) {gf : Nat} {lb : Array Value} (hg : a.eval g = .func (.func gf) #[] lb)
    (eg : ∀ args w, (callFunc gf args).run P w = .ok (.enter gf args) w) {encs : α → Array Value} {xs : List α} {Kp : World → World → Prop} (hseq : IterAt (n - 1) P gf lb encs xs Kp w) (hps : ∀ x, (encs x).size = ps.size)
    (hKt : ∀ {A B C : World}, Kp A B → Kp B C → Kp A C) (hKb : ∀ (W : World) (o' : Obj), Kp W (W.putObj (w.heap.size + 1) o'))
    (I : Nat → World → Prop) (Ix : Code → World → Prop) (hI : ∀ i A B, I i A → Fr (twoB w) A B → I i B) (hIx : ∀ c A B, Ix c A → Fr (twoB w) A B → Ix c B) (h0 : I 0 w) (a₁ : α → Act)
    (hassign : ∀ (l : Nat) (x : α) (W : World) (K : Act → World → Prop), K (a₁ x) W →
      assign.wpIn (Fence.wide.inRound l) (n - 1 - 1) P (Exit.then K (fun _ _ _ => False)) { tmps := (ps.zip (encs x)).foldl (fun t (p, v) => t.setIfInBounds p v) a.tmps, defers := [] } W)
    (hbody : ∀ (l i : Nat) (hi : i < xs.length) (W : World), I i W → w.heap.size + 1 < W.heap.size → body.wpIn (Fence.wide.inRound l) (n - 1 - 1) P (roundAt w W Kp (I (i + 1)) Ix) (a₁ xs[i]) W)
    (hdone : ∀ W : World, I xs.length W → w.heap.size + 1 < W.heap.size → W.heap[w.heap.size]? = some (.deferred (some [])) → Q .normal { a with defers := { target := .collected w.heap.size, args := #[] } :: a.defers } W)
    (hstop : ∀ (c : Code) (W : World), Ix c W → w.heap.size + 1 < W.heap.size → W.heap[w.heap.size]? = some (.deferred (some [])) → c.wpIn Fence.wide n P Q { a with defers := { target := .collected w.heap.size, args := #[] } :: a.defers } W) :
    (Code.rangeFunc g ps assign body).wpIn Fence.wide n P Q a w := by
  refine wpIn_rangeFunc fun fn hfn => ?_
  obtain ⟨rec, hrec⟩ : ∃ rec : LoopState → Option Code → Loop, rec = fun st pe => { state := st, pending := pe, fn, tmps := a.tmps, params := ps, assign, body, defers := w.heap.size } := ⟨_, rfl⟩
  obtain ⟨W1, hW1⟩ : ∃ W1, (w.alloc (.deferred (some []))).alloc (.loop (rec .ready none)) = W1 := ⟨_, rfl⟩
  have fW1 : Fr no w W1 := by rw [← hW1]; exact ((Fr.refl no w).alloc _).alloc _
  have sW1 : W1.heap.size = w.heap.size + 2 := by rw [← hW1, World.size_alloc, World.size_alloc]
  have hL1 : W1.heap[w.heap.size + 1]? = some (.loop (rec .ready none)) := by
    rw [← hW1]; have := World.alloc_heap_new (w.alloc (.deferred (some []))) (.loop (rec .ready none)); rwa [World.size_alloc] at this
  have hK1 : W1.heap[w.heap.size]? = some (.deferred (some [])) := by
    rw [← hW1]
    exact ((Fr.refl no (w.alloc (.deferred (some [])))).alloc _).heap (World.alloc_heap_new w _) (fun h => h)
  refine ⟨w.heap.size + 1, [{ target := .collected w.heap.size, args := #[] }], W1, { target := .fn (.func gf) lb, args := #[.func (.yield (w.heap.size + 1)) #[] #[]] }, W1, gf, #[.func (.yield (w.heap.size + 1)) #[] #[]] ++ lb, W1, ?_, ?_, fun _ _ => trivial, ?_, fun _ => h1, ?_⟩
  · rw [← hW1, hrec]; exact run_enterLoop_outer _ _ _ _ _
  · simp only [resolve, hg]
    simp [go_sem]
  · simp [invoke, go_sem, eg]
  · refine (hseq (w.heap.size + 1)
      (fun i W => I i W ∧ W.heap[w.heap.size + 1]? = some (.loop (rec .ready none)) ∧ W.heap[w.heap.size]? = some (.deferred (some [])))
      (fun W => ∃ c, Ix c W ∧ W.heap[w.heap.size + 1]? = some (.loop (rec .done (some c))) ∧ W.heap[w.heap.size]? = some (.deferred (some [])))
      W1 fW1 ?_ ?_ ?_ ⟨hI 0 w W1 h0 (fW1.mono (fun _ _ h => h.elim)), hL1, hK1⟩).mono ?_
    · rintro i A B ⟨i1, i2, i3⟩ f
      exact ⟨hI i A B i1 (f.mono (fun _ _ h => h.elim)), f.heap i2 (fun h => h), f.heap i3 (fun h => h)⟩
    · rintro A B ⟨c, i1, i2, i3⟩ f
      exact ⟨c, hIx c A B i1 (f.mono (fun _ _ h => h.elim)), f.heap i2 (fun h => h), f.heap i3 (fun h => h)⟩
    · rintro i hi W ⟨hii, hl, hk⟩
      have hlt : w.heap.size + 1 < W.heap.size := (Array.getElem?_eq_some_iff.1 hl).1
      have hy := run_yield (P := P) (args := encs xs[i]) hl (by rw [hrec]; exact hps _)
      rw [hrec] at hy
      refine ⟨fn, _, assign, body, hy, roundIn_of_wpIn trivial (hassign _ _ W _ ⟨_, run_beginRound hl (by rw [hrec]), ?_⟩)⟩
      obtain ⟨W2, hW2⟩ : ∃ W2, W.putObj (w.heap.size + 1) (.loop { rec .ready none with state := .busy }) = W2 := ⟨_, rfl⟩
      have f2 : Fr (twoB w) W W2 := by rw [← hW2]; exact (fr_putObj W _ _).mono (fun k _ h => .inr h)
      have hl2 : W2.heap[w.heap.size + 1]? = some (.loop { rec .ready none with state := .busy }) := by rw [← hW2]; exact World.putObj_heap_same hlt
      have hk2 : W2.heap[w.heap.size]? = some (.deferred (some [])) := by rw [← hW2]; exact (World.putObj_heap_other (by omega)).trans hk
      have hw2 : Kp W W2 := by rw [← hW2]; exact hKb _ _
      rw [hW2]
      refine wpIn_mono (hbody _ i hi W2 (hI i W W2 hii f2) (by have := f2.size; omega)) ?_
      have fin : ∀ (jump : Option Code) (W3 : World), (∀ k, twoB w k → W3.heap[k]? = W2.heap[k]?) →
          (Instr.endRound (w.heap.size + 1) jump).run P W3 = .ok (.bool jump.isNone) (W3.putObj (w.heap.size + 1) (.loop (rec (if jump.isNone then .ready else .done) jump))) ∧
          (W3.putObj (w.heap.size + 1) (.loop (rec (if jump.isNone then .ready else .done) jump))).heap[w.heap.size + 1]? = some (.loop (rec (if jump.isNone then .ready else .done) jump)) ∧
          (W3.putObj (w.heap.size + 1) (.loop (rec (if jump.isNone then .ready else .done) jump))).heap[w.heap.size]? = some (.deferred (some [])) ∧
          Fr (twoB w) W3 (W3.putObj (w.heap.size + 1) (.loop (rec (if jump.isNone then .ready else .done) jump))) := fun jump W3 hk3 => by
        have hl3 := (hk3 _ (.inr rfl)).trans hl2
        have hk3' := (hk3 _ (.inl rfl)).trans hk2
        have := run_endRound (P := P) jump hl3
        rw [hrec] at this ⊢
        exact ⟨this, World.putObj_heap_same (Array.getElem?_eq_some_iff.1 hl3).1, (World.putObj_heap_other (by omega)).trans hk3', (fr_putObj W3 _ _).mono (fun k _ h => .inr h)⟩
      rintro e a3 W3 hp
      cases e with
      | normal =>
        obtain ⟨hk3, hkp3, hi3⟩ := hp
        obtain ⟨hr, hl4, hk4, f4⟩ := fin none W3 hk3
        exact ⟨_, _, hr, .inl ⟨rfl, ⟨hI _ _ _ hi3 f4, hl4, hk4⟩, hKt (hKt hw2 hkp3) (hKb _ _)⟩⟩
      | ret =>
        obtain ⟨hk3, hi3⟩ := hp
        obtain ⟨hr, hl4, hk4, f4⟩ := fin (some .ret) W3 hk3
        exact ⟨_, _, hr, .inr ⟨rfl, .ret, hIx _ _ _ hi3 f4, hl4, hk4⟩⟩
      | exit id =>
        obtain ⟨hk3, hi3⟩ := hp
        obtain ⟨hr, hl4, hk4, f4⟩ := fin (some (.exit id)) W3 hk3
        exact ⟨_, _, hr, .inr ⟨rfl, .exit id, hIx _ _ _ hi3 f4, hl4, hk4⟩⟩
      | goto t => exact hp.elim
      | panic ch => exact hp.elim
      | outgrown => exact hp.elim
    · rintro e W2 ⟨⟨v, rfl⟩, (⟨hi, hl, hk⟩ | ⟨c, hi, hl, hk⟩)⟩
      · have hlt : w.heap.size + 1 < W2.heap.size := (Array.getElem?_eq_some_iff.1 hl).1
        refine ⟨none, _, by have := run_endLoop (P := P) hl (by rw [hrec]; simp); rw [hrec] at this; exact this, hdone _ (hI _ _ _ hi ((fr_putObj W2 _ _).mono (fun k _ h => .inr h))) ?_ ((World.putObj_heap_other (by omega)).trans hk)⟩
        rw [(fr_putObj_size W2 _ _)]; exact hlt
      · have hlt : w.heap.size + 1 < W2.heap.size := (Array.getElem?_eq_some_iff.1 hl).1
        refine ⟨some c, _, by have := run_endLoop (P := P) hl (by rw [hrec]; simp); rw [hrec] at this; exact this, hstop c _ (hIx _ _ _ hi ((fr_putObj W2 _ _).mono (fun k _ h => .inr h))) ?_ ((World.putObj_heap_other (by omega)).trans hk)⟩
        rw [(fr_putObj_size W2 _ _)]; exact hlt
end Go.Proofs.YtgcicljklejmjaaDoor
