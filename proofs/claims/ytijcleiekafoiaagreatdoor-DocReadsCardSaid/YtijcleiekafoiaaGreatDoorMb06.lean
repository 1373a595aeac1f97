import Derived.Test.YtijcleiekafoiaaGreatDoorMb04
import Derived.Test.YtijcleiekafoiaaGreatDoorMb02
import Derived.RangeFuncNested
import Derived.RangeFuncBound
import Derived.RangeFuncCalls
import Derived.RangeFuncLeaves
import Derived.Shelf.Abstract
import Derived.Shelf.RegionOpen
import Derived.OwnWalkIn
import Derived.TacticsInMore
import Derived.LoopNIn
import Derived.LoopIn
import Derived.Ground.NamesProg
import Derived.Shelf.Unicode.ValidAny
import Derived.Shelf.Utf8.RuneCount

/- value.deep: are there values deeper than so many? (printed by mkdeep.py) -/
namespace Go.Proofs.YtijcleiekafoiaaGreatDoor
open Go.RowKit
open Tr
theorem ffagg {p : List UInt8 × Tr Mm} {BA LA FA : Option Addr} {bc lc fc : Nat} (h : Forms p.2 BA bc LA lc FA fc) :
    fagg p = .agg #[.string ⟨p.1.toArray⟩, .int .u8 p.2.k.toNat, .bool p.2.b, .int .i64 p.2.i, .string ⟨p.2.t.toArray⟩, .slice BA p.2.bs.length bc, .slice LA p.2.l.length lc, .slice FA p.2.f.length fc] := by
  unfold fagg; rw [h.B, h.L, h.F]

set_option maxRecDepth 100000 in
set_option maxHeartbeats 2000000 in
theorem deepidxv_any (w : World) (p : Nat) (A : Option Addr) (c : Nat) (l : List (Tr Mm)) (hl : In w (.slice A l.length c) l) (q : Tr Mm → Bool)
    (hp : ∀ w', Fr no w w' → ∀ y ∈ l, Calls Tryz.prog 106 #[y.agg, .pointer (some ⟨p, 0, none⟩)] w' fun e w'' => e = .returned (.bool (q y)) ∧ Fr no w' w'') :
    Calls Tryz.prog 127 #[.slice A l.length c, .func (.func 106) #[] #[.pointer (some ⟨p, 0, none⟩)]] w fun e w' => e = .returned (.int .i64 (firstOf q l)) ∧ Fr no w w' := by
  have hn : l.length ≤ 140737488351232 := hl.n
  have HL := Lib.hid hl; have HP := Lib.hid hp; clear hl hp
  go_enter Tryz.func127, Tryz.ntmps127
  go_wp2
  go_loopw [8] (fun i wr => ∃ j : Nat, j ≤ l.length ∧ i = .int .i64 j ∧ Fr no w wr ∧ ∀ k (hk : k < l.length), k < j → q l[k] = false) (fun i _ => l.length - (intOf i).toNat)
  case atStart => exact ⟨0, Nat.zero_le _, rfl, Fr.refl _ _, fun k _ h => by omega⟩
  case round =>
    obtain ⟨j, hj, rfl, hf, hno⟩ := hrel
    have HF := Lib.hid hf; have HNO := Lib.hid hno; clear hf hno
    by_cases hlt : j < l.length
    · obtain ⟨b, o, BA, bc, LA, lc, FA, fc, rfl, hf, q0, q1, q2, q3, q4, q5, q6, hbl⟩ := (HL.out.kept0 HF.out).get j hlt
      have hcall := HP.out wr HF.out l[j] (List.getElem_mem _)
      rw [hf.agg] at hcall
      have HC := Lib.hid hcall; clear hcall hf
      cases hpj : q l[j] with
      | true =>
        have HPJ := Lib.hid hpj; clear hpj
        go_wp2_with fail
        refine HC.out.mono ?_
        rintro e w1 ⟨rfl, hf1⟩
        rw [HPJ.out]
        have HF1 := Lib.hid hf1; clear hf1
        go_wp2
        go_ret
        rw [firstOf_at hlt HPJ.out HNO.out]
        exact ⟨rfl, HF.out.trans HF1.out (fun _ _ h => h)⟩
      | false =>
        have HPJ := Lib.hid hpj; clear hpj
        go_wp2_with fail
        refine HC.out.mono ?_
        rintro e w1 ⟨rfl, hf1⟩
        rw [HPJ.out]
        have HF1 := Lib.hid hf1; clear hf1
        go_wp2
        go_roundw
        case rel =>
          refine ⟨j + 1, hlt, by go_num, HF.out.trans HF1.out (fun _ _ h => h), fun k hk hkj => ?_⟩
          by_cases h : k = j
          · subst h; exact HPJ.out
          · exact HNO.out k hk (by omega)
        case measure => simp [intOf]; omega
    · go_wp2
      go_ret
      rw [firstOf_none (fun k hk => HNO.out k hk (by omega))]
      exact ⟨rfl, HF.out⟩

set_option maxRecDepth 100000 in
set_option maxHeartbeats 2000000 in
theorem deephasv_any (w : World) (p : Nat) (A : Option Addr) (c : Nat) (l : List (Tr Mm)) (hl : In w (.slice A l.length c) l) (q : Tr Mm → Bool)
    (hp : ∀ w', Fr no w w' → ∀ y ∈ l, Calls Tryz.prog 106 #[y.agg, .pointer (some ⟨p, 0, none⟩)] w' fun e w'' => e = .returned (.bool (q y)) ∧ Fr no w' w'') :
    Calls Tryz.prog 105 #[.slice A l.length c, .func (.func 106) #[] #[.pointer (some ⟨p, 0, none⟩)]] w fun e w' => e = .returned (.bool (l.any q)) ∧ Fr no w w' := by
  go_enter Tryz.func105, Tryz.ntmps105
  go_wp2_with fail
  refine (deepidxv_any w p A c l hl q hp).mono ?_
  rintro e w1 ⟨rfl, hf⟩
  have HF := Lib.hid hf; clear hf hl hp
  go_wp2
  go_ret
  rw [← firstOf_any q l]
  exact ⟨rfl, HF.out⟩

set_option maxRecDepth 100000 in
set_option maxHeartbeats 2000000 in
theorem deepidxf_any (w : World) (p : Nat) (A : Option Addr) (c : Nat) (l : List (List UInt8 × Tr Mm)) (hl : InF w (.slice A l.length c) l) (q : List UInt8 × Tr Mm → Bool)
    (hp : ∀ w', Fr no w w' → ∀ y ∈ l, Calls Tryz.prog 108 #[fagg y, .pointer (some ⟨p, 0, none⟩)] w' fun e w'' => e = .returned (.bool (q y)) ∧ Fr no w' w'') :
    Calls Tryz.prog 128 #[.slice A l.length c, .func (.func 108) #[] #[.pointer (some ⟨p, 0, none⟩)]] w fun e w' => e = .returned (.int .i64 (firstOf q l)) ∧ Fr no w w' := by
  have hn : l.length ≤ 140737488351232 := hl.n
  have HL := Lib.hid hl; have HP := Lib.hid hp; clear hl hp
  go_enter Tryz.func128, Tryz.ntmps128
  go_wp2
  go_loopw [8] (fun i wr => ∃ j : Nat, j ≤ l.length ∧ i = .int .i64 j ∧ Fr no w wr ∧ ∀ k (hk : k < l.length), k < j → q l[k] = false) (fun i _ => l.length - (intOf i).toNat)
  case atStart => exact ⟨0, Nat.zero_le _, rfl, Fr.refl _ _, fun k _ h => by omega⟩
  case round =>
    obtain ⟨j, hj, rfl, hf, hno⟩ := hrel
    have HF := Lib.hid hf; have HNO := Lib.hid hno; clear hf hno
    by_cases hlt : j < l.length
    · obtain ⟨b, o, BA, bc, LA, lc, FA, fc, rfl, hf, q0, q1, q2, q3, q4, q5, q6, q7, hbl⟩ := (HL.out.kept0 HF.out).get j hlt
      have hcall := HP.out wr HF.out l[j] (List.getElem_mem _)
      rw [ffagg hf] at hcall
      have HC := Lib.hid hcall; clear hcall hf
      cases hpj : q l[j] with
      | true =>
        have HPJ := Lib.hid hpj; clear hpj
        go_wp2_with fail
        refine HC.out.mono ?_
        rintro e w1 ⟨rfl, hf1⟩
        rw [HPJ.out]
        have HF1 := Lib.hid hf1; clear hf1
        go_wp2
        go_ret
        rw [firstOf_at hlt HPJ.out HNO.out]
        exact ⟨rfl, HF.out.trans HF1.out (fun _ _ h => h)⟩
      | false =>
        have HPJ := Lib.hid hpj; clear hpj
        go_wp2_with fail
        refine HC.out.mono ?_
        rintro e w1 ⟨rfl, hf1⟩
        rw [HPJ.out]
        have HF1 := Lib.hid hf1; clear hf1
        go_wp2
        go_roundw
        case rel =>
          refine ⟨j + 1, hlt, by go_num, HF.out.trans HF1.out (fun _ _ h => h), fun k hk hkj => ?_⟩
          by_cases h : k = j
          · subst h; exact HPJ.out
          · exact HNO.out k hk (by omega)
        case measure => simp [intOf]; omega
    · go_wp2
      go_ret
      rw [firstOf_none (fun k hk => HNO.out k hk (by omega))]
      exact ⟨rfl, HF.out⟩

set_option maxRecDepth 100000 in
set_option maxHeartbeats 2000000 in
theorem deephasf_any (w : World) (p : Nat) (A : Option Addr) (c : Nat) (l : List (List UInt8 × Tr Mm)) (hl : InF w (.slice A l.length c) l) (q : List UInt8 × Tr Mm → Bool)
    (hp : ∀ w', Fr no w w' → ∀ y ∈ l, Calls Tryz.prog 108 #[fagg y, .pointer (some ⟨p, 0, none⟩)] w' fun e w'' => e = .returned (.bool (q y)) ∧ Fr no w' w'') :
    Calls Tryz.prog 107 #[.slice A l.length c, .func (.func 108) #[] #[.pointer (some ⟨p, 0, none⟩)]] w fun e w' => e = .returned (.bool (l.any q)) ∧ Fr no w w' := by
  go_enter Tryz.func107, Tryz.ntmps107
  go_wp2_with fail
  refine (deepidxf_any w p A c l hl q hp).mono ?_
  rintro e w1 ⟨rfl, hf⟩
  have HF := Lib.hid hf; clear hf hl hp
  go_wp2
  go_ret
  rw [← firstOf_any q l]
  exact ⟨rfl, HF.out⟩

set_option maxRecDepth 100000 in
set_option maxHeartbeats 2000000 in
theorem deepcv_any (n : Nat) (hn : n ≤ 1000) (ih : ∀ (w : World) (x : Tr Mm) (_ : Tr.Good w x), Calls Tryz.prog 69 #[x.agg, .int .i64 n] w fun e w' => e = .returned (.bool (deep n x)) ∧ Fr no w w')
    (w : World) (p : Nat) (y : Tr Mm) (hg : Tr.Good w y) (hp : w.cell? ⟨p, 0, none⟩ = some (.int .i64 ((n : Int) + 1))) :
    Calls Tryz.prog 106 #[y.agg, .pointer (some ⟨p, 0, none⟩)] w fun e w' => e = .returned (.bool (deep n y)) ∧ Fr no w w' := by
  obtain ⟨BA, bc, LA, lc, FA, fc, hf⟩ := hg.node.forms
  have hpl := World.block_lt_of_cell? w _ hp
  have hc : ∀ W, Fr no w W → _ := fun W f => ih W y (hg.kept0 f)
  rw [hf.agg] at hc
  rw [hf.agg]
  have HC := Lib.hid hc
  clear hf hg ih hc
  go_enter Tryz.func106, Tryz.ntmps106
  go_wp2_with fail
  refine (HC.out _ (by (repeat first | exact Fr.refl _ _ | exact Fr.drewN _ _ _ | apply Fr.drew | apply Fr.alloc | apply Fr.setAt | apply Fr.moreN))).mono ?_
  rintro e w1 ⟨rfl, f1⟩
  have F1 := Lib.hid (Fr.trans (by (repeat first | exact Fr.refl _ _ | exact Fr.drewN _ _ _ | apply Fr.drew | apply Fr.alloc | apply Fr.setAt | apply Fr.moreN) : Fr no w _) f1 (fun _ _ h => h)); clear f1
  go_wp2
  go_ret
  exact ⟨rfl, F1.out⟩

set_option maxRecDepth 100000 in
set_option maxHeartbeats 2000000 in
theorem deepcf_any (n : Nat) (hn : n ≤ 1000) (ih : ∀ (w : World) (x : Tr Mm) (_ : Tr.Good w x), Calls Tryz.prog 69 #[x.agg, .int .i64 n] w fun e w' => e = .returned (.bool (deep n x)) ∧ Fr no w w')
    (w : World) (p : Nat) (y : List UInt8 × Tr Mm) (hg : Tr.Good w y.2) (hp : w.cell? ⟨p, 0, none⟩ = some (.int .i64 ((n : Int) + 1))) :
    Calls Tryz.prog 108 #[fagg y, .pointer (some ⟨p, 0, none⟩)] w fun e w' => e = .returned (.bool (deep n y.2)) ∧ Fr no w w' := by
  obtain ⟨BA, bc, LA, lc, FA, fc, hf⟩ := hg.node.forms
  have hpl := World.block_lt_of_cell? w _ hp
  have hc : ∀ W, Fr no w W → _ := fun W f => ih W y.2 (hg.kept0 f)
  rw [hf.agg] at hc
  rw [ffagg hf]
  have HC := Lib.hid hc
  clear hf hg ih hc
  go_enter Tryz.func108, Tryz.ntmps108
  go_wp2_with fail
  refine (HC.out _ (by (repeat first | exact Fr.refl _ _ | exact Fr.drewN _ _ _ | apply Fr.drew | apply Fr.alloc | apply Fr.setAt | apply Fr.moreN))).mono ?_
  rintro e w1 ⟨rfl, f1⟩
  have F1 := Lib.hid (Fr.trans (by (repeat first | exact Fr.refl _ _ | exact Fr.drewN _ _ _ | apply Fr.drew | apply Fr.alloc | apply Fr.setAt | apply Fr.moreN) : Fr no w _) f1 (fun _ _ h => h)); clear f1
  go_wp2
  go_ret
  exact ⟨rfl, F1.out⟩

theorem alloc2_cell (w : World) (o : Obj) (v : Value) (T : TypeId) : ((w.alloc o).alloc (.cells #[v] T)).cell? ⟨w.heap.size + 1, 0, none⟩ = some v := by
  have h := heap_alloc_new (w.alloc o) (.cells #[v] T)
  rw [World.size_alloc] at h
  exact (one_cells h).1
theorem deep_split (n : Nat) (x : Tr Mm) : deep (n + 1) x = (x.l.any (deep n) || x.f.any fun p => deep n p.2) := by
  simp only [deep, kids, List.any_append, List.any_map]; rfl

set_option maxRecDepth 100000 in
set_option maxHeartbeats 2000000 in
theorem deep_any (n : Nat) : ∀ (w : World) (x : Tr Mm) (_ : Tr.Good w x) (_ : n ≤ 1000), Calls Tryz.prog 69 #[x.agg, .int .i64 n] w fun e w' => e = .returned (.bool (deep n x)) ∧ Fr no w w' := by
  induction n with
  | zero =>
    intro w x hx _
    obtain ⟨BA, bc, LA, lc, FA, fc, hf⟩ := hx.node.forms
    rw [hf.agg]
    clear hf hx
    go_enter Tryz.func69, Tryz.ntmps69
    go_wp2
    go_ret
    exact ⟨rfl, by (repeat first | exact Fr.refl _ _ | exact Fr.drewN _ _ _ | apply Fr.drew | apply Fr.alloc | apply Fr.setAt | apply Fr.moreN)⟩
  | succ n ih =>
    intro w x hx hn
    obtain ⟨BA, bc, LA, lc, FA, fc, hf⟩ := hx.node.forms
    rw [hf.agg, deep_split]
    have HX := Lib.hid hx; have HFO := Lib.hid hf; have IH := Lib.hid ih; clear hf hx ih
    go_enter Tryz.func69, Tryz.ntmps69
    have hl := HX.out.inL; rw [HFO.out.L] at hl
    have hff := HX.out.inF; rw [HFO.out.F] at hff
    have HL := Lib.hid hl; have HFF := Lib.hid hff; clear hl hff
    rw [show ((n + 1 : Nat) : Int) = (n : Int) + 1 from by omega]
    go_wp2_with fail
    refine (deephasv_any _ (w.heap.size + 1) LA lc x.l (HL.out.kept0 (by (repeat first | exact Fr.refl _ _ | exact Fr.drewN _ _ _ | apply Fr.drew | apply Fr.alloc | apply Fr.setAt | apply Fr.moreN))) (deep n) (fun W f y hy => deepcv_any n (by omega) (fun w x h => IH.out w x h (by omega)) W _ y ((HX.out.l y hy).kept0 (Fr.trans (by (repeat first | exact Fr.refl _ _ | exact Fr.drewN _ _ _ | apply Fr.drew | apply Fr.alloc | apply Fr.setAt | apply Fr.moreN)) f (fun _ _ h => h))) (f.cell (alloc2_cell _ _ _ _) (fun h => h)))).mono ?_
    rintro e w1 ⟨rfl, f1⟩
    cases hv : x.l.any (deep n) with
    | true =>
      have F1 := Lib.hid (Fr.trans (by (repeat first | exact Fr.refl _ _ | exact Fr.drewN _ _ _ | apply Fr.drew | apply Fr.alloc | apply Fr.setAt | apply Fr.moreN) : Fr no w _) f1 (fun _ _ h => h)); have HV := Lib.hid hv; clear f1 hv
      go_wp2
      go_ret
      rw [HV.out, Bool.true_or]
      exact ⟨rfl, F1.out⟩
    | false =>
      have hcell := f1.cell (alloc2_cell w (.cells #[.int .u8 x.k.toNat, .bool x.b, .int .i64 x.i, .string ⟨x.t.toArray⟩, .slice BA x.bs.length bc, .slice LA x.l.length lc, .slice FA x.f.length fc] 27) (.int .i64 ((n : Int) + 1)) 3) (fun h => h)
      have F1 := Lib.hid (Fr.trans (by (repeat first | exact Fr.refl _ _ | exact Fr.drewN _ _ _ | apply Fr.drew | apply Fr.alloc | apply Fr.setAt | apply Fr.moreN) : Fr no w _) f1 (fun _ _ h => h))
      have HCE := Lib.hid hcell
      have hb0 := f1.heap (((Fr.refl no _).alloc _).heap (heap_alloc_new w (.cells #[.int .u8 x.k.toNat, .bool x.b, .int .i64 x.i, .string ⟨x.t.toArray⟩, .slice BA x.bs.length bc, .slice LA x.l.length lc, .slice FA x.f.length fc] 27)) (fun h => h)) (fun h => h)
      have hb := cell_of_row w1 w.heap.size 6 _ _ (0, 0) hb0
      have hbl := (Array.getElem?_eq_some_iff.1 hb0).1
      have HV := Lib.hid hv
      clear f1 hv hcell hb0
      go_wp2_with fail
      refine (deephasf_any w1 (w.heap.size + 1) FA fc x.f (HFF.out.kept0 F1.out) (fun p => deep n p.2) (fun W f y hy => deepcf_any n (by omega) (fun w x h => IH.out w x h (by omega)) W _ y ((HX.out.f y hy).kept0 (Fr.trans F1.out f (fun _ _ h => h))) (f.cell HCE.out (fun h => h)))).mono ?_
      rintro e w2 ⟨rfl, f2⟩
      have F2 := Lib.hid (Fr.trans F1.out f2 (fun _ _ h => h)); clear f2
      go_wp2
      go_ret
      rw [HV.out, Bool.false_or]
      exact ⟨rfl, F2.out⟩
end Go.Proofs.YtijcleiekafoiaaGreatDoor

/- A range over a function whose iterator hands out a list that is known: each round is told which place it is at. Conditions: the iterator's contract (IterAt); each round leaves the loop's record and the block of its deferred calls alone. -/
namespace Go.Proofs.YtijcleiekafoiaaGreatDoor
open Go.RowKit Go.Shelf

/-- The two blocks of a loop that begins at w. -/
def twoB (w : World) : Nat → Prop := fun k => k = w.heap.size ∨ k = w.heap.size + 1

/-- How a round may be left. -/
def roundAt (w W : World) (Kp : World → World → Prop) (I : World → Prop) (Ix : Code → World → Prop) : Exit → Act → World → Prop
  | .normal, _, W' => (∀ k, twoB w k → W'.heap[k]? = W.heap[k]?) ∧ Kp W W' ∧ I W'
  | .ret, _, W' => (∀ k, twoB w k → W'.heap[k]? = W.heap[k]?) ∧ Ix .ret W'
  | .exit id, _, W' => (∀ k, twoB w k → W'.heap[k]? = W.heap[k]?) ∧ Ix (.exit id) W'
  | _, _, _ => False

/-- An iterator hands out the list xs, whatever a round does that keeps Kp. -/
def IterAt {α : Type} (n : Nat) (P : Program) (g : Nat) (lb : Array Value) (encs : α → Array Value) (xs : List α) (Kp : World → World → Prop) (w : World) : Prop :=
  ∀ (l : Nat) (J : Nat → World → Prop) (Jx : World → Prop) (W : World), Fr no w W → (∀ i A B, J i A → Fr no A B → J i B) → (∀ A B, Jx A → Fr no A B → Jx B) →
    (∀ i (h : i < xs.length) W1, J i W1 → YieldAt Fence.wide (n - 1) P l (encs xs[i]) W1 fun e W' => (e = .returned (.bool true) ∧ J (i + 1) W' ∧ Kp W1 W') ∨ (e = .returned (.bool false) ∧ Jx W')) →
    J 0 W →
    CallsIn Fence.wide n P g (#[.func (.yield l) #[] #[]] ++ lb) W fun e W' => (∃ v, e = .returned v) ∧ (J xs.length W' ∨ Jx W')

theorem fr_putObj (W : World) (l : Nat) (o : Obj) : Fr (fun k => k = l) W (W.putObj l o) :=
  ⟨rfl, rfl, rfl, by simp, fun k _ hk => World.putObj_heap_other hk⟩

theorem fr_putObj_size (W : World) (l : Nat) (o : Obj) : (W.putObj l o).heap.size = W.heap.size := by simp [World.putObj]
variable {P : Program} {n : Nat}
theorem wpIn_range_at {α : Type} {g : Operand} {ps : Array Tmp} {assign body : Code} {Q : Exit → Act → World → Prop} {a : Act} {w : World} (h1 : 1 ≤ n) {gf : Nat} {lb : Array Value} (hg : a.eval g = .func (.func gf) #[] lb)
    (eg : ∀ args w, (callFunc gf args).run P w = .ok (.enter gf args) w) {encs : α → Array Value} {xs : List α} {Kp : World → World → Prop} (hseq : IterAt (n - 1) P gf lb encs xs Kp w) (hps : ∀ x, (encs x).size = ps.size)
    (hKt : ∀ {A B C : World}, Kp A B → Kp B C → Kp A C) (hKb : ∀ (W : World) (o' : Obj), Kp W (W.putObj (w.heap.size + 1) o'))
    (I : Nat → World → Prop) (Ix : Code → World → Prop) (hI : ∀ i A B, I i A → Fr (twoB w) A B → I i B) (hIx : ∀ c A B, Ix c A → Fr (twoB w) A B → Ix c B) (h0 : I 0 w) (a₁ : α → Act)
    (hassign : ∀ (l : Nat) (x : α) (W : World) (K : Act → World → Prop), K (a₁ x) W →
      assign.wpIn (Fence.wide.inRound l) (n - 1 - 1) P (Exit.then K (fun _ _ _ => False)) { tmps := (ps.zip (encs x)).foldl (fun t (p, v) => t.setIfInBounds p v) a.tmps, defers := [] } W)
    (hbody : ∀ (l i : Nat) (hi : i < xs.length) (W : World), I i W → w.heap.size + 1 < W.heap.size → body.wpIn (Fence.wide.inRound l) (n - 1 - 1) P (roundAt w W Kp (I (i + 1)) Ix) (a₁ xs[i]) W)
    (hdone : ∀ W : World, I xs.length W → w.heap.size + 1 < W.heap.size → W.heap[w.heap.size]? = some (.deferred (some [])) → Q .normal { a with defers := { target := .collected w.heap.size, args := #[] } :: a.defers } W)
    (hstop : ∀ (c : Code) (W : World), Ix c W → w.heap.size + 1 < W.heap.size → W.heap[w.heap.size]? = some (.deferred (some [])) → c.wpIn Fence.wide n P Q { a with defers := { target := .collected w.heap.size, args := #[] } :: a.defers } W) :
    (Code.rangeFunc g ps assign body).wpIn Fence.wide n P Q a w := by
  refine wpIn_rangeFunc fun fn hfn => ?_
  obtain ⟨rec, hrec⟩ : ∃ rec : LoopState → Option Code → Loop, rec = fun st pe => { state := st, pending := pe, fn, tmps := a.tmps, params := ps, assign, body, defers := w.heap.size } := ⟨_, rfl⟩
  obtain ⟨W1, hW1⟩ : ∃ W1, (w.alloc (.deferred (some []))).alloc (.loop (rec .ready none)) = W1 := ⟨_, rfl⟩
  have fW1 : Fr no w W1 := by rw [← hW1]; exact ((Fr.refl no w).alloc _).alloc _
  have sW1 : W1.heap.size = w.heap.size + 2 := by rw [← hW1, World.size_alloc, World.size_alloc]
  have hL1 : W1.heap[w.heap.size + 1]? = some (.loop (rec .ready none)) := by
    rw [← hW1]; have := World.alloc_heap_new (w.alloc (.deferred (some []))) (.loop (rec .ready none)); rwa [World.size_alloc] at this
  have hK1 : W1.heap[w.heap.size]? = some (.deferred (some [])) := by
    rw [← hW1]
    exact ((Fr.refl no (w.alloc (.deferred (some [])))).alloc _).heap (World.alloc_heap_new w _) (fun h => h)
  refine ⟨w.heap.size + 1, [{ target := .collected w.heap.size, args := #[] }], W1, { target := .fn (.func gf) lb, args := #[.func (.yield (w.heap.size + 1)) #[] #[]] }, W1, gf, #[.func (.yield (w.heap.size + 1)) #[] #[]] ++ lb, W1, ?_, ?_, fun _ _ => trivial, ?_, fun _ => h1, ?_⟩
  · rw [← hW1, hrec]; exact run_enterLoop_outer _ _ _ _ _
  · simp only [resolve, hg]
    simp [go_sem]
  · simp [invoke, go_sem, eg]
  · refine (hseq (w.heap.size + 1)
      (fun i W => I i W ∧ W.heap[w.heap.size + 1]? = some (.loop (rec .ready none)) ∧ W.heap[w.heap.size]? = some (.deferred (some [])))
      (fun W => ∃ c, Ix c W ∧ W.heap[w.heap.size + 1]? = some (.loop (rec .done (some c))) ∧ W.heap[w.heap.size]? = some (.deferred (some [])))
      W1 fW1 ?_ ?_ ?_ ⟨hI 0 w W1 h0 (fW1.mono (fun _ _ h => h.elim)), hL1, hK1⟩).mono ?_
    · rintro i A B ⟨i1, i2, i3⟩ f
      exact ⟨hI i A B i1 (f.mono (fun _ _ h => h.elim)), f.heap i2 (fun h => h), f.heap i3 (fun h => h)⟩
    · rintro A B ⟨c, i1, i2, i3⟩ f
      exact ⟨c, hIx c A B i1 (f.mono (fun _ _ h => h.elim)), f.heap i2 (fun h => h), f.heap i3 (fun h => h)⟩
    · rintro i hi W ⟨hii, hl, hk⟩
      have hlt : w.heap.size + 1 < W.heap.size := (Array.getElem?_eq_some_iff.1 hl).1
      have hy := run_yield (P := P) (args := encs xs[i]) hl (by rw [hrec]; exact hps _)
      rw [hrec] at hy
      refine ⟨fn, _, assign, body, hy, roundIn_of_wpIn trivial (hassign _ _ W _ ⟨_, run_beginRound hl (by rw [hrec]), ?_⟩)⟩
      obtain ⟨W2, hW2⟩ : ∃ W2, W.putObj (w.heap.size + 1) (.loop { rec .ready none with state := .busy }) = W2 := ⟨_, rfl⟩
      have f2 : Fr (twoB w) W W2 := by rw [← hW2]; exact (fr_putObj W _ _).mono (fun k _ h => .inr h)
      have hl2 : W2.heap[w.heap.size + 1]? = some (.loop { rec .ready none with state := .busy }) := by rw [← hW2]; exact World.putObj_heap_same hlt
      have hk2 : W2.heap[w.heap.size]? = some (.deferred (some [])) := by rw [← hW2]; exact (World.putObj_heap_other (by omega)).trans hk
      have hw2 : Kp W W2 := by rw [← hW2]; exact hKb _ _
      rw [hW2]
      refine wpIn_mono (hbody _ i hi W2 (hI i W W2 hii f2) (by have := f2.size; omega)) ?_
      have fin : ∀ (jump : Option Code) (W3 : World), (∀ k, twoB w k → W3.heap[k]? = W2.heap[k]?) →
          (Instr.endRound (w.heap.size + 1) jump).run P W3 = .ok (.bool jump.isNone) (W3.putObj (w.heap.size + 1) (.loop (rec (if jump.isNone then .ready else .done) jump))) ∧
          (W3.putObj (w.heap.size + 1) (.loop (rec (if jump.isNone then .ready else .done) jump))).heap[w.heap.size + 1]? = some (.loop (rec (if jump.isNone then .ready else .done) jump)) ∧
          (W3.putObj (w.heap.size + 1) (.loop (rec (if jump.isNone then .ready else .done) jump))).heap[w.heap.size]? = some (.deferred (some [])) ∧
          Fr (twoB w) W3 (W3.putObj (w.heap.size + 1) (.loop (rec (if jump.isNone then .ready else .done) jump))) := fun jump W3 hk3 => by
        have hl3 := (hk3 _ (.inr rfl)).trans hl2
        have hk3' := (hk3 _ (.inl rfl)).trans hk2
        have := run_endRound (P := P) jump hl3
        rw [hrec] at this ⊢
        exact ⟨this, World.putObj_heap_same (Array.getElem?_eq_some_iff.1 hl3).1, (World.putObj_heap_other (by omega)).trans hk3', (fr_putObj W3 _ _).mono (fun k _ h => .inr h)⟩
      rintro e a3 W3 hp
      cases e with
      | normal =>
        obtain ⟨hk3, hkp3, hi3⟩ := hp
        obtain ⟨hr, hl4, hk4, f4⟩ := fin none W3 hk3
        exact ⟨_, _, hr, .inl ⟨rfl, ⟨hI _ _ _ hi3 f4, hl4, hk4⟩, hKt (hKt hw2 hkp3) (hKb _ _)⟩⟩
      | ret =>
        obtain ⟨hk3, hi3⟩ := hp
        obtain ⟨hr, hl4, hk4, f4⟩ := fin (some .ret) W3 hk3
        exact ⟨_, _, hr, .inr ⟨rfl, .ret, hIx _ _ _ hi3 f4, hl4, hk4⟩⟩
      | exit id =>
        obtain ⟨hk3, hi3⟩ := hp
        obtain ⟨hr, hl4, hk4, f4⟩ := fin (some (.exit id)) W3 hk3
        exact ⟨_, _, hr, .inr ⟨rfl, .exit id, hIx _ _ _ hi3 f4, hl4, hk4⟩⟩
      | goto t => exact hp.elim
      | panic ch => exact hp.elim
      | outgrown => exact hp.elim
    · rintro e W2 ⟨⟨v, rfl⟩, (⟨hi, hl, hk⟩ | ⟨c, hi, hl, hk⟩)⟩
      · have hlt : w.heap.size + 1 < W2.heap.size := (Array.getElem?_eq_some_iff.1 hl).1
        refine ⟨none, _, by have := run_endLoop (P := P) hl (by rw [hrec]; simp); rw [hrec] at this; exact this, hdone _ (hI _ _ _ hi ((fr_putObj W2 _ _).mono (fun k _ h => .inr h))) ?_ ((World.putObj_heap_other (by omega)).trans hk)⟩
        rw [(fr_putObj_size W2 _ _)]; exact hlt
      · have hlt : w.heap.size + 1 < W2.heap.size := (Array.getElem?_eq_some_iff.1 hl).1
        refine ⟨some c, _, by have := run_endLoop (P := P) hl (by rw [hrec]; simp); rw [hrec] at this; exact this, hstop c _ (hIx _ _ _ hi ((fr_putObj W2 _ _).mono (fun k _ h => .inr h))) ?_ ((World.putObj_heap_other (by omega)).trans hk)⟩
        rw [(fr_putObj_size W2 _ _)]; exact hlt
end Go.Proofs.YtijcleiekafoiaaGreatDoor

/- A range over a function whose iterator hands out so many things of which something is known (Wh): each round is told which place it is at, and that of what it is handed. Conditions: the iterator's contract (IterR); each round leaves the loop's record and the block of its deferred calls alone. -/
namespace Go.Proofs.YtijcleiekafoiaaGreatDoor
open Go.RowKit Go.Shelf

/-- Blocks from m on that were there lie as they lay. -/
def Above (m : Nat) (A B : World) : Prop := ∀ k, m ≤ k → k < A.heap.size → B.heap[k]? = A.heap[k]?
theorem Above.trans {m : Nat} {A B C : World} (h : Above m A B) (f : Above m B C) (hs : A.heap.size ≤ B.heap.size) : Above m A C := fun k h1 h2 => (f k h1 (Nat.lt_of_lt_of_le h2 hs)).trans (h k h1 h2)
theorem Above.of {m : Nat} {S : Nat → Prop} {A B : World} (f : Fr S A B) (h : ∀ k, m ≤ k → k < A.heap.size → ¬ S k) : Above m A B := fun k h1 h2 => f.block k h2 (h k h1 h2)

/-- What a round's body leaves; where it leaves the loop, the blocks made since lie as they lay. -/
def roundR (w W : World) (Kp : World → World → Prop) (I : World → Prop) (Ix : Code → World → Prop) : Exit → Act → World → Prop
  | .normal, _, W' => (∀ k, twoB w k → W'.heap[k]? = W.heap[k]?) ∧ Kp W W' ∧ I W'
  | .ret, _, W' => (∀ k, twoB w k → W'.heap[k]? = W.heap[k]?) ∧ Ix .ret W' ∧ Above (w.heap.size + 2) W W'
  | .exit id, _, W' => (∀ k, twoB w k → W'.heap[k]? = W.heap[k]?) ∧ Ix (.exit id) W' ∧ Above (w.heap.size + 2) W W'
  | _, _, _ => False

/-- An iterator hands out len things; of the i-th is known Wh i. -/
def IterR (n : Nat) (P : Program) (g : Nat) (lb : Array Value) (len : Nat) (Wh : Nat → Array Value → World → Prop) (Kp : World → World → Prop) (w : World) : Prop :=
  ∀ (l : Nat) (J : Nat → World → Prop) (Jx : World → Prop) (W : World), Fr no w W → w.heap.size + 2 ≤ W.heap.size → (∀ i A B, J i A → Fr (fun k => w.heap.size + 2 ≤ k) A B → J i B) → (∀ A B, Jx A → Fr (fun k => w.heap.size + 2 ≤ k) A B → Jx B) →
    (∀ i xs W1, i < len → Wh i xs W1 → J i W1 → YieldAt Fence.wide (n - 1) P l xs W1 fun e W' => (e = .returned (.bool true) ∧ J (i + 1) W' ∧ Kp W1 W') ∨ (e = .returned (.bool false) ∧ Jx W' ∧ Above (w.heap.size + 2) W1 W')) →
    J 0 W →
    CallsIn Fence.wide n P g (#[.func (.yield l) #[] #[]] ++ lb) W fun e W' => (∃ v, e = .returned v) ∧ (J len W' ∨ Jx W')

variable {P : Program} {n : Nat}
/-- The law; the assignment to the loop's variables may lay blocks. -/
theorem wpIn_range_b {g : Operand} {ps : Array Tmp} {assign body : Code} {Q : Exit → Act → World → Prop} {a : Act} {w : World} (h1 : 1 ≤ n) {gf : Nat} {lb : Array Value} (hg : a.eval g = .func (.func gf) #[] lb)
    (eg : ∀ args w, (callFunc gf args).run P w = .ok (.enter gf args) w) {len : Nat} {Wh : Nat → Array Value → World → Prop} {Kp : World → World → Prop} (hseq : IterR (n - 1) P gf lb len Wh Kp w) (hps : ∀ i xs W, Wh i xs W → xs.size = ps.size)
    (hKt : ∀ {A B C : World}, Kp A B → Kp B C → Kp A C) (hKb : ∀ (W : World) (o' : Obj), Kp W (W.putObj (w.heap.size + 1) o'))
    (I : Nat → World → Prop) (Ix : Code → World → Prop) (hI : ∀ i A B, I i A → Fr (fun k => w.heap.size ≤ k) A B → I i B) (hIx : ∀ c A B, Ix c A → Fr (fun k => w.heap.size ≤ k) A B → Ix c B) (h0 : I 0 w) 
    (hround : ∀ (l i : Nat) (xs : Array Value) (W : World), i < len → Wh i xs W → I i W → w.heap.size + 1 < W.heap.size →
      assign.wpIn (Fence.wide.inRound l) (n - 1 - 1) P (Exit.then (fun a1 W1 => Fr no W W1 ∧ Kp W W1 ∧ ∀ W2, Fr (twoB w) W1 W2 → body.wpIn (Fence.wide.inRound l) (n - 1 - 1) P (roundR w W2 Kp (I (i + 1)) Ix) a1 W2) (fun _ _ _ => False))
        { tmps := (ps.zip xs).foldl (fun t (p, v) => t.setIfInBounds p v) a.tmps, defers := [] } W)
    (hdone : ∀ W : World, I len W → w.heap.size + 1 < W.heap.size → W.heap[w.heap.size]? = some (.deferred (some [])) → Q .normal { a with defers := { target := .collected w.heap.size, args := #[] } :: a.defers } W)
    (hstop : ∀ (c : Code) (W : World), Ix c W → w.heap.size + 1 < W.heap.size → W.heap[w.heap.size]? = some (.deferred (some [])) → c.wpIn Fence.wide n P Q { a with defers := { target := .collected w.heap.size, args := #[] } :: a.defers } W) :
    (Code.rangeFunc g ps assign body).wpIn Fence.wide n P Q a w := by
  have tb : ∀ {A B : World}, Fr (twoB w) A B → Fr (fun k => w.heap.size ≤ k) A B := fun f => f.mono (fun k _ h => by
    show w.heap.size ≤ k
    rcases h with h | h <;> omega)
  refine wpIn_rangeFunc fun fn hfn => ?_
  obtain ⟨rec, hrec⟩ : ∃ rec : LoopState → Option Code → Loop, rec = fun st pe => { state := st, pending := pe, fn, tmps := a.tmps, params := ps, assign, body, defers := w.heap.size } := ⟨_, rfl⟩
  obtain ⟨W1, hW1⟩ : ∃ W1, (w.alloc (.deferred (some []))).alloc (.loop (rec .ready none)) = W1 := ⟨_, rfl⟩
  have fW1 : Fr no w W1 := by rw [← hW1]; exact ((Fr.refl no w).alloc _).alloc _
  have sW1 : W1.heap.size = w.heap.size + 2 := by rw [← hW1, World.size_alloc, World.size_alloc]
  have hL1 : W1.heap[w.heap.size + 1]? = some (.loop (rec .ready none)) := by
    rw [← hW1]; have := World.alloc_heap_new (w.alloc (.deferred (some []))) (.loop (rec .ready none)); rwa [World.size_alloc] at this
  have hK1 : W1.heap[w.heap.size]? = some (.deferred (some [])) := by
    rw [← hW1]
    exact ((Fr.refl no (w.alloc (.deferred (some [])))).alloc _).heap (World.alloc_heap_new w _) (fun h => h)
  refine ⟨w.heap.size + 1, [{ target := .collected w.heap.size, args := #[] }], W1, { target := .fn (.func gf) lb, args := #[.func (.yield (w.heap.size + 1)) #[] #[]] }, W1, gf, #[.func (.yield (w.heap.size + 1)) #[] #[]] ++ lb, W1, ?_, ?_, fun _ _ => trivial, ?_, fun _ => h1, ?_⟩
  · rw [← hW1, hrec]; exact run_enterLoop_outer _ _ _ _ _
  · simp only [resolve, hg]
    simp [go_sem]
  · simp [invoke, go_sem, eg]
  · refine (hseq (w.heap.size + 1)
      (fun i W => I i W ∧ W.heap[w.heap.size + 1]? = some (.loop (rec .ready none)) ∧ W.heap[w.heap.size]? = some (.deferred (some [])))
      (fun W => ∃ c, Ix c W ∧ W.heap[w.heap.size + 1]? = some (.loop (rec .done (some c))) ∧ W.heap[w.heap.size]? = some (.deferred (some [])))
      W1 fW1 (Nat.le_of_eq sW1.symm) ?_ ?_ ?_ ⟨hI 0 w W1 h0 (fW1.mono (fun _ _ h => h.elim)), hL1, hK1⟩).mono ?_
    · rintro i A B ⟨i1, i2, i3⟩ f
      exact ⟨hI i A B i1 (f.mono (fun k _ h => Nat.le_trans (Nat.le_add_right _ 2) h)), f.heap i2 (fun h => absurd (show w.heap.size + 2 ≤ w.heap.size + 1 from h) (by omega)), f.heap i3 (fun h => absurd (show w.heap.size + 2 ≤ w.heap.size from h) (by omega))⟩
    · rintro A B ⟨c, i1, i2, i3⟩ f
      exact ⟨c, hIx c A B i1 (f.mono (fun k _ h => Nat.le_trans (Nat.le_add_right _ 2) h)), f.heap i2 (fun h => absurd (show w.heap.size + 2 ≤ w.heap.size + 1 from h) (by omega)), f.heap i3 (fun h => absurd (show w.heap.size + 2 ≤ w.heap.size from h) (by omega))⟩
    · rintro i xs W hi hwh ⟨hii, hl, hk⟩
      have hlt : w.heap.size + 1 < W.heap.size := (Array.getElem?_eq_some_iff.1 hl).1
      have hy := run_yield (P := P) (args := xs) hl (by rw [hrec]; exact hps _ _ _ hwh)
      rw [hrec] at hy
      refine ⟨fn, _, assign, body, hy, roundIn_of_wpIn trivial (wpIn_mono (hround _ i xs W hi hwh hii hlt) ?_)⟩
      rintro e0 a1 W0 hp0
      cases e0 with
      | ret => exact hp0.elim
      | exit id => exact hp0.elim
      | goto t => exact hp0.elim
      | panic ch => exact hp0.elim
      | outgrown => exact hp0.elim
      | normal =>
      obtain ⟨fa, ka, hbd⟩ := hp0
      have hl := fa.heap hl (fun h => h)
      have hk := fa.heap hk (fun h => h)
      have hlt : w.heap.size + 1 < W0.heap.size := Nat.lt_of_lt_of_le hlt fa.size
      refine ⟨_, run_beginRound hl (by rw [hrec]), ?_⟩
      obtain ⟨W2, hW2⟩ : ∃ W2, W0.putObj (w.heap.size + 1) (.loop { rec .ready none with state := .busy }) = W2 := ⟨_, rfl⟩
      have f2 : Fr (twoB w) W0 W2 := by rw [← hW2]; exact (fr_putObj W0 _ _).mono (fun k _ h => .inr h)
      have hl2 : W2.heap[w.heap.size + 1]? = some (.loop { rec .ready none with state := .busy }) := by rw [← hW2]; exact World.putObj_heap_same hlt
      have hk2 : W2.heap[w.heap.size]? = some (.deferred (some [])) := by rw [← hW2]; exact (World.putObj_heap_other (by omega)).trans hk
      have hw2 : Kp W W2 := hKt ka (by rw [← hW2]; exact hKb _ _)
      rw [hW2]
      refine wpIn_mono (hbd W2 f2) ?_
      have fin : ∀ (jump : Option Code) (W3 : World), (∀ k, twoB w k → W3.heap[k]? = W2.heap[k]?) →
          (Instr.endRound (w.heap.size + 1) jump).run P W3 = .ok (.bool jump.isNone) (W3.putObj (w.heap.size + 1) (.loop (rec (if jump.isNone then .ready else .done) jump))) ∧
          (W3.putObj (w.heap.size + 1) (.loop (rec (if jump.isNone then .ready else .done) jump))).heap[w.heap.size + 1]? = some (.loop (rec (if jump.isNone then .ready else .done) jump)) ∧
          (W3.putObj (w.heap.size + 1) (.loop (rec (if jump.isNone then .ready else .done) jump))).heap[w.heap.size]? = some (.deferred (some [])) ∧
          Fr (twoB w) W3 (W3.putObj (w.heap.size + 1) (.loop (rec (if jump.isNone then .ready else .done) jump))) := fun jump W3 hk3 => by
        have hl3 := (hk3 _ (.inr rfl)).trans hl2
        have hk3' := (hk3 _ (.inl rfl)).trans hk2
        have := run_endRound (P := P) jump hl3
        rw [hrec] at this ⊢
        exact ⟨this, World.putObj_heap_same (Array.getElem?_eq_some_iff.1 hl3).1, (World.putObj_heap_other (by omega)).trans hk3', (fr_putObj W3 _ _).mono (fun k _ h => .inr h)⟩
      have n2 : ∀ k, w.heap.size + 2 ≤ k → ¬ twoB w k := fun k hk h => by rcases h with h | h <;> omega
      have ab : ∀ W3 W4 : World, Above (w.heap.size + 2) W2 W3 → Fr (twoB w) W3 W4 → Above (w.heap.size + 2) W W4 := fun W3 W4 h3 h4 k hk hlt => by
        have s1 := fa.size; have s2 := f2.size
        have e1 := fa.block k hlt (fun h => h)
        have e2 := f2.block k (by omega) (n2 k hk)
        have e3 := h3 k hk (by omega)
        have h9 : k < W3.heap.size := by
          rcases Nat.lt_or_ge k W3.heap.size with h | h
          · exact h
          · rw [Array.getElem?_eq_none h] at e3
            have := (Array.getElem?_eq_some_iff.1 (Array.getElem?_eq_getElem (show k < W2.heap.size by omega))).1
            rw [Array.getElem?_eq_getElem (show k < W2.heap.size by omega)] at e3
            cases e3
        rw [h4.block k h9 (n2 k hk), e3, e2, e1]
      rintro e a3 W3 hp
      cases e with
      | normal =>
        obtain ⟨hk3, hkp3, hi3⟩ := hp
        obtain ⟨hr, hl4, hk4, f4⟩ := fin none W3 hk3
        exact ⟨_, _, hr, .inl ⟨rfl, ⟨hI _ _ _ hi3 (tb f4), hl4, hk4⟩, hKt (hKt hw2 hkp3) (hKb _ _)⟩⟩
      | ret =>
        obtain ⟨hk3, hi3, ha3⟩ := hp
        obtain ⟨hr, hl4, hk4, f4⟩ := fin (some .ret) W3 hk3
        exact ⟨_, _, hr, .inr ⟨rfl, ⟨.ret, hIx _ _ _ hi3 (tb f4), hl4, hk4⟩, ab _ _ ha3 f4⟩⟩
      | exit id =>
        obtain ⟨hk3, hi3, ha3⟩ := hp
        obtain ⟨hr, hl4, hk4, f4⟩ := fin (some (.exit id)) W3 hk3
        exact ⟨_, _, hr, .inr ⟨rfl, ⟨.exit id, hIx _ _ _ hi3 (tb f4), hl4, hk4⟩, ab _ _ ha3 f4⟩⟩
      | goto t => exact hp.elim
      | panic ch => exact hp.elim
      | outgrown => exact hp.elim
    · rintro e W2 ⟨⟨v, rfl⟩, (⟨hi, hl, hk⟩ | ⟨c, hi, hl, hk⟩)⟩
      · have hlt : w.heap.size + 1 < W2.heap.size := (Array.getElem?_eq_some_iff.1 hl).1
        refine ⟨none, _, by have := run_endLoop (P := P) hl (by rw [hrec]; simp); rw [hrec] at this; exact this, hdone _ (hI _ _ _ hi (tb ((fr_putObj W2 _ _).mono (fun k _ h => .inr h)))) ?_ ((World.putObj_heap_other (by omega)).trans hk)⟩
        rw [(fr_putObj_size W2 _ _)]; exact hlt
      · have hlt : w.heap.size + 1 < W2.heap.size := (Array.getElem?_eq_some_iff.1 hl).1
        refine ⟨some c, _, by have := run_endLoop (P := P) hl (by rw [hrec]; simp); rw [hrec] at this; exact this, hstop c _ (hIx _ _ _ hi (tb ((fr_putObj W2 _ _).mono (fun k _ h => .inr h)))) ?_ ((World.putObj_heap_other (by omega)).trans hk)⟩
        rw [(fr_putObj_size W2 _ _)]; exact hlt
end Go.Proofs.YtijcleiekafoiaaGreatDoor

/- value.walk and value.each: a value and all below it, handed out one by one. -/
namespace Go.Proofs.YtijcleiekafoiaaGreatDoor
open Go.RowKit Go.Shelf
open Tr
attribute [local go_sem] Oper.semAt_some

/-- What is handed out: a depth and a value. -/
def encDV (p : Nat × Tr Mm) : Array Value := #[.int .i64 p.1, p.2.agg]

theorem yield_depth {P : Program} {n m l : Nat} {args : Array Value} {W : World} {R : Ending → World → Prop} (h : YieldAt Fence.wide n P l args W R) : YieldAt Fence.wide m P l args W R := by
  obtain ⟨fn, tmps, assign, body, h1, h2⟩ := h
  exact ⟨fn, tmps, assign, body, h1, h2.1, fun c cs _ => h2.2 c cs (room_wide _)⟩

theorem flat_at {α β : Type} (g : α → List β) (ys : List α) (j : Nat) (h : j < ys.length) (k : Nat) (hk : k < (g ys[j]).length) : (ys.flatMap g)[((ys.take j).flatMap g).length + k]? = (g ys[j])[k]? := by
  have e : ys = ys.take j ++ ys[j] :: ys.drop (j + 1) := by rw [← List.drop_eq_getElem_cons h, List.take_append_drop]
  conv => lhs; rw [e]
  rw [List.flatMap_append, List.getElem?_append_right (by simp only [List.take_append_of_le_length (show j ≤ (ys.take j).length by simp; omega), List.take_take, Nat.min_self]; omega), List.flatMap_cons]
  have e2 : (List.take j (List.take j ys ++ ys[j] :: List.drop (j + 1) ys)) = List.take j ys := by
    rw [← e]
  rw [e2, Nat.add_sub_cancel_left, List.getElem?_append_left hk]
theorem flat_step {α β : Type} (g : α → List β) (ys : List α) (j : Nat) (h : j < ys.length) : ((ys.take (j + 1)).flatMap g).length = ((ys.take j).flatMap g).length + (g ys[j]).length := by
  rw [List.take_succ_eq_append_getElem h, List.flatMap_append, List.length_append, List.flatMap_singleton]

/-- Who hands out: what is kept between two; S: what a round may write, all of it below nS. -/
structure Walker (l : Nat) (J : Nat → World → Prop) (Jx : World → Prop) (S : Nat → Prop) (nS : Nat) (w0 : World) (xs : List (Nat × Tr Mm)) : Prop where
  hJ : ∀ i A B, J i A → Fr no A B → J i B
  hY : ∀ i (h : i < xs.length) W1, J i W1 → YieldAt Fence.wide 0 Tryz.prog l (encDV xs[i]) W1 fun e W' => (e = .returned (.bool true) ∧ J (i + 1) W' ∧ Fr S W1 W') ∨ (e = .returned (.bool false) ∧ Jx W')
  hS : ∀ k, S k → k < nS
  deep : ∀ p ∈ xs, p.1 ≤ 1000000
  good : ∀ W, Fr S w0 W → ∀ p ∈ xs, Tr.Good W p.2

theorem _root_.Go.Fr.keep {S : Nat → Prop} {A B C : World} (h : Fr S A B) (f : Fr no B C) : Fr S A C := Fr.trans h (f.mono (fun _ _ h => h.elim)) (fun _ _ h => h)

/-- How many values lie in the first j right below. -/
def upK (d : Nat) (x : Tr Mm) (j : Nat) : Nat := ((x.kids.take j).flatMap (pre (d + 1))).length
theorem upK_zero (d : Nat) (x : Tr Mm) : upK d x 0 = 0 := rfl
theorem upK_succ (d : Nat) (x : Tr Mm) (j : Nat) (h : j < x.kids.length) : upK d x (j + 1) = upK d x j + (pre (d + 1) x.kids[j]).length := flat_step _ _ j h
theorem upK_all (d : Nat) (x : Tr Mm) : (pre d x).length = 1 + upK d x x.kids.length := by
  unfold upK
  rw [pre_eq, List.length_cons, List.take_length, Nat.add_comm]
theorem kid_sub {d i : Nat} {x : Tr Mm} {xs : List (Nat × Tr Mm)} (hsub : ∀ k, k < (pre d x).length → xs[i + k]? = (pre d x)[k]?) (j : Nat) (hj : j < x.kids.length) :
    ∀ k, k < (pre (d + 1) x.kids[j]).length → xs[i + 1 + upK d x j + k]? = (pre (d + 1) x.kids[j])[k]? := by
  intro k hk
  have h := flat_at (pre (d + 1)) x.kids j hj k hk
  have h2 : (pre d x)[1 + upK d x j + k]? = (pre (d + 1) x.kids[j])[k]? := by
    rw [pre_eq, Nat.add_assoc, Nat.add_comm 1, List.getElem?_cons_succ]; exact h
  have h3 : 1 + upK d x j + k < (pre d x).length := by
    rw [List.getElem?_eq_getElem hk] at h2
    exact (List.getElem?_eq_some_iff.1 h2).1
  have h4 := hsub _ h3
  rw [show i + (1 + upK d x j + k) = i + 1 + upK d x j + k by omega, h2] at h4
  exact h4
theorem kids_len (x : Tr Mm) : x.kids.length = x.l.length + x.f.length := by unfold kids; simp
theorem kids_l (x : Tr Mm) (j : Nat) (h : j < x.l.length) : ∃ h2 : j < x.kids.length, x.kids[j] = x.l[j] := by
  refine ⟨by rw [kids_len]; omega, ?_⟩
  unfold kids
  rw [List.getElem_append_left h]
theorem kids_f (x : Tr Mm) (j : Nat) (h : j < x.f.length) : ∃ h2 : x.l.length + j < x.kids.length, x.kids[x.l.length + j] = x.f[j].2 := by
  refine ⟨by rw [kids_len]; omega, ?_⟩
  unfold kids
  rw [List.getElem_append_right (by omega)]
  simp

set_option maxRecDepth 100000 in
set_option maxHeartbeats 4000000 in
theorem walk_in (l : Nat) (J : Nat → World → Prop) (Jx : World → Prop) (S : Nat → Prop) (nS : Nat) (w0 : World) (xs : List (Nat × Tr Mm)) (hw : Walker l J Jx S nS w0 xs) (x : Tr Mm) :
    ∀ (d i : Nat) (W : World) (_ : ∀ k, k < (pre d x).length → xs[i + k]? = (pre d x)[k]?) (_ : nS ≤ W.heap.size) (_ : J i W) (_ : Fr S w0 W),
    CallsIn Fence.wide 0 Tryz.prog 110 #[x.agg, .int .i64 d, .func (.yield l) #[] #[]] W fun e W' => (e = .returned (.bool true) ∧ J (i + (pre d x).length) W' ∧ Fr S W W') ∨ (e = .returned (.bool false) ∧ Jx W') := by
  induction x using Tr.ind with
  | h x ih =>
    intro d i W hsub hn hj hk
    have h0 := hsub 0 (pre_pos d x)
    rw [pre_eq, List.getElem?_cons_zero, Nat.add_zero] at h0
    obtain ⟨hi, hxi⟩ := List.getElem?_eq_some_iff.1 h0
    have hxm : (d, x) ∈ xs := hxi ▸ List.getElem_mem hi
    have hx : Tr.Good W x := hw.good W hk _ hxm
    obtain ⟨BA, bc, LA, lc, FA, fc, hf⟩ := hx.node.forms
    have hdd : d ≤ 1000000 := hw.deep _ hxm
    have hnl : x.l.length ≤ 140737488351232 := hx.node.l
    have hnf : x.f.length ≤ 140737488351232 := hx.node.f
    obtain ⟨W1, hW1⟩ : ∃ W1, W.alloc (.cells #[.int .u8 x.k.toNat, .bool x.b, .int .i64 x.i, .string ⟨x.t.toArray⟩, .slice BA x.bs.length bc, .slice LA x.l.length lc, .slice FA x.f.length fc] 27) = W1 := ⟨_, rfl⟩
    have fW1 : Fr no W W1 := by rw [← hW1]; exact (Fr.refl no W).alloc _
    have hy := hw.hY i hi W1 (hw.hJ _ _ _ hj fW1)
    rw [hxi] at hy
    obtain ⟨fn, tmps, assign, body, hyy, hR⟩ := hy
    have hyy : (Instr.yield l #[.int .i64 (d : Int), x.agg]).run Tryz.prog W1 = .ok (.round l fn tmps assign body) W1 := hyy
    rw [hf.agg] at hyy ⊢
    have hbox : W1.heap[W.heap.size]? = some (.cells #[.int .u8 x.k.toNat, .bool x.b, .int .i64 x.i, .string ⟨x.t.toArray⟩, .slice BA x.bs.length bc, .slice LA x.l.length lc, .slice FA x.f.length fc] 27 (0, 0)) := by rw [← hW1]; exact heap_alloc_new W _
    have hnb : ¬ S W.heap.size := fun h => by have := hw.hS _ h; omega
    have HW := Lib.hid hw; have HSUB := Lib.hid hsub; have HR := Lib.hid hR; have HFO := Lib.hid hf; have IH := Lib.hid ih; have HXM := Lib.hid hxm; have HN := Lib.hid hn
    have HF1 := Lib.hid fW1; have HK := Lib.hid hk; have HBOX := Lib.hid hbox; have HNB := Lib.hid hnb
    clear hw hsub hR ih hf hxi h0 hi hj hk hx fW1 hbox hnb hxm hn
    refine callsIn_of_wp Tryz.func110 rfl trivial ?_ rfl
    simp only [Tryz.ntmps110, List.size_toArray, List.length_cons, List.length_nil, Nat.reduceAdd, Nat.reduceSub, Array.replicate_succ, Array.replicate_zero, List.push_toArray, List.append_toArray, List.nil_append, List.cons_append]
    subst hW1
    gi_wp2_with (fail)
    refine ⟨rfl, HR.out.mono ?_⟩
    rintro e W2 (⟨rfl, hj2, hk2⟩ | ⟨rfl, hjx⟩)
    · have hb2 := hk2.heap HBOX.out HNB.out
      have F2 := Lib.hid (Fr.trans (HF1.out.mono (S' := S) (fun _ _ h => h.elim)) hk2 (fun _ _ h => h))
      have HJ2 := Lib.hid hj2; have HB2 := Lib.hid hb2
      have hbl := (Array.getElem?_eq_some_iff.1 hb2).1
      have hc5 := cell_of_row W2 W.heap.size 5 _ _ (0, 0) hb2
      simp only [List.getElem?_toArray, List.getElem?_cons_succ, List.getElem?_cons_zero] at hc5
      clear hyy hk2 hj2 hb2
      gi_wp2
      gi_loopw [19] (fun iv wr => ∃ j : Nat, j ≤ x.l.length ∧ iv = .int .i64 j ∧ J (i + 1 + upK d x j) wr ∧ Fr S W wr ∧ wr.heap[W.heap.size]? = W2.heap[W.heap.size]?) (fun iv _ => x.l.length - (intOf iv).toNat)
      case atStart => exact ⟨0, Nat.zero_le _, rfl, HJ2.out, F2.out, rfl⟩
      case round =>
        obtain ⟨j, hj, rfl, hjj, hfr, hbx⟩ := hrel
        by_cases hlt : j < x.l.length
        · obtain ⟨hkl, hke⟩ := kids_l x j hlt
          have hgx := HW.out.good wr (HK.out.trans hfr (fun _ _ h => h)) _ HXM.out
          have hin := hgx.inL; rw [HFO.out.L] at hin
          obtain ⟨b, o, KB, kb, KL, kl, KF, kf, rfl, hf, q0, q1, q2, q3, q4, q5, q6, hbl⟩ := hin.get j hlt
          have hcall := fun W' (f : Fr no wr W') => IH.out x.l[j] (List.mem_append_left _ (List.getElem_mem _)) (d + 1) (i + 1 + upK d x j) W' (by rw [← hke]; exact kid_sub HSUB.out j hkl) (Nat.le_trans HN.out (Nat.le_trans hfr.size f.size)) (HW.out.hJ _ _ _ hjj f) ((HK.out.trans hfr (fun _ _ h => h)).keep f)
          rw [hf.agg, show ((d + 1 : Nat) : Int) = (d : Int) + 1 from by omega] at hcall
          have HC := Lib.hid hcall; have HFR := Lib.hid hfr; have HBX := Lib.hid hbx; have HKE := Lib.hid hke; have HKL := Lib.hid hkl
          clear hcall hfr hbx hgx hin hf hke
          gi_wp2_with (fail)
          refine ⟨trivial, rfl, (HC.out _ (by (repeat first | exact Fr.refl _ _ | exact Fr.drewN _ _ _ | apply Fr.drew | apply Fr.alloc | apply Fr.setAt | apply Fr.moreN))).mono ?_⟩
          rintro e W3 (⟨rfl, hj3, hf3⟩ | ⟨rfl, hjx⟩)
          · have hnb := HNB.out
            have hb3 := hf3.block W.heap.size (by have h2 := (Array.getElem?_eq_some_iff.1 (HBX.out.trans HB2.out)).1; simp only [World.size_alloc]; omega) hnb
            have hf4 := Fr.trans (HFR.out.keep (by (repeat first | exact Fr.refl _ _ | exact Fr.drewN _ _ _ | apply Fr.drew | apply Fr.alloc | apply Fr.setAt | apply Fr.moreN))) hf3 (fun _ _ h => h)
            have hlw : W.heap.size < wr.heap.size := by have h1 := HFR.out.size; have h2 := (Array.getElem?_eq_some_iff.1 (HBX.out.trans HB2.out)).1; exact h2
            have HJ3 := Lib.hid hj3; have HF4 := Lib.hid hf4; have HB3 := Lib.hid hb3; have HLT := Lib.hid hlw
            clear hj3 hf3 hf4 hb3 q0 q1 q2 q3 q4 q5 q6 hnb
            gi_wp2
            go_roundw
            case rel => exact ⟨j + 1, by omega, by first | rfl | go_num, by rw [upK_succ d x j HKL.out, ← Nat.add_assoc, HKE.out]; exact HJ3.out, HF4.out, HB3.out.trans (by rw [Below.heap_alloc _ _ _ HLT.out]; exact HBX.out)⟩
            case measure => simp [intOf]; omega
          · have HJX := Lib.hid hjx; clear hjx q0 q1 q2 q3 q4 q5 q6
            gi_wp2
            refine bodyPost_ret (results_tmp rfl _ _ _) rfl ?_
            exact .inr ⟨rfl, HJX.out⟩
        · obtain rfl : j = x.l.length := by omega
          have hb3 := hbx.trans HB2.out
          have hbl3 := (Array.getElem?_eq_some_iff.1 hb3).1
          have hc6 := cell_of_row wr W.heap.size 6 _ _ (0, 0) hb3
          simp only [List.getElem?_toArray, List.getElem?_cons_succ, List.getElem?_cons_zero] at hc6
          have HFR := Lib.hid hfr; have HJJ := Lib.hid hjj; have HB3 := Lib.hid hb3; clear hfr hjj hbx hb3
          gi_wp2
          gi_loopw [33] (fun iv w5 => ∃ j : Nat, j ≤ x.f.length ∧ iv = .int .i64 j ∧ J (i + 1 + upK d x (x.l.length + j)) w5 ∧ Fr S W w5) (fun iv _ => x.f.length - (intOf iv).toNat)
          case atStart => exact ⟨0, Nat.zero_le _, rfl, HJJ.out, HFR.out⟩
          case round =>
            obtain ⟨j, hj, rfl, hjj, hfr⟩ := hrel
            by_cases hlt : j < x.f.length
            · obtain ⟨hkl, hke⟩ := kids_f x j hlt
              have hgx := HW.out.good wr (HK.out.trans hfr (fun _ _ h => h)) _ HXM.out
              have hin := hgx.inF; rw [HFO.out.F] at hin
              obtain ⟨b, o, KB, kb, KL, kl, KF, kf, rfl, hf, q0, q1, q2, q3, q4, q5, q6, q7, hbl⟩ := hin.get j hlt
              have hcall := fun W' (f : Fr no wr W') => IH.out x.f[j].2 (List.mem_append_right _ (List.mem_map_of_mem (List.getElem_mem _))) (d + 1) (i + 1 + upK d x (x.l.length + j)) W' (by rw [← hke]; exact kid_sub HSUB.out _ hkl) (Nat.le_trans HN.out (Nat.le_trans hfr.size f.size)) (HW.out.hJ _ _ _ hjj f) ((HK.out.trans hfr (fun _ _ h => h)).keep f)
              rw [hf.agg, show ((d + 1 : Nat) : Int) = (d : Int) + 1 from by omega] at hcall
              have HC := Lib.hid hcall; have HFR := Lib.hid hfr; have HKE := Lib.hid hke; have HKL := Lib.hid hkl
              clear hcall hfr hgx hin hf hke
              gi_wp2_with (fail)
              refine ⟨trivial, rfl, (HC.out _ (by (repeat first | exact Fr.refl _ _ | exact Fr.drewN _ _ _ | apply Fr.drew | apply Fr.alloc | apply Fr.setAt | apply Fr.moreN))).mono ?_⟩
              rintro e W3 (⟨rfl, hj3, hf3⟩ | ⟨rfl, hjx⟩)
              · have hf4 := Fr.trans (HFR.out.keep (by (repeat first | exact Fr.refl _ _ | exact Fr.drewN _ _ _ | apply Fr.drew | apply Fr.alloc | apply Fr.setAt | apply Fr.moreN))) hf3 (fun _ _ h => h)
                have HJ3 := Lib.hid hj3; have HF4 := Lib.hid hf4
                clear hj3 hf3 hf4 q0 q1 q2 q3 q4 q5 q6 q7
                gi_wp2
                go_roundw
                case rel => exact ⟨j + 1, by omega, by first | rfl | go_num, by rw [← Nat.add_assoc, upK_succ d x (x.l.length + j) HKL.out, ← Nat.add_assoc, HKE.out]; exact HJ3.out, HF4.out⟩
                case measure => simp [intOf]; omega
              · have HJX := Lib.hid hjx; clear hjx q0 q1 q2 q3 q4 q5 q6 q7
                gi_wp2
                refine bodyPost_ret (results_tmp rfl _ _ _) rfl ?_
                exact .inr ⟨rfl, HJX.out⟩
            · obtain rfl : j = x.f.length := by omega
              have HFR := Lib.hid hfr; have HJJ := Lib.hid hjj; clear hfr hjj
              gi_wp2
              refine bodyPost_ret (results_tmp rfl _ _ _) rfl ?_
              exact .inl ⟨rfl, by rw [upK_all, kids_len, ← Nat.add_assoc]; exact HJJ.out, HFR.out⟩
    · have HJX := Lib.hid hjx; clear hjx hyy
      gi_wp2
      refine bodyPost_ret (results_tmp rfl _ _ _) rfl ?_
      exact .inr ⟨rfl, HJX.out⟩
end Go.Proofs.YtijcleiekafoiaaGreatDoor

/- value.each: what it hands out. -/
namespace Go.Proofs.YtijcleiekafoiaaGreatDoor
open Go.RowKit Go.Shelf
open Tr
attribute [local go_sem] Oper.semAt_some

/-- What of the i-th is known: it is just this. -/
def isDV (x : Tr Mm) (i : Nat) (vs : Array Value) (_ : World) : Prop := ∃ h : i < (pre 1 x).length, vs = encDV (pre 1 x)[i]

theorem yield_mono {F : Fence} {P : Program} {n l : Nat} {args : Array Value} {W : World} {R R' : Ending → World → Prop} (h : YieldAt F n P l args W R) (hr : ∀ e W', R e W' → R' e W') : YieldAt F n P l args W R' := by
  obtain ⟨fn, tmps, assign, body, h1, h2⟩ := h
  exact ⟨fn, tmps, assign, body, h1, h2.mono hr⟩

set_option maxRecDepth 100000 in
set_option maxHeartbeats 2000000 in
theorem each_any (w : World) (x : Tr Mm) {BA LA FA : Option Addr} {bc lc fc : Nat} (hf : Forms x BA bc LA lc FA fc) :
    Calls Tryz.prog 70 #[x.agg] w fun e w' => e = .returned (.func (.func 109) #[] #[.pointer (some ⟨w.heap.size, 0, none⟩)]) ∧
      w' = w.alloc (.cells #[.int .u8 x.k.toNat, .bool x.b, .int .i64 x.i, .string ⟨x.t.toArray⟩, .slice BA x.bs.length bc, .slice LA x.l.length lc, .slice FA x.f.length fc] 27) := by
  rw [hf.agg]
  clear hf
  go_enter Tryz.func70, Tryz.ntmps70
  go_wp2
  go_ret
  exact ⟨rfl, rfl⟩

set_option maxRecDepth 100000 in
set_option maxHeartbeats 2000000 in
theorem each_iter (n : Nat) (w : World) (Bx : Nat) (x : Tr Mm) {BA LA FA : Option Addr} {bc lc fc : Nat} (hf : Forms x BA bc LA lc FA fc) (S : Nat → Prop)
    (hb : ∀ W, Fr S w W → W.heap[Bx]? = some (.cells #[.int .u8 x.k.toNat, .bool x.b, .int .i64 x.i, .string ⟨x.t.toArray⟩, .slice BA x.bs.length bc, .slice LA x.l.length lc, .slice FA x.f.length fc] 27 (0, 0)))
    (hg : ∀ W, Fr S w W → Tr.Good W x) (hS : ∀ k, S k → k < w.heap.size + 2) (hd : ∀ p ∈ pre 1 x, p.1 ≤ 1000000) :
    IterR n Tryz.prog 109 #[.pointer (some ⟨Bx, 0, none⟩)] (pre 1 x).length (isDV x) (Fr S) w := by
  intro l J Jx W hW hsz hJ hJx hY h0
  have hWS : Fr S w W := hW.mono (fun _ _ h => h.elim)
  have hbW := hb W hWS
  have hwk : Walker l J Jx S (w.heap.size + 2) w (pre 1 x) := ⟨fun i A B h f => hJ i A B h (f.mono (fun _ _ h => h.elim)), fun i h W1 h1 => yield_mono (yield_depth (hY i _ W1 h ⟨h, rfl⟩ h1)) (fun e W' hp => hp.imp id (fun hp => ⟨hp.1, hp.2.1⟩)), hS, hd, fun W' h p hp => (hg W' h).pre 1 p hp⟩
  have hcall := walk_in l J Jx S (w.heap.size + 2) w (pre 1 x) hwk x 1 0 W (fun k _ => by rw [Nat.zero_add]) hsz h0 hWS
  rw [hf.agg, Nat.zero_add] at hcall
  have hbl := (Array.getElem?_eq_some_iff.1 hbW).1
  have q0 := cell_of_row W Bx 0 _ _ (0, 0) hbW
  have q1 := cell_of_row W Bx 1 _ _ (0, 0) hbW
  have q2 := cell_of_row W Bx 2 _ _ (0, 0) hbW
  have q3 := cell_of_row W Bx 3 _ _ (0, 0) hbW
  have q4 := cell_of_row W Bx 4 _ _ (0, 0) hbW
  have q5 := cell_of_row W Bx 5 _ _ (0, 0) hbW
  have q6 := cell_of_row W Bx 6 _ _ (0, 0) hbW
  simp only [List.getElem?_toArray, List.getElem?_cons_succ, List.getElem?_cons_zero] at q0 q1 q2 q3 q4 q5 q6
  have HC := Lib.hid hcall
  clear hcall hwk hbW hf hg hb hJ hJx hY h0 hW hWS hS hd
  refine callsIn_of_wp Tryz.func109 rfl trivial ?_ rfl
  simp only [Tryz.ntmps109, List.size_toArray, List.length_cons, List.length_nil, Nat.reduceAdd, Nat.reduceSub, Array.replicate_succ, Array.replicate_zero, List.push_toArray, List.append_toArray, List.nil_append, List.cons_append]
  gi_wp2_with (fail)
  refine ⟨trivial, (fun h => by simp [Fence.wide] at h), (callsIn_wide.2 (callsIn_wide.1 HC.out)).mono ?_⟩
  rintro e W2 (⟨rfl, hj, _⟩ | ⟨rfl, hj⟩)
  · have HJ := Lib.hid hj; clear hj
    gi_wp2
    go_end0
    exact ⟨⟨_, rfl⟩, .inl HJ.out⟩
  · have HJ := Lib.hid hj; clear hj
    gi_wp2
    go_end0
    exact ⟨⟨_, rfl⟩, .inr HJ.out⟩
end Go.Proofs.YtijcleiekafoiaaGreatDoor

/- Texts: whether one is UTF-8, and how many runes it has: the kit's contracts, laid at this program. -/
namespace Go.Proofs.YtijcleiekafoiaaGreatDoor
open Go.RowKit Go.Shelf

def valid_ren : Ren := ⟨fun | 196 => 113 | 259 => 130 | n => n,
  fun | 9 => 9 | 4 => 4 | 3 => 3 | 5 => 5 | 12 => 12 | 119 => 213 | 0 => 0 | 46 => 170 | 139 => 216 | 138 => 215 | 53 => 139 | n => n,
  fun | 3 => 0 | 4 => 1 | n => n⟩
theorem lays_valid : Lays.n196 Tryz.prog valid_ren :=
  { mixed := by kernel_rfl, f196 := Tryz.func113.trans (congrArg some (by kernel_rfl)), f259 := Tryz.func130.trans (congrArg some (by kernel_rfl)),
    t0 := Tryz.underlying0, a0 := Tryz.isAgg0, z0 := Tryz.sizeOf0, v0 := Tryz.zeroValue0, t3 := Tryz.underlying3, a3 := Tryz.isAgg3, z3 := Tryz.sizeOf3, v3 := Tryz.zeroValue3,
    t4 := Tryz.underlying4, a4 := Tryz.isAgg4, z4 := Tryz.sizeOf4, v4 := Tryz.zeroValue4, t5 := Tryz.underlying5, a5 := Tryz.isAgg5, z5 := Tryz.sizeOf5, v5 := Tryz.zeroValue5,
    t9 := Tryz.underlying9, a9 := Tryz.isAgg9, z9 := Tryz.sizeOf9, v9 := Tryz.zeroValue9, t12 := Tryz.underlying12, a12 := Tryz.isAgg12, z12 := Tryz.sizeOf12, v12 := Tryz.zeroValue12,
    t46 := Tryz.underlying170, a46 := Tryz.isAgg170, z46 := Tryz.sizeOf170, v46 := Tryz.zeroValue170, t53 := Tryz.underlying139, a53 := Tryz.isAgg139, z53 := Tryz.sizeOf139, v53 := Tryz.zeroValue139,
    t119 := Tryz.underlying213, a119 := Tryz.isAgg213, z119 := Tryz.sizeOf213, t138 := Tryz.underlying215, a138 := Tryz.isAgg215, z138 := Tryz.sizeOf215, v138 := Tryz.zeroValue215,
    t139 := Tryz.underlying216, a139 := Tryz.isAgg216, z139 := Tryz.sizeOf216, v139 := Tryz.zeroValue216, g3 := by kernel_rfl, g4 := by kernel_rfl }
def runes_ren : Ren := ⟨fun | 195 => 114 | n => n, fun | 9 => 9 | 3 => 3 | 0 => 0 | 4 => 4 | n => n, fun n => n⟩
theorem lays_runes : Lays.n195 Tryz.prog runes_ren :=
  { mixed := by kernel_rfl, f195 := Tryz.func114.trans (congrArg some (by kernel_rfl)),
    t0 := Tryz.underlying0, a0 := Tryz.isAgg0, z0 := Tryz.sizeOf0, v0 := Tryz.zeroValue0, t3 := Tryz.underlying3, a3 := Tryz.isAgg3, z3 := Tryz.sizeOf3, v3 := Tryz.zeroValue3,
    t4 := Tryz.underlying4, a4 := Tryz.isAgg4, z4 := Tryz.sizeOf4, v4 := Tryz.zeroValue4, t9 := Tryz.underlying9, a9 := Tryz.isAgg9, z9 := Tryz.sizeOf9, v9 := Tryz.zeroValue9 }

/-- The two tables of unicode/utf8 lie as its text lays them. -/
def Tabs (w : World) : Prop := Lib.Utf8Tabs 0 1 w
theorem Tabs.kept0 {w w1 : World} (h : Tabs w) (f : Fr no w w1) : Tabs w1 :=
  ⟨fun c hc => f.cell (h.1 c hc) (fun h => h), fun i hi => ⟨f.cell (h.2 i hi).1 (fun h => h), f.cell (h.2 i hi).2 (fun h => h)⟩⟩

theorem fr_below {w w1 : World} (h : Below w.heap.size w w1) : Fr no w w1 := ⟨h.os, h.tape, h.output, h.size, fun k hk _ => h.block k hk⟩

theorem valid_any (w : World) (s : List UInt8) (hs : s.length ≤ reachBytes) (hT : Tabs w) :
    Calls Tryz.prog 113 #[.string ⟨s.toArray⟩] w fun e w' => e = .returned (.bool (Lib.validD s)) ∧ Fr no w w' := by
  have h : s.length ≤ 9223372036854775807 := Nat.le_trans hs (by decide)
  exact (Any.utf8_ValidString lays_valid ⟨s.toArray⟩ w h hT).mono fun e w' ⟨h1, h2⟩ => ⟨h1, fr_below h2⟩
theorem runes_any (w : World) (s : List UInt8) (hs : s.length ≤ reachBytes) :
    Calls Tryz.prog 114 #[.string ⟨s.toArray⟩] w fun e w' => e = .returned (.int .i64 (Lib.runeCountL s)) ∧ Fr no w w' := by
  have h : s.length < 9223372036854775807 := Nat.lt_of_le_of_lt hs (by decide)
  exact (Any.utf8_RuneCountInString lays_runes ⟨s.toArray⟩ w h).mono fun e w' ⟨h1, pos, h2⟩ => ⟨h1, by rw [h2]; exact (Fr.refl no w).alloc _⟩
theorem runes_le (s : List UInt8) : Lib.runeCountL s ≤ s.length := Lib.runeCount_le ⟨s.toArray⟩
end Go.Proofs.YtijcleiekafoiaaGreatDoor
