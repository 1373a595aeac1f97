import Derived.Test.YtijcleiekafoiaaGreatDoorMb02
import Derived.Test.YtijcleiekafoiaaGreatDoorMb05
import Derived.Test.YtijcleiekafoiaaGreatDoorMb09
import Derived.Test.YtijcleiekafoiaaGreatDoorMb10
import Derived.Test.YtijcleiekafoiaaGreatDoorMb03
import Derived.Test.YtijcleiekafoiaaGreatDoorMb01

/- doc.write: a value that may be, as bytes. -/
namespace Go.Proofs.YtijcleiekafoiaaGreatDoor
open Go.RowKit
open Tr

theorem Wrote.first {w W w' : World} {p : Nat} {sv : Value} {l bs : List UInt8} (f : Fr no w W) (h : Wrote W w' p sv l bs) : Wrote w w' p sv l bs := by
  obtain ⟨A, n, c, h1, h2, h3⟩ := h
  exact ⟨A, n, c, h1, ((Fr.refl (Own p sv) w).trans f (fun _ _ h => h.elim)).trans h2 (fun _ _ h => h), h3.first f.size⟩
theorem Wrote.next {w w1 w2 : World} {p : Nat} {sv : Value} {l bs cs : List UInt8} (h : Wrote w w1 p sv l bs) (g : ∀ (A : Option Addr) (n c : Nat), Wr w1 p (.slice A n c) (l ++ bs) → Fr (Own p sv) w w1 → Moved w w1 sv (.slice A n c) → Wrote w1 w2 p (.slice A n c) (l ++ bs) cs) : Wrote w w2 p sv l (bs ++ cs) := by
  obtain ⟨A, n, c, h1, h2, h3⟩ := h
  exact Wrote.trans h2 h3 (g A n c h1 h2 h3)

theorem eight_cells {w : World} {g : Nat} {a b c d e f h i : Value} {T : TypeId} (hr : w.heap[g]? = some (.cells #[a, b, c, d, e, f, h, i] T (0, 0))) :
    w.cell? ⟨g, 0, none⟩ = some a ∧ w.cell? ⟨g, 1, none⟩ = some b ∧ w.cell? ⟨g, 2, none⟩ = some c ∧ w.cell? ⟨g, 3, none⟩ = some d ∧ w.cell? ⟨g, 4, none⟩ = some e ∧ w.cell? ⟨g, 5, none⟩ = some f ∧ w.cell? ⟨g, 6, none⟩ = some h ∧ w.cell? ⟨g, 7, none⟩ = some i ∧
      (∀ o, w.frozen? ⟨g, o, none⟩ = false) ∧ g < w.heap.size := by
  have hc : ∀ i', w.cell? ⟨g, i', none⟩ = (#[a, b, c, d, e, f, h, i] : Array Value)[i']? := fun i' => by rw [cell_of_row w g i' _ _ (0, 0) hr]
  exact ⟨hc 0, hc 1, hc 2, hc 3, hc 4, hc 5, hc 6, hc 7, fun o => by simp [World.frozen?, hr], (Array.getElem?_eq_some_iff.1 hr).1⟩

/-- A writer that is younger than the values it writes. -/
structure Wy (w0 w : World) (p : Nat) (sv : Value) (l : List UInt8) : Prop where
  wr : Wr w p sv l
  fr : Fr no w0 w
  p : w0.heap.size ≤ p
  sv : ∀ k, sv.ownBlock = some k → w0.heap.size ≤ k
theorem Wy.own {w0 w : World} {p : Nat} {sv : Value} {l : List UInt8} (h : Wy w0 w p sv l) : ∀ k, Own p sv k → w0.heap.size ≤ k := fun k hk => by
  rcases hk with rfl | hk
  · exact h.p
  · exact h.sv k hk
theorem Wy.lt {w0 w : World} {p : Nat} {sv : Value} {l : List UInt8} (h : Wy w0 w p sv l) : ∀ k, Own p sv k → k < w.heap.size := fun k hk => by
  rcases hk with rfl | hk
  · exact h.wr.lt
  · exact own_lt h.wr.2.1 k hk
theorem Wy.kept0 {w0 w w1 : World} {p : Nat} {sv : Value} {l : List UInt8} (h : Wy w0 w p sv l) (f : Fr no w w1) : Wy w0 w1 p sv l :=
  ⟨h.wr.kept f (fun _ _ h => h), h.fr.trans f (fun _ _ h => h), h.p, h.sv⟩
theorem Wy.next {w0 w w1 : World} {p : Nat} {sv : Value} {l bs : List UInt8} (h : Wy w0 w p sv l) {A : Option Addr} {n c : Nat} (h1 : Wr w1 p (.slice A n c) (l ++ bs)) (h2 : Fr (Own p sv) w w1) (h3 : Moved w w1 sv (.slice A n c)) : Wy w0 w1 p (.slice A n c) (l ++ bs) :=
  ⟨h1, Fr.since h.fr h2 h.own, h.p, fun k hk => by
    rcases h3 with h3 | h3
    · exact h.sv k (by rw [← h3]; exact hk)
    · exact Nat.le_trans h.fr.size (h3 k hk).1⟩

/-- write writes a value. -/
def WriteC (w0 : World) (y : Tr Mm) : Prop := ∀ (w : World) (p : Nat) (sv : Value) (l : List UInt8), Wy w0 w p sv l → l.length + (denc y).length ≤ 1000000000 →
  Calls Tryz.prog 28 #[.pointer (some ⟨p, 0, none⟩), y.agg] w fun e w' => e = .returned (.tuple #[]) ∧ Wrote w w' p sv l (denc y)

set_option maxRecDepth 100000 in
set_option maxHeartbeats 2000000 in
theorem write1_any (w0 : World) (y : Tr Mm) (hy : Tr.Good w0 y) (hc : WriteC w0 y) (w : World) (p b : Nat) (sv : Value) (l : List UInt8) (hw : Wy w0 w p sv l) (hl : l.length + (denc y).length ≤ 1000000000)
    (hb : w.cell? ⟨b, 0, none⟩ = some (.pointer (some ⟨p, 0, none⟩))) :
    Calls Tryz.prog 76 #[y.agg, .pointer (some ⟨b, 0, none⟩)] w fun e w' => e = .returned (.tuple #[]) ∧ Wrote w w' p sv l (denc y) := by
  obtain ⟨BA, bc, LA, lc, FA, fc, hf⟩ := hy.node.forms
  have hbl := World.block_lt_of_cell? w _ hb
  have hcall : ∀ W, Fr no w W → _ := fun W f => hc W p sv l (hw.kept0 f) hl
  rw [hf.agg] at hcall
  rw [hf.agg]
  have HC := Lib.hid hcall
  clear hf hy hcall hc hw hl
  go_enter Tryz.func76, Tryz.ntmps76
  go_wp2_with fail
  refine (HC.out _ (by (repeat first | exact Fr.refl _ _ | exact Fr.drewN _ _ _ | apply Fr.drew | apply Fr.alloc | apply Fr.setAt | apply Fr.moreN))).mono ?_
  rintro e w1 ⟨rfl, f1⟩
  have F1 := Lib.hid (Wrote.first (by (repeat first | exact Fr.refl _ _ | exact Fr.drewN _ _ _ | apply Fr.drew | apply Fr.alloc | apply Fr.setAt | apply Fr.moreN) : Fr no w _) f1); clear f1
  go_wp2
  go_end0
  exact ⟨rfl, F1.out⟩

set_option maxRecDepth 100000 in
set_option maxHeartbeats 2000000 in
theorem write2_any (w0 : World) (y : List UInt8 × Tr Mm) (hy : Tr.Good w0 y.2) (hc : WriteC w0 y.2) (w : World) (p b : Nat) (sv : Value) (l : List UInt8) (hw : Wy w0 w p sv l) (hl : l.length + (fenc y).length ≤ 1000000000)
    (hb : w.cell? ⟨b, 0, none⟩ = some (.pointer (some ⟨p, 0, none⟩))) (hbo : ¬ Own p sv b) :
    Calls Tryz.prog 78 #[fagg y, .pointer (some ⟨b, 0, none⟩)] w fun e w' => e = .returned (.tuple #[]) ∧ Wrote w w' p sv l (fenc y) := by
  obtain ⟨BA, bc, LA, lc, FA, fc, hf⟩ := hy.node.forms
  have hbl := World.block_lt_of_cell? w _ hb
  have hlen : (fenc y).length = (vi y.1.length).length + y.1.length + (denc y.2).length := by unfold fenc vt; simp only [List.length_append]
  have hcall : ∀ W sv2 l2, Wy w0 W p sv2 l2 → l2.length + (denc y.2).length ≤ 1000000000 → _ := fun W sv2 l2 h1 h2 => hc W p sv2 l2 h1 h2
  rw [hf.agg] at hcall
  rw [ffagg hf]
  have hlt := hw.lt
  have HC := Lib.hid hcall; have HW := Lib.hid hw; have HL := Lib.hid hl; have HLE := Lib.hid hlen; have HBO := Lib.hid hbo; have HLT := Lib.hid hlt
  clear hf hy hcall hc hw hl hlen hbo hlt
  go_enter Tryz.func78, Tryz.ntmps78
  go_wp2_with fail
  refine (wtext_any p _ sv l ⟨y.1.toArray⟩ (HW.out.kept0 (by (repeat first | exact Fr.refl _ _ | exact Fr.drewN _ _ _ | apply Fr.drew | apply Fr.alloc | apply Fr.setAt | apply Fr.moreN))).wr (by have h1 := HL.out; have h2 := HLE.out; show l.length + y.1.length ≤ _; omega)).mono ?_
  rintro e w1 ⟨rfl, h1⟩
  have hal := (by (repeat first | exact Fr.refl _ _ | exact Fr.drewN _ _ _ | apply Fr.drew | apply Fr.alloc | apply Fr.setAt | apply Fr.moreN) : Fr no w (w.alloc (.cells #[.string ⟨y.1.toArray⟩, .int .u8 y.2.k.toNat, .bool y.2.b, .int .i64 y.2.i, .string ⟨y.2.t.toArray⟩, .slice BA y.2.bs.length bc, .slice LA y.2.l.length lc, .slice FA y.2.f.length fc] 87)))
  have hr := heap_alloc_new w (.cells #[.string ⟨y.1.toArray⟩, .int .u8 y.2.k.toNat, .bool y.2.b, .int .i64 y.2.i, .string ⟨y.2.t.toArray⟩, .slice BA y.2.bs.length bc, .slice LA y.2.l.length lc, .slice FA y.2.f.length fc] 87)
  generalize w.alloc (.cells #[.string ⟨y.1.toArray⟩, .int .u8 y.2.k.toNat, .bool y.2.b, .int .i64 y.2.i, .string ⟨y.2.t.toArray⟩, .slice BA y.2.bs.length bc, .slice LA y.2.l.length lc, .slice FA y.2.f.length fc] 87) = W at hal hr h1 ⊢
  have h1' : Wrote W w1 p sv l (vt y.1) := h1
  have h0 := Wrote.first hal h1'
  obtain ⟨A, n, c, k1, k2, k3⟩ := h1'
  have hr1 := k2.heap hr (fun h => by have := HLT.out _ h; omega)
  obtain ⟨q0, q1, q2, q3, q4, q5, q6, q7, qz, ql⟩ := eight_cells hr1
  have hb1 := k2.cell (hal.cell hb (fun h => h)) HBO.out
  have hbl1 := World.block_lt_of_cell? w1 _ hb1
  have hcw := HC.out w1 (.slice A n c) (l ++ vt y.1) ((HW.out.kept0 hal).next k1 k2 k3) (by have h1 := HL.out; have h2 := HLE.out; unfold vt; simp only [List.length_append]; omega)
  have HCW := Lib.hid hcw; have H0 := Lib.hid h0; have K1 := Lib.hid k1; have K2 := Lib.hid k2; have K3 := Lib.hid k3; have HAL := Lib.hid hal
  clear hcw h0 k1 k2 k3 h1 hr hr1 hal hb
  go_wp2_with fail
  refine HCW.out.mono ?_
  rintro e w2 ⟨rfl, h2⟩
  have h3 : Wrote w w2 p sv l (fenc y) := Wrote.trans (((Fr.refl (Own p sv) w).trans HAL.out (fun _ _ h => h.elim)).trans K2.out (fun _ _ h => h)) (K3.out.first HAL.out.size) h2
  have H3 := Lib.hid h3
  clear h2 h3
  go_wp2
  go_end0
  exact ⟨rfl, H3.out⟩

/-- A loop of writes: where it is. -/
structure Wl (w0 w wr : World) (p : Nat) (sv : Value) (l bs : List UInt8) (A : Option Addr) (n c : Nat) : Prop where
  wy : Wy w0 wr p (.slice A n c) (l ++ bs)
  fr : Fr (Own p sv) w wr
  mv : Moved w wr sv (.slice A n c)
theorem Wl.wrote {w0 w wr : World} {p : Nat} {sv : Value} {l bs : List UInt8} {A : Option Addr} {n c : Nat} (h : Wl w0 w wr p sv l bs A n c) : Wrote w wr p sv l bs := ⟨A, n, c, h.wy.wr, h.fr, h.mv⟩
theorem Wl.more {w0 w wr w2 : World} {p : Nat} {sv : Value} {l bs cs : List UInt8} {A : Option Addr} {n c : Nat} (h : Wl w0 w wr p sv l bs A n c) (h2 : Wrote wr w2 p (.slice A n c) (l ++ bs) cs) : ∃ A' n' c', Wl w0 w w2 p sv l (bs ++ cs) A' n' c' := by
  obtain ⟨A', n', c', k1, k2, k3⟩ := h2
  have k := h.wy.next k1 k2 k3
  rw [List.append_assoc] at k
  exact ⟨A', n', c', k, h.fr.trans k2 (fun j hj hk => Own.sub h.mv j hj hk), h.mv.trans k3 h.fr.size k2.size⟩
theorem Wl.off {w0 w wr : World} {p : Nat} {sv : Value} {l bs : List UInt8} {A : Option Addr} {n c : Nat} (h : Wl w0 w wr p sv l bs A n c) {b : Nat} (hb : b < w.heap.size) (ho : ¬ Own p sv b) : ¬ Own p (.slice A n c) b := fun hk => ho (Own.sub h.mv b hb hk)

theorem flat_take {α β : Type} {g : α → List β} {l : List α} {j : Nat} (h : j < l.length) : (l.take (j + 1)).flatMap g = (l.take j).flatMap g ++ g l[j] := by
  rw [List.take_succ_eq_append_getElem h, List.flatMap_append, List.flatMap_cons, List.flatMap_nil, List.append_nil]
theorem flat_take_len {α β : Type} (g : α → List β) (l : List α) (j : Nat) : ((l.take j).flatMap g).length ≤ (l.flatMap g).length := by
  conv => rhs; rw [← List.take_append_drop j l, List.flatMap_append, List.length_append]
  omega

set_option maxRecDepth 100000 in
set_option maxHeartbeats 2000000 in
theorem manyv_any (w0 : World) (l : List (Tr Mm)) (hc : ∀ y ∈ l, WriteC w0 y) (w : World) (p b : Nat) (X sv : Value) (s : List UInt8) (hx : In w0 X l) (hw : Wy w0 w p sv s) (hl : s.length + (vi l.length).length + (l.flatMap denc).length ≤ 1000000000)
    (hb : w.cell? ⟨b, 0, none⟩ = some (.pointer (some ⟨p, 0, none⟩))) (hbo : ¬ Own p sv b) :
    Calls Tryz.prog 75 #[.pointer (some ⟨p, 0, none⟩), X, .func (.func 76) #[] #[.pointer (some ⟨b, 0, none⟩)]] w fun e w' => e = .returned (.tuple #[]) ∧ Wrote w w' p sv s (vi l.length ++ l.flatMap denc) := by
  obtain ⟨XA, xc, rfl, _, _⟩ := hx.sl.form
  have hbl := World.block_lt_of_cell? w _ hb
  have hn : l.length ≤ 140737488351232 := hx.n
  have hvl := vi_length l.length (by omega)
  have HX := Lib.hid hx; have HW := Lib.hid hw; have HC := Lib.hid hc; have HL := Lib.hid hl; have HB := Lib.hid hb; have HBO := Lib.hid hbo; have HBL := Lib.hid hbl; have HVL := Lib.hid hvl
  clear hx hw hc hl hb hbo hbl hvl
  go_enter Tryz.func75, Tryz.ntmps75
  go_wp2_with fail
  refine (varint_any p _ sv s _ (by omega) ⟨by omega⟩ HW.out.wr (by have := HL.out; omega)).mono ?_
  rintro e w1 ⟨rfl, A, n, c, k1, k2, k3⟩
  rw [Int.toNat_natCast] at k1
  have hwl : Wl w0 w w1 p sv s (vi l.length) A n c := ⟨HW.out.next k1 k2 k3, k2, k3⟩
  have HWL := Lib.hid hwl
  clear hwl k1 k2 k3
  go_wp2
  go_loopw [15] (fun iv wr => ∃ (j : Nat) (A : Option Addr) (n c : Nat), j ≤ l.length ∧ iv = .int .i64 j ∧ Wl w0 w wr p sv s (vi l.length ++ (l.take j).flatMap denc) A n c) (fun iv _ => l.length - (intOf iv).toNat)
  case atStart => exact ⟨0, A, n, c, Nat.zero_le _, rfl, by simpa using HWL.out⟩
  case round =>
    obtain ⟨j, A2, n2, c2, hj, rfl, hwr⟩ := hrel
    have HWR := Lib.hid hwr
    clear hwr HWL
    by_cases hlt : j < l.length
    · obtain ⟨xb, o, BA, bc, LA, lc, FA, fc, rfl, hf, r0, r1, r2, r3, r4, r5, r6, ql⟩ := In.get (HX.out.kept0 HWR.out.wy.fr) j hlt
      have htl := flat_take_len denc l (j + 1)
      rw [flat_take hlt, List.length_append] at htl
      have hb2 := HWR.out.fr.cell HB.out HBO.out
      have hbo2 := HWR.out.off HBL.out HBO.out
      have hcall := fun W (f : Fr no wr W) => write1_any w0 l[j] (HX.out.good _ (List.getElem_mem _)) (HC.out _ (List.getElem_mem _)) W p b (.slice A2 n2 c2) (s ++ (vi l.length ++ (l.take j).flatMap denc)) (HWR.out.wy.kept0 f) (by
        have h1 := HL.out
        simp only [List.length_append]
        omega) (f.cell hb2 (fun h => h))
      rw [hf.agg] at hcall
      have HCL := Lib.hid hcall
      clear hcall hf hb2 hbo2 htl
      go_wp2_with fail
      refine (HCL.out _ (by (repeat first | exact Fr.refl _ _ | exact Fr.drewN _ _ _ | apply Fr.drew | apply Fr.alloc | apply Fr.setAt | apply Fr.moreN))).mono ?_
      rintro e w2 ⟨rfl, h2⟩
      obtain ⟨A3, n3, c3, h3⟩ := HWR.out.more (Wrote.first (by (repeat first | exact Fr.refl _ _ | exact Fr.drewN _ _ _ | apply Fr.drew | apply Fr.alloc | apply Fr.setAt | apply Fr.moreN) : Fr no wr _) h2)
      rw [List.append_assoc, ← flat_take hlt] at h3
      have H3 := Lib.hid h3
      clear h2 h3 HCL HWR
      go_wp2
      go_roundw
      case rel => exact ⟨j + 1, A3, n3, c3, hlt, by go_num, H3.out⟩
      case measure => simp [intOf]; omega
    · obtain rfl : j = l.length := by omega
      have hfin := HWR.out.wrote
      rw [List.take_length] at hfin
      have HFIN := Lib.hid hfin
      clear hfin HWR
      go_wp2
      go_end0
      exact ⟨rfl, HFIN.out⟩

set_option maxRecDepth 100000 in
set_option maxHeartbeats 2000000 in
theorem manyf_any (w0 : World) (l : List (List UInt8 × Tr Mm)) (hc : ∀ y ∈ l, WriteC w0 y.2) (w : World) (p b : Nat) (X sv : Value) (s : List UInt8) (hx : InF w0 X l) (hw : Wy w0 w p sv s) (hl : s.length + (vi l.length).length + (l.flatMap fenc).length ≤ 1000000000)
    (hb : w.cell? ⟨b, 0, none⟩ = some (.pointer (some ⟨p, 0, none⟩))) (hbo : ¬ Own p sv b) :
    Calls Tryz.prog 77 #[.pointer (some ⟨p, 0, none⟩), X, .func (.func 78) #[] #[.pointer (some ⟨b, 0, none⟩)]] w fun e w' => e = .returned (.tuple #[]) ∧ Wrote w w' p sv s (vi l.length ++ l.flatMap fenc) := by
  obtain ⟨XA, xc, rfl, _, _⟩ := hx.sl.form
  have hbl := World.block_lt_of_cell? w _ hb
  have hn : l.length ≤ 140737488351232 := hx.n
  have hvl := vi_length l.length (by omega)
  have HX := Lib.hid hx; have HW := Lib.hid hw; have HC := Lib.hid hc; have HL := Lib.hid hl; have HB := Lib.hid hb; have HBO := Lib.hid hbo; have HBL := Lib.hid hbl; have HVL := Lib.hid hvl
  clear hx hw hc hl hb hbo hbl hvl
  go_enter Tryz.func77, Tryz.ntmps77
  go_wp2_with fail
  refine (varint_any p _ sv s _ (by omega) ⟨by omega⟩ HW.out.wr (by have := HL.out; omega)).mono ?_
  rintro e w1 ⟨rfl, A, n, c, k1, k2, k3⟩
  rw [Int.toNat_natCast] at k1
  have hwl : Wl w0 w w1 p sv s (vi l.length) A n c := ⟨HW.out.next k1 k2 k3, k2, k3⟩
  have HWL := Lib.hid hwl
  clear hwl k1 k2 k3
  go_wp2
  go_loopw [15] (fun iv wr => ∃ (j : Nat) (A : Option Addr) (n c : Nat), j ≤ l.length ∧ iv = .int .i64 j ∧ Wl w0 w wr p sv s (vi l.length ++ (l.take j).flatMap fenc) A n c) (fun iv _ => l.length - (intOf iv).toNat)
  case atStart => exact ⟨0, A, n, c, Nat.zero_le _, rfl, by simpa using HWL.out⟩
  case round =>
    obtain ⟨j, A2, n2, c2, hj, rfl, hwr⟩ := hrel
    have HWR := Lib.hid hwr
    clear hwr HWL
    by_cases hlt : j < l.length
    · obtain ⟨xb, o, BA, bc, LA, lc, FA, fc, rfl, hf, n0, r0, r1, r2, r3, r4, r5, r6, ql⟩ := InF.get (HX.out.kept0 HWR.out.wy.fr) j hlt
      have htl := flat_take_len fenc l (j + 1)
      rw [flat_take hlt, List.length_append] at htl
      have hb2 := HWR.out.fr.cell HB.out HBO.out
      have hbo2 := HWR.out.off HBL.out HBO.out
      have hcall := fun W (f : Fr no wr W) => write2_any w0 l[j] (HX.out.good _ (List.getElem_mem _)) (HC.out _ (List.getElem_mem _)) W p b (.slice A2 n2 c2) (s ++ (vi l.length ++ (l.take j).flatMap fenc)) (HWR.out.wy.kept0 f) (by
        have h1 := HL.out
        simp only [List.length_append]
        omega) (f.cell hb2 (fun h => h)) hbo2
      rw [ffagg hf] at hcall
      have HCL := Lib.hid hcall
      clear hcall hf hb2 hbo2 htl
      go_wp2_with fail
      refine (HCL.out _ (by (repeat first | exact Fr.refl _ _ | exact Fr.drewN _ _ _ | apply Fr.drew | apply Fr.alloc | apply Fr.setAt | apply Fr.moreN))).mono ?_
      rintro e w2 ⟨rfl, h2⟩
      obtain ⟨A3, n3, c3, h3⟩ := HWR.out.more (Wrote.first (by (repeat first | exact Fr.refl _ _ | exact Fr.drewN _ _ _ | apply Fr.drew | apply Fr.alloc | apply Fr.setAt | apply Fr.moreN) : Fr no wr _) h2)
      rw [List.append_assoc, ← flat_take hlt] at h3
      have H3 := Lib.hid h3
      clear h2 h3 HCL HWR
      go_wp2
      go_roundw
      case rel => exact ⟨j + 1, A3, n3, c3, hlt, by go_num, H3.out⟩
      case measure => simp [intOf]; omega
    · obtain rfl : j = l.length := by omega
      have hfin := HWR.out.wrote
      rw [List.take_length] at hfin
      have HFIN := Lib.hid hfin
      clear hfin HWR
      go_wp2
      go_end0
      exact ⟨rfl, HFIN.out⟩

set_option maxRecDepth 100000 in
set_option maxHeartbeats 8000000 in
theorem write_any (w0 : World) (x : Tr Mm) : Tr.Good w0 x → FitAll x → WriteC w0 x := by
  induction x using Tr.ind with
  | h x ih =>
    intro hx hfit w p sv s hw hl
    obtain ⟨BA, bc, LA, lc, FA, fc, hf⟩ := hx.node.forms
    have hxl := fun W (f : Fr no w0 W) => (hx.kept0 f).inL
    have hxf := fun W (f : Fr no w0 W) => (hx.kept0 f).inF
    have hxb := fun W (f : Fr no w0 W) => (hx.kept0 f).node.B
    have hi := hx.node.i
    have hxl0 := hx.inL; have hxf0 := hx.inF
    rw [hf.L] at hxl0; rw [hf.F] at hxf0; rw [hf.B] at hxb
    have hcl : ∀ y ∈ x.l, WriteC w0 y := fun y hy => ih y (Tr.kids_l hy) (hx.l y hy) (hfit.kid y (Tr.kids_l hy))
    have hcf : ∀ y ∈ x.f, WriteC w0 y.2 := fun y hy => ih y.2 (Tr.kids_f hy) (hx.f y hy) (hfit.kid y.2 (Tr.kids_f hy))
    have hlt := hw.lt
    obtain ⟨⟨hk1, hk2⟩, _⟩ := shape_parts hfit.here.shape
    rw [hf.agg]
    rw [denc_eq] at hl ⊢
    have hbn : x.bs.length ≤ 140737488351232 := hx.node.bs
    have HXL := Lib.hid hxl0; have HXF := Lib.hid hxf0; have HXB := Lib.hid hxb; have HCL := Lib.hid hcl; have HCF := Lib.hid hcf; have HLT := Lib.hid hlt; have HW := Lib.hid hw; have HI := Lib.hid hi
    clear hx hfit hf hxl hxf hxb hxl0 hxf0 hcl hcf hlt hw ih hi
    have e : x.k = 1 ∨ x.k = 2 ∨ x.k = 3 ∨ x.k = 4 ∨ x.k = 5 ∨ x.k = 6 ∨ x.k = 7 := kinds7 hk1 hk2
    clear hk1 hk2
    rcases e with h | h | h | h | h | h | h
    · rw [h] at hl ⊢
      rw [if_pos rfl] at hl ⊢
      have HL := Lib.hid hl
      clear hl h
      show Calls Tryz.prog 28 #[.pointer (some ⟨p, 0, none⟩), .agg #[.int .u8 1, .bool x.b, .int .i64 x.i, .string ⟨x.t.toArray⟩, .slice BA x.bs.length bc, .slice LA x.l.length lc, .slice FA x.f.length fc]] w _
      go_enter Tryz.func28, Tryz.ntmps28
      go_wp2_with fail
      refine (u8_any p _ sv s 1 (by omega) (by omega) (HW.out.kept0 (by (repeat first | exact Fr.refl _ _ | exact Fr.drewN _ _ _ | apply Fr.drew | apply Fr.alloc | apply Fr.setAt | apply Fr.moreN))).wr (by have := HL.out; omega)).mono ?_
      rintro e w1 ⟨rfl, h1⟩
      have H1 := Lib.hid (Wrote.first (by (repeat first | exact Fr.refl _ _ | exact Fr.drewN _ _ _ | apply Fr.drew | apply Fr.alloc | apply Fr.setAt | apply Fr.moreN) : Fr no w _) h1)
      clear h1
      go_wp2
      go_end0
      exact ⟨rfl, H1.out⟩
    · rw [h] at hl ⊢
      rw [if_neg (by decide), if_pos rfl] at hl ⊢
      have HL := Lib.hid hl
      clear hl h
      cases hb : x.b with
      | true =>
        rw [hb] at HL
        rw [if_pos rfl] at HL ⊢
        clear hb
        show Calls Tryz.prog 28 #[.pointer (some ⟨p, 0, none⟩), .agg #[.int .u8 2, .bool true, .int .i64 x.i, .string ⟨x.t.toArray⟩, .slice BA x.bs.length bc, .slice LA x.l.length lc, .slice FA x.f.length fc]] w _
        go_enter Tryz.func28, Tryz.ntmps28
        go_wp2_with fail
        refine (u8_any p _ sv s 3 (by omega) (by omega) (HW.out.kept0 (by (repeat first | exact Fr.refl _ _ | exact Fr.drewN _ _ _ | apply Fr.drew | apply Fr.alloc | apply Fr.setAt | apply Fr.moreN))).wr (by have := HL.out; omega)).mono ?_
        rintro e w1 ⟨rfl, h1⟩
        have H1 := Lib.hid (Wrote.first (by (repeat first | exact Fr.refl _ _ | exact Fr.drewN _ _ _ | apply Fr.drew | apply Fr.alloc | apply Fr.setAt | apply Fr.moreN) : Fr no w _) h1)
        clear h1
        go_wp2
        go_end0
        exact ⟨rfl, H1.out⟩
      | false =>
        rw [hb] at HL
        rw [if_neg (by decide)] at HL ⊢
        clear hb
        show Calls Tryz.prog 28 #[.pointer (some ⟨p, 0, none⟩), .agg #[.int .u8 2, .bool false, .int .i64 x.i, .string ⟨x.t.toArray⟩, .slice BA x.bs.length bc, .slice LA x.l.length lc, .slice FA x.f.length fc]] w _
        go_enter Tryz.func28, Tryz.ntmps28
        go_wp2_with fail
        refine (u8_any p _ sv s 2 (by omega) (by omega) (HW.out.kept0 (by (repeat first | exact Fr.refl _ _ | exact Fr.drewN _ _ _ | apply Fr.drew | apply Fr.alloc | apply Fr.setAt | apply Fr.moreN))).wr (by have := HL.out; omega)).mono ?_
        rintro e w1 ⟨rfl, h1⟩
        have H1 := Lib.hid (Wrote.first (by (repeat first | exact Fr.refl _ _ | exact Fr.drewN _ _ _ | apply Fr.drew | apply Fr.alloc | apply Fr.setAt | apply Fr.moreN) : Fr no w _) h1)
        clear h1
        go_wp2
        go_end0
        exact ⟨rfl, H1.out⟩
    · rw [h] at hl ⊢
      rw [if_neg (by decide), if_neg (by decide), if_pos rfl] at hl ⊢
      have HL := Lib.hid hl
      clear hl h
      show Calls Tryz.prog 28 #[.pointer (some ⟨p, 0, none⟩), .agg #[.int .u8 3, .bool x.b, .int .i64 x.i, .string ⟨x.t.toArray⟩, .slice BA x.bs.length bc, .slice LA x.l.length lc, .slice FA x.f.length fc]] w _
      go_enter Tryz.func28, Tryz.ntmps28
      go_wp2_with fail
      have hal : Fr no w ((w.alloc (.cells #[.pointer (some ⟨p, 0, none⟩)] 78)).alloc (.cells #[.int .u8 3, .bool x.b, .int .i64 x.i, .string ⟨x.t.toArray⟩, .slice BA x.bs.length bc, .slice LA x.l.length lc, .slice FA x.f.length fc] 27)) := by (repeat first | exact Fr.refl _ _ | exact Fr.drewN _ _ _ | apply Fr.drew | apply Fr.alloc | apply Fr.setAt | apply Fr.moreN)
      obtain ⟨hr0, hr1⟩ := two_allocs w (.cells #[.pointer (some ⟨p, 0, none⟩)] 78) (.cells #[.int .u8 3, .bool x.b, .int .i64 x.i, .string ⟨x.t.toArray⟩, .slice BA x.bs.length bc, .slice LA x.l.length lc, .slice FA x.f.length fc] 27)
      generalize (w.alloc (.cells #[.pointer (some ⟨p, 0, none⟩)] 78)).alloc (.cells #[.int .u8 3, .bool x.b, .int .i64 x.i, .string ⟨x.t.toArray⟩, .slice BA x.bs.length bc, .slice LA x.l.length lc, .slice FA x.f.length fc] 27) = W at hal hr0 hr1 ⊢
      refine (u8_any p W sv s 4 (by omega) (by omega) (HW.out.kept0 hal).wr (by have := HL.out; omega)).mono ?_
      rintro e w1 ⟨rfl, A, n, c, k1, k2, k3⟩
      have hwl : Wl w0 W w1 p sv s [4] A n c := ⟨(HW.out.kept0 hal).next k1 k2 k3, k2, k3⟩
      have ho0 : ¬ Own p sv w.heap.size := fun h => by have := HLT.out _ h; omega
      have ho1 : ¬ Own p sv (w.heap.size + 1) := fun h => by have := HLT.out _ h; omega
      have hr0' := k2.heap hr0 ho0
      have hr1' := k2.heap hr1 ho1
      have hoff := hwl.off (Array.getElem?_eq_some_iff.1 hr0).1 ho0
      obtain ⟨b0, bz, bl⟩ := one_cells hr0'
      obtain ⟨q0, q1, q2, q3, q4, q5, q6, qz, ql⟩ := seven_cells hr1'
      have hlen : (s ++ [4]).length + (vi (zz x.i)).length ≤ 1000000000 := by
        have h1 := HL.out
        simp only [List.length_append, List.length_cons, List.length_nil] at h1 ⊢
        omega
      have HWL := Lib.hid hwl; have HAL := Lib.hid hal; have HLEN := Lib.hid hlen; have HOFF := Lib.hid hoff
      clear hwl hal hr0 hr1 hr0' hr1' k1 k2 k3 ho0 ho1 hlen hoff
      go_wp2_with fail
      refine (signed_any p w1 (.slice A n c) _ x.i HI.out.lo HI.out.hi HWL.out.wy.wr (by have := HLEN.out; omega)).mono ?_
      rintro e w2 ⟨rfl, h2⟩
      obtain ⟨A3, n3, c3, h3⟩ := HWL.out.more h2
      have H3 := Lib.hid (Wrote.first HAL.out h3.wrote)
      clear h2 h3
      go_wp2
      go_end0
      exact ⟨rfl, H3.out⟩
    · rw [h] at hl ⊢
      rw [if_neg (by decide), if_neg (by decide), if_neg (by decide), if_pos rfl] at hl ⊢
      have HL := Lib.hid hl
      clear hl h
      show Calls Tryz.prog 28 #[.pointer (some ⟨p, 0, none⟩), .agg #[.int .u8 4, .bool x.b, .int .i64 x.i, .string ⟨x.t.toArray⟩, .slice BA x.bs.length bc, .slice LA x.l.length lc, .slice FA x.f.length fc]] w _
      go_enter Tryz.func28, Tryz.ntmps28
      go_wp2_with fail
      have hal : Fr no w ((w.alloc (.cells #[.pointer (some ⟨p, 0, none⟩)] 78)).alloc (.cells #[.int .u8 4, .bool x.b, .int .i64 x.i, .string ⟨x.t.toArray⟩, .slice BA x.bs.length bc, .slice LA x.l.length lc, .slice FA x.f.length fc] 27)) := by (repeat first | exact Fr.refl _ _ | exact Fr.drewN _ _ _ | apply Fr.drew | apply Fr.alloc | apply Fr.setAt | apply Fr.moreN)
      obtain ⟨hr0, hr1⟩ := two_allocs w (.cells #[.pointer (some ⟨p, 0, none⟩)] 78) (.cells #[.int .u8 4, .bool x.b, .int .i64 x.i, .string ⟨x.t.toArray⟩, .slice BA x.bs.length bc, .slice LA x.l.length lc, .slice FA x.f.length fc] 27)
      generalize (w.alloc (.cells #[.pointer (some ⟨p, 0, none⟩)] 78)).alloc (.cells #[.int .u8 4, .bool x.b, .int .i64 x.i, .string ⟨x.t.toArray⟩, .slice BA x.bs.length bc, .slice LA x.l.length lc, .slice FA x.f.length fc] 27) = W at hal hr0 hr1 ⊢
      refine (u8_any p W sv s 5 (by omega) (by omega) (HW.out.kept0 hal).wr (by have := HL.out; omega)).mono ?_
      rintro e w1 ⟨rfl, A, n, c, k1, k2, k3⟩
      have hwl : Wl w0 W w1 p sv s [5] A n c := ⟨(HW.out.kept0 hal).next k1 k2 k3, k2, k3⟩
      have ho0 : ¬ Own p sv w.heap.size := fun h => by have := HLT.out _ h; omega
      have ho1 : ¬ Own p sv (w.heap.size + 1) := fun h => by have := HLT.out _ h; omega
      have hr0' := k2.heap hr0 ho0
      have hr1' := k2.heap hr1 ho1
      have hoff := hwl.off (Array.getElem?_eq_some_iff.1 hr0).1 ho0
      obtain ⟨b0, bz, bl⟩ := one_cells hr0'
      obtain ⟨q0, q1, q2, q3, q4, q5, q6, qz, ql⟩ := seven_cells hr1'
      have hlen : (s ++ [5]).length + ((vi x.t.length).length + x.t.length) ≤ 1000000000 := by
        have h1 := HL.out
        simp only [List.length_append, List.length_cons, List.length_nil, vt] at h1 ⊢
        omega
      have HWL := Lib.hid hwl; have HAL := Lib.hid hal; have HLEN := Lib.hid hlen; have HOFF := Lib.hid hoff
      clear hwl hal hr0 hr1 hr0' hr1' k1 k2 k3 ho0 ho1 hlen hoff
      go_wp2_with fail
      refine (wtext_any p w1 (.slice A n c) _ ⟨x.t.toArray⟩ HWL.out.wy.wr (by have h1 := HLEN.out; show _ + x.t.length ≤ _; omega)).mono ?_
      rintro e w2 ⟨rfl, h2⟩
      obtain ⟨A3, n3, c3, h3⟩ := HWL.out.more h2
      have H3 := Lib.hid (Wrote.first HAL.out h3.wrote)
      clear h2 h3
      go_wp2
      go_end0
      exact ⟨rfl, H3.out⟩
    · rw [h] at hl ⊢
      rw [if_neg (by decide), if_neg (by decide), if_neg (by decide), if_neg (by decide), if_pos rfl] at hl ⊢
      have HL := Lib.hid hl
      clear hl h
      show Calls Tryz.prog 28 #[.pointer (some ⟨p, 0, none⟩), .agg #[.int .u8 5, .bool x.b, .int .i64 x.i, .string ⟨x.t.toArray⟩, .slice BA x.bs.length bc, .slice LA x.l.length lc, .slice FA x.f.length fc]] w _
      go_enter Tryz.func28, Tryz.ntmps28
      go_wp2_with fail
      have hal : Fr no w ((w.alloc (.cells #[.pointer (some ⟨p, 0, none⟩)] 78)).alloc (.cells #[.int .u8 5, .bool x.b, .int .i64 x.i, .string ⟨x.t.toArray⟩, .slice BA x.bs.length bc, .slice LA x.l.length lc, .slice FA x.f.length fc] 27)) := by (repeat first | exact Fr.refl _ _ | exact Fr.drewN _ _ _ | apply Fr.drew | apply Fr.alloc | apply Fr.setAt | apply Fr.moreN)
      obtain ⟨hr0, hr1⟩ := two_allocs w (.cells #[.pointer (some ⟨p, 0, none⟩)] 78) (.cells #[.int .u8 5, .bool x.b, .int .i64 x.i, .string ⟨x.t.toArray⟩, .slice BA x.bs.length bc, .slice LA x.l.length lc, .slice FA x.f.length fc] 27)
      generalize (w.alloc (.cells #[.pointer (some ⟨p, 0, none⟩)] 78)).alloc (.cells #[.int .u8 5, .bool x.b, .int .i64 x.i, .string ⟨x.t.toArray⟩, .slice BA x.bs.length bc, .slice LA x.l.length lc, .slice FA x.f.length fc] 27) = W at hal hr0 hr1 ⊢
      refine (u8_any p W sv s 6 (by omega) (by omega) (HW.out.kept0 hal).wr (by have := HL.out; omega)).mono ?_
      rintro e w1 ⟨rfl, A, n, c, k1, k2, k3⟩
      have hwl : Wl w0 W w1 p sv s [6] A n c := ⟨(HW.out.kept0 hal).next k1 k2 k3, k2, k3⟩
      have ho0 : ¬ Own p sv w.heap.size := fun h => by have := HLT.out _ h; omega
      have ho1 : ¬ Own p sv (w.heap.size + 1) := fun h => by have := HLT.out _ h; omega
      have hr0' := k2.heap hr0 ho0
      have hr1' := k2.heap hr1 ho1
      have hoff := hwl.off (Array.getElem?_eq_some_iff.1 hr0).1 ho0
      obtain ⟨b0, bz, bl⟩ := one_cells hr0'
      obtain ⟨q0, q1, q2, q3, q4, q5, q6, qz, ql⟩ := seven_cells hr1'
      have hlen : (s ++ [6]).length + ((vi x.bs.length).length + x.bs.length) ≤ 1000000000 := by
        have h1 := HL.out
        simp only [List.length_append, List.length_cons, List.length_nil, vt] at h1 ⊢
        omega
      have HWL := Lib.hid hwl; have HAL := Lib.hid hal; have HLEN := Lib.hid hlen; have HOFF := Lib.hid hoff
      clear hwl hal hr0 hr1 hr0' hr1' k1 k2 k3 ho0 ho1 hlen hoff
      have hstr := run_str (P := Tryz.prog) w1 (src := 23) (dst := 9) (e := 5) (by kernel_rfl) (by kernel_rfl) (by kernel_rfl) (HXB.out w1 HWL.out.wy.fr)
      go_wp2_with fail
      refine (wtext_any p w1 (.slice A n c) _ ⟨x.bs.toArray⟩ HWL.out.wy.wr (by have h1 := HLEN.out; show _ + x.bs.length ≤ _; omega)).mono ?_
      rintro e w2 ⟨rfl, h2⟩
      obtain ⟨A3, n3, c3, h3⟩ := HWL.out.more h2
      have H3 := Lib.hid (Wrote.first HAL.out h3.wrote)
      clear h2 h3
      go_wp2
      go_end0
      exact ⟨rfl, H3.out⟩
    · rw [h] at hl ⊢
      rw [if_neg (by decide), if_neg (by decide), if_neg (by decide), if_neg (by decide), if_neg (by decide), if_pos rfl] at hl ⊢
      have HL := Lib.hid hl
      clear hl h
      show Calls Tryz.prog 28 #[.pointer (some ⟨p, 0, none⟩), .agg #[.int .u8 6, .bool x.b, .int .i64 x.i, .string ⟨x.t.toArray⟩, .slice BA x.bs.length bc, .slice LA x.l.length lc, .slice FA x.f.length fc]] w _
      go_enter Tryz.func28, Tryz.ntmps28
      go_wp2_with fail
      have hal : Fr no w ((w.alloc (.cells #[.pointer (some ⟨p, 0, none⟩)] 78)).alloc (.cells #[.int .u8 6, .bool x.b, .int .i64 x.i, .string ⟨x.t.toArray⟩, .slice BA x.bs.length bc, .slice LA x.l.length lc, .slice FA x.f.length fc] 27)) := by (repeat first | exact Fr.refl _ _ | exact Fr.drewN _ _ _ | apply Fr.drew | apply Fr.alloc | apply Fr.setAt | apply Fr.moreN)
      obtain ⟨hr0, hr1⟩ := two_allocs w (.cells #[.pointer (some ⟨p, 0, none⟩)] 78) (.cells #[.int .u8 6, .bool x.b, .int .i64 x.i, .string ⟨x.t.toArray⟩, .slice BA x.bs.length bc, .slice LA x.l.length lc, .slice FA x.f.length fc] 27)
      generalize (w.alloc (.cells #[.pointer (some ⟨p, 0, none⟩)] 78)).alloc (.cells #[.int .u8 6, .bool x.b, .int .i64 x.i, .string ⟨x.t.toArray⟩, .slice BA x.bs.length bc, .slice LA x.l.length lc, .slice FA x.f.length fc] 27) = W at hal hr0 hr1 ⊢
      refine (u8_any p W sv s 7 (by omega) (by omega) (HW.out.kept0 hal).wr (by have := HL.out; omega)).mono ?_
      rintro e w1 ⟨rfl, A, n, c, k1, k2, k3⟩
      have hwl : Wl w0 W w1 p sv s [7] A n c := ⟨(HW.out.kept0 hal).next k1 k2 k3, k2, k3⟩
      have ho0 : ¬ Own p sv w.heap.size := fun h => by have := HLT.out _ h; omega
      have ho1 : ¬ Own p sv (w.heap.size + 1) := fun h => by have := HLT.out _ h; omega
      have hr0' := k2.heap hr0 ho0
      have hr1' := k2.heap hr1 ho1
      have hoff := hwl.off (Array.getElem?_eq_some_iff.1 hr0).1 ho0
      obtain ⟨b0, bz, bl⟩ := one_cells hr0'
      obtain ⟨q0, q1, q2, q3, q4, q5, q6, qz, ql⟩ := seven_cells hr1'
      have hlen : (s ++ [7]).length + ((vi x.l.length).length + (x.l.flatMap denc).length) ≤ 1000000000 := by
        have h1 := HL.out
        simp only [List.length_append, List.length_cons, List.length_nil] at h1 ⊢
        omega
      have HWL := Lib.hid hwl; have HAL := Lib.hid hal; have HLEN := Lib.hid hlen; have HOFF := Lib.hid hoff
      clear hwl hal hr0 hr1 hr0' hr1' k1 k2 k3 ho0 ho1 hlen hoff
      go_wp2_with fail
      refine (manyv_any w0 x.l HCL.out w1 p w.heap.size _ (.slice A n c) _ HXL.out HWL.out.wy (by have := HLEN.out; omega) b0 HOFF.out).mono ?_
      rintro e w2 ⟨rfl, h2⟩
      obtain ⟨A3, n3, c3, h3⟩ := HWL.out.more h2
      have H3 := Lib.hid (Wrote.first HAL.out h3.wrote)
      clear h2 h3
      go_wp2
      go_end0
      exact ⟨rfl, H3.out⟩
    · rw [h] at hl ⊢
      rw [if_neg (by decide), if_neg (by decide), if_neg (by decide), if_neg (by decide), if_neg (by decide), if_neg (by decide), if_pos rfl] at hl ⊢
      have HL := Lib.hid hl
      clear hl h
      show Calls Tryz.prog 28 #[.pointer (some ⟨p, 0, none⟩), .agg #[.int .u8 7, .bool x.b, .int .i64 x.i, .string ⟨x.t.toArray⟩, .slice BA x.bs.length bc, .slice LA x.l.length lc, .slice FA x.f.length fc]] w _
      go_enter Tryz.func28, Tryz.ntmps28
      go_wp2_with fail
      have hal : Fr no w ((w.alloc (.cells #[.pointer (some ⟨p, 0, none⟩)] 78)).alloc (.cells #[.int .u8 7, .bool x.b, .int .i64 x.i, .string ⟨x.t.toArray⟩, .slice BA x.bs.length bc, .slice LA x.l.length lc, .slice FA x.f.length fc] 27)) := by (repeat first | exact Fr.refl _ _ | exact Fr.drewN _ _ _ | apply Fr.drew | apply Fr.alloc | apply Fr.setAt | apply Fr.moreN)
      obtain ⟨hr0, hr1⟩ := two_allocs w (.cells #[.pointer (some ⟨p, 0, none⟩)] 78) (.cells #[.int .u8 7, .bool x.b, .int .i64 x.i, .string ⟨x.t.toArray⟩, .slice BA x.bs.length bc, .slice LA x.l.length lc, .slice FA x.f.length fc] 27)
      generalize (w.alloc (.cells #[.pointer (some ⟨p, 0, none⟩)] 78)).alloc (.cells #[.int .u8 7, .bool x.b, .int .i64 x.i, .string ⟨x.t.toArray⟩, .slice BA x.bs.length bc, .slice LA x.l.length lc, .slice FA x.f.length fc] 27) = W at hal hr0 hr1 ⊢
      refine (u8_any p W sv s 8 (by omega) (by omega) (HW.out.kept0 hal).wr (by have := HL.out; omega)).mono ?_
      rintro e w1 ⟨rfl, A, n, c, k1, k2, k3⟩
      have hwl : Wl w0 W w1 p sv s [8] A n c := ⟨(HW.out.kept0 hal).next k1 k2 k3, k2, k3⟩
      have ho0 : ¬ Own p sv w.heap.size := fun h => by have := HLT.out _ h; omega
      have ho1 : ¬ Own p sv (w.heap.size + 1) := fun h => by have := HLT.out _ h; omega
      have hr0' := k2.heap hr0 ho0
      have hr1' := k2.heap hr1 ho1
      have hoff := hwl.off (Array.getElem?_eq_some_iff.1 hr0).1 ho0
      obtain ⟨b0, bz, bl⟩ := one_cells hr0'
      obtain ⟨q0, q1, q2, q3, q4, q5, q6, qz, ql⟩ := seven_cells hr1'
      have hlen : (s ++ [8]).length + ((vi x.f.length).length + (x.f.flatMap fenc).length) ≤ 1000000000 := by
        have h1 := HL.out
        simp only [List.length_append, List.length_cons, List.length_nil] at h1 ⊢
        omega
      have HWL := Lib.hid hwl; have HAL := Lib.hid hal; have HLEN := Lib.hid hlen; have HOFF := Lib.hid hoff
      clear hwl hal hr0 hr1 hr0' hr1' k1 k2 k3 ho0 ho1 hlen hoff
      go_wp2_with fail
      refine (manyf_any w0 x.f HCF.out w1 p w.heap.size _ (.slice A n c) _ HXF.out HWL.out.wy (by have := HLEN.out; omega) b0 HOFF.out).mono ?_
      rintro e w2 ⟨rfl, h2⟩
      obtain ⟨A3, n3, c3, h3⟩ := HWL.out.more h2
      have H3 := Lib.hid (Wrote.first HAL.out h3.wrote)
      clear h2 h3
      go_wp2
      go_end0
      exact ⟨rfl, H3.out⟩
end Go.Proofs.YtijcleiekafoiaaGreatDoor

/- doc.Encode, doc.Size. -/
namespace Go.Proofs.YtijcleiekafoiaaGreatDoor
open Go.RowKit Go.Shelf
open Tr

namespace Tr
theorem fit_of {w : World} (x : Tr Mm) : Tr.Good w x → (∀ p ∈ pre 1 x, own p.2 = 0) → FitAll x := by
  induction x using Tr.ind with
  | h x ih =>
    intro hx h
    have nd := hx.node
    have rb : reachBytes = 140737488351232 := rfl
    have ht := nd.t; have hb := nd.bs; have hl := nd.l; have hf := nd.f
    rw [rb] at ht hb hl hf
    refine ⟨x, ⟨own_shape (h _ (mem_pre_self 1 x)), nd.i, by omega, by omega, by omega, by omega, fun p hp => by have := nd.n p hp; rw [rb] at this; omega⟩, fun y hy => ?_⟩
    refine ih y hy ?_ (pre_kid (P := fun y => own y = 0) hy h)
    exact hx.kids y hy
/-- What Encode says of a value. -/
def docErr {α : Type} (x : Tr α) : Nat := if check x ≠ 0 then check x else if 8192 < (denc x).length then 51 else 0
/-- The bytes it hands out. -/
def docBytes {α : Type} (x : Tr α) : List UInt8 := if docErr x = 0 then denc x else []
/-- How many. -/
def docSize {α : Type} (x : Tr α) : Nat := if check x = 0 then (denc x).length else 0
theorem docErr_le {α : Type} (x : Tr α) : docErr x < 100 := by
  unfold docErr
  have := check_le x
  (repeat' split) <;> omega
end Tr

set_option maxRecDepth 100000 in
set_option maxHeartbeats 2000000 in
theorem docenc_any (w : World) (x : Tr Mm) (hx : Tr.Good w x) (hT : Tabs w) (hl : (denc x).length ≤ 900000000) :
    Calls Tryz.prog 7 #[x.agg] w fun e w' => Fr no w w' ∧ ∃ A n, e = .returned (.tuple #[.slice A n n, .int .u16 (docErr x)]) ∧ n = (docBytes x).length ∧ Ow w' 5 1 (.slice A n n) n (bvs (docBytes x)) ∧ ∀ k, Value.ownBlock (.slice A n n) = some k → w.heap.size ≤ k := by
  obtain ⟨BA, bc, LA, lc, FA, fc, hf⟩ := hx.node.forms
  have hlt := check_le x
  have hag := hf.agg
  have hchk := check_any
  have hcall := fun W (f : Fr no w W) => check_any W x (hx.kept0 f) (hT.kept0 f)
  have hwr := fun W (f : Fr no w W) => write_any W x (hx.kept0 f)
  unfold WriteC at hwr
  rw [hag] at hcall hwr ⊢
  have HX := Lib.hid hx; have HC := Lib.hid hcall; have HW := Lib.hid hwr; have HLL := Lib.hid hl
  clear hchk hf hag hT hcall hwr hl
  go_enter Tryz.func7, Tryz.ntmps7
  go_wp2_with fail
  have hal : Fr no w (w.alloc (.cells #[.int .u8 x.k.toNat, .bool x.b, .int .i64 x.i, .string ⟨x.t.toArray⟩, .slice BA x.bs.length bc, .slice LA x.l.length lc, .slice FA x.f.length fc] 27)) := (Fr.refl no w).alloc _
  have hr0 := heap_alloc_new w (.cells #[.int .u8 x.k.toNat, .bool x.b, .int .i64 x.i, .string ⟨x.t.toArray⟩, .slice BA x.bs.length bc, .slice LA x.l.length lc, .slice FA x.f.length fc] 27)
  generalize w.alloc (.cells #[.int .u8 x.k.toNat, .bool x.b, .int .i64 x.i, .string ⟨x.t.toArray⟩, .slice BA x.bs.length bc, .slice LA x.l.length lc, .slice FA x.f.length fc] 27) = w0 at hal hr0 ⊢
  refine (HC.out w0 hal).mono ?_
  rintro e w1 ⟨rfl, f1⟩
  have F1 := Lib.hid (hal.trans f1 (fun _ _ h => h))
  have hr1 := f1.heap hr0 (fun h => h)
  clear hal hr0 f1
  by_cases hc : check x = 0
  · have hfit := fit_of x HX.out (check_zero.1 hc).2.2
    have he : docErr x = if 8192 < (denc x).length then 51 else 0 := by unfold docErr; rw [if_neg (by rw [hc]; simp)]
    rw [hc]
    obtain ⟨q0, q1, q2, q3, q4, q5, q6, qz, ql⟩ := seven_cells hr1
    have HFIT := Lib.hid hfit; have HE := Lib.hid he; have HR1 := Lib.hid hr1
    clear hc hfit he hr1 hlt
    go_wp2_with fail
    refine (new_any w1).mono ?_
    rintro e w2 ⟨p, rfl, hp1, hp2, hwr, f2⟩
    have hr2 := f2.heap HR1.out (fun h => h)
    obtain ⟨q0, q1, q2, q3, q4, q5, q6, qz, ql⟩ := seven_cells hr2
    have hwy : Wy w1 w2 p (.slice none 0 0) [] := ⟨hwr, f2, hp1, fun k hk => by simp [Value.ownBlock] at hk⟩
    have hcw := HW.out w1 F1.out HFIT.out w2 p (.slice none 0 0) [] hwy (by have := HLL.out; simp only [List.length_nil]; omega)
    have HWY := Lib.hid hwy; have HCW := Lib.hid hcw; have F2 := Lib.hid (F1.out.trans f2 (fun _ _ h => h))
    clear hr2 hwy hcw f2 hwr
    go_wp2_with fail
    refine HCW.out.mono ?_
    rintro e w3 ⟨rfl, A, n, c, k1, k2, k3⟩
    rw [List.nil_append] at k1
    have k4 := HWY.out.next (l := []) (bs := denc x) (by simpa using k1) k2 k3
    rw [List.nil_append] at k4
    have HW3 := Lib.hid k4; have F3 := Lib.hid (F1.out.trans k4.fr (fun _ _ h => h))
    clear k1 k2 k3 k4 HWY HCW
    go_wp2_with fail
    refine (len_any p w3 _ _ HW3.out.wr).mono ?_
    rintro e w4 ⟨rfl, rfl⟩
    by_cases hn : 8192 < (denc x).length
    · have he : docErr x = 51 := by rw [HE.out, if_pos hn]
      have hb : docBytes x = [] := by unfold docBytes; rw [he]; rfl
      have HEE := Lib.hid he; have HBB := Lib.hid hb
      clear he hb
      go_wp2
      go_ret2
      rw [HEE.out, HBB.out]
      exact ⟨F3.out, none, 0, rfl, rfl, ow_none _ _ _, fun k hk => by simp [Value.ownBlock] at hk⟩
    · have he : docErr x = 0 := by rw [HE.out, if_neg hn]
      have hb : docBytes x = denc x := by unfold docBytes; rw [he]; rfl
      have HEE := Lib.hid he; have HBB := Lib.hid hb
      clear he hb
      go_wp2_with fail
      refine (bytes_any p w4 _ _ HW3.out.wr (by have := HLL.out; omega)).mono ?_
      rintro e w5 ⟨A5, rfl, ho5, hk5, f5⟩
      have F5 := Lib.hid (F3.out.trans f5 (fun _ _ h => h)); have HO5 := Lib.hid ho5; have HK5 := Lib.hid hk5
      clear f5 ho5 hk5
      go_wp2
      go_ret2
      rw [HEE.out, HBB.out]
      exact ⟨F5.out, A5, _, rfl, rfl, HO5.out, fun k hk => by have h1 := HK5.out k hk; have h2 := F3.out.size; omega⟩
  · have he : docErr x = check x := by unfold docErr; rw [if_pos hc]
    have hb : docBytes x = [] := by unfold docBytes; rw [he, if_neg hc]
    have hcn : ((check x : Nat) : Int) ≠ 0 := by omega
    obtain ⟨k, hk⟩ : ∃ k, k = check x := ⟨_, rfl⟩
    rw [← hk] at hcn he hlt ⊢
    have HEE := Lib.hid he; have HBB := Lib.hid hb
    clear he hb hc hk hr1
    have hb1 : ((k : Int) != 0) = true := by rw [bne_iff_ne]; exact hcn
    go_wp2
    go_ret2
    rw [HEE.out, HBB.out]
    exact ⟨F1.out, none, 0, rfl, rfl, ow_none _ _ _, fun k hk => by simp [Value.ownBlock] at hk⟩

set_option maxRecDepth 100000 in
set_option maxHeartbeats 2000000 in
theorem docsize_any (w : World) (x : Tr Mm) (hx : Tr.Good w x) (hT : Tabs w) (hl : (denc x).length ≤ 900000000) :
    Calls Tryz.prog 8 #[x.agg] w fun e w' => Fr no w w' ∧ e = .returned (.int .i64 (docSize x : Nat)) := by
  obtain ⟨BA, bc, LA, lc, FA, fc, hf⟩ := hx.node.forms
  have hlt := check_le x
  have hag := hf.agg
  have hcall := fun W (f : Fr no w W) => check_any W x (hx.kept0 f) (hT.kept0 f)
  have hwr := fun W (f : Fr no w W) => write_any W x (hx.kept0 f)
  unfold WriteC at hwr
  rw [hag] at hcall hwr ⊢
  have HX := Lib.hid hx; have HC := Lib.hid hcall; have HW := Lib.hid hwr; have HLL := Lib.hid hl
  clear hf hag hT hcall hwr hl
  go_enter Tryz.func8, Tryz.ntmps8
  go_wp2_with fail
  have hal : Fr no w (w.alloc (.cells #[.int .u8 x.k.toNat, .bool x.b, .int .i64 x.i, .string ⟨x.t.toArray⟩, .slice BA x.bs.length bc, .slice LA x.l.length lc, .slice FA x.f.length fc] 27)) := (Fr.refl no w).alloc _
  have hr0 := heap_alloc_new w (.cells #[.int .u8 x.k.toNat, .bool x.b, .int .i64 x.i, .string ⟨x.t.toArray⟩, .slice BA x.bs.length bc, .slice LA x.l.length lc, .slice FA x.f.length fc] 27)
  generalize w.alloc (.cells #[.int .u8 x.k.toNat, .bool x.b, .int .i64 x.i, .string ⟨x.t.toArray⟩, .slice BA x.bs.length bc, .slice LA x.l.length lc, .slice FA x.f.length fc] 27) = w0 at hal hr0 ⊢
  refine (HC.out w0 hal).mono ?_
  rintro e w1 ⟨rfl, f1⟩
  have F1 := Lib.hid (hal.trans f1 (fun _ _ h => h))
  have hr1 := f1.heap hr0 (fun h => h)
  clear hal hr0 f1
  by_cases hc : check x = 0
  · have hfit := fit_of x HX.out (check_zero.1 hc).2.2
    have he : docSize x = (denc x).length := by unfold docSize; rw [if_pos hc]
    rw [hc]
    obtain ⟨q0, q1, q2, q3, q4, q5, q6, qz, ql⟩ := seven_cells hr1
    have HFIT := Lib.hid hfit; have HE := Lib.hid he; have HR1 := Lib.hid hr1
    clear hc hfit he hr1 hlt
    go_wp2_with fail
    refine (new_any w1).mono ?_
    rintro e w2 ⟨p, rfl, hp1, hp2, hwr, f2⟩
    have hr2 := f2.heap HR1.out (fun h => h)
    obtain ⟨q0, q1, q2, q3, q4, q5, q6, qz, ql⟩ := seven_cells hr2
    have hwy : Wy w1 w2 p (.slice none 0 0) [] := ⟨hwr, f2, hp1, fun k hk => by simp [Value.ownBlock] at hk⟩
    have hcw := HW.out w1 F1.out HFIT.out w2 p (.slice none 0 0) [] hwy (by have := HLL.out; simp only [List.length_nil]; omega)
    have HWY := Lib.hid hwy; have HCW := Lib.hid hcw
    clear hr2 hwy hcw f2 hwr
    go_wp2_with fail
    refine HCW.out.mono ?_
    rintro e w3 ⟨rfl, A, n, c, k1, k2, k3⟩
    rw [List.nil_append] at k1
    have k4 := HWY.out.next (l := []) (bs := denc x) (by simpa using k1) k2 k3
    rw [List.nil_append] at k4
    have HW3 := Lib.hid k4; have F3 := Lib.hid (F1.out.trans k4.fr (fun _ _ h => h))
    clear k1 k2 k3 k4 HWY HCW
    go_wp2_with fail
    refine (len_any p w3 _ _ HW3.out.wr).mono ?_
    rintro e w4 ⟨rfl, rfl⟩
    go_wp2
    go_ret
    rw [HE.out]
    exact ⟨F3.out, rfl⟩
  · have he : docSize x = 0 := by unfold docSize; rw [if_neg hc]
    have hcn : ((check x : Nat) : Int) ≠ 0 := by omega
    obtain ⟨k, hk⟩ : ∃ k, k = check x := ⟨_, rfl⟩
    rw [← hk] at hcn hlt ⊢
    have HEE := Lib.hid he
    clear he hc hk hr1
    have hb1 : ((k : Int) != 0) = true := by rw [bne_iff_ne]; exact hcn
    go_wp2
    go_ret
    rw [HEE.out]
    exact ⟨F1.out, rfl⟩
end Go.Proofs.YtijcleiekafoiaaGreatDoor

/- A region that draws its order, walked in ours, where two operations may come in either order: both ways are walked. Conditions: a closed check of the region's edges. -/
namespace Go

/-- An order with forks: behind the operations of l the ways s and t part, each begins with its own operation. -/
inductive BT where
  | lin (l : List Nat)
  | fork (l : List Nat) (s t : BT)

/-- Q, but at the normal end E. -/
def atEnd (Q : Exit → Act → World → Prop) (E : Act → World → Prop) : Exit → Act → World → Prop
  | .normal, a, w => E a w
  | x, a, w => Q x a w

section
variable {P : Program} {ops : Array Oper} {Q : Exit → Act → World → Prop} {I : World → Prop} {kds : Nat → Kd} {md : Region.Mode}

def wpB (P : Program) (ops : Array Oper) (Q : Exit → Act → World → Prop) (I : World → Prop) (kds : Nat → Kd) : BT → Act → World → Prop
  | .lin l, a, w => wpX P ops Q I kds l a w
  | .fork l s t, a, w => wpX P ops (atEnd Q fun a w => wpB P ops Q I kds s a w ∧ wpB P ops Q I kds t a w) I kds l a w

theorem Oper.wp_exit {o : Oper} {a : Act} {w : World} {K : Act → World → Prop} {E : Act → World → Prop} (h : o.wp P a w K (NoPanic (atEnd Q E))) : o.wp P a w K (NoPanic Q) := by
  unfold Oper.wp at *
  generalize (execOp a.eval o).run P w = r at *
  unfold Oper.upon at *
  split at h
  · exact h
  · exact h
  · exact h
  · refine Calls.mono h ?_
    rintro e w' hh
    cases e with
    | returned v => exact hh
    | panicked c => exact (hh : False).elim
    | outgrown => exact hh
  · exact h
  · exact h
  · exact h

theorem kdOp_exit {kd : Kd} {o : Oper} {a : Act} {w : World} {K : Act → World → Prop} {E : Act → World → Prop} (hh : kdOp P (atEnd Q E) I kd o a w K) : kdOp P Q I kd o a w K := by
  cases kd with
  | p => exact hh
  | l => exact hh
  | m => exact hh
  | g => exact Oper.wp_exit hh
  | e => exact Oper.wp_exit hh

theorem xOp_exit {i : Nat} {a : Act} {w : World} {K : Act → World → Prop} {E : Act → World → Prop} (hh : xOp P ops (atEnd Q E) I kds i K a w) : xOp P ops Q I kds i K a w := by
  unfold xOp at *
  split
  · rename_i ho; simp only [ho] at hh; exact hh
  · rename_i o ho
    simp only [ho] at hh
    split
    · rename_i hw; simp only [hw, if_true] at hh; exact kdOp_exit hh
    · rename_i hw; simp only [hw] at hh; exact hh

def Region.stepB (wt : Nat → Nat → Bool) (md : Region.Mode) (ops : Array Oper) (kds : Nat → Kd) (i : Nat) (listed : Array Bool) : Bool :=
  match kds i with
  | .p | .l | .m => (Region.ready md ops listed).contains i && Region.freeX wt ops kds listed i
  | .g | .e => Region.ready md ops listed == [i]

/-- The check of the operations ahead of a fork: what is listed then. -/
def Region.ordPre (wt : Nat → Nat → Bool) (md : Region.Mode) (ops : Array Oper) (kds : Nat → Kd) : List Nat → Array Bool → Option (Array Bool)
  | [], listed => some listed
  | i :: rest, listed =>
    if Region.stepB wt md ops kds i listed = true then Region.ordPre wt md ops kds rest (listed.setIfInBounds i true) else none

def BT.head : BT → List Nat
  | .lin l => l
  | .fork l _ _ => l
def BT.tail : BT → BT
  | .lin l => .lin l.tail
  | .fork l s t => .fork l.tail s t

/-- The closed check of an order with forks (n: how many operations are left). -/
def Region.chkB (wt : Nat → Nat → Bool) (md : Region.Mode) (ops : Array Oper) (kds : Nat → Kd) : Nat → BT → Nat → Array Bool → Bool
  | _, .lin l, n, listed => l.length == n && Region.ordFrom wt md ops kds l listed
  | 0, .fork _ _ _, _, _ => false
  | fuel + 1, .fork l s t, n, listed =>
    match Region.ordPre wt md ops kds l listed with
    | none => false
    | some li =>
      match s.head, t.head with
      | i :: _, j :: _ => decide (l.length + 1 ≤ n) && !(Region.ready md ops li).isEmpty && (Region.ready md ops li).all (fun k => k == i || k == j) &&
          ((Region.ready md ops li).contains i && Region.chkB wt md ops kds fuel s.tail (n - l.length - 1) (li.setIfInBounds i true)) &&
          ((Region.ready md ops li).contains j && Region.chkB wt md ops kds fuel t.tail (n - l.length - 1) (li.setIfInBounds j true))
      | _, _ => false

theorem wpX_nil {a : Act} {w : World} : wpX P ops Q I kds [] a w ↔ Q .normal a w := by with_unfolding_all exact Iff.rfl
theorem wpX_cons {i : Nat} {r : List Nat} {a : Act} {w : World} : wpX P ops Q I kds (i :: r) a w ↔ xOp P ops Q I kds i (wpX P ops Q I kds r) a w := by with_unfolding_all exact Iff.rfl

theorem wpAnyX_pre {wt : Nat → Nat → Bool} {E : Act → World → Prop} (hwt : ∀ j i, wt j i = true → Region.Anc md ops j i) (hs : Region.noSelect ops = true) (m : Nat) (li : Array Bool) :
    ∀ (ord : List Nat) (listed : Array Bool) (a : Act) (w : World), I w → Region.Closed md ops listed →
    Region.ordPre wt md ops kds ord listed = some li → (Region.Closed md ops li → ∀ a w, I w → E a w → wpAnyX P md ops Q I kds m li a w) → wpX P ops (atEnd Q E) I kds ord a w → wpAnyX P md ops Q I kds (m + ord.length) listed a w
  | [], listed, a, w, hI, hc, hB, hE, h => by
    obtain rfl : listed = li := by simpa [Region.ordPre] using hB
    exact hE hc a w hI (wpX_nil.1 h)
  | i :: rest, listed, a, w, hI, hc, hB, hE, h => by
    unfold Region.ordPre at hB
    split at hB
    case isFalse => cases hB
    rename_i hB1
    have h : xOp P ops Q I kds i (wpX P ops (atEnd Q E) I kds rest) a w := xOp_exit (wpX_cons.1 h)
    have main : ∀ kd : Kd, kds i = kd → (kd = .p ∨ kd = .l ∨ kd = .m) → (Region.ready md ops listed).contains i = true → Region.freeX wt ops kds listed i = true → wpAnyX P md ops Q I kds (m + rest.length + 1) listed a w := by
      intro kd hk hm hr hf
      have hr' : i ∈ Region.ready md ops listed := by simpa using hr
      obtain ⟨_, oi, hoi, _⟩ := mem_ready.1 hr'
      obtain ⟨v, hy, hK⟩ := yieldsX_of_xOp hoi hk hm h
      exact wpAnyX_first hwt hoi (Region.noSelect_spec hs) hk (m + rest.length) listed a w hI hc (Region.freeX_spec hoi hk hf) hr' hy
        (wpAnyX_pre hwt hs m li rest _ _ _ hI (hc.set hr') hB hE hK)
    have lone : Region.ready md ops listed = [i] → wpAnyX P md ops Q I kds (m + rest.length + 1) listed a w := by
      intro hr
      have hr' : i ∈ Region.ready md ops listed := by rw [hr]; simp
      refine ⟨fun h0 => (by rw [hr] at h0; cases h0), fun j hj => ?_⟩
      rw [hr] at hj
      obtain rfl : j = i := by simpa using hj
      exact xOp_mono (fun a w hI hK => wpAnyX_pre hwt hs m li rest _ a w hI (hc.set hr') hB hE hK) hI h
    unfold Region.stepB at hB1
    cases hk : kds i <;> simp only [hk] at hB1
    case p => simp only [Bool.and_eq_true] at hB1; exact main _ hk (by simp) hB1.1 hB1.2
    case l => simp only [Bool.and_eq_true] at hB1; exact main _ hk (by simp) hB1.1 hB1.2
    case m => simp only [Bool.and_eq_true] at hB1; exact main _ hk (by simp) hB1.1 hB1.2
    case g => exact lone (by simpa using hB1)
    case e => exact lone (by simpa using hB1)

theorem wpB_first {i : Nat} {r : List Nat} {s : BT} (hs : s.head = i :: r) {a : Act} {w : World} (h : wpB P ops Q I kds s a w) : xOp P ops Q I kds i (wpB P ops Q I kds s.tail) a w := by
  cases s with
  | lin l =>
    simp only [BT.head] at hs
    subst hs
    exact wpX_cons.1 h
  | fork l s t =>
    simp only [BT.head] at hs
    subst hs
    exact xOp_exit (wpX_cons.1 h)

theorem wpAnyX_B {wt : Nat → Nat → Bool} (hwt : ∀ j i, wt j i = true → Region.Anc md ops j i) (hs : Region.noSelect ops = true) :
    ∀ (fuel : Nat) (b : BT) (n : Nat) (listed : Array Bool) (a : Act) (w : World), I w → Region.Closed md ops listed → Region.chkB wt md ops kds fuel b n listed = true → wpB P ops Q I kds b a w → wpAnyX P md ops Q I kds n listed a w
  | fuel, .lin l, n, listed, a, w, hI, hc, hB, h => by
    unfold Region.chkB at hB
    simp only [Bool.and_eq_true, beq_iff_eq] at hB
    rw [← hB.1]
    exact wpAnyX_ord hwt hs l listed a w hI hc hB.2 h
  | 0, .fork l s t, n, listed, a, w, hI, hc, hB, h => by simp [Region.chkB] at hB
  | fuel + 1, .fork l s t, n, listed, a, w, hI, hc, hB, h => by
    unfold Region.chkB at hB
    split at hB
    · cases hB
    rename_i li hp
    split at hB
    case h_2 => cases hB
    rename_i i ri j rj hsi htj
    simp only [Bool.and_eq_true, decide_eq_true_eq, List.all_eq_true, Bool.or_eq_true, beq_iff_eq, Bool.not_eq_true', List.isEmpty_eq_false_iff] at hB
    obtain ⟨⟨⟨⟨hn, hne⟩, hall⟩, hi, hB1⟩, hj, hB2⟩ := hB
    have hi' : i ∈ Region.ready md ops li := by simpa using hi
    have hj' : j ∈ Region.ready md ops li := by simpa using hj
    have e : n = (n - l.length - 1 + 1) + l.length := by omega
    rw [e]
    refine wpAnyX_pre hwt hs (n - l.length - 1 + 1) li l listed a w hI hc hp ?_ h
    intro hcl a w hI hE
    refine ⟨fun h0 => (hne h0).elim, fun k hk => ?_⟩
    rcases hall k hk with rfl | rfl
    · exact xOp_mono (fun a w hI hK => wpAnyX_B hwt hs fuel s.tail _ _ a w hI (hcl.set hi') hB1 hK) hI (wpB_first hsi hE.1)
    · exact xOp_mono (fun a w hI hK => wpAnyX_B hwt hs fuel t.tail _ _ a w hI (hcl.set hj') hB2 hK) hI (wpB_first htj hE.2)

def Region.forkB (md : Region.Mode) (ops : Array Oper) (kds : Nat → Kd) (b : BT) : Bool :=
  Region.noSelect ops && Region.chkB (Region.wtOf (Region.masks md ops.toList [])) md ops kds 8 b ops.size (Array.replicate ops.size false)

/-- A region that draws its order is walked in ours, on each way of our forks. -/
theorem wp_region_fork {id : Nat} {a : Act} {w : World} (I : World → Prop) (b : BT) (kds : Nat → Kd) (hm : P.follows .mixedOrders = true) (hB : Region.forkB .any ops kds b = true)
    (hI : I w.drew) (h : wpB P ops Q I kds b a w.drew) : (Code.region id ops true).wp P Q a w := by
  simp only [Region.forkB, Bool.and_eq_true] at hB
  obtain ⟨h1, h3⟩ := hB
  refine wp_region_noPanic (wp_region_any hm (wpAny_of_X (I := I) (kds := kds) _ _ _ _ hI ?_))
  have hwt : ∀ j i, Region.wtOf (Region.masks .any ops.toList []) j i = true → Region.Anc .any ops j i :=
    Region.masks_spec ops.toList 0 [] (fun j => by simp) rfl (fun j i h => by simp at h)
  exact wpAnyX_B (P := P) (Q := Q) (kds := kds) hwt h1 8 b _ _ a w.drew hI (Region.closed_none _ _ _) h3 h

/-- An operation that answers the same in any world. -/
theorem wpX_pv {i : Nat} {rest : List Nat} {a : Act} {w : World} {o : Oper} (v : Value) (hi : ops[i]? = some o) (hg : Region.wanted o (yielded ops a.tmps) = true) (hk : kds i = .p)
    (hv : ∀ w', (execOp a.eval o).run P w' = .ok (.value v) w') (h : wpX P ops Q I kds rest (a.put o.dst v) w) : wpX P ops Q I kds (i :: rest) a w := by
  refine wpX_step hi hg fun K hK => ?_
  rw [hk]
  refine ⟨v, fun w' => ?_, hK _ _ h⟩
  unfold Oper.val
  rw [hv w']
  exact ⟨rfl, rfl⟩
theorem wpB_lin {l : List Nat} {a : Act} {w : World} (h : wpX P ops Q I kds l a w) : wpB P ops Q I kds (.lin l) a w := h
theorem wpB_fork {l : List Nat} {s t : BT} {a : Act} {w : World} (h : wpX P ops (atEnd Q fun a w => wpB P ops Q I kds s a w ∧ wpB P ops Q I kds t a w) I kds l a w) : wpB P ops Q I kds (.fork l s t) a w := h
theorem wpX_fork {E F : Act → World → Prop} {a : Act} {w : World} (h1 : E a w) (h2 : F a w) : wpX P ops (atEnd Q fun a w => E a w ∧ F a w) I kds [] a w := wpX_nil.2 ⟨h1, h2⟩
end
end Go
