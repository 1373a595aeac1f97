/- The arguments of a law opened: a byte slice. General. -/
import Derived.Test.YtomnhblecnbmaaaMem
import Derived.ProofKit
import Derived.OpenShut
import Derived.ChangeOld
import Derived.SizedLaws
namespace Go
open Go.ChangeShapes Go.WideShapes Go.ChangeAt Go.RowKit

theorem spot_of_ok {P : Program} {w : World} {r : Reach} {b t e : Nat} {a : Addr} {n c : Nat} (ht : P.underlying t = some (.slice e)) (h : Value.okWide P w r b t (.slice (some a) n c)) : a.spot = none ∧ n ≤ c ∧ c ≤ maxLen := by
  unfold Value.okWide at h
  rw [ht] at h
  simp only [Cell.okWide, ht, Cell.ok, World.has] at h
  obtain ⟨h1, h2, _, h3, _⟩ := h
  refine ⟨h3, h1, ?_⟩
  have : IntKind.i64.max = 9223372036854775807 := by decide
  simp only [maxLen]
  omega

theorem u8_of_wf {n : Int} (h : (Lit.int .u8 n).wf = true) : 0 ≤ n ∧ n < 256 := by
  simp only [Lit.wf, Bool.and_eq_true, IntKind.min, IntKind.max, IntKind.signed, IntKind.bits] at h
  simp at h
  omega

/-- Numbers that are bytes, as bytes. -/
theorem bytes_of (zs : List Int) (h : ∀ n ∈ zs, (Lit.int .u8 n).wf = true) : zs.map (Value.int .u8) = bvs (zs.map fun n => UInt8.ofNat n.toNat) := by
  simp only [bvs, List.map_map]
  refine List.map_congr_left fun n hn => ?_
  obtain ⟨h0, h1⟩ := u8_of_wf (h n hn)
  simp only [Function.comp, Bv, UInt8.toNat_ofNat']
  congr 1
  omega

theorem open_bytes {H : Type} {enc : TypeId × Value → H} {P : Program} {w : World} {r : Reach} {b t e : TypeId} {a : Option Addr} {n c : Nat} {d : DataW H} {ps : List MemPlace} {held : Bool}
    (ht : P.underlying t = some (.slice e)) (he : P.underlying e = some (.int .u8)) (hc : P.cellsOf e = 1) (hv : Value.okWide P w r b t (.slice a n c)) (hd : DataW.Trod enc P w 0 (fun _ => true) held t (.slice a n c) d ps) :
    ∃ l : List UInt8, l.length = n ∧ Sl w 1 (.slice a n c) n (bvs l) := by
  obtain ⟨fuel, hf⟩ := hd
  rcases open_ints ht he hc hf with ⟨hcs, _⟩ | ⟨x, l, cp, zs, hcs, _, hl, hm, hz, _, hcell, hwz⟩
  · simp [Value.cells] at hcs
    obtain ⟨rfl, rfl, rfl⟩ := hcs
    exact ⟨[], rfl, Sl.nil _ _⟩
  · simp [Value.cells] at hcs
    obtain ⟨rfl, rfl, rfl⟩ := hcs
    obtain ⟨hs, _, _⟩ := spot_of_ok ht hv
    obtain ⟨bk, off, spot⟩ := x
    simp only at hs
    subst hs
    simp only [if_true] at hz
    refine ⟨(zs.take n).map fun n => UInt8.ofNat n.toNat, by simp; omega, by simp [bvs_length]; omega, .inr ⟨bk, off, c, rfl, hl, hm, fun j u hu => ?_⟩⟩
    rw [← bytes_of (zs.take n) (fun n hn => hwz n (List.mem_of_mem_take hn))] at hu
    have hj : j < n := by
      have := (List.getElem?_eq_some_iff.1 hu).1
      simp at this; omega
    have h1 := hcell j (by omega)
    rw [Addr.add_lit] at h1
    rw [h1]
    rw [List.getElem?_map, List.getElem?_take, if_pos hj] at hu
    have e : zs[j]? = some (zs.getD j 0) := by simp [List.getD, show j < zs.length by omega]
    rw [e] at hu
    exact hu

theorem u64_of_wf {n : Int} (h : (Lit.int .u64 n).wf = true) : 0 ≤ n ∧ n < 18446744073709551616 := by
  simp only [Lit.wf, Bool.and_eq_true, IntKind.min, IntKind.max, IntKind.signed, IntKind.bits] at h
  simp at h
  omega
end Go
