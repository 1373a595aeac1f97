import Derived.Test.YtijcleiekafoiaaGreatDoorMb21
import Derived.ProofKit
import Derived.ChangeMaps5
import Derived.OpenShut
import Derived.Test.YtijcleiekafoiaaGreatDoorProg
import Derived.Test.YtijcleiekafoiaaGreatDoorMb04

/- What is read as data, with the depth of the reading: for values that hold values. General. -/
namespace Go
open Go.ChangeShapes Go.WideShapes Go.ChangeAt Go.RowKit

/-- Cells that read as a datum of type t, so deep at most. -/
def TdN (P : Program) (w : World) (fuel : Nat) (t : TypeId) (cs : List Value) : Prop :=
  ∃ (H : Type) (enc : TypeId × Value → H) (held : Bool) (x : DataW H × List MemPlace), DataW.trod enc P w 0 (fun _ => true) held fuel t cs = some x ∧ ∀ n ∈ x.1.weights P t, n ≤ reachBytes

theorem Td.at_depth {P : Program} {w : World} {t : TypeId} {cs : List Value} (h : Td P w t cs) : ∃ fuel, TdN P w fuel t cs := by
  obtain ⟨H, enc, held, fuel, x, hx, hw⟩ := h
  exact ⟨fuel, H, enc, held, x, hx, hw⟩
theorem TdN.td {P : Program} {w : World} {fuel : Nat} {t : TypeId} {cs : List Value} (h : TdN P w fuel t cs) : Td P w t cs := by
  obtain ⟨H, enc, held, x, hx, hw⟩ := h
  exact ⟨H, enc, held, fuel, x, hx, hw⟩
theorem TdN.zero {P : Program} {w : World} {t : TypeId} {cs : List Value} (h : TdN P w 0 t cs) : False := by
  obtain ⟨H, enc, held, x, hx, hw⟩ := h
  simp [DataW.trod] at hx

namespace TdN
variable {P : Program} {w : World} {t e : TypeId} {cs : List Value} {fuel : Nat}
theorem struct {fs : Array Field} (ht : P.underlying t = some (.struct fs)) (h : TdN P w fuel t cs) : cs.length = P.cellsOf t ∧ ∀ (i : Nat) (f : Field), fs[i]? = some f → TdN P w (fuel - 1) f.type ((cs.drop f.offset).take (P.cellsOf f.type)) := by
  obtain ⟨H, enc, held, x, hx, hw⟩ := h
  obtain ⟨xs, n, rfl, rfl, hl, hlen, hf⟩ := DataW.trod_struct ht hx
  refine ⟨hl, fun i f hi => ?_⟩
  have h1 := hf i f hi
  have hi2 := (Array.getElem?_eq_some_iff.1 hi).1
  obtain ⟨y, hy⟩ : ∃ y, xs[i]? = some y := ⟨xs[i]'(by omega), by simp⟩
  refine ⟨H, enc, held, y, by rw [Nat.add_sub_cancel, h1, hy], fun m hm => hw m ?_⟩
  simp only [DataW.weights, ht]
  exact wEach_mem (j := i) (t := f.type) (d := y.1) (by simp [hi]) (by simp [hy]) m hm

theorem slice (ht : P.underlying t = some (.slice e)) (hs : 0 < P.cellsOf e) (h : TdN P w fuel t cs) :
    ∃ (v : Value) (css : List (List Value)), cs = [v] ∧ Sl w (P.cellsOf e) v css.length css.flatten ∧ (∀ c ∈ css, c.length = P.cellsOf e ∧ TdN P w (fuel - 1) e c) ∧ css.length * P.bytesOf e ≤ reachBytes := by
  obtain ⟨H, enc, held, x, hx, hw⟩ := h
  rcases DataW.trod_slice ht hx with ⟨rfl, rfl⟩ | ⟨a, len, cap, elems, rest, n, rfl, rfl, rfl, _, hlc, hcm, hlen, hel, hsp, _⟩
  · exact ⟨_, [], rfl, Sl.nil _ _, by simp, by simp⟩
  · have hweigh : ∀ y ∈ elems, ∀ m ∈ y.1.weights P e, m ≤ reachBytes := fun y hy m hm => hw m (by
      simp only [DataW.weights, ht]
      exact .tail _ (List.mem_append_left _ (wAll_mem (List.mem_map_of_mem hy) m hm)))
    have hbytes : len * P.bytesOf e ≤ reachBytes := by
      have h1 := hw ((elems.length + rest.length) * P.bytesOf e) (by simp only [DataW.weights, ht, List.length_map]; exact .head _)
      have h2 : len * P.bytesOf e ≤ (elems.length + rest.length) * P.bytesOf e := Nat.mul_le_mul_right _ (by omega)
      omega
    have each : ∀ i, i < len → ∃ c, w.cells? 0 (a.add (i * P.cellsOf e)) (P.cellsOf e) = some c ∧ TdN P w (n + 1 - 1) e c := by
      intro i hi
      have h1 := hel i hi
      have hy : elems[i]? = some (elems[i]'(by omega)) := by simp
      rw [hy, Option.bind_eq_some_iff] at h1
      obtain ⟨c, h2, h3⟩ := h1
      exact ⟨c, h2, H, enc, held, _, (by rw [Nat.add_sub_cancel]; exact h3), hweigh _ (List.getElem_mem _)⟩
    by_cases hl0 : len = 0
    · by_cases hc0 : cap = 0
      · subst hl0; subst hc0
        exact ⟨_, [], rfl, ⟨by simp, .inl ⟨_, rfl, rfl⟩⟩, by simp, by simp⟩
      · subst hl0
        obtain ⟨hr, hj⟩ := hsp rfl
        have h1 := hj 0 (by omega)
        have hy : rest[0]? = some (rest[0]'(by omega)) := by simp
        rw [hy, Option.bind_eq_some_iff] at h1
        obtain ⟨c, h2, _⟩ := h1
        have h3 := (World.cells?_some h2).2
        have h4 := h3.2 0 hs
        simp only [Nat.zero_add, Nat.zero_mul, Addr.add_zero'] at h4
        obtain ⟨b, o, sp⟩ := a
        have h5 : sp = none := by
          have : c[0]? = some (c[0]'(by omega)) := by simp
          rw [this] at h4
          exact cell_spot0 h4
        subst h5
        exact ⟨_, [], rfl, ⟨by simp, .inr ⟨b, o, cap, rfl, by simp, hcm, by simp⟩⟩, by simp, by simp⟩
    · obtain ⟨b, o, sp⟩ := a
      have hsp0 : sp = none := by
        obtain ⟨c, h2, _⟩ := each 0 (by omega)
        have h3 := (World.cells?_some h2).2
        have h4 := h3.2 0 hs
        simp only [Nat.zero_mul, Addr.add_zero'] at h4
        have : c[0]? = some (c[0]'(by omega)) := by simp
        rw [this] at h4
        exact cell_spot0 h4
      subst hsp0
      refine ⟨_, (List.range len).map fun i => (w.cells? 0 ((⟨b, o, none⟩ : Addr).add (i * P.cellsOf e)) (P.cellsOf e)).getD [], rfl, ?_, ?_, ?_⟩
      · have hall : ∀ c ∈ (List.range len).map fun i => (w.cells? 0 ((⟨b, o, none⟩ : Addr).add (i * P.cellsOf e)) (P.cellsOf e)).getD [], c.length = P.cellsOf e := by
          intro c hc
          obtain ⟨i, hi, rfl⟩ := List.mem_map.1 hc
          obtain ⟨c, h2, _⟩ := each i (by simpa using hi)
          rw [h2]; exact (World.cells?_some h2).2.1
        refine ⟨flat_len _ hall, .inr ⟨b, o, cap, by simp, by simpa using hlc, hcm, fun j u hu => ?_⟩⟩
        rw [flat_get hs _ hall, Option.bind_eq_some_iff] at hu
        obtain ⟨c, h1, h2⟩ := hu
        rw [List.getElem?_map, Option.map_eq_some_iff] at h1
        obtain ⟨i, h3, rfl⟩ := h1
        obtain ⟨hi, rfl⟩ : j / P.cellsOf e < len ∧ i = j / P.cellsOf e := by
          have := List.getElem?_eq_some_iff.1 h3
          obtain ⟨h, h4⟩ := this
          simp at h h4
          exact ⟨h, h4.symm⟩
        obtain ⟨c, h4, _⟩ := each _ hi
        rw [h4] at h2
        have h5 := (World.cells?_some h4).2.2 (j % P.cellsOf e) (Nat.mod_lt _ hs)
        simp only [Option.getD_some] at h2
        rw [h2, Addr.add_add, Addr.add_lit, Nat.mul_comm, Nat.div_add_mod] at h5
        exact h5
      · intro c hc
        obtain ⟨i, hi, rfl⟩ := List.mem_map.1 hc
        obtain ⟨c, h2, h3⟩ := each i (by simpa using hi)
        rw [h2]; exact ⟨(World.cells?_some h2).2.1, h3⟩
      · simpa using hbytes

end TdN
end Go

/- Arguments that are bools, texts and small numbers, opened. -/
namespace Go.Proofs.YtijcleiekafoiaaGreatDoor
open Go.RowKit Go.WideShapes
theorem open_bool_row {H : Type} {enc : TypeId × Value → H} {P : Program} {w : World} {base : Nat} {sp : Nat → Bool} {held : Bool} {r : Reach} {b0 : Nat} {t : TypeId} {v : Value} {d : DataW H} {ps : List MemPlace} (ht : P.underlying t = some .bool) (hval : Value.okWide P w r b0 t v) (hd : DataW.Trod enc P w base sp held t v d ps) :
    ∃ b, v = .bool b ∧ d = .lit (.bool b) ∧ ps = [] := by
  obtain ⟨b, rfl⟩ := okWide_bool ht hval
  obtain ⟨fuel, hf⟩ := hd
  obtain ⟨b', h, hx⟩ := DataW.trod_bool ht hf
  simp [Value.cells] at h
  subst h
  simp only [Prod.mk.injEq] at hx
  exact ⟨b, rfl, hx.1, hx.2⟩
theorem u16_of_wf {n : Int} (h : (Lit.int .u16 n).wf = true) : 0 ≤ n ∧ n < 65536 := by
  simp only [Lit.wf, Bool.and_eq_true, IntKind.min, IntKind.max, IntKind.signed, IntKind.bits] at h
  simp at h
  omega
theorem u32_of_wf {n : Int} (h : (Lit.int .u32 n).wf = true) : 0 ≤ n ∧ n < 4294967296 := by
  simp only [Lit.wf, Bool.and_eq_true, IntKind.min, IntKind.max, IntKind.signed, IntKind.bits] at h
  simp at h
  omega
end Go.Proofs.YtijcleiekafoiaaGreatDoor

/- Values that were handed in, opened: what reads as data of the type api.Value is a tree. -/
namespace Go.Proofs.YtijcleiekafoiaaGreatDoor
open Go.RowKit Go.WideShapes
open Tr

theorem u8_is {n : Int} (h : (Lit.int .u8 n).wf = true) : ∃ k : UInt8, n = k.toNat := by
  obtain ⟨h1, h2⟩ := u8_of_wf h
  exact ⟨UInt8.ofNat n.toNat, by rw [UInt8.toNat_ofNat_of_lt' (show n.toNat < 256 by omega)]; omega⟩
theorem str_is (s : ByteArray) : ∃ t : List UInt8, s = ⟨t.toArray⟩ ∧ t.length = s.size := ⟨s.data.toList, rfl, Array.length_toList⟩

/-- Lists of trees out of lists of cells. -/
theorem trees_of {β : Type} {Q : β → Prop} {g : β → List Value} : ∀ (css : List (List Value)) (_ : ∀ c ∈ css, ∃ x : β, c = g x ∧ Q x), ∃ l : List β, css.flatten = l.flatMap g ∧ l.length = css.length ∧ ∀ x ∈ l, Q x
  | [], _ => ⟨[], rfl, rfl, by simp⟩
  | c :: css, h => by
    obtain ⟨x, rfl, hq⟩ := h c (.head _)
    obtain ⟨l, h1, h2, h3⟩ := trees_of css (fun c hc => h c (.tail _ hc))
    refine ⟨x :: l, by simp [h1], by simp [h2], fun y hy => ?_⟩
    rcases List.mem_cons.1 hy with rfl | hy
    · exact hq
    · exact h3 y hy

set_option maxRecDepth 100000 in
theorem td_bytes {w : World} {cs : List Value} (h : Td Tryz.prog w 23 cs) : ∃ (v : Value) (l : List UInt8), cs = [v] ∧ Sl w 1 v l.length (bvs l) ∧ l.length ≤ reachBytes := Td.bytes (e := 5) rfl rfl rfl rfl h

set_option maxRecDepth 100000 in
theorem tdn_value : ∀ (n fuel : Nat) (_ : fuel ≤ n) (w : World) (cs : List Value), TdN Tryz.prog w fuel 27 cs → ∃ x : Tr Mm, cs = x.cells ∧ Tr.Good w x := by
  intro n
  induction n with
  | zero =>
    intro fuel hf w cs h
    obtain rfl : fuel = 0 := by omega
    exact (TdN.zero h).elim
  | succ n ih =>
    intro fuel hfu w cs h
    cases fuel with
    | zero => exact (TdN.zero h).elim
    | succ m =>
    obtain ⟨hl, hf⟩ := TdN.struct rfl h
    have hl : cs.length = 7 := hl
    obtain ⟨c0, c1, c2, c3, c4, c5, c6, rfl⟩ : ∃ c0 c1 c2 c3 c4 c5 c6, cs = [c0, c1, c2, c3, c4, c5, c6] := by
      match cs, hl with
      | [c0, c1, c2, c3, c4, c5, c6], _ => exact ⟨_, _, _, _, _, _, _, rfl⟩
    have h0 := (hf 0 _ rfl).td
    have h1 := (hf 1 _ rfl).td
    have h2 := (hf 2 _ rfl).td
    have h3 := (hf 3 _ rfl).td
    have h4 := (hf 4 _ rfl).td
    have h5 := hf 5 _ rfl
    have h6 := hf 6 _ rfl
    obtain ⟨k0, e0, wf0⟩ := Td.int (k := .u8) rfl h0
    obtain ⟨b1, e1⟩ := Td.bool rfl h1
    obtain ⟨i2, e2, wf2⟩ := Td.int (k := .i64) rfl h2
    obtain ⟨s3, e3, hs3⟩ := Td.str rfl h3
    obtain ⟨v4, bs, e4, hb, hbl⟩ := td_bytes h4
    obtain ⟨v5, css, e5, hs5, hc5, hz5⟩ := TdN.slice (e := 27) rfl (by decide +kernel) h5
    obtain ⟨v6, fss, e6, hs6, hc6, hz6⟩ := TdN.slice (e := 87) rfl (by decide +kernel) h6
    have q0 : c0 = .int .u8 k0 := (List.cons.inj (show [c0] = _ from e0)).1
    have q1 : c1 = .bool b1 := (List.cons.inj (show [c1] = _ from e1)).1
    have q2 : c2 = .int .i64 i2 := (List.cons.inj (show [c2] = _ from e2)).1
    have q3 : c3 = .string s3 := (List.cons.inj (show [c3] = _ from e3)).1
    have q4 : c4 = v4 := (List.cons.inj (show [c4] = _ from e4)).1
    have q5 : c5 = v5 := (List.cons.inj (show [c5] = _ from e5)).1
    have q6 : c6 = v6 := (List.cons.inj (show [c6] = _ from e6)).1
    clear e0 e1 e2 e3 e4 e5 e6
    subst q0; subst q1; subst q2; subst q3; subst q4; subst q5; subst q6
    obtain ⟨k, rfl⟩ := u8_is wf0
    obtain ⟨t, rfl, htl⟩ := str_is s3
    obtain ⟨l, g1, g2, g3⟩ := trees_of (Q := fun x => Tr.Good w x) (g := cells) css (fun c hc => ih _ (by omega) w c (hc5 c hc).2)
    obtain ⟨f, g4, g5, g6⟩ := trees_of (Q := fun p : List UInt8 × Tr Mm => p.1.length ≤ reachBytes ∧ Tr.Good w p.2) (g := fcells) fss (fun c hc => by
      obtain ⟨hl7, hf7⟩ := TdN.struct rfl (hc6 c hc).2
      have hl7 : c.length = 8 := hl7
      obtain ⟨d0, ds, rfl⟩ : ∃ d0 ds, c = d0 :: ds := by
        match c, hl7 with
        | d0 :: ds, _ => exact ⟨_, _, rfl⟩
      have k0 := (hf7 0 _ rfl).td
      have k1 := hf7 1 _ rfl
      obtain ⟨s, e7, hs7⟩ := Td.str rfl k0
      have e7 : d0 = .string s := (List.cons.inj (show [d0] = _ from e7)).1
      subst e7
      obtain ⟨nm, rfl, hnl⟩ := str_is s
      obtain ⟨x, hx, hg⟩ := ih _ (by omega) w _ k1
      have hx : ds.take 7 = x.cells := hx
      rw [List.take_of_length_le (by simp at hl7; omega)] at hx
      exact ⟨(nm, x), by rw [hx]; rfl, by simp only; omega, hg⟩)
    refine ⟨.mk k b1 i2 t bs (c4, c5, c6) l f, rfl, _, ⟨hb, ?_, ?_, ?_, ?_, hbl, ?_, ?_, ?_, ?_, ?_⟩, fun y hy => ?_⟩
    · show Sl w 7 c5 l.length (l.flatMap cells)
      rw [g2, ← g1]; exact hs5
    · show Sl w 8 c6 f.length (f.flatMap fcells)
      rw [g5, ← g4]; exact hs6
    · obtain ⟨q1, q2⟩ := i64_of_wf wf2
      exact ⟨q1, q2⟩
    · show t.length ≤ reachBytes
      omega
    · show l.length ≤ reachBytes
      have : css.length * 104 ≤ reachBytes := hz5
      omega
    · show f.length ≤ reachBytes
      have : fss.length * 120 ≤ reachBytes := hz6
      omega
    · exact fun p hp => (g6 p hp).1
    · show l.length * 104 ≤ reachBytes
      rw [g2]; exact hz5
    · show f.length * 120 ≤ reachBytes
      rw [g5]; exact hz6
    · rcases List.mem_append.1 hy with hy | hy
      · exact g3 y hy
      · obtain ⟨p, hp, rfl⟩ := List.mem_map.1 hy
        exact (g6 p hp).2

theorem open_value {w : World} {cs : List Value} (h : Td Tryz.prog w 27 cs) : ∃ x : Tr Mm, cs = x.cells ∧ Tr.Good w x := by
  obtain ⟨fuel, h⟩ := h.at_depth
  exact tdn_value fuel fuel (Nat.le_refl _) w cs h

set_option maxRecDepth 100000 in
theorem open_values {w : World} {cs : List Value} (h : Td Tryz.prog w 24 cs) : ∃ (v : Value) (l : List (Tr Mm)), cs = [v] ∧ In w v l := by
  obtain ⟨v, css, e1, h1, h2, h3⟩ := Td.slice (e := 27) rfl (by decide +kernel) h
  obtain ⟨l, g1, g2, g3⟩ := trees_of (Q := fun x => Tr.Good w x) (g := cells) css (fun c hc => open_value (h2 c hc).2)
  have h3 : css.length * 104 ≤ reachBytes := h3
  refine ⟨v, l, e1, ⟨?_, g3, by omega, by rw [g2]; exact h3⟩⟩
  rw [g2, ← g1]; exact h1

/-- Bools that came in. -/
def bls (l : List Bool) : List Value := l.map .bool
set_option maxRecDepth 100000 in
theorem open_bools {w : World} {cs : List Value} (h : Td Tryz.prog w 171 cs) : ∃ (v : Value) (l : List Bool), cs = [v] ∧ Sl w 1 v l.length (bls l) ∧ l.length ≤ reachBytes := by
  obtain ⟨v, css, e1, h1, h2, h3⟩ := Td.slice (e := 4) rfl (by decide +kernel) h
  obtain ⟨l, g1, g2, g3⟩ := trees_of (β := Bool) (Q := fun _ => True) (g := fun b => [.bool b]) css (fun c hc => by
    obtain ⟨b, e⟩ := Td.bool rfl (h2 c hc).2
    exact ⟨b, e, trivial⟩)
  have h3 : css.length * 1 ≤ reachBytes := h3
  refine ⟨v, l, e1, ?_, by omega⟩
  have e : l.flatMap (fun b => [Value.bool b]) = bls l := by
    unfold bls
    clear g1 g2 g3
    induction l with
    | nil => rfl
    | cons a l ih => rw [List.flatMap_cons, ih]; rfl
  rw [g2, ← e, ← g1]; exact h1
end Go.Proofs.YtijcleiekafoiaaGreatDoor
