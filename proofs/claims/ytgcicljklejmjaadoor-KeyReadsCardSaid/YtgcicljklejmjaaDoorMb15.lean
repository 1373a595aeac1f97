import Derived.Test.YtgcicljklejmjaaDoorMb02
import Derived.ProofKit
import Derived.OpenShut
import Derived.ChangeOld
import Derived.SizedLaws
import Derived.ChangeMaps5
import Derived.Test.YtgcicljklejmjaaDoorProg
import Derived.Test.YtgcicljklejmjaaDoorMb11
import Derived.Test.YtgcicljklejmjaaDoorMb09
import Derived.Test.YtgcicljklejmjaaDoorMb14
import Derived.OwnWalk

/- What is read as data, opened by its type: numbers, texts, structs, slices of any of these. General. -/
namespace Go
open Go.ChangeShapes Go.WideShapes Go.ChangeAt Go.RowKit

/-- A slice that is handed in lies in a block that is there. -/
theorem okWide_lt {P : Program} {w : World} {r : Reach} {base : Nat} {t e : TypeId} {v : Value} (ht : P.underlying t = some (.slice e)) (h : Value.okWide P w r base t v) : ∀ k, v.ownBlock = some k → k < w.heap.size := by
  simp only [Value.okWide, ht, Cell.okWide] at h
  intro k hk
  cases v <;> simp only [Value.ownBlock] at hk <;> try (cases hk; done)
  rename_i a len cap
  cases a with
  | none => simp at hk
  | some a =>
    simp only [Option.some.injEq] at hk
    subst hk
    simp only [Cell.ok, ht, World.has] at h
    obtain ⟨_, _, _, _, row, cells, h1, _⟩ := h
    unfold World.shape? at h1
    split at h1
    · rename_i h2; exact (Array.getElem?_eq_some_iff.1 h2).1
    · cases h1

/-- Cells that read as a datum of type t, within the reach. -/
def Td (P : Program) (w : World) (t : TypeId) (cs : List Value) : Prop :=
  ∃ (H : Type) (enc : TypeId × Value → H) (held : Bool) (fuel : Nat) (x : DataW H × List MemPlace), DataW.trod enc P w 0 (fun _ => true) held fuel t cs = some x ∧ ∀ n ∈ x.1.weights P t, n ≤ reachBytes

theorem wAll_mem {H : Type} {P : Program} {e : TypeId} : ∀ {l : List (DataW H)} {d : DataW H}, d ∈ l → ∀ n ∈ d.weights P e, n ∈ DataW.weightsAll P e l
  | d' :: r, d, hd, n, hn => by
    simp only [DataW.weightsAll, List.mem_append]
    rcases List.mem_cons.1 hd with rfl | h
    · exact Or.inl hn
    · exact Or.inr (wAll_mem h n hn)

theorem wEach_mem {H : Type} {P : Program} : ∀ {ts : List TypeId} {l : List (DataW H)} {j : Nat} {t : TypeId} {d : DataW H}, ts[j]? = some t → l[j]? = some d → ∀ n ∈ d.weights P t, n ∈ DataW.weightsEach P ts l
  | t' :: ts, d' :: r, 0, t, d, ht, hd, n, hn => by
    simp at ht hd; subst ht; subst hd
    simp only [DataW.weightsEach, List.mem_append]
    exact .inl hn
  | t' :: ts, d' :: r, j + 1, t, d, ht, hd, n, hn => by
    simp only [DataW.weightsEach, List.mem_append]
    exact .inr (wEach_mem (by simpa using ht) (by simpa using hd) n hn)
  | [], _, j, t, d, ht, hd, n, hn => by simp at ht
  | _ :: _, [], j, t, d, ht, hd, n, hn => by simp at hd

theorem trodAll_at {H : Type} {enc : TypeId × Value → H} {P : Program} {w : World} {base : Nat} {spare : Nat → Bool} {held : Bool} : ∀ {ts : List TypeId} {vs : List Value} {ds : List (DataW H)} {ps : List MemPlace},
    DataW.TrodAll enc P w base spare held ts vs ds ps → ∀ (j : Nat) t v, ts[j]? = some t → vs[j]? = some v → ∃ d p, ds[j]? = some d ∧ DataW.Trod enc P w base spare held t v d p
  | [], _, _, _, _, j, t, v, ht, _ => by simp at ht
  | t' :: ts, [], ds, ps, h, j, t, v, ht, hv => by simp at hv
  | t' :: ts, v' :: vs, [], ps, h, j, t, v, ht, hv => by simp [DataW.TrodAll] at h
  | t' :: ts, v' :: vs, d' :: ds, ps, h, j, t, v, ht, hv => by
    obtain ⟨p, q, h1, h2, rfl⟩ := h
    cases j with
    | zero => simp at ht hv; subst ht; subst hv; exact ⟨d', p, rfl, h1⟩
    | succ j => simpa using trodAll_at h2 j t v (by simpa using ht) (by simpa using hv)

/-- Of a row's hypotheses: each argument. -/
theorem Td.arg {H : Type} {enc : TypeId × Value → H} {P : Program} {w : World} {held : Bool} {ts : List TypeId} {vs : List Value} {ds : List (DataW H)} {ps : List MemPlace} {ts2 : List TypeId} {gs : List (DataW H)}
    (h : DataW.TrodAll enc P w 0 (fun _ => true) held ts vs ds ps) (hz : (DataW.weightsEach P (ts ++ ts2) (ds ++ gs)).all (· ≤ reachBytes) = true) (j : Nat) (t : TypeId) (v : Value) (ht : ts[j]? = some t) (hv : vs[j]? = some v) : Td P w t v.cells.toList := by
  obtain ⟨d, p, hd, fuel, hf⟩ := trodAll_at h j t v ht hv
  refine ⟨H, enc, held, fuel, (d, p), hf, fun n hn => ?_⟩
  have hj1 := (List.getElem?_eq_some_iff.1 ht).1
  have hj2 := (List.getElem?_eq_some_iff.1 hd).1
  have := List.all_eq_true.1 hz n (wEach_mem (j := j) (t := t) (d := d) (by rw [List.getElem?_append_left hj1, ht]) (by rw [List.getElem?_append_left hj2, hd]) n hn)
  simpa using this

theorem cell_spot0 {w : World} {b o : Nat} {sp : Option Nat} {v : Value} (h : w.cell? ⟨b, o, sp⟩ = some v) : sp = none := by
  cases sp with
  | none => rfl
  | some x =>
    unfold World.cell? at h
    split at h <;> simp at h

/-- Lists of lists of one length. -/
theorem flat_get {α : Type} {sz : Nat} (hs : 0 < sz) : ∀ (css : List (List α)) (_ : ∀ c ∈ css, c.length = sz) (j : Nat), css.flatten[j]? = (css[j / sz]?).bind (fun c => c[j % sz]?)
  | [], _, j => by simp
  | c :: css, h, j => by
    have hc := h c (.head _)
    rw [List.flatten_cons, List.getElem?_append]
    split
    · rename_i hj
      rw [Nat.div_eq_of_lt (by omega), Nat.mod_eq_of_lt (by omega)]
      simp
    · rename_i hj
      rw [flat_get hs css (fun c hc => h c (.tail _ hc)), hc]
      obtain ⟨k, rfl⟩ : ∃ k, j = k + sz := ⟨j - sz, by omega⟩
      rw [Nat.add_sub_cancel, Nat.add_div_right _ hs, Nat.add_mod_right]
      simp

theorem flat_len {α : Type} {sz : Nat} : ∀ (css : List (List α)) (_ : ∀ c ∈ css, c.length = sz), css.flatten.length = css.length * sz
  | [], _ => by simp
  | c :: css, h => by
    rw [List.flatten_cons, List.length_append, flat_len css (fun c hc => h c (.tail _ hc)), h c (.head _), List.length_cons, Nat.succ_mul, Nat.add_comm]

namespace Td
variable {P : Program} {w : World} {t e : TypeId} {cs : List Value}

theorem int {k : IntKind} (ht : P.underlying t = some (.int k)) (h : Td P w t cs) : ∃ n, cs = [.int k n] ∧ (Lit.int k n).wf = true := by
  obtain ⟨H, enc, held, fuel, x, hx, _⟩ := h
  obtain ⟨n, h1, _, h3⟩ := DataW.trod_int ht hx
  exact ⟨n, h1, h3⟩

theorem bool (ht : P.underlying t = some .bool) (h : Td P w t cs) : ∃ b, cs = [.bool b] := by
  obtain ⟨H, enc, held, fuel, x, hx, _⟩ := h
  obtain ⟨n, h1, _⟩ := DataW.trod_bool ht hx
  exact ⟨n, h1⟩

theorem str (ht : P.underlying t = some .string) (h : Td P w t cs) : ∃ s : ByteArray, cs = [.string s] ∧ s.size ≤ reachBytes := by
  obtain ⟨H, enc, held, fuel, x, hx, hw⟩ := h
  obtain ⟨s, h1, rfl, _⟩ := DataW.trod_string ht hx
  refine ⟨s, h1, hw _ ?_⟩
  simp [DataW.weights]

theorem struct {fs : Array Field} (ht : P.underlying t = some (.struct fs)) (h : Td P w t cs) : cs.length = P.cellsOf t ∧ ∀ (i : Nat) (f : Field), fs[i]? = some f → Td P w f.type ((cs.drop f.offset).take (P.cellsOf f.type)) := by
  obtain ⟨H, enc, held, fuel, x, hx, hw⟩ := h
  obtain ⟨xs, n, _, rfl, hl, hlen, hf⟩ := DataW.trod_struct ht hx
  refine ⟨hl, fun i f hi => ?_⟩
  have h1 := hf i f hi
  have hi2 := (Array.getElem?_eq_some_iff.1 hi).1
  obtain ⟨y, hy⟩ : ∃ y, xs[i]? = some y := ⟨xs[i]'(by omega), by simp⟩
  refine ⟨H, enc, held, n, y, by rw [h1, hy], fun m hm => hw m ?_⟩
  simp only [DataW.weights, ht]
  exact wEach_mem (j := i) (t := f.type) (d := y.1) (by simp [hi]) (by simp [hy]) m hm

theorem slice (ht : P.underlying t = some (.slice e)) (hs : 0 < P.cellsOf e) (h : Td P w t cs) :
    ∃ (v : Value) (css : List (List Value)), cs = [v] ∧ Sl w (P.cellsOf e) v css.length css.flatten ∧ (∀ c ∈ css, c.length = P.cellsOf e ∧ Td P w e c) ∧ css.length * P.bytesOf e ≤ reachBytes := by
  obtain ⟨H, enc, held, fuel, x, hx, hw⟩ := h
  rcases DataW.trod_slice ht hx with ⟨rfl, rfl⟩ | ⟨a, len, cap, elems, rest, n, _, rfl, rfl, _, hlc, hcm, hlen, hel, hsp, _⟩
  · exact ⟨_, [], rfl, Sl.nil _ _, by simp, by simp⟩
  · have hweigh : ∀ y ∈ elems, ∀ m ∈ y.1.weights P e, m ≤ reachBytes := fun y hy m hm => hw m (by
      simp only [DataW.weights, ht]
      exact .tail _ (List.mem_append_left _ (wAll_mem (List.mem_map_of_mem hy) m hm)))
    have hbytes : len * P.bytesOf e ≤ reachBytes := by
      have h1 := hw ((elems.length + rest.length) * P.bytesOf e) (by simp only [DataW.weights, ht, List.length_map]; exact .head _)
      have h2 : len * P.bytesOf e ≤ (elems.length + rest.length) * P.bytesOf e := Nat.mul_le_mul_right _ (by omega)
      omega
    have each : ∀ i, i < len → ∃ c, w.cells? 0 (a.add (i * P.cellsOf e)) (P.cellsOf e) = some c ∧ Td P w e c := by
      intro i hi
      have h1 := hel i hi
      have hy : elems[i]? = some (elems[i]'(by omega)) := by simp
      rw [hy, Option.bind_eq_some_iff] at h1
      obtain ⟨c, h2, h3⟩ := h1
      exact ⟨c, h2, H, enc, held, n, _, h3, hweigh _ (List.getElem_mem _)⟩
    by_cases hl0 : len = 0
    · by_cases hc0 : cap = 0
      · subst hl0; subst hc0
        exact ⟨_, [], rfl, ⟨by simp, .inl ⟨_, rfl, rfl⟩⟩, by simp, by simp⟩
      · subst hl0
        obtain ⟨hr, hj⟩ := hsp rfl
        have h1 := hj 0 (by omega)
        have hy : rest[0]? = some (rest[0]'(by omega)) := by simp
        rw [hy, Option.bind_eq_some_iff] at h1
        obtain ⟨c, h2, _⟩ := h1
        have h3 := (World.cells?_some h2).2
        have h4 := h3.2 0 hs
        simp only [Nat.zero_add, Nat.zero_mul, Addr.add_zero'] at h4
        obtain ⟨b, o, sp⟩ := a
        have h5 : sp = none := by
          have : c[0]? = some (c[0]'(by omega)) := by simp
          rw [this] at h4
          exact cell_spot0 h4
        subst h5
        exact ⟨_, [], rfl, ⟨by simp, .inr ⟨b, o, cap, rfl, by simp, hcm, by simp⟩⟩, by simp, by simp⟩
    · obtain ⟨b, o, sp⟩ := a
      have hsp0 : sp = none := by
        obtain ⟨c, h2, _⟩ := each 0 (by omega)
        have h3 := (World.cells?_some h2).2
        have h4 := h3.2 0 hs
        simp only [Nat.zero_mul, Addr.add_zero'] at h4
        have : c[0]? = some (c[0]'(by omega)) := by simp
        rw [this] at h4
        exact cell_spot0 h4
      subst hsp0
      refine ⟨_, (List.range len).map fun i => (w.cells? 0 ((⟨b, o, none⟩ : Addr).add (i * P.cellsOf e)) (P.cellsOf e)).getD [], rfl, ?_, ?_, ?_⟩
      · have hall : ∀ c ∈ (List.range len).map fun i => (w.cells? 0 ((⟨b, o, none⟩ : Addr).add (i * P.cellsOf e)) (P.cellsOf e)).getD [], c.length = P.cellsOf e := by
          intro c hc
          obtain ⟨i, hi, rfl⟩ := List.mem_map.1 hc
          obtain ⟨c, h2, _⟩ := each i (by simpa using hi)
          rw [h2]; exact (World.cells?_some h2).2.1
        refine ⟨flat_len _ hall, .inr ⟨b, o, cap, by simp, by simpa using hlc, hcm, fun j u hu => ?_⟩⟩
        rw [flat_get hs _ hall, Option.bind_eq_some_iff] at hu
        obtain ⟨c, h1, h2⟩ := hu
        rw [List.getElem?_map, Option.map_eq_some_iff] at h1
        obtain ⟨i, h3, rfl⟩ := h1
        obtain ⟨hi, rfl⟩ : j / P.cellsOf e < len ∧ i = j / P.cellsOf e := by
          have := List.getElem?_eq_some_iff.1 h3
          obtain ⟨h, h4⟩ := this
          simp at h h4
          exact ⟨h, h4.symm⟩
        obtain ⟨c, h4, _⟩ := each _ hi
        rw [h4] at h2
        have h5 := (World.cells?_some h4).2.2 (j % P.cellsOf e) (Nat.mod_lt _ hs)
        simp only [Option.getD_some] at h2
        rw [h2, Addr.add_add, Addr.add_lit, Nat.mul_comm, Nat.div_add_mod] at h5
        exact h5
      · intro c hc
        obtain ⟨i, hi, rfl⟩ := List.mem_map.1 hc
        obtain ⟨c, h2, h3⟩ := each i (by simpa using hi)
        rw [h2]; exact ⟨(World.cells?_some h2).2.1, h3⟩
      · simpa using hbytes

end Td

theorem u8_of_wf {n : Int} (h : (Lit.int .u8 n).wf = true) : 0 ≤ n ∧ n < 256 := by
  simp only [Lit.wf, Bool.and_eq_true, IntKind.min, IntKind.max, IntKind.signed, IntKind.bits] at h
  simp at h
  omega

theorem u64_of_wf {n : Int} (h : (Lit.int .u64 n).wf = true) : 0 ≤ n ∧ n < 18446744073709551616 := by
  simp only [Lit.wf, Bool.and_eq_true, IntKind.min, IntKind.max, IntKind.signed, IntKind.bits] at h
  simp at h
  omega

theorem i64_of_wf {n : Int} (h : (Lit.int .i64 n).wf = true) : -9223372036854775808 ≤ n ∧ n ≤ 9223372036854775807 := by
  simp only [Lit.wf, Bool.and_eq_true, IntKind.min, IntKind.max, IntKind.signed, IntKind.bits] at h
  simp at h
  omega

/-- A slice of bytes. -/
theorem Td.bytes {P : Program} {w : World} {t e : TypeId} {cs : List Value} (ht : P.underlying t = some (.slice e)) (he : P.underlying e = some (.int .u8)) (hc : P.cellsOf e = 1) (hb : P.bytesOf e = 1) (h : Td P w t cs) :
    ∃ (v : Value) (l : List UInt8), cs = [v] ∧ Sl w 1 v l.length (bvs l) ∧ l.length ≤ reachBytes := by
  obtain ⟨v, css, rfl, h1, h2, h3⟩ := h.slice ht (by omega)
  rw [hc] at h1
  have key : ∀ (css : List (List Value)), (∀ c ∈ css, c.length = P.cellsOf e ∧ Td P w e c) → ∃ l : List UInt8, l.length = css.length ∧ css.flatten = bvs l := by
    intro css
    induction css with
    | nil => intro _; exact ⟨[], rfl, rfl⟩
    | cons c css ih =>
      intro hall
      obtain ⟨l, e1, e2⟩ := ih fun c hc => hall c (.tail _ hc)
      obtain ⟨n, rfl, hn⟩ := (hall c (.head _)).2.int he
      obtain ⟨n0, n1⟩ := u8_of_wf hn
      refine ⟨UInt8.ofNat n.toNat :: l, by simp [e1], ?_⟩
      rw [List.flatten_cons, e2]
      simp only [bvs, Bv, List.map_cons, UInt8.toNat_ofNat', List.cons_append, List.nil_append, List.cons.injEq, and_true]
      congr 1
      omega
  obtain ⟨l, e1, e2⟩ := key css h2
  rw [e2, ← e1] at h1
  exact ⟨v, l, rfl, h1, by rw [hb, Nat.mul_one] at h3; omega⟩
end Go

/- What is read as data, with the depth of the reading: for values that hold values. General. -/
namespace Go
open Go.ChangeShapes Go.WideShapes Go.ChangeAt Go.RowKit

/-- Cells that read as a datum of type t, so deep at most. -/
def TdN (P : Program) (w : World) (fuel : Nat) (t : TypeId) (cs : List Value) : Prop :=
  ∃ (H : Type) (enc : TypeId × Value → H) (held : Bool) (x : DataW H × List MemPlace), DataW.trod enc P w 0 (fun _ => true) held fuel t cs = some x ∧ ∀ n ∈ x.1.weights P t, n ≤ reachBytes

theorem Td.at_depth {P : Program} {w : World} {t : TypeId} {cs : List Value} (h : Td P w t cs) : ∃ fuel, TdN P w fuel t cs := by
  obtain ⟨H, enc, held, fuel, x, hx, hw⟩ := h
  exact ⟨fuel, H, enc, held, x, hx, hw⟩
theorem TdN.td {P : Program} {w : World} {fuel : Nat} {t : TypeId} {cs : List Value} (h : TdN P w fuel t cs) : Td P w t cs := by
  obtain ⟨H, enc, held, x, hx, hw⟩ := h
  exact ⟨H, enc, held, fuel, x, hx, hw⟩
theorem TdN.zero {P : Program} {w : World} {t : TypeId} {cs : List Value} (h : TdN P w 0 t cs) : False := by
  obtain ⟨H, enc, held, x, hx, hw⟩ := h
  simp [DataW.trod] at hx

namespace TdN
variable {P : Program} {w : World} {t e : TypeId} {cs : List Value} {fuel : Nat}
theorem struct {fs : Array Field} (ht : P.underlying t = some (.struct fs)) (h : TdN P w fuel t cs) : cs.length = P.cellsOf t ∧ ∀ (i : Nat) (f : Field), fs[i]? = some f → TdN P w (fuel - 1) f.type ((cs.drop f.offset).take (P.cellsOf f.type)) := by
  obtain ⟨H, enc, held, x, hx, hw⟩ := h
  obtain ⟨xs, n, rfl, rfl, hl, hlen, hf⟩ := DataW.trod_struct ht hx
  refine ⟨hl, fun i f hi => ?_⟩
  have h1 := hf i f hi
  have hi2 := (Array.getElem?_eq_some_iff.1 hi).1
  obtain ⟨y, hy⟩ : ∃ y, xs[i]? = some y := ⟨xs[i]'(by omega), by simp⟩
  refine ⟨H, enc, held, y, by rw [Nat.add_sub_cancel, h1, hy], fun m hm => hw m ?_⟩
  simp only [DataW.weights, ht]
  exact wEach_mem (j := i) (t := f.type) (d := y.1) (by simp [hi]) (by simp [hy]) m hm

theorem slice (ht : P.underlying t = some (.slice e)) (hs : 0 < P.cellsOf e) (h : TdN P w fuel t cs) :
    ∃ (v : Value) (css : List (List Value)), cs = [v] ∧ Sl w (P.cellsOf e) v css.length css.flatten ∧ (∀ c ∈ css, c.length = P.cellsOf e ∧ TdN P w (fuel - 1) e c) ∧ css.length * P.bytesOf e ≤ reachBytes := by
  obtain ⟨H, enc, held, x, hx, hw⟩ := h
  rcases DataW.trod_slice ht hx with ⟨rfl, rfl⟩ | ⟨a, len, cap, elems, rest, n, rfl, rfl, rfl, _, hlc, hcm, hlen, hel, hsp, _⟩
  · exact ⟨_, [], rfl, Sl.nil _ _, by simp, by simp⟩
  · have hweigh : ∀ y ∈ elems, ∀ m ∈ y.1.weights P e, m ≤ reachBytes := fun y hy m hm => hw m (by
      simp only [DataW.weights, ht]
      exact .tail _ (List.mem_append_left _ (wAll_mem (List.mem_map_of_mem hy) m hm)))
    have hbytes : len * P.bytesOf e ≤ reachBytes := by
      have h1 := hw ((elems.length + rest.length) * P.bytesOf e) (by simp only [DataW.weights, ht, List.length_map]; exact .head _)
      have h2 : len * P.bytesOf e ≤ (elems.length + rest.length) * P.bytesOf e := Nat.mul_le_mul_right _ (by omega)
      omega
    have each : ∀ i, i < len → ∃ c, w.cells? 0 (a.add (i * P.cellsOf e)) (P.cellsOf e) = some c ∧ TdN P w (n + 1 - 1) e c := by
      intro i hi
      have h1 := hel i hi
      have hy : elems[i]? = some (elems[i]'(by omega)) := by simp
      rw [hy, Option.bind_eq_some_iff] at h1
      obtain ⟨c, h2, h3⟩ := h1
      exact ⟨c, h2, H, enc, held, _, (by rw [Nat.add_sub_cancel]; exact h3), hweigh _ (List.getElem_mem _)⟩
    by_cases hl0 : len = 0
    · by_cases hc0 : cap = 0
      · subst hl0; subst hc0
        exact ⟨_, [], rfl, ⟨by simp, .inl ⟨_, rfl, rfl⟩⟩, by simp, by simp⟩
      · subst hl0
        obtain ⟨hr, hj⟩ := hsp rfl
        have h1 := hj 0 (by omega)
        have hy : rest[0]? = some (rest[0]'(by omega)) := by simp
        rw [hy, Option.bind_eq_some_iff] at h1
        obtain ⟨c, h2, _⟩ := h1
        have h3 := (World.cells?_some h2).2
        have h4 := h3.2 0 hs
        simp only [Nat.zero_add, Nat.zero_mul, Addr.add_zero'] at h4
        obtain ⟨b, o, sp⟩ := a
        have h5 : sp = none := by
          have : c[0]? = some (c[0]'(by omega)) := by simp
          rw [this] at h4
          exact cell_spot0 h4
        subst h5
        exact ⟨_, [], rfl, ⟨by simp, .inr ⟨b, o, cap, rfl, by simp, hcm, by simp⟩⟩, by simp, by simp⟩
    · obtain ⟨b, o, sp⟩ := a
      have hsp0 : sp = none := by
        obtain ⟨c, h2, _⟩ := each 0 (by omega)
        have h3 := (World.cells?_some h2).2
        have h4 := h3.2 0 hs
        simp only [Nat.zero_mul, Addr.add_zero'] at h4
        have : c[0]? = some (c[0]'(by omega)) := by simp
        rw [this] at h4
        exact cell_spot0 h4
      subst hsp0
      refine ⟨_, (List.range len).map fun i => (w.cells? 0 ((⟨b, o, none⟩ : Addr).add (i * P.cellsOf e)) (P.cellsOf e)).getD [], rfl, ?_, ?_, ?_⟩
      · have hall : ∀ c ∈ (List.range len).map fun i => (w.cells? 0 ((⟨b, o, none⟩ : Addr).add (i * P.cellsOf e)) (P.cellsOf e)).getD [], c.length = P.cellsOf e := by
          intro c hc
          obtain ⟨i, hi, rfl⟩ := List.mem_map.1 hc
          obtain ⟨c, h2, _⟩ := each i (by simpa using hi)
          rw [h2]; exact (World.cells?_some h2).2.1
        refine ⟨flat_len _ hall, .inr ⟨b, o, cap, by simp, by simpa using hlc, hcm, fun j u hu => ?_⟩⟩
        rw [flat_get hs _ hall, Option.bind_eq_some_iff] at hu
        obtain ⟨c, h1, h2⟩ := hu
        rw [List.getElem?_map, Option.map_eq_some_iff] at h1
        obtain ⟨i, h3, rfl⟩ := h1
        obtain ⟨hi, rfl⟩ : j / P.cellsOf e < len ∧ i = j / P.cellsOf e := by
          have := List.getElem?_eq_some_iff.1 h3
          obtain ⟨h, h4⟩ := this
          simp at h h4
          exact ⟨h, h4.symm⟩
        obtain ⟨c, h4, _⟩ := each _ hi
        rw [h4] at h2
        have h5 := (World.cells?_some h4).2.2 (j % P.cellsOf e) (Nat.mod_lt _ hs)
        simp only [Option.getD_some] at h2
        rw [h2, Addr.add_add, Addr.add_lit, Nat.mul_comm, Nat.div_add_mod] at h5
        exact h5
      · intro c hc
        obtain ⟨i, hi, rfl⟩ := List.mem_map.1 hc
        obtain ⟨c, h2, h3⟩ := each i (by simpa using hi)
        rw [h2]; exact ⟨(World.cells?_some h2).2.1, h3⟩
      · simpa using hbytes

end TdN
end Go

/- Arguments that are bools, texts and small numbers, opened. -/
namespace Go.Proofs.YtgcicljklejmjaaDoor
open Go.RowKit Go.WideShapes
theorem open_bool_row {H : Type} {enc : TypeId × Value → H} {P : Program} {w : World} {base : Nat} {sp : Nat → Bool} {held : Bool} {r : Reach} {b0 : Nat} {t : TypeId} {v : Value} {d : DataW H} {ps : List MemPlace} (ht : P.underlying t = some .bool) (hval : Value.okWide P w r b0 t v) (hd : DataW.Trod enc P w base sp held t v d ps) :
    ∃ b, v = .bool b ∧ d = .lit (.bool b) ∧ ps = [] := by
  obtain ⟨b, rfl⟩ := okWide_bool ht hval
  obtain ⟨fuel, hf⟩ := hd
  obtain ⟨b', h, hx⟩ := DataW.trod_bool ht hf
  simp [Value.cells] at h
  subst h
  simp only [Prod.mk.injEq] at hx
  exact ⟨b, rfl, hx.1, hx.2⟩
theorem u16_of_wf {n : Int} (h : (Lit.int .u16 n).wf = true) : 0 ≤ n ∧ n < 65536 := by
  simp only [Lit.wf, Bool.and_eq_true, IntKind.min, IntKind.max, IntKind.signed, IntKind.bits] at h
  simp at h
  omega
theorem u32_of_wf {n : Int} (h : (Lit.int .u32 n).wf = true) : 0 ≤ n ∧ n < 4294967296 := by
  simp only [Lit.wf, Bool.and_eq_true, IntKind.min, IntKind.max, IntKind.signed, IntKind.bits] at h
  simp at h
  omega
end Go.Proofs.YtgcicljklejmjaaDoor

/- Values that were handed in, opened: what reads as data of the type api.Value is a tree. -/
namespace Go.Proofs.YtgcicljklejmjaaDoor
open Go.RowKit Go.WideShapes
open Tr

theorem u8_is {n : Int} (h : (Lit.int .u8 n).wf = true) : ∃ k : UInt8, n = k.toNat := by
  obtain ⟨h1, h2⟩ := u8_of_wf h
  exact ⟨UInt8.ofNat n.toNat, by rw [UInt8.toNat_ofNat_of_lt' (show n.toNat < 256 by omega)]; omega⟩
theorem str_is (s : ByteArray) : ∃ t : List UInt8, s = ⟨t.toArray⟩ ∧ t.length = s.size := ⟨s.data.toList, rfl, Array.length_toList⟩

/-- Lists of trees out of lists of cells. -/
theorem trees_of {β : Type} {Q : β → Prop} {g : β → List Value} : ∀ (css : List (List Value)) (_ : ∀ c ∈ css, ∃ x : β, c = g x ∧ Q x), ∃ l : List β, css.flatten = l.flatMap g ∧ l.length = css.length ∧ ∀ x ∈ l, Q x
  | [], _ => ⟨[], rfl, rfl, by simp⟩
  | c :: css, h => by
    obtain ⟨x, rfl, hq⟩ := h c (.head _)
    obtain ⟨l, h1, h2, h3⟩ := trees_of css (fun c hc => h c (.tail _ hc))
    refine ⟨x :: l, by simp [h1], by simp [h2], fun y hy => ?_⟩
    rcases List.mem_cons.1 hy with rfl | hy
    · exact hq
    · exact h3 y hy

set_option maxRecDepth 100000 in
theorem td_bytes {w : World} {cs : List Value} (h : Td Tryd.prog w 22 cs) : ∃ (v : Value) (l : List UInt8), cs = [v] ∧ Sl w 1 v l.length (bvs l) ∧ l.length ≤ reachBytes := Td.bytes (e := 5) rfl rfl rfl rfl h

set_option maxRecDepth 100000 in
theorem tdn_value : ∀ (n fuel : Nat) (_ : fuel ≤ n) (w : World) (cs : List Value), TdN Tryd.prog w fuel 33 cs → ∃ x : Tr Mm, cs = x.cells ∧ Tr.Good w x := by
  intro n
  induction n with
  | zero =>
    intro fuel hf w cs h
    obtain rfl : fuel = 0 := by omega
    exact (TdN.zero h).elim
  | succ n ih =>
    intro fuel hfu w cs h
    cases fuel with
    | zero => exact (TdN.zero h).elim
    | succ m =>
    obtain ⟨hl, hf⟩ := TdN.struct rfl h
    have hl : cs.length = 7 := hl
    obtain ⟨c0, c1, c2, c3, c4, c5, c6, rfl⟩ : ∃ c0 c1 c2 c3 c4 c5 c6, cs = [c0, c1, c2, c3, c4, c5, c6] := by
      match cs, hl with
      | [c0, c1, c2, c3, c4, c5, c6], _ => exact ⟨_, _, _, _, _, _, _, rfl⟩
    have h0 := (hf 0 _ rfl).td
    have h1 := (hf 1 _ rfl).td
    have h2 := (hf 2 _ rfl).td
    have h3 := (hf 3 _ rfl).td
    have h4 := (hf 4 _ rfl).td
    have h5 := hf 5 _ rfl
    have h6 := hf 6 _ rfl
    obtain ⟨k0, e0, wf0⟩ := Td.int (k := .u8) rfl h0
    obtain ⟨b1, e1⟩ := Td.bool rfl h1
    obtain ⟨i2, e2, wf2⟩ := Td.int (k := .i64) rfl h2
    obtain ⟨s3, e3, hs3⟩ := Td.str rfl h3
    obtain ⟨v4, bs, e4, hb, hbl⟩ := td_bytes h4
    obtain ⟨v5, css, e5, hs5, hc5, hz5⟩ := TdN.slice (e := 33) rfl (by decide +kernel) h5
    obtain ⟨v6, fss, e6, hs6, hc6, hz6⟩ := TdN.slice (e := 138) rfl (by decide +kernel) h6
    have q0 : c0 = .int .u8 k0 := (List.cons.inj (show [c0] = _ from e0)).1
    have q1 : c1 = .bool b1 := (List.cons.inj (show [c1] = _ from e1)).1
    have q2 : c2 = .int .i64 i2 := (List.cons.inj (show [c2] = _ from e2)).1
    have q3 : c3 = .string s3 := (List.cons.inj (show [c3] = _ from e3)).1
    have q4 : c4 = v4 := (List.cons.inj (show [c4] = _ from e4)).1
    have q5 : c5 = v5 := (List.cons.inj (show [c5] = _ from e5)).1
    have q6 : c6 = v6 := (List.cons.inj (show [c6] = _ from e6)).1
    clear e0 e1 e2 e3 e4 e5 e6
    subst q0; subst q1; subst q2; subst q3; subst q4; subst q5; subst q6
    obtain ⟨k, rfl⟩ := u8_is wf0
    obtain ⟨t, rfl, htl⟩ := str_is s3
    obtain ⟨l, g1, g2, g3⟩ := trees_of (Q := fun x => Tr.Good w x) (g := cells) css (fun c hc => ih _ (by omega) w c (hc5 c hc).2)
    obtain ⟨f, g4, g5, g6⟩ := trees_of (Q := fun p : List UInt8 × Tr Mm => p.1.length ≤ reachBytes ∧ Tr.Good w p.2) (g := fcells) fss (fun c hc => by
      obtain ⟨hl7, hf7⟩ := TdN.struct rfl (hc6 c hc).2
      have hl7 : c.length = 8 := hl7
      obtain ⟨d0, ds, rfl⟩ : ∃ d0 ds, c = d0 :: ds := by
        match c, hl7 with
        | d0 :: ds, _ => exact ⟨_, _, rfl⟩
      have k0 := (hf7 0 _ rfl).td
      have k1 := hf7 1 _ rfl
      obtain ⟨s, e7, hs7⟩ := Td.str rfl k0
      have e7 : d0 = .string s := (List.cons.inj (show [d0] = _ from e7)).1
      subst e7
      obtain ⟨nm, rfl, hnl⟩ := str_is s
      obtain ⟨x, hx, hg⟩ := ih _ (by omega) w _ k1
      have hx : ds.take 7 = x.cells := hx
      rw [List.take_of_length_le (by simp at hl7; omega)] at hx
      exact ⟨(nm, x), by rw [hx]; rfl, by simp only; omega, hg⟩)
    refine ⟨.mk k b1 i2 t bs (c4, c5, c6) l f, rfl, _, ⟨hb, ?_, ?_, ?_, ?_, hbl, ?_, ?_, ?_, ?_, ?_⟩, fun y hy => ?_⟩
    · show Sl w 7 c5 l.length (l.flatMap cells)
      rw [g2, ← g1]; exact hs5
    · show Sl w 8 c6 f.length (f.flatMap fcells)
      rw [g5, ← g4]; exact hs6
    · obtain ⟨q1, q2⟩ := i64_of_wf wf2
      exact ⟨q1, q2⟩
    · show t.length ≤ reachBytes
      omega
    · show l.length ≤ reachBytes
      have : css.length * 104 ≤ reachBytes := hz5
      omega
    · show f.length ≤ reachBytes
      have : fss.length * 120 ≤ reachBytes := hz6
      omega
    · exact fun p hp => (g6 p hp).1
    · show l.length * 104 ≤ reachBytes
      rw [g2]; exact hz5
    · show f.length * 120 ≤ reachBytes
      rw [g5]; exact hz6
    · rcases List.mem_append.1 hy with hy | hy
      · exact g3 y hy
      · obtain ⟨p, hp, rfl⟩ := List.mem_map.1 hy
        exact (g6 p hp).2

theorem open_value {w : World} {cs : List Value} (h : Td Tryd.prog w 33 cs) : ∃ x : Tr Mm, cs = x.cells ∧ Tr.Good w x := by
  obtain ⟨fuel, h⟩ := h.at_depth
  exact tdn_value fuel fuel (Nat.le_refl _) w cs h

set_option maxRecDepth 100000 in
theorem open_values {w : World} {cs : List Value} (h : Td Tryd.prog w 25 cs) : ∃ (v : Value) (l : List (Tr Mm)), cs = [v] ∧ In w v l := by
  obtain ⟨v, css, e1, h1, h2, h3⟩ := Td.slice (e := 33) rfl (by decide +kernel) h
  obtain ⟨l, g1, g2, g3⟩ := trees_of (Q := fun x => Tr.Good w x) (g := cells) css (fun c hc => open_value (h2 c hc).2)
  have h3 : css.length * 104 ≤ reachBytes := h3
  refine ⟨v, l, e1, ⟨?_, g3, by omega, by rw [g2]; exact h3⟩⟩
  rw [g2, ← g1]; exact h1

/-- Bools that came in. -/
def bls (l : List Bool) : List Value := l.map .bool
set_option maxRecDepth 100000 in
theorem open_bools {w : World} {cs : List Value} (h : Td Tryd.prog w 23 cs) : ∃ (v : Value) (l : List Bool), cs = [v] ∧ Sl w 1 v l.length (bls l) ∧ l.length ≤ reachBytes := by
  obtain ⟨v, css, e1, h1, h2, h3⟩ := Td.slice (e := 4) rfl (by decide +kernel) h
  obtain ⟨l, g1, g2, g3⟩ := trees_of (β := Bool) (Q := fun _ => True) (g := fun b => [.bool b]) css (fun c hc => by
    obtain ⟨b, e⟩ := Td.bool rfl (h2 c hc).2
    exact ⟨b, e, trivial⟩)
  have h3 : css.length * 1 ≤ reachBytes := h3
  refine ⟨v, l, e1, ?_, by omega⟩
  have e : l.flatMap (fun b => [Value.bool b]) = bls l := by
    unfold bls
    clear g1 g2 g3
    induction l with
    | nil => rfl
    | cons a l ih => rw [List.flatMap_cons, ih]; rfl
  rw [g2, ← e, ← g1]; exact h1
end Go.Proofs.YtgcicljklejmjaaDoor

/- key.falls, key.Encode: a tuple's bytes. -/
namespace Go.Proofs.YtgcicljklejmjaaDoor
open Go.RowKit Go.Shelf
open Tr

theorem bls_at {w : World} {A : Option Addr} {c : Nat} {l : List Bool} (h : Sl w 1 (.slice A l.length c) l.length (bls l)) (k : Nat) (hk : k < l.length) : ∃ b o, A = some ⟨b, o, none⟩ ∧ w.cell? ⟨b, o + k, none⟩ = some (.bool l[k]) := by
  rcases h.2 with ⟨_, h1, h2⟩ | ⟨b, o, cap, h1, h2, h3, h4⟩
  · omega
  · cases h1
    exact ⟨b, o, rfl, h4 k _ (by unfold bls; rw [List.getElem?_map, List.getElem?_eq_getElem hk]; rfl)⟩

set_option maxRecDepth 100000 in
set_option maxHeartbeats 400000 in
theorem falls_any (w : World) (D : Value) (dl : List Bool) (i : Nat) (hd : Sl w 1 D dl.length (bls dl)) (hn : dl.length ≤ reachBytes) :
    Calls Tryd.prog 32 #[D, .int .i64 (i : Int)] w fun e w' => e = .returned (.bool (dl.getD i false)) ∧ w' = w := by
  obtain ⟨A, c, rfl, hc1, hc2⟩ := hd.form
  have hn : dl.length ≤ 140737488351232 := hn
  by_cases h : i < dl.length
  · obtain ⟨b, o, rfl, h1⟩ := bls_at hd i h
    have he : dl.getD i false = dl[i] := by simp [h]
    rw [he]
    have HD := Lib.hid hd; clear hd he
    go_enter Tryd.func32, Tryd.ntmps32
    go_wp2
    go_ret
    exact ⟨rfl, rfl⟩
  · have he : dl.getD i false = false := by simp [List.getElem?_eq_none (Nat.le_of_not_lt h)]
    rw [he]
    have HD := Lib.hid hd; clear hd he
    go_enter Tryd.func32, Tryd.ntmps32
    go_wp2
    go_ret
    exact ⟨rfl, rfl⟩

def fallsB (dl : List Bool) (i : Nat) : Bool := dl.getD i false

/-- What Encode says. -/
def EncOut (dl : List Bool) (l : List (Tr Mm)) (w : World) (e : Ending) (w' : World) : Prop :=
  Fr no w w' ∧ ((tupErr l = 0 ∧ ∃ A n, e = .returned (.tuple #[.slice A n n, .int .u16 0]) ∧ n = (encT (fallsB dl) 0 l).length ∧ Ow w' 5 1 (.slice A n n) n (bvs (encT (fallsB dl) 0 l)) ∧ ∀ k, Value.ownBlock (.slice A n n) = some k → w.heap.size ≤ k)
    ∨ (tupErr l ≠ 0 ∧ e = .returned (.tuple #[.slice none 0 0, .int .u16 (tupErr l)])))

theorem tupErr_at {l : List (Tr Mm)} {j : Nat} (hn : l.length ≤ 4) (hj : j < l.length) (h0 : ∀ i (hi : i < l.length), i < j → oneErr l[i] = 0) (hne : oneErr l[j] ≠ 0) : tupErr l = oneErr l[j] := by
  have h1 : firstErr (l.map oneErr) = oneErr l[j] := by
    rw [firstErr_at (i := j) (by simpa using hj) (fun i hi h => by simpa using h0 i (by simpa using hi) h) (by simpa using hne)]
    simp
  unfold tupErr
  rw [if_neg (by omega), h1, if_pos hne]
theorem encT_snoc (d : Nat → Bool) {l : List (Tr Mm)} {j : Nat} (hj : j < l.length) : encT d 0 (l.take (j + 1)) = encT d 0 (l.take j) ++ encD (d j) l[j] := by
  have h : ∀ (k : Nat) (a : List (Tr Mm)) (x : Tr Mm), encT d k (a ++ [x]) = encT d k a ++ encD (d (k + a.length)) x := by
    intro k a
    induction a generalizing k with
    | nil => intro x; simp [encT]
    | cons y a ih => intro x; simp only [List.cons_append, encT, ih, List.append_assoc, List.length_cons]; rw [show k + 1 + a.length = k + (a.length + 1) by omega]
  rw [List.take_succ_eq_append_getElem hj, h, List.length_take, Nat.min_eq_left (Nat.le_of_lt hj), Nat.zero_add]
theorem encT_le (d : Nat → Bool) (l : List (Tr Mm)) (h : ∀ x ∈ l, oneErr x = 0) (i : Nat) : (encT d i l).length ≤ 160 * l.length := by
  induction l generalizing i with
  | nil => simp [encT]
  | cons x l ih =>
    have h1 := (oneErr_zero.1 (h x (.head _))).2.2
    have h2 := ih (fun y hy => h y (.tail _ hy)) (i + 1)
    simp only [encT, List.length_append, encD_len, List.length_cons]
    omega

set_option maxRecDepth 100000 in
set_option maxHeartbeats 4000000 in
theorem encode_any (w : World) (X D : Value) (l : List (Tr Mm)) (dl : List Bool) (hx : In w X l) (hd : Sl w 1 D dl.length (bls dl)) (hdn : dl.length ≤ reachBytes) (hT : Tabs w) :
    Calls Tryd.prog 26 #[X, D] w fun e w' => EncOut dl l w e w' := by
  obtain ⟨A, c, rfl, hc1, hc2⟩ := hx.sl.form
  obtain ⟨DA, dc, rfl, hd1, hd2⟩ := hd.form
  have hnl : l.length ≤ 140737488351232 := hx.n
  have HX := Lib.hid hx; have HD := Lib.hid hd; have HDN := Lib.hid hdn; have HT := Lib.hid hT
  clear hx hd hdn hT
  by_cases hn : l.length ≤ 4
  · go_enter Tryd.func26, Tryd.ntmps26
    go_wp2
    go_loopw [6, 16] (fun bv iv wr => ∃ (j n : Nat) (B : Option Addr) (bc : Nat), j ≤ l.length ∧ iv = .int .i64 j ∧ bv = .slice B n bc ∧ n = (encT (fallsB dl) 0 (l.take j)).length ∧ Ow wr 5 1 (.slice B n bc) n (bvs (encT (fallsB dl) 0 (l.take j))) ∧ (∀ k, Value.ownBlock (.slice B n bc) = some k → w.heap.size ≤ k) ∧ Fr no w wr ∧ (∀ i (hi : i < l.length), i < j → oneErr l[i] = 0)) (fun _ iv _ => l.length - (intOf iv).toNat)
    case atStart => exact ⟨0, 0, none, 0, Nat.zero_le _, rfl, rfl, by simp [encT], ⟨by simp [encT, bvs], .inl ⟨rfl, rfl⟩⟩, (fun _ h => nomatch h), Fr.refl _ _, fun i _ h => by omega⟩
    case round =>
      obtain ⟨j, n, B, bc, hj, rfl, rfl, hnn, how, hfs, hfr, h0⟩ := hrel
      have hnb : n ≤ 640 := by
        have := encT_le (fallsB dl) (l.take j) (fun x hx => by
          obtain ⟨i, hi, rfl⟩ := List.getElem_of_mem hx
          rw [List.getElem_take]
          rw [List.length_take] at hi
          exact h0 i (by omega) (by omega)) 0
        rw [List.length_take] at this
        omega
      by_cases hlt : j < l.length
      · have hX := HX.out.kept0 hfr
        obtain ⟨b, o, KB, kb, KL, kl, KF, kf, rfl, hfj, q0, q1, q2, q3, q4, q5, q6, hgl⟩ := In.get hX j hlt
        have hfal := fun W (f : Fr no w W) => falls_any W (.slice DA dl.length dc) dl j (HD.out.kept0 f) HDN.out
        have hone := fun W (f : Fr no wr W) => one_any W l[j] (dl.getD j false) ((hX.good _ (List.getElem_mem _)).kept0 f) ((HT.out.kept0 hfr).kept0 f)
        rw [hfj.agg] at hone
        have HFAL := Lib.hid hfal; have HONE := Lib.hid hone; have HFR := Lib.hid hfr; have HOW := Lib.hid how; have HFS := Lib.hid hfs; have H0 := Lib.hid h0; have HNN := Lib.hid hnn
        clear hfal hone hfr hX hfj how hfs h0 hnn
        go_wp2_with fail
        refine wp_region_ord (List.range 10) (fun i => [Kd.l, Kd.p, Kd.p, Kd.g, Kd.g, Kd.p, Kd.p, Kd.p, Kd.p, Kd.p].getD i .e) (by kernel_rfl) (by kernel_rfl) ?_
        iterate 3
          first | refine wpX_pu rfl rfl rfl (by first | exact pu_move rfl | exact pu_assign rfl | exact pu_nilCheck rfl rfl | exact pu_binInt rfl rfl rfl | exact pu_conv rfl rfl (by kernel_rfl) | exact pu_fld rfl (by kernel_rfl) | exact pu_ix rfl rfl rfl (by kernel_rfl) | exact pu_unOp rfl | exact pu_binStr rfl rfl rfl | exact pu_len rfl rfl | exact pu_lens rfl rfl | exact pu_pick rfl | exact pu_slice rfl rfl) (fun K hK => ?_) | refine wpX_rd rfl rfl rfl (rd_load rfl) (fun K hK => ?_) | refine wpX_gr rfl rfl rfl (by first | exact gr_buildSlice rfl | exact gr_box rfl | exact gr_alloc rfl) (fun K hK => ?_) | refine wpX_ex rfl rfl rfl (fun K hK => ?_)
          try go_wp2
        refine wpX_ca rfl rfl rfl (fun K hK => ?_)
        go_wp2_with fail
        refine (HFAL.out _ (HFR.out.trans (by (repeat first | exact Fr.refl _ _ | exact Fr.drewN _ _ _ | apply Fr.drew | apply Fr.alloc | apply Fr.setAt | apply Fr.moreN) : Fr no wr _) (fun _ _ h => h))).mono ?_
        rintro e w2 ⟨rfl, rfl⟩
        go_wp2
        refine ⟨⟨#[], _, (World.ext_self _).symm⟩, hK _ _ ?_⟩
        clear hK K
        refine wpX_ca rfl rfl rfl (fun K hK => ?_)
        go_wp2_with fail
        refine (HONE.out _ (by (repeat first | exact Fr.refl _ _ | exact Fr.drewN _ _ _ | apply Fr.drew | apply Fr.alloc | apply Fr.setAt | apply Fr.moreN))).mono ?_
        rintro e w5 ⟨f5, ⟨hoj, E, en, rfl, hel, hoe, hfe⟩ | ⟨hne, rfl⟩⟩
        · have F50 := Lib.hid f5; have F5 := Lib.hid ((by (repeat first | exact Fr.refl _ _ | exact Fr.drewN _ _ _ | apply Fr.drew | apply Fr.alloc | apply Fr.setAt | apply Fr.moreN) : Fr no wr _).trans f5 (fun _ _ h => h)); have HOJ := Lib.hid hoj; have HEL := Lib.hid hel; have HOE := Lib.hid hoe; have HFE := Lib.hid hfe
          have henl : en ≤ 160 := by rw [hel, encD_len]; exact (oneErr_zero.1 hoj).2.2
          clear f5 hoj hel hoe hfe
          go_wp2
          obtain ⟨⟨xa, xb⟩, hext⟩ := F50.out.ext
          refine ⟨⟨xa, xb, hext⟩, hK _ _ ?_⟩
          clear hK K hext xa xb
          first | refine wpX_pu rfl rfl rfl (by first | exact pu_move rfl | exact pu_assign rfl | exact pu_nilCheck rfl rfl | exact pu_binInt rfl rfl rfl | exact pu_conv rfl rfl (by kernel_rfl) | exact pu_fld rfl (by kernel_rfl) | exact pu_ix rfl rfl rfl (by kernel_rfl) | exact pu_unOp rfl | exact pu_binStr rfl rfl rfl | exact pu_len rfl rfl | exact pu_lens rfl rfl | exact pu_pick rfl | exact pu_slice rfl rfl) (fun K hK => ?_) | refine wpX_rd rfl rfl rfl (rd_load rfl) (fun K hK => ?_) | refine wpX_gr rfl rfl rfl (by first | exact gr_buildSlice rfl | exact gr_box rfl | exact gr_alloc rfl) (fun K hK => ?_) | refine wpX_ex rfl rfl rfl (fun K hK => ?_)
          try go_wp2
          refine wpX_pv (.slice E en en) rfl rfl rfl (fun w' => by first | rfl | simp [execOp, Act.eval]) ?_
          refine wpX_pv (.int .u16 0) rfl rfl rfl (fun w' => by first | rfl | simp [execOp, Act.eval]) ?_
          go_simp
          iterate 2
            first | refine wpX_pu rfl rfl rfl (by first | exact pu_move rfl | exact pu_assign rfl | exact pu_nilCheck rfl rfl | exact pu_binInt rfl rfl rfl | exact pu_conv rfl rfl (by kernel_rfl) | exact pu_fld rfl (by kernel_rfl) | exact pu_ix rfl rfl rfl (by kernel_rfl) | exact pu_unOp rfl | exact pu_binStr rfl rfl rfl | exact pu_len rfl rfl | exact pu_lens rfl rfl | exact pu_pick rfl | exact pu_slice rfl rfl) (fun K hK => ?_) | refine wpX_rd rfl rfl rfl (rd_load rfl) (fun K hK => ?_) | refine wpX_gr rfl rfl rfl (by first | exact gr_buildSlice rfl | exact gr_box rfl | exact gr_alloc rfl) (fun K hK => ?_) | refine wpX_ex rfl rfl rfl (fun K hK => ?_)
            try go_wp2
          refine wpX_done ?_
          have gne : ((0 : Int) != 0) = false := rfl
          go_wp2_with (at_builtin; refine wpList_apo (n := n) (xs := bvs (encT (fallsB dl) 0 (l.take j))) (m := en) (news := bvs (encD (dl.getD j false) l[j])) rfl (.tmp 32) (.tmp 33) 22 rfl tbB ((HOW.out.kept0 F5.out)) HOE.out.sl rfl rfl (bvs_one _) ?b1 ?b2 ?go)
          case b1 => simp only [maxLen]; omega
          case b2 => omega
          case go =>
            intro A' N c' w7 hN ho7 _ hf7 hs7
            subst hN
            have hown : ∀ k, Value.ownBlock (.slice A' (n + en) c') = some k → w.heap.size ≤ k := fun k hk => by
              rcases stays_own hs7 k hk with h | h
              · exact HFS.out k h
              · have h1 := HFR.out.size; have h2 := F5.out.size; omega
            have hfr7 : Fr no w w7 := (HFR.out.trans F5.out (fun _ _ h => h)).trans hf7 (fun k hk h => by have := HFS.out k h; omega)
            have hes : encT (fallsB dl) 0 (l.take (j + 1)) = encT (fallsB dl) 0 (l.take j) ++ encD (dl.getD j false) l[j] := encT_snoc (fallsB dl) hlt
            have HO7 := Lib.hid ho7; have HF7 := Lib.hid hfr7; have HOWN := Lib.hid hown; have HES := Lib.hid hes
            clear ho7 hf7 hs7 hown hfr7 hes
            go_wp2
            go_roundw
            case rel => exact ⟨j + 1, n + en, A', c', by omega, by go_num, rfl, by rw [HES.out, List.length_append, HNN.out, HEL.out], by rw [HES.out, bvs_append]; exact HO7.out, HOWN.out, HF7.out, fun i hi h => by
              by_cases hij : i = j
              · subst hij; exact HOJ.out
              · exact H0.out i hi (by omega)⟩
            case measure => simp [intOf]; omega
        · have HNE := Lib.hid hne; have F50 := Lib.hid f5; have F5 := Lib.hid ((by (repeat first | exact Fr.refl _ _ | exact Fr.drewN _ _ _ | apply Fr.drew | apply Fr.alloc | apply Fr.setAt | apply Fr.moreN) : Fr no wr _).trans f5 (fun _ _ h => h))
          have gne : ((oneErr l[j] : Int) != 0) = true := by rw [bne_iff_ne]; omega
          clear hne f5
          go_wp2
          obtain ⟨⟨xa, xb⟩, hext⟩ := F50.out.ext
          refine ⟨⟨xa, xb, hext⟩, hK _ _ ?_⟩
          clear hK K hext xa xb
          first | refine wpX_pu rfl rfl rfl (by first | exact pu_move rfl | exact pu_assign rfl | exact pu_nilCheck rfl rfl | exact pu_binInt rfl rfl rfl | exact pu_conv rfl rfl (by kernel_rfl) | exact pu_fld rfl (by kernel_rfl) | exact pu_ix rfl rfl rfl (by kernel_rfl) | exact pu_unOp rfl | exact pu_binStr rfl rfl rfl | exact pu_len rfl rfl | exact pu_lens rfl rfl | exact pu_pick rfl | exact pu_slice rfl rfl) (fun K hK => ?_) | refine wpX_rd rfl rfl rfl (rd_load rfl) (fun K hK => ?_) | refine wpX_gr rfl rfl rfl (by first | exact gr_buildSlice rfl | exact gr_box rfl | exact gr_alloc rfl) (fun K hK => ?_) | refine wpX_ex rfl rfl rfl (fun K hK => ?_)
          try go_wp2
          refine wpX_pv (.slice none 0 0) rfl rfl rfl (fun w' => by first | rfl | simp [execOp, Act.eval]) ?_
          refine wpX_pv (.int .u16 (oneErr l[j])) rfl rfl rfl (fun w' => by first | rfl | simp [execOp, Act.eval]) ?_
          go_simp
          iterate 2
            first | refine wpX_pu rfl rfl rfl (by first | exact pu_move rfl | exact pu_assign rfl | exact pu_nilCheck rfl rfl | exact pu_binInt rfl rfl rfl | exact pu_conv rfl rfl (by kernel_rfl) | exact pu_fld rfl (by kernel_rfl) | exact pu_ix rfl rfl rfl (by kernel_rfl) | exact pu_unOp rfl | exact pu_binStr rfl rfl rfl | exact pu_len rfl rfl | exact pu_lens rfl rfl | exact pu_pick rfl | exact pu_slice rfl rfl) (fun K hK => ?_) | refine wpX_rd rfl rfl rfl (rd_load rfl) (fun K hK => ?_) | refine wpX_gr rfl rfl rfl (by first | exact gr_buildSlice rfl | exact gr_box rfl | exact gr_alloc rfl) (fun K hK => ?_) | refine wpX_ex rfl rfl rfl (fun K hK => ?_)
            try go_wp2
          refine wpX_done ?_
          go_wp2
          go_ret2
          have ht := tupErr_at hn hlt H0.out HNE.out
          exact ⟨HFR.out.trans F5.out (fun _ _ h => h), .inr ⟨by rw [ht]; exact HNE.out, by rw [ht]; rfl⟩⟩
      · obtain rfl : j = l.length := by omega
        rw [List.take_length] at hnn how
        have he0 : firstErr (l.map oneErr) = 0 := firstErr_zero.2 (fun e he => by
          obtain ⟨x, hx, rfl⟩ := List.mem_map.1 he
          obtain ⟨i, hi, rfl⟩ := List.getElem_of_mem hx
          exact h0 i hi hi)
        by_cases hlong : 160 < n
        · have ht : tupErr l = 42 := by
            unfold tupErr
            rw [if_neg (by omega), if_neg (by omega), if_pos (by rw [encT_len (fun _ => false) 0 0 l, ← encT_len (fallsB dl) 0 0 l]; omega)]
          have HT1 := Lib.hid ht; have HFR := Lib.hid hfr
          clear ht hfr how hfs h0 hnn he0
          go_wp2
          go_ret2
          exact ⟨HFR.out, .inr ⟨by rw [HT1.out]; omega, by rw [HT1.out]; rfl⟩⟩
        · have ht : tupErr l = 0 := by
            unfold tupErr
            rw [if_neg (by omega), if_neg (by omega), if_neg (by rw [← encT_len (fallsB dl) 0 0 l]; omega)]
          have hbc : n ≤ bc := by
            obtain ⟨A', c', h1, h2, _⟩ := how.sl.form
            cases h1; exact h2
          have owc := own_clip how
          have hfs2 : ∀ k, Value.ownBlock (.slice B n n) = some k → w.heap.size ≤ k := fun k hk => hfs k (by cases B <;> exact hk)
          have HT1 := Lib.hid ht; have HFR := Lib.hid hfr; have OWC := Lib.hid owc; have HNN := Lib.hid hnn; have HFS := Lib.hid hfs2
          clear ht hfr how hfs h0 hnn he0 owc hfs2
          go_wp2_with fail
          refine (bclip_any wr B n bc hbc).mono ?_
          rintro e w9 ⟨rfl, hw⟩
          subst w9
          go_wp2
          go_ret2
          exact ⟨HFR.out, .inl ⟨HT1.out, B, n, rfl, HNN.out, OWC.out, HFS.out⟩⟩
  · have ht : tupErr l = 1 := by unfold tupErr; rw [if_pos (by omega)]
    have HT1 := Lib.hid ht; clear ht
    go_enter Tryd.func26, Tryd.ntmps26
    go_wp2
    go_ret2
    exact ⟨Fr.refl _ _, .inr ⟨by rw [HT1.out]; omega, by rw [HT1.out]; rfl⟩⟩
end Go.Proofs.YtgcicljklejmjaaDoor

/- key.Decode: the tuple that bytes are. -/
namespace Go.Proofs.YtgcicljklejmjaaDoor
open Go.RowKit Go.Shelf
open Tr

/-- A row of values of one's own, all blocks from lo on. -/
structure VRow (lo : Nat) (w : World) (ys : List (Tr Mm)) (A : Option Addr) (c : Nat) : Prop where
  ow : Ow w 33 7 (.slice A ys.length c) ys.length (ys.flatMap cells)
  own : ∀ k, Value.ownBlock (.slice A ys.length c) = some k → lo ≤ k
  each : ∀ y ∈ ys, Tr.Own w y
  good : ∀ y ∈ ys, Tr.Good w y
  pw : ys.Pairwise fun y z => ∀ k, Blk y k → ¬ Blk z k
  yn : ∀ y ∈ ys, ∀ k, Blk y k → lo ≤ k ∧ Value.ownBlock (.slice A ys.length c) ≠ some k
theorem VRow.nil (lo : Nat) (w : World) : VRow lo w [] none 0 := ⟨ow_none _ _ _, (fun _ h => nomatch h), (fun _ h => nomatch h), (fun _ h => nomatch h), List.Pairwise.nil, (fun _ h => nomatch h)⟩
theorem VRow.kept {lo : Nat} {w w1 : World} {ys : List (Tr Mm)} {A : Option Addr} {c : Nat} (h : VRow lo w ys A c) (f : Fr no w w1) : VRow lo w1 ys A c :=
  ⟨h.ow.kept0 f, h.own, fun y hy => (h.each y hy).kept0 f, fun y hy => (h.good y hy).kept0 f, h.pw, h.yn⟩
theorem VRow.clip {lo : Nat} {w : World} {ys : List (Tr Mm)} {A : Option Addr} {c : Nat} (h : VRow lo w ys A c) : VRow lo w ys A ys.length :=
  ⟨own_clip h.ow, fun k hk => h.own k (by cases A <;> exact hk), h.each, h.good, h.pw, fun y hy k hk => ⟨(h.yn y hy k hk).1, fun e => (h.yn y hy k hk).2 (by cases A <;> exact e)⟩⟩
theorem VRow.inn {lo : Nat} {w : World} {ys : List (Tr Mm)} {A : Option Addr} {c : Nat} (h : VRow lo w ys A c) (hn : ys.length ≤ 1000000000) : In w (.slice A ys.length c) ys :=
  ⟨h.ow.sl, h.good, by simp only [reachBytes]; omega, by simp only [reachBytes]; omega⟩

/-- A value more. -/
theorem VRow.push {lo : Nat} {w w5 W6 w7 : World} {ys : List (Tr Mm)} {A A' : Option Addr} {c c' : Nat} {y : Tr Mm} (h : VRow lo w ys A c) (hlo : lo ≤ w.heap.size) (f5 : Fr no w w5) (ho : Tr.Own w5 y) (hg : Tr.Good w5 y) (hb : ∀ k, Blk y k → w.heap.size ≤ k)
    (f6 : Fr no w5 W6) (o7 : Ow w7 33 7 (.slice A' (ys.length + 1) c') (ys.length + 1) (ys.flatMap cells ++ y.cells)) (f7 : Fr (fun k => Value.ownBlock (.slice A ys.length c) = some k) W6 w7) (st : Stays W6 w7 (.slice A ys.length c) (.slice A' (ys.length + 1) c') ys.length (ys.length + 1)) :
    VRow lo w7 (ys ++ [y]) A' c' := by
  have e1 : (ys ++ [y]).length = ys.length + 1 := by simp
  have hs5 := f5.size; have hs6 := f6.size
  have hnot := stays_own st
  have hz : ∀ z ∈ ys, Tr.Own w7 z := fun z hz => (((h.each z hz).kept0 f5).kept0 f6).kept f7 (fun k hk h1 => (h.yn z hz k hk).2 h1)
  have hy : Tr.Own w7 y := (ho.kept0 f6).kept f7 (fun k hk h1 => by have := h.ow.lt k h1; have := hb k hk; omega)
  refine ⟨?_, ?_, ?_, ?_, ?_, ?_⟩
  · rw [e1, List.flatMap_append, List.flatMap_singleton]; exact o7
  · rw [e1]
    intro k hk
    rcases hnot k hk with h1 | h1
    · exact h.own k h1
    · omega
  · intro z hzm
    rcases List.mem_append.1 hzm with hzm | hzm
    · exact hz z hzm
    · rw [List.mem_singleton.1 hzm]; exact hy
  · intro z hzm
    rcases List.mem_append.1 hzm with hzm | hzm
    · exact (hz z hzm).good rfl (h.good z hzm)
    · rw [List.mem_singleton.1 hzm]; exact hy.good rfl hg
  · refine List.pairwise_append.2 ⟨h.pw, List.pairwise_singleton _ _, fun z hz z' hz' k hk hk2 => ?_⟩
    rw [List.mem_singleton.1 hz'] at hk2
    have := (h.each z hz).lt k hk; have := hb k hk2; omega
  · intro z hz k hk
    rw [e1]
    rcases List.mem_append.1 hz with hz | hz
    · refine ⟨(h.yn z hz k hk).1, fun h1 => ?_⟩
      rcases hnot k h1 with h2 | h2
      · exact (h.yn z hz k hk).2 h2
      · have := (h.each z hz).lt k hk; omega
    · rw [List.mem_singleton.1 hz] at hk
      refine ⟨by have := hb k hk; omega, fun h1 => ?_⟩
      rcases hnot k h1 with h2 | h2
      · have := h.ow.lt k h2; have := hb k hk; omega
      · have := ho.lt k hk; omega

/-- What Decode says. -/
def DecOut (dl : List Bool) (b : List UInt8) (w : World) (e : Ending) (w' : World) : Prop :=
  Fr no w w' ∧ ((∃ ys A n, decT (fallsB dl) b.length 0 b = .ok (ys.map bare) ∧ n = ys.length ∧ n ≤ 4 ∧ e = .returned (.tuple #[.slice A n n, .int .u16 0, .int .i64 0]) ∧ VRow w.heap.size w' ys A n)
    ∨ ∃ m, decT (fallsB dl) b.length 0 b = .error m ∧ m ≤ b.length ∧ e = .returned (.tuple #[.slice none 0 0, .int .u16 40, .int .i64 ((b.length - m : Nat) : Int)]))

/-- How far Decode has come: the values so far, the bytes left. -/
def DecAt (d : Nat → Bool) (b : List UInt8) (ys : List (Tr Mm)) (s : List UInt8) : Prop :=
  ∃ n, s.length ≤ n ∧ decT d b.length 0 b = match decT d n ys.length s with | .error m => .error m | .ok l => .ok (ys.map bare ++ l)
theorem DecAt.first (d : Nat → Bool) (b : List UInt8) : DecAt d b [] b := ⟨b.length, Nat.le_refl _, by
  show _ = match decT d b.length 0 b with | .error m => Except.error m | .ok l => .ok ([] ++ l)
  cases decT d b.length 0 b <;> rfl⟩
theorem DecAt.done {d : Nat → Bool} {b : List UInt8} {ys : List (Tr Mm)} (h : DecAt d b ys []) : decT d b.length 0 b = .ok (ys.map bare) := by
  obtain ⟨n, _, h⟩ := h
  rw [h]
  cases n <;> simp [decT]
theorem DecAt.none {d : Nat → Bool} {b s : List UInt8} {ys : List (Tr Mm)} (h : DecAt d b ys s) (hs : s ≠ []) (he : splitE (d ys.length) s = .none) : decT d b.length 0 b = .error s.length := by
  obtain ⟨n, hn, h⟩ := h
  cases n with
  | zero => exact absurd (List.eq_nil_of_length_eq_zero (by omega)) hs
  | succ n => rw [h, decT_cons hs, he]
theorem DecAt.many {d : Nat → Bool} {b s : List UInt8} {ys : List (Tr Mm)} (h : DecAt d b ys s) (hs : s ≠ []) (h4 : ys.length = 4) : decT d b.length 0 b = .error s.length := by
  obtain ⟨n, hn, h⟩ := h
  cases n with
  | zero => exact absurd (List.eq_nil_of_length_eq_zero (by omega)) hs
  | succ n =>
    rw [h, decT_cons hs]
    cases splitE (d ys.length) s with
    | none => rfl
    | some p => simp only [if_pos h4]
theorem DecAt.next {d : Nat → Bool} {b s t : List UInt8} {ys : List (Tr Mm)} {y : Tr Mm} (h : DecAt d b ys s) (hs : s ≠ []) (h4 : ys.length ≠ 4) (he : splitE (d ys.length) s = some (bare y, t)) : DecAt d b (ys ++ [y]) t := by
  obtain ⟨n, hn, h⟩ := h
  have hlt := splitE_less he
  cases n with
  | zero => exact absurd (List.eq_nil_of_length_eq_zero (by omega)) hs
  | succ n =>
    refine ⟨n, by omega, ?_⟩
    rw [h, decT_cons hs, he]
    simp only [if_neg h4, List.length_append, List.length_singleton]
    cases decT d n (ys.length + 1) t <;> simp

set_option maxRecDepth 100000 in
set_option maxHeartbeats 4000000 in
theorem decode_any (w : World) (X D : Value) (b : List UInt8) (dl : List Bool) (hx : Sl w 1 X b.length (bvs b)) (hl : b.length ≤ 1000000000) (hX : ∀ k, X.ownBlock = some k → k < w.heap.size) (hd : Sl w 1 D dl.length (bls dl)) (hdn : dl.length ≤ reachBytes) (hT : Tabs w) :
    Calls Tryd.prog 11 #[X, D] w fun e w' => DecOut dl b w e w' := by
  obtain ⟨A, c, rfl, hc1, hc2⟩ := hx.form
  obtain ⟨DA, dc, rfl, hd1, hd2⟩ := hd.form
  have HX := Lib.hid hx; have HD := Lib.hid hd; have HDN := Lib.hid hdn; have HT := Lib.hid hT; have HXB := Lib.hid hX
  clear hx hd hdn hT hX
  go_enter Tryd.func11, Tryd.ntmps11
  go_wp2
  go_loopw [7, 8] (fun ov rv wr => ∃ (ys : List (Tr Mm)) (s : List UInt8) (O R : Option Addr) (oc rc : Nat), ov = .slice O ys.length oc ∧ rv = .slice R s.length rc ∧ ys.length ≤ 4 ∧ s.length ≤ b.length ∧ DecAt (fallsB dl) b ys s ∧ VRow w.heap.size wr ys O oc ∧
    Sl wr 1 (.slice R s.length rc) s.length (bvs s) ∧ (∀ k, Value.ownBlock (.slice R s.length rc) = some k → k < wr.heap.size ∧ Value.ownBlock (.slice O ys.length oc) ≠ some k) ∧ Fr no w wr) (fun _ rv _ => match rv with | .slice _ n _ => n | _ => 0)
  case atStart => exact ⟨[], b, none, A, 0, c, rfl, rfl, by simp, Nat.le_refl _, DecAt.first _ _, VRow.nil _ _, HX.out, fun k hk => ⟨HXB.out k hk, fun h => nomatch h⟩, Fr.refl _ _⟩
  case round =>
    obtain ⟨ys, s, O, R, oc, rc, rfl, rfl, h4, hsl, hda, hvr, hrs, hrn, hfr⟩ := hrel
    cases s with
    | nil =>
      have hnc : ys.length ≤ oc := by
        obtain ⟨A', c', h1, h2, _⟩ := hvr.ow.sl.form
        cases h1; exact h2
      have HDA := Lib.hid hda; have HVR := Lib.hid hvr; have HFR := Lib.hid hfr
      clear hda hvr hfr hrs hrn
      go_wp2_with fail
      refine (scpV_any wr O ys.length oc hnc).mono ?_
      rintro e w9 ⟨rfl, hw⟩
      subst w9
      go_wp2
      go_ret3
      exact ⟨HFR.out, .inl ⟨ys, O, ys.length, HDA.out.done, rfl, h4, rfl, HVR.out.clip⟩⟩
    | cons c0 s =>
      have hfal := fun W (f : Fr no w W) => falls_any W (.slice DA dl.length dc) dl ys.length (HD.out.kept0 f) HDN.out
      have hspl := fun down => split_any wr (.slice R (c0 :: s).length rc) (c0 :: s) down hrs (by omega) (HT.out.kept0 hfr) (fun k hk => (hrn k hk).1)
      have hne : (c0 :: s) ≠ [] := by simp
      have HFAL := Lib.hid hfal; have HSPL := Lib.hid hspl; have HDA := Lib.hid hda; have HVR := Lib.hid hvr; have HFR := Lib.hid hfr; have HRN := Lib.hid hrn; have HNE := Lib.hid hne; have HRS := Lib.hid hrs
      clear hfal hspl hda hvr hfr hrn hne hrs
      simp only [List.length_cons] at hsl
      have hi1 : IntKind.i64.wrap ((b.length : Int) - ((s.length : Int) + 1)) = ((b.length - (s.length + 1) : Nat) : Int) := by
        rw [show (b.length : Int) - ((s.length : Int) + 1) = ((b.length - (s.length + 1) : Nat) : Int) by omega]
        exact IntWalk.i64_in _ ⟨by omega, by omega⟩
      go_wp2_with fail
      refine (HFAL.out wr HFR.out).mono ?_
      rintro e w2 ⟨rfl, rfl⟩
      go_wp2_with fail
      refine (HSPL.out _).mono ?_
      rintro e w5 ⟨f5, ⟨y, t, T, n, hsp, hn, rfl, hoy, hgy, hby, hot, htn⟩ | ⟨hsp, rfl⟩⟩
      · obtain ⟨YB, yb, YL, yl, YF, yf, hfy⟩ := hgy.node.forms
        rw [hfy.agg]
        have hyc : y.cells = [.int .u8 y.k.toNat, .bool y.b, .int .i64 y.i, .string ⟨y.t.toArray⟩, .slice YB y.bs.length yb, .slice YL y.l.length yl, .slice YF y.f.length yf] := by unfold cells; rw [hfy.B, hfy.L, hfy.F]
        have htl := splitE_less hsp
        simp only [List.length_cons] at htl
        have HSP := Lib.hid hsp; have HN := Lib.hid hn; have F5 := Lib.hid f5; have HOY := Lib.hid hoy; have HGY := Lib.hid hgy; have HBY := Lib.hid hby; have HOT := Lib.hid hot; have HTN := Lib.hid htn; have HYC := Lib.hid hyc
        clear hsp hn f5 hoy hgy hby hot htn hyc hfy
        by_cases h44 : ys.length = 4
        · have hde := HDA.out.many HNE.out h44
          have HDE := Lib.hid hde
          have g4 : ((ys.length : Int) == 4) = true := by rw [h44]; rfl
          have gne : ((0 : Int) != 0) = false := rfl
          clear hde h44
          go_wp2
          go_ret3
          exact ⟨(HFR.out.trans F5.out (fun _ _ h => h)).alloc _, .inr ⟨_, HDE.out, by simp only [List.length_cons]; omega, rfl⟩⟩
        · have g4 : ((ys.length : Int) == 4) = false := by rw [beq_eq_false_iff_ne]; omega
          have gne : ((0 : Int) != 0) = false := rfl
          have hal := (Fr.refl no w5).alloc (.cells #[.int .u8 y.k.toNat, .bool y.b, .int .i64 y.i, .string ⟨y.t.toArray⟩, .slice YB y.bs.length yb, .slice YL y.l.length yl, .slice YF y.f.length yf] 33)
          have hal2 := hal.alloc (.cells #[.int .u8 y.k.toNat, .bool y.b, .int .i64 y.i, .string ⟨y.t.toArray⟩, .slice YB y.bs.length yb, .slice YL y.l.length yl, .slice YF y.f.length yf] 33)
          have hbx := built7 (w5.alloc (.cells #[.int .u8 y.k.toNat, .bool y.b, .int .i64 y.i, .string ⟨y.t.toArray⟩, .slice YB y.bs.length yb, .slice YL y.l.length yl, .slice YF y.f.length yf] 33)) (.int .u8 y.k.toNat) (.bool y.b) (.int .i64 y.i) (.string ⟨y.t.toArray⟩) (.slice YB y.bs.length yb) (.slice YL y.l.length yl) (.slice YF y.f.length yf) 33
          rw [World.size_alloc] at hbx
          have HBX := Lib.hid hbx; clear hbx
          have HAL := Lib.hid hal2; have H44 := Lib.hid h44
          clear hal hal2 h44
          go_wp2_with (at_builtin; refine wpList_apo (n := ys.length) (xs := ys.flatMap cells) (m := 1) (news := [.int .u8 y.k.toNat, .bool y.b, .int .i64 y.i, .string ⟨y.t.toArray⟩, .slice YB y.bs.length yb, .slice YL y.l.length yl, .slice YF y.f.length yf]) rfl (.tmp 38) (.tmp 40) 25 rfl tbV (((HVR.out.ow.kept0 F5.out).kept0 HAL.out)) HBX.out rfl rfl (by intro u hu; simp only [List.mem_cons, List.not_mem_nil, or_false] at hu; rcases hu with rfl | rfl | rfl | rfl | rfl | rfl | rfl <;> rfl) ?b1 ?b2 ?go)
          case b1 => simp only [maxLen]; omega
          case b2 => omega
          case go =>
            intro A' N c' w7 hN ho7 _ hf7 hs7
            subst hN
            have hlo := HFR.out.size
            have hpu := HVR.out.push hlo F5.out HOY.out HGY.out (show ∀ k, Blk y k → w2.heap.size ≤ k from HBY.out) HAL.out (by rw [HYC.out]; exact ho7) hf7 hs7
            have hfr7 : Fr no w w7 := ((HFR.out.trans F5.out (fun _ _ h => h)).trans HAL.out (fun _ _ h => h)).trans hf7 (fun k hk h => by have := HVR.out.own k h; omega)
            have hsl7 : Sl w7 1 (.slice T n n) n (bvs t) := ((HOT.out.kept0 HAL.out).kept hf7 (fun k hk h => by have h1 := (HTN.out k hk).1; have h2 := HVR.out.ow.lt k h; omega)).sl
            have hrn7 : ∀ k, Value.ownBlock (.slice T n n) = some k → k < w7.heap.size ∧ Value.ownBlock (.slice A' (ys.length + 1) c') ≠ some k := fun k hk => by
              have h0 := HOT.out.lt k hk
              have h1 := HAL.out.size; have h2 := hf7.size
              refine ⟨by omega, fun h => ?_⟩
              rcases stays_own hs7 k h with h3 | h3
              · have h4 := HVR.out.ow.lt k h3; have h5 := (HTN.out k hk).1; omega
              · omega
            have hda2 := HDA.out.next HNE.out H44.out HSP.out
            have HPU := Lib.hid hpu; have F7 := Lib.hid hfr7; have S7 := Lib.hid hsl7; have R7 := Lib.hid hrn7; have D2 := Lib.hid hda2
            have hy5 : ys.length + 1 ≤ 4 := by have := H44.out; omega
            clear ho7 hf7 hs7 hpu hfr7 hsl7 hrn7 hda2 hlo
            go_wp2
            go_roundw
            case rel => exact ⟨ys ++ [y], t, A', T, c', n, by rw [List.length_append]; rfl, by rw [HN.out], by rw [List.length_append]; exact hy5, by omega, D2.out, HPU.out, by rw [← HN.out]; exact S7.out, by rw [← HN.out, List.length_append]; exact R7.out, F7.out⟩
            case measure => have := HN.out; simp only [List.length_cons]; omega
      · have hde := HDA.out.none HNE.out hsp
        have HDE := Lib.hid hde; have F5 := Lib.hid (HFR.out.trans f5 (fun _ _ h => h))
        clear hde f5 hsp
        go_wp2
        go_ret3
        exact ⟨F5.out.alloc _, .inr ⟨_, HDE.out, by simp only [List.length_cons]; omega, rfl⟩⟩
end Go.Proofs.YtgcicljklejmjaaDoor
