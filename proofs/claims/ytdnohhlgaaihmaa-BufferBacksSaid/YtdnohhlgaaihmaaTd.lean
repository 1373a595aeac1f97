/- What is read as data, opened by its type: numbers, texts, structs, slices of any of these. General. -/
import Derived.Test.YtdnohhlgaaihmaaMem
import Derived.ProofKit
import Derived.OpenShut
import Derived.ChangeOld
import Derived.SizedLaws
namespace Go
open Go.ChangeShapes Go.WideShapes Go.ChangeAt Go.RowKit

/-- A slice that is handed in lies in a block that is there. -/
theorem okWide_lt {P : Program} {w : World} {r : Reach} {base : Nat} {t e : TypeId} {v : Value} (ht : P.underlying t = some (.slice e)) (h : Value.okWide P w r base t v) : ∀ k, v.ownBlock = some k → k < w.heap.size := by
  simp only [Value.okWide, ht, Cell.okWide] at h
  intro k hk
  cases v <;> simp only [Value.ownBlock] at hk <;> try (cases hk; done)
  rename_i a len cap
  cases a with
  | none => simp at hk
  | some a =>
    simp only [Option.some.injEq] at hk
    subst hk
    simp only [Cell.ok, ht, World.has] at h
    obtain ⟨_, _, _, _, row, cells, h1, _⟩ := h
    unfold World.shape? at h1
    split at h1
    · rename_i h2; exact (Array.getElem?_eq_some_iff.1 h2).1
    · cases h1

/-- Cells that read as a datum of type t, within the reach. -/
def Td (P : Program) (w : World) (t : TypeId) (cs : List Value) : Prop :=
  ∃ (H : Type) (enc : TypeId × Value → H) (held : Bool) (fuel : Nat) (x : DataW H × List MemPlace), DataW.trod enc P w 0 (fun _ => true) held fuel t cs = some x ∧ ∀ n ∈ x.1.weights P t, n ≤ reachBytes

theorem wAll_mem {H : Type} {P : Program} {e : TypeId} : ∀ {l : List (DataW H)} {d : DataW H}, d ∈ l → ∀ n ∈ d.weights P e, n ∈ DataW.weightsAll P e l
  | d' :: r, d, hd, n, hn => by
    simp only [DataW.weightsAll, List.mem_append]
    rcases List.mem_cons.1 hd with rfl | h
    · exact Or.inl hn
    · exact Or.inr (wAll_mem h n hn)

theorem wEach_mem {H : Type} {P : Program} : ∀ {ts : List TypeId} {l : List (DataW H)} {j : Nat} {t : TypeId} {d : DataW H}, ts[j]? = some t → l[j]? = some d → ∀ n ∈ d.weights P t, n ∈ DataW.weightsEach P ts l
  | t' :: ts, d' :: r, 0, t, d, ht, hd, n, hn => by
    simp at ht hd; subst ht; subst hd
    simp only [DataW.weightsEach, List.mem_append]
    exact .inl hn
  | t' :: ts, d' :: r, j + 1, t, d, ht, hd, n, hn => by
    simp only [DataW.weightsEach, List.mem_append]
    exact .inr (wEach_mem (by simpa using ht) (by simpa using hd) n hn)
  | [], _, j, t, d, ht, hd, n, hn => by simp at ht
  | _ :: _, [], j, t, d, ht, hd, n, hn => by simp at hd

theorem trodAll_at {H : Type} {enc : TypeId × Value → H} {P : Program} {w : World} {base : Nat} {spare : Nat → Bool} {held : Bool} : ∀ {ts : List TypeId} {vs : List Value} {ds : List (DataW H)} {ps : List MemPlace},
    DataW.TrodAll enc P w base spare held ts vs ds ps → ∀ (j : Nat) t v, ts[j]? = some t → vs[j]? = some v → ∃ d p, ds[j]? = some d ∧ DataW.Trod enc P w base spare held t v d p
  | [], _, _, _, _, j, t, v, ht, _ => by simp at ht
  | t' :: ts, [], ds, ps, h, j, t, v, ht, hv => by simp at hv
  | t' :: ts, v' :: vs, [], ps, h, j, t, v, ht, hv => by simp [DataW.TrodAll] at h
  | t' :: ts, v' :: vs, d' :: ds, ps, h, j, t, v, ht, hv => by
    obtain ⟨p, q, h1, h2, rfl⟩ := h
    cases j with
    | zero => simp at ht hv; subst ht; subst hv; exact ⟨d', p, rfl, h1⟩
    | succ j => simpa using trodAll_at h2 j t v (by simpa using ht) (by simpa using hv)

/-- Of a row's hypotheses: each argument. -/
theorem Td.arg {H : Type} {enc : TypeId × Value → H} {P : Program} {w : World} {held : Bool} {ts : List TypeId} {vs : List Value} {ds : List (DataW H)} {ps : List MemPlace} {ts2 : List TypeId} {gs : List (DataW H)}
    (h : DataW.TrodAll enc P w 0 (fun _ => true) held ts vs ds ps) (hz : (DataW.weightsEach P (ts ++ ts2) (ds ++ gs)).all (· ≤ reachBytes) = true) (j : Nat) (t : TypeId) (v : Value) (ht : ts[j]? = some t) (hv : vs[j]? = some v) : Td P w t v.cells.toList := by
  obtain ⟨d, p, hd, fuel, hf⟩ := trodAll_at h j t v ht hv
  refine ⟨H, enc, held, fuel, (d, p), hf, fun n hn => ?_⟩
  have hj1 := (List.getElem?_eq_some_iff.1 ht).1
  have hj2 := (List.getElem?_eq_some_iff.1 hd).1
  have := List.all_eq_true.1 hz n (wEach_mem (j := j) (t := t) (d := d) (by rw [List.getElem?_append_left hj1, ht]) (by rw [List.getElem?_append_left hj2, hd]) n hn)
  simpa using this

theorem cell_spot0 {w : World} {b o : Nat} {sp : Option Nat} {v : Value} (h : w.cell? ⟨b, o, sp⟩ = some v) : sp = none := by
  cases sp with
  | none => rfl
  | some x =>
    unfold World.cell? at h
    split at h <;> simp at h

/-- Lists of lists of one length. -/
theorem flat_get {α : Type} {sz : Nat} (hs : 0 < sz) : ∀ (css : List (List α)) (_ : ∀ c ∈ css, c.length = sz) (j : Nat), css.flatten[j]? = (css[j / sz]?).bind (fun c => c[j % sz]?)
  | [], _, j => by simp
  | c :: css, h, j => by
    have hc := h c (.head _)
    rw [List.flatten_cons, List.getElem?_append]
    split
    · rename_i hj
      rw [Nat.div_eq_of_lt (by omega), Nat.mod_eq_of_lt (by omega)]
      simp
    · rename_i hj
      rw [flat_get hs css (fun c hc => h c (.tail _ hc)), hc]
      obtain ⟨k, rfl⟩ : ∃ k, j = k + sz := ⟨j - sz, by omega⟩
      rw [Nat.add_sub_cancel, Nat.add_div_right _ hs, Nat.add_mod_right]
      simp

theorem flat_len {α : Type} {sz : Nat} : ∀ (css : List (List α)) (_ : ∀ c ∈ css, c.length = sz), css.flatten.length = css.length * sz
  | [], _ => by simp
  | c :: css, h => by
    rw [List.flatten_cons, List.length_append, flat_len css (fun c hc => h c (.tail _ hc)), h c (.head _), List.length_cons, Nat.succ_mul, Nat.add_comm]

namespace Td
variable {P : Program} {w : World} {t e : TypeId} {cs : List Value}

theorem int {k : IntKind} (ht : P.underlying t = some (.int k)) (h : Td P w t cs) : ∃ n, cs = [.int k n] ∧ (Lit.int k n).wf = true := by
  obtain ⟨H, enc, held, fuel, x, hx, _⟩ := h
  obtain ⟨n, h1, _, h3⟩ := DataW.trod_int ht hx
  exact ⟨n, h1, h3⟩

theorem bool (ht : P.underlying t = some .bool) (h : Td P w t cs) : ∃ b, cs = [.bool b] := by
  obtain ⟨H, enc, held, fuel, x, hx, _⟩ := h
  obtain ⟨n, h1, _⟩ := DataW.trod_bool ht hx
  exact ⟨n, h1⟩

theorem str (ht : P.underlying t = some .string) (h : Td P w t cs) : ∃ s : ByteArray, cs = [.string s] ∧ s.size ≤ reachBytes := by
  obtain ⟨H, enc, held, fuel, x, hx, hw⟩ := h
  obtain ⟨s, h1, rfl, _⟩ := DataW.trod_string ht hx
  refine ⟨s, h1, hw _ ?_⟩
  simp [DataW.weights]

theorem struct {fs : Array Field} (ht : P.underlying t = some (.struct fs)) (h : Td P w t cs) : cs.length = P.cellsOf t ∧ ∀ (i : Nat) (f : Field), fs[i]? = some f → Td P w f.type ((cs.drop f.offset).take (P.cellsOf f.type)) := by
  obtain ⟨H, enc, held, fuel, x, hx, hw⟩ := h
  obtain ⟨xs, n, _, rfl, hl, hlen, hf⟩ := DataW.trod_struct ht hx
  refine ⟨hl, fun i f hi => ?_⟩
  have h1 := hf i f hi
  have hi2 := (Array.getElem?_eq_some_iff.1 hi).1
  obtain ⟨y, hy⟩ : ∃ y, xs[i]? = some y := ⟨xs[i]'(by omega), by simp⟩
  refine ⟨H, enc, held, n, y, by rw [h1, hy], fun m hm => hw m ?_⟩
  simp only [DataW.weights, ht]
  exact wEach_mem (j := i) (t := f.type) (d := y.1) (by simp [hi]) (by simp [hy]) m hm

theorem slice (ht : P.underlying t = some (.slice e)) (hs : 0 < P.cellsOf e) (h : Td P w t cs) :
    ∃ (v : Value) (css : List (List Value)), cs = [v] ∧ Sl w (P.cellsOf e) v css.length css.flatten ∧ (∀ c ∈ css, c.length = P.cellsOf e ∧ Td P w e c) ∧ css.length * P.bytesOf e ≤ reachBytes := by
  obtain ⟨H, enc, held, fuel, x, hx, hw⟩ := h
  rcases DataW.trod_slice ht hx with ⟨rfl, rfl⟩ | ⟨a, len, cap, elems, rest, n, _, rfl, rfl, _, hlc, hcm, hlen, hel, hsp, _⟩
  · exact ⟨_, [], rfl, Sl.nil _ _, by simp, by simp⟩
  · have hweigh : ∀ y ∈ elems, ∀ m ∈ y.1.weights P e, m ≤ reachBytes := fun y hy m hm => hw m (by
      simp only [DataW.weights, ht]
      exact .tail _ (List.mem_append_left _ (wAll_mem (List.mem_map_of_mem hy) m hm)))
    have hbytes : len * P.bytesOf e ≤ reachBytes := by
      have h1 := hw ((elems.length + rest.length) * P.bytesOf e) (by simp only [DataW.weights, ht, List.length_map]; exact .head _)
      have h2 : len * P.bytesOf e ≤ (elems.length + rest.length) * P.bytesOf e := Nat.mul_le_mul_right _ (by omega)
      omega
    have each : ∀ i, i < len → ∃ c, w.cells? 0 (a.add (i * P.cellsOf e)) (P.cellsOf e) = some c ∧ Td P w e c := by
      intro i hi
      have h1 := hel i hi
      have hy : elems[i]? = some (elems[i]'(by omega)) := by simp
      rw [hy, Option.bind_eq_some_iff] at h1
      obtain ⟨c, h2, h3⟩ := h1
      exact ⟨c, h2, H, enc, held, n, _, h3, hweigh _ (List.getElem_mem _)⟩
    by_cases hl0 : len = 0
    · by_cases hc0 : cap = 0
      · subst hl0; subst hc0
        exact ⟨_, [], rfl, ⟨by simp, .inl ⟨_, rfl, rfl⟩⟩, by simp, by simp⟩
      · subst hl0
        obtain ⟨hr, hj⟩ := hsp rfl
        have h1 := hj 0 (by omega)
        have hy : rest[0]? = some (rest[0]'(by omega)) := by simp
        rw [hy, Option.bind_eq_some_iff] at h1
        obtain ⟨c, h2, _⟩ := h1
        have h3 := (World.cells?_some h2).2
        have h4 := h3.2 0 hs
        simp only [Nat.zero_add, Nat.zero_mul, Addr.add_zero'] at h4
        obtain ⟨b, o, sp⟩ := a
        have h5 : sp = none := by
          have : c[0]? = some (c[0]'(by omega)) := by simp
          rw [this] at h4
          exact cell_spot0 h4
        subst h5
        exact ⟨_, [], rfl, ⟨by simp, .inr ⟨b, o, cap, rfl, by simp, hcm, by simp⟩⟩, by simp, by simp⟩
    · obtain ⟨b, o, sp⟩ := a
      have hsp0 : sp = none := by
        obtain ⟨c, h2, _⟩ := each 0 (by omega)
        have h3 := (World.cells?_some h2).2
        have h4 := h3.2 0 hs
        simp only [Nat.zero_mul, Addr.add_zero'] at h4
        have : c[0]? = some (c[0]'(by omega)) := by simp
        rw [this] at h4
        exact cell_spot0 h4
      subst hsp0
      refine ⟨_, (List.range len).map fun i => (w.cells? 0 ((⟨b, o, none⟩ : Addr).add (i * P.cellsOf e)) (P.cellsOf e)).getD [], rfl, ?_, ?_, ?_⟩
      · have hall : ∀ c ∈ (List.range len).map fun i => (w.cells? 0 ((⟨b, o, none⟩ : Addr).add (i * P.cellsOf e)) (P.cellsOf e)).getD [], c.length = P.cellsOf e := by
          intro c hc
          obtain ⟨i, hi, rfl⟩ := List.mem_map.1 hc
          obtain ⟨c, h2, _⟩ := each i (by simpa using hi)
          rw [h2]; exact (World.cells?_some h2).2.1
        refine ⟨flat_len _ hall, .inr ⟨b, o, cap, by simp, by simpa using hlc, hcm, fun j u hu => ?_⟩⟩
        rw [flat_get hs _ hall, Option.bind_eq_some_iff] at hu
        obtain ⟨c, h1, h2⟩ := hu
        rw [List.getElem?_map, Option.map_eq_some_iff] at h1
        obtain ⟨i, h3, rfl⟩ := h1
        obtain ⟨hi, rfl⟩ : j / P.cellsOf e < len ∧ i = j / P.cellsOf e := by
          have := List.getElem?_eq_some_iff.1 h3
          obtain ⟨h, h4⟩ := this
          simp at h h4
          exact ⟨h, h4.symm⟩
        obtain ⟨c, h4, _⟩ := each _ hi
        rw [h4] at h2
        have h5 := (World.cells?_some h4).2.2 (j % P.cellsOf e) (Nat.mod_lt _ hs)
        simp only [Option.getD_some] at h2
        rw [h2, Addr.add_add, Addr.add_lit, Nat.mul_comm, Nat.div_add_mod] at h5
        exact h5
      · intro c hc
        obtain ⟨i, hi, rfl⟩ := List.mem_map.1 hc
        obtain ⟨c, h2, h3⟩ := each i (by simpa using hi)
        rw [h2]; exact ⟨(World.cells?_some h2).2.1, h3⟩
      · simpa using hbytes

end Td

theorem u8_of_wf {n : Int} (h : (Lit.int .u8 n).wf = true) : 0 ≤ n ∧ n < 256 := by
  simp only [Lit.wf, Bool.and_eq_true, IntKind.min, IntKind.max, IntKind.signed, IntKind.bits] at h
  simp at h
  omega

theorem u64_of_wf {n : Int} (h : (Lit.int .u64 n).wf = true) : 0 ≤ n ∧ n < 18446744073709551616 := by
  simp only [Lit.wf, Bool.and_eq_true, IntKind.min, IntKind.max, IntKind.signed, IntKind.bits] at h
  simp at h
  omega

theorem i64_of_wf {n : Int} (h : (Lit.int .i64 n).wf = true) : -9223372036854775808 ≤ n ∧ n ≤ 9223372036854775807 := by
  simp only [Lit.wf, Bool.and_eq_true, IntKind.min, IntKind.max, IntKind.signed, IntKind.bits] at h
  simp at h
  omega

/-- A slice of bytes. -/
theorem Td.bytes {P : Program} {w : World} {t e : TypeId} {cs : List Value} (ht : P.underlying t = some (.slice e)) (he : P.underlying e = some (.int .u8)) (hc : P.cellsOf e = 1) (hb : P.bytesOf e = 1) (h : Td P w t cs) :
    ∃ (v : Value) (l : List UInt8), cs = [v] ∧ Sl w 1 v l.length (bvs l) ∧ l.length ≤ reachBytes := by
  obtain ⟨v, css, rfl, h1, h2, h3⟩ := h.slice ht (by omega)
  rw [hc] at h1
  have key : ∀ (css : List (List Value)), (∀ c ∈ css, c.length = P.cellsOf e ∧ Td P w e c) → ∃ l : List UInt8, l.length = css.length ∧ css.flatten = bvs l := by
    intro css
    induction css with
    | nil => intro _; exact ⟨[], rfl, rfl⟩
    | cons c css ih =>
      intro hall
      obtain ⟨l, e1, e2⟩ := ih fun c hc => hall c (.tail _ hc)
      obtain ⟨n, rfl, hn⟩ := (hall c (.head _)).2.int he
      obtain ⟨n0, n1⟩ := u8_of_wf hn
      refine ⟨UInt8.ofNat n.toNat :: l, by simp [e1], ?_⟩
      rw [List.flatten_cons, e2]
      simp only [bvs, Bv, List.map_cons, UInt8.toNat_ofNat', List.cons_append, List.nil_append, List.cons.injEq, and_true]
      congr 1
      omega
  obtain ⟨l, e1, e2⟩ := key css h2
  rw [e2, ← e1] at h1
  exact ⟨v, l, rfl, h1, by rw [hb, Nat.mul_one] at h3; omega⟩
end Go
