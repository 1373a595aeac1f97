import Derived.Test.YtdnohhlgaaihmaaMt03
import Derived.ProofKit
import Derived.OpenShut
import Derived.ChangeOld
import Derived.SizedLaws
import Derived.Test.YtdnohhlgaaihmaaMt04

/- What is read as data, opened by its type: numbers, texts, structs, slices of any of these. General. -/
namespace Go
open Go.ChangeShapes Go.WideShapes Go.ChangeAt Go.RowKit

/-- A slice that is handed in lies in a block that is there. -/
theorem okWide_lt {P : Program} {w : World} {r : Reach} {base : Nat} {t e : TypeId} {v : Value} (ht : P.underlying t = some (.slice e)) (h : Value.okWide P w r base t v) : ∀ k, v.ownBlock = some k → k < w.heap.size := by
  simp only [Value.okWide, ht, Cell.okWide] at h
  intro k hk
  cases v <;> simp only [Value.ownBlock] at hk <;> try (cases hk; done)
  rename_i a len cap
  cases a with
  | none => simp at hk
  | some a =>
    simp only [Option.some.injEq] at hk
    subst hk
    simp only [Cell.ok, ht, World.has] at h
    obtain ⟨_, _, _, _, row, cells, h1, _⟩ := h
    unfold World.shape? at h1
    split at h1
    · rename_i h2; exact (Array.getElem?_eq_some_iff.1 h2).1
    · cases h1

/-- Cells that read as a datum of type t, within the reach. -/
def Td (P : Program) (w : World) (t : TypeId) (cs : List Value) : Prop :=
  ∃ (H : Type) (enc : TypeId × Value → H) (held : Bool) (fuel : Nat) (x : DataW H × List MemPlace), DataW.trod enc P w 0 (fun _ => true) held fuel t cs = some x ∧ ∀ n ∈ x.1.weights P t, n ≤ reachBytes

theorem wAll_mem {H : Type} {P : Program} {e : TypeId} : ∀ {l : List (DataW H)} {d : DataW H}, d ∈ l → ∀ n ∈ d.weights P e, n ∈ DataW.weightsAll P e l
  | d' :: r, d, hd, n, hn => by
    simp only [DataW.weightsAll, List.mem_append]
    rcases List.mem_cons.1 hd with rfl | h
    · exact Or.inl hn
    · exact Or.inr (wAll_mem h n hn)

theorem wEach_mem {H : Type} {P : Program} : ∀ {ts : List TypeId} {l : List (DataW H)} {j : Nat} {t : TypeId} {d : DataW H}, ts[j]? = some t → l[j]? = some d → ∀ n ∈ d.weights P t, n ∈ DataW.weightsEach P ts l
  | t' :: ts, d' :: r, 0, t, d, ht, hd, n, hn => by
    simp at ht hd; subst ht; subst hd
    simp only [DataW.weightsEach, List.mem_append]
    exact .inl hn
  | t' :: ts, d' :: r, j + 1, t, d, ht, hd, n, hn => by
    simp only [DataW.weightsEach, List.mem_append]
    exact .inr (wEach_mem (by simpa using ht) (by simpa using hd) n hn)
  | [], _, j, t, d, ht, hd, n, hn => by simp at ht
  | _ :: _, [], j, t, d, ht, hd, n, hn => by simp at hd

theorem trodAll_at {H : Type} {enc : TypeId × Value → H} {P : Program} {w : World} {base : Nat} {spare : Nat → Bool} {held : Bool} : ∀ {ts : List TypeId} {vs : List Value} {ds : List (DataW H)} {ps : List MemPlace},
    DataW.TrodAll enc P w base spare held ts vs ds ps → ∀ (j : Nat) t v, ts[j]? = some t → vs[j]? = some v → ∃ d p, ds[j]? = some d ∧ DataW.Trod enc P w base spare held t v d p
  | [], _, _, _, _, j, t, v, ht, _ => by simp at ht
  | t' :: ts, [], ds, ps, h, j, t, v, ht, hv => by simp at hv
  | t' :: ts, v' :: vs, [], ps, h, j, t, v, ht, hv => by simp [DataW.TrodAll] at h
  | t' :: ts, v' :: vs, d' :: ds, ps, h, j, t, v, ht, hv => by
    obtain ⟨p, q, h1, h2, rfl⟩ := h
    cases j with
    | zero => simp at ht hv; subst ht; subst hv; exact ⟨d', p, rfl, h1⟩
    | succ j => simpa using trodAll_at h2 j t v (by simpa using ht) (by simpa using hv)

/-- Of a row's hypotheses: each argument. -/
theorem Td.arg {H : Type} {enc : TypeId × Value → H} {P : Program} {w : World} {held : Bool} {ts : List TypeId} {vs : List Value} {ds : List (DataW H)} {ps : List MemPlace} {ts2 : List TypeId} {gs : List (DataW H)}
    (h : DataW.TrodAll enc P w 0 (fun _ => true) held ts vs ds ps) (hz : (DataW.weightsEach P (ts ++ ts2) (ds ++ gs)).all (· ≤ reachBytes) = true) (j : Nat) (t : TypeId) (v : Value) (ht : ts[j]? = some t) (hv : vs[j]? = some v) : Td P w t v.cells.toList := by
  obtain ⟨d, p, hd, fuel, hf⟩ := trodAll_at h j t v ht hv
  refine ⟨H, enc, held, fuel, (d, p), hf, fun n hn => ?_⟩
  have hj1 := (List.getElem?_eq_some_iff.1 ht).1
  have hj2 := (List.getElem?_eq_some_iff.1 hd).1
  have := List.all_eq_true.1 hz n (wEach_mem (j := j) (t := t) (d := d) (by rw [List.getElem?_append_left hj1, ht]) (by rw [List.getElem?_append_left hj2, hd]) n hn)
  simpa using this

theorem cell_spot0 {w : World} {b o : Nat} {sp : Option Nat} {v : Value} (h : w.cell? ⟨b, o, sp⟩ = some v) : sp = none := by
  cases sp with
  | none => rfl
  | some x =>
    unfold World.cell? at h
    split at h <;> simp at h

/-- Lists of lists of one length. -/
theorem flat_get {α : Type} {sz : Nat} (hs : 0 < sz) : ∀ (css : List (List α)) (_ : ∀ c ∈ css, c.length = sz) (j : Nat), css.flatten[j]? = (css[j / sz]?).bind (fun c => c[j % sz]?)
  | [], _, j => by simp
  | c :: css, h, j => by
    have hc := h c (.head _)
    rw [List.flatten_cons, List.getElem?_append]
    split
    · rename_i hj
      rw [Nat.div_eq_of_lt (by omega), Nat.mod_eq_of_lt (by omega)]
      simp
    · rename_i hj
      rw [flat_get hs css (fun c hc => h c (.tail _ hc)), hc]
      obtain ⟨k, rfl⟩ : ∃ k, j = k + sz := ⟨j - sz, by omega⟩
      rw [Nat.add_sub_cancel, Nat.add_div_right _ hs, Nat.add_mod_right]
      simp

theorem flat_len {α : Type} {sz : Nat} : ∀ (css : List (List α)) (_ : ∀ c ∈ css, c.length = sz), css.flatten.length = css.length * sz
  | [], _ => by simp
  | c :: css, h => by
    rw [List.flatten_cons, List.length_append, flat_len css (fun c hc => h c (.tail _ hc)), h c (.head _), List.length_cons, Nat.succ_mul, Nat.add_comm]

namespace Td
variable {P : Program} {w : World} {t e : TypeId} {cs : List Value}

theorem int {k : IntKind} (ht : P.underlying t = some (.int k)) (h : Td P w t cs) : ∃ n, cs = [.int k n] ∧ (Lit.int k n).wf = true := by
  obtain ⟨H, enc, held, fuel, x, hx, _⟩ := h
  obtain ⟨n, h1, _, h3⟩ := DataW.trod_int ht hx
  exact ⟨n, h1, h3⟩

theorem bool (ht : P.underlying t = some .bool) (h : Td P w t cs) : ∃ b, cs = [.bool b] := by
  obtain ⟨H, enc, held, fuel, x, hx, _⟩ := h
  obtain ⟨n, h1, _⟩ := DataW.trod_bool ht hx
  exact ⟨n, h1⟩

theorem str (ht : P.underlying t = some .string) (h : Td P w t cs) : ∃ s : ByteArray, cs = [.string s] ∧ s.size ≤ reachBytes := by
  obtain ⟨H, enc, held, fuel, x, hx, hw⟩ := h
  obtain ⟨s, h1, rfl, _⟩ := DataW.trod_string ht hx
  refine ⟨s, h1, hw _ ?_⟩
  simp [DataW.weights]

theorem struct {fs : Array Field} (ht : P.underlying t = some (.struct fs)) (h : Td P w t cs) : cs.length = P.cellsOf t ∧ ∀ (i : Nat) (f : Field), fs[i]? = some f → Td P w f.type ((cs.drop f.offset).take (P.cellsOf f.type)) := by
  obtain ⟨H, enc, held, fuel, x, hx, hw⟩ := h
  obtain ⟨xs, n, _, rfl, hl, hlen, hf⟩ := DataW.trod_struct ht hx
  refine ⟨hl, fun i f hi => ?_⟩
  have h1 := hf i f hi
  have hi2 := (Array.getElem?_eq_some_iff.1 hi).1
  obtain ⟨y, hy⟩ : ∃ y, xs[i]? = some y := ⟨xs[i]'(by omega), by simp⟩
  refine ⟨H, enc, held, n, y, by rw [h1, hy], fun m hm => hw m ?_⟩
  simp only [DataW.weights, ht]
  exact wEach_mem (j := i) (t := f.type) (d := y.1) (by simp [hi]) (by simp [hy]) m hm

theorem slice (ht : P.underlying t = some (.slice e)) (hs : 0 < P.cellsOf e) (h : Td P w t cs) :
    ∃ (v : Value) (css : List (List Value)), cs = [v] ∧ Sl w (P.cellsOf e) v css.length css.flatten ∧ (∀ c ∈ css, c.length = P.cellsOf e ∧ Td P w e c) ∧ css.length * P.bytesOf e ≤ reachBytes := by
  obtain ⟨H, enc, held, fuel, x, hx, hw⟩ := h
  rcases DataW.trod_slice ht hx with ⟨rfl, rfl⟩ | ⟨a, len, cap, elems, rest, n, _, rfl, rfl, _, hlc, hcm, hlen, hel, hsp, _⟩
  · exact ⟨_, [], rfl, Sl.nil _ _, by simp, by simp⟩
  · have hweigh : ∀ y ∈ elems, ∀ m ∈ y.1.weights P e, m ≤ reachBytes := fun y hy m hm => hw m (by
      simp only [DataW.weights, ht]
      exact .tail _ (List.mem_append_left _ (wAll_mem (List.mem_map_of_mem hy) m hm)))
    have hbytes : len * P.bytesOf e ≤ reachBytes := by
      have h1 := hw ((elems.length + rest.length) * P.bytesOf e) (by simp only [DataW.weights, ht, List.length_map]; exact .head _)
      have h2 : len * P.bytesOf e ≤ (elems.length + rest.length) * P.bytesOf e := Nat.mul_le_mul_right _ (by omega)
      omega
    have each : ∀ i, i < len → ∃ c, w.cells? 0 (a.add (i * P.cellsOf e)) (P.cellsOf e) = some c ∧ Td P w e c := by
      intro i hi
      have h1 := hel i hi
      have hy : elems[i]? = some (elems[i]'(by omega)) := by simp
      rw [hy, Option.bind_eq_some_iff] at h1
      obtain ⟨c, h2, h3⟩ := h1
      exact ⟨c, h2, H, enc, held, n, _, h3, hweigh _ (List.getElem_mem _)⟩
    by_cases hl0 : len = 0
    · by_cases hc0 : cap = 0
      · subst hl0; subst hc0
        exact ⟨_, [], rfl, ⟨by simp, .inl ⟨_, rfl, rfl⟩⟩, by simp, by simp⟩
      · subst hl0
        obtain ⟨hr, hj⟩ := hsp rfl
        have h1 := hj 0 (by omega)
        have hy : rest[0]? = some (rest[0]'(by omega)) := by simp
        rw [hy, Option.bind_eq_some_iff] at h1
        obtain ⟨c, h2, _⟩ := h1
        have h3 := (World.cells?_some h2).2
        have h4 := h3.2 0 hs
        simp only [Nat.zero_add, Nat.zero_mul, Addr.add_zero'] at h4
        obtain ⟨b, o, sp⟩ := a
        have h5 : sp = none := by
          have : c[0]? = some (c[0]'(by omega)) := by simp
          rw [this] at h4
          exact cell_spot0 h4
        subst h5
        exact ⟨_, [], rfl, ⟨by simp, .inr ⟨b, o, cap, rfl, by simp, hcm, by simp⟩⟩, by simp, by simp⟩
    · obtain ⟨b, o, sp⟩ := a
      have hsp0 : sp = none := by
        obtain ⟨c, h2, _⟩ := each 0 (by omega)
        have h3 := (World.cells?_some h2).2
        have h4 := h3.2 0 hs
        simp only [Nat.zero_mul, Addr.add_zero'] at h4
        have : c[0]? = some (c[0]'(by omega)) := by simp
        rw [this] at h4
        exact cell_spot0 h4
      subst hsp0
      refine ⟨_, (List.range len).map fun i => (w.cells? 0 ((⟨b, o, none⟩ : Addr).add (i * P.cellsOf e)) (P.cellsOf e)).getD [], rfl, ?_, ?_, ?_⟩
      · have hall : ∀ c ∈ (List.range len).map fun i => (w.cells? 0 ((⟨b, o, none⟩ : Addr).add (i * P.cellsOf e)) (P.cellsOf e)).getD [], c.length = P.cellsOf e := by
          intro c hc
          obtain ⟨i, hi, rfl⟩ := List.mem_map.1 hc
          obtain ⟨c, h2, _⟩ := each i (by simpa using hi)
          rw [h2]; exact (World.cells?_some h2).2.1
        refine ⟨flat_len _ hall, .inr ⟨b, o, cap, by simp, by simpa using hlc, hcm, fun j u hu => ?_⟩⟩
        rw [flat_get hs _ hall, Option.bind_eq_some_iff] at hu
        obtain ⟨c, h1, h2⟩ := hu
        rw [List.getElem?_map, Option.map_eq_some_iff] at h1
        obtain ⟨i, h3, rfl⟩ := h1
        obtain ⟨hi, rfl⟩ : j / P.cellsOf e < len ∧ i = j / P.cellsOf e := by
          have := List.getElem?_eq_some_iff.1 h3
          obtain ⟨h, h4⟩ := this
          simp at h h4
          exact ⟨h, h4.symm⟩
        obtain ⟨c, h4, _⟩ := each _ hi
        rw [h4] at h2
        have h5 := (World.cells?_some h4).2.2 (j % P.cellsOf e) (Nat.mod_lt _ hs)
        simp only [Option.getD_some] at h2
        rw [h2, Addr.add_add, Addr.add_lit, Nat.mul_comm, Nat.div_add_mod] at h5
        exact h5
      · intro c hc
        obtain ⟨i, hi, rfl⟩ := List.mem_map.1 hc
        obtain ⟨c, h2, h3⟩ := each i (by simpa using hi)
        rw [h2]; exact ⟨(World.cells?_some h2).2.1, h3⟩
      · simpa using hbytes

end Td

theorem u8_of_wf {n : Int} (h : (Lit.int .u8 n).wf = true) : 0 ≤ n ∧ n < 256 := by
  simp only [Lit.wf, Bool.and_eq_true, IntKind.min, IntKind.max, IntKind.signed, IntKind.bits] at h
  simp at h
  omega

theorem u64_of_wf {n : Int} (h : (Lit.int .u64 n).wf = true) : 0 ≤ n ∧ n < 18446744073709551616 := by
  simp only [Lit.wf, Bool.and_eq_true, IntKind.min, IntKind.max, IntKind.signed, IntKind.bits] at h
  simp at h
  omega

theorem i64_of_wf {n : Int} (h : (Lit.int .i64 n).wf = true) : -9223372036854775808 ≤ n ∧ n ≤ 9223372036854775807 := by
  simp only [Lit.wf, Bool.and_eq_true, IntKind.min, IntKind.max, IntKind.signed, IntKind.bits] at h
  simp at h
  omega

/-- A slice of bytes. -/
theorem Td.bytes {P : Program} {w : World} {t e : TypeId} {cs : List Value} (ht : P.underlying t = some (.slice e)) (he : P.underlying e = some (.int .u8)) (hc : P.cellsOf e = 1) (hb : P.bytesOf e = 1) (h : Td P w t cs) :
    ∃ (v : Value) (l : List UInt8), cs = [v] ∧ Sl w 1 v l.length (bvs l) ∧ l.length ≤ reachBytes := by
  obtain ⟨v, css, rfl, h1, h2, h3⟩ := h.slice ht (by omega)
  rw [hc] at h1
  have key : ∀ (css : List (List Value)), (∀ c ∈ css, c.length = P.cellsOf e ∧ Td P w e c) → ∃ l : List UInt8, l.length = css.length ∧ css.flatten = bvs l := by
    intro css
    induction css with
    | nil => intro _; exact ⟨[], rfl, rfl⟩
    | cons c css ih =>
      intro hall
      obtain ⟨l, e1, e2⟩ := ih fun c hc => hall c (.tail _ hc)
      obtain ⟨n, rfl, hn⟩ := (hall c (.head _)).2.int he
      obtain ⟨n0, n1⟩ := u8_of_wf hn
      refine ⟨UInt8.ofNat n.toNat :: l, by simp [e1], ?_⟩
      rw [List.flatten_cons, e2]
      simp only [bvs, Bv, List.map_cons, UInt8.toNat_ofNat', List.cons_append, List.nil_append, List.cons.injEq, and_true]
      congr 1
      omega
  obtain ⟨l, e1, e2⟩ := key css h2
  rw [e2, ← e1] at h1
  exact ⟨v, l, rfl, h1, by rw [hb, Nat.mul_one] at h3; omega⟩
end Go

/- Spans, as package reads has them: a slice of them, the first that fits. -/
namespace Go.Proofs.Ytdnohhlgaaihmaa
open Go.RowKit

/-- A span: its two slices, their bytes, and whether it is open. -/
structure SpV where
  F : Value
  T : Value
  f : List UInt8
  t : List UInt8
  o : Bool

namespace SpV
def cells (x : SpV) : List Value := [x.F, x.T, .bool x.o]
structure Good (w : World) (x : SpV) : Prop where
  F : Sl w 1 x.F x.f.length (bvs x.f)
  T : Sl w 1 x.T x.t.length (bvs x.t)
  lf : x.f.length ≤ 140737488351232
  lt : x.t.length ≤ 140737488351232
theorem Good.kept {w w1 : World} {x : SpV} {S : Nat → Prop} (h : x.Good w) (f : Fr S w w1) (h1 : ∀ k, x.F.ownBlock = some k → ¬ S k) (h2 : ∀ k, x.T.ownBlock = some k → ¬ S k) : x.Good w1 :=
  ⟨h.F.kept f h1, h.T.kept f h2, h.lf, h.lt⟩
theorem Good.kept0 {w w1 : World} {x : SpV} (h : x.Good w) (f : Fr no w w1) : x.Good w1 := h.kept f (fun _ _ h => h) (fun _ _ h => h)
theorem Good.below {w w1 : World} {x : SpV} (h : x.Good w) (b : Below w.heap.size w w1) : x.Good w1 := ⟨h.F.below b, h.T.below b, h.lf, h.lt⟩
end SpV

theorem flat3 (l : List SpV) (j : Nat) (h : j < l.length) (i : Nat) (hi : i < 3) : (l.flatMap SpV.cells)[3 * j + i]? = (l[j].cells)[i]? := by
  have e : l.flatMap SpV.cells = (l.map SpV.cells).flatten := by rw [List.flatMap_def]
  rw [e, flat_get (sz := 3) (by omega) _ (by intro c hc; obtain ⟨o, _, rfl⟩ := List.mem_map.1 hc; rfl)]
  rw [show (3 * j + i) / 3 = j by omega, show (3 * j + i) % 3 = i by omega]
  simp [h]

theorem cells3_len (l : List SpV) : (l.flatMap SpV.cells).length = l.length * 3 := by
  induction l with
  | nil => rfl
  | cons a l ih => simp [List.flatMap_cons, ih, SpV.cells, Nat.succ_mul]

theorem cells3_one (l : List SpV) {w : World} (h : ∀ x ∈ l, x.Good w) : ∀ u ∈ l.flatMap SpV.cells, u.oneCell' = true := by
  intro u hu
  obtain ⟨x, hx, hu⟩ := List.mem_flatMap.1 hu
  obtain ⟨A, c, hA, _, _⟩ := (h x hx).F.form
  obtain ⟨B, d, hB, _, _⟩ := (h x hx).T.form
  simp only [SpV.cells, List.mem_cons, List.not_mem_nil, or_false] at hu
  rcases hu with rfl | rfl | rfl
  · rw [hA]; rfl
  · rw [hB]; rfl
  · rfl

theorem Spans.at {w : World} {A : Option Addr} {n c : Nat} {l : List SpV} (h : Sl w 3 (.slice A n c) l.length (l.flatMap SpV.cells)) (j : Nat) (hj : j < l.length) :
    ∃ b o, A = some ⟨b, o, none⟩ ∧ w.cell? ⟨b, o + j * 3, none⟩ = some l[j].F ∧ w.cell? ⟨b, o + j * 3 + 1, none⟩ = some l[j].T ∧ w.cell? ⟨b, o + j * 3 + 2, none⟩ = some (.bool l[j].o) := by
  rcases h.2 with ⟨_, h1, h2⟩ | ⟨b, o, cap, h1, _, _, h4⟩
  · omega
  · cases h1
    have g : ∀ i, i < 3 → ∀ u, (l[j].cells)[i]? = some u → w.cell? ⟨b, o + j * 3 + i, none⟩ = some u := fun i hi u hu => by
      have := h4 (3 * j + i) u (by rw [flat3 l j hj i hi, hu])
      rw [show o + j * 3 + i = o + (3 * j + i) by omega]; exact this
    exact ⟨b, o, rfl, g 0 (by omega) _ rfl, g 1 (by omega) _ rfl, g 2 (by omega) _ rfl⟩

/-- The span ends no earlier than where the key begins. -/
def reach (o : Bool) (t k : List UInt8) : Bool := o || decide (0 ≤ cb t k)

set_option maxRecDepth 100000 in
set_option maxHeartbeats 400000 in
theorem reaches_any (w : World) (F T K : Value) (t k : List UInt8) (o : Bool) (hT : Sl w 1 T t.length (bvs t)) (hK : Sl w 1 K k.length (bvs k)) :
    Calls Try.prog 114 #[.agg #[F, T, .bool o], K] w fun e w' => e = .returned (.bool (reach o t k)) ∧ Fr no w w' := by
  have HT := Lib.hid hT; have HK := Lib.hid hK; clear hT hK
  cases o with
  | true =>
    go_enter Try.func114, Try.ntmps114
    go_wp2
    go_ret
    exact ⟨rfl, (Fr.refl no w).alloc _⟩
  | false =>
    go_enter Try.func114, Try.ntmps114
    go_wp2_with fail
    refine (cmp_any _ _ _ t k (HT.out.kept0 ((Fr.refl no w).alloc _)) (HK.out.kept0 ((Fr.refl no w).alloc _))).mono ?_
    rintro e w1 ⟨rfl, rfl⟩
    go_wp2
    go_ret
    exact ⟨by simp [reach], (Fr.refl no w).alloc _⟩

set_option maxRecDepth 100000 in
set_option maxHeartbeats 400000 in
/-- What Span asks of each span: whether it reaches to where x begins. -/
theorem span1_any (w : World) (px : Nat) (F T XF : Value) (t k : List UInt8) (o : Bool) (hT : Sl w 1 T t.length (bvs t)) (hK : Sl w 1 XF k.length (bvs k)) (hc : w.cell? ⟨px, 0, none⟩ = some XF) :
    Calls Try.prog 113 #[.agg #[F, T, .bool o], .pointer (some ⟨px, 0, none⟩)] w fun e w' => e = .returned (.bool (reach o t k)) ∧ Fr no w w' := by
  have HT := Lib.hid hT; have HK := Lib.hid hK; clear hT hK
  have hlt := World.block_lt_of_cell? w _ hc
  have hc2 := ((Fr.refl no w).alloc (.cells #[F, T, .bool o] 100)).cell hc (fun h => h)
  go_enter Try.func113, Try.ntmps113
  go_wp2_with fail
  refine (reaches_any _ F T XF t k o (HT.out.kept0 ((Fr.refl no w).alloc _)) (HK.out.kept0 ((Fr.refl no w).alloc _))).mono ?_
  rintro e w1 ⟨rfl, hf⟩
  have HF := Lib.hid hf; clear hf
  go_wp2
  go_ret
  exact ⟨rfl, ((Fr.refl no w).alloc _).trans HF.out (fun _ _ h => h)⟩

/-- A span that ends behind k. -/
def past (o : Bool) (t k : List UInt8) : Bool := o || decide (0 < cb t k)

set_option maxRecDepth 100000 in
set_option maxHeartbeats 400000 in
theorem has1_any (w : World) (px : Nat) (F T XK : Value) (t k : List UInt8) (o : Bool) (hT : Sl w 1 T t.length (bvs t)) (hK : Sl w 1 XK k.length (bvs k)) (hc : w.cell? ⟨px, 0, none⟩ = some XK) :
    Calls Try.prog 117 #[.agg #[F, T, .bool o], .pointer (some ⟨px, 0, none⟩)] w fun e w' => e = .returned (.bool (past o t k)) ∧ Fr no w w' := by
  have HT := Lib.hid hT; have HK := Lib.hid hK; clear hT hK
  have hlt := World.block_lt_of_cell? w _ hc
  have hc2 := ((Fr.refl no w).alloc (.cells #[F, T, .bool o] 100)).cell hc (fun h => h)
  cases o with
  | true =>
    go_enter Try.func117, Try.ntmps117
    go_wp2
    go_ret
    exact ⟨rfl, (Fr.refl no w).alloc _⟩
  | false =>
    go_enter Try.func117, Try.ntmps117
    go_wp2_with fail
    refine (cmp_any _ _ _ t k (HT.out.kept0 ((Fr.refl no w).alloc _)) (HK.out.kept0 ((Fr.refl no w).alloc _))).mono ?_
    rintro e w1 ⟨rfl, rfl⟩
    go_wp2
    go_ret
    exact ⟨by simp [past], (Fr.refl no w).alloc _⟩

/-- The first that fits; -1: none does. -/
def fits (p : SpV → Bool) (l : List SpV) : Int := match l.findIdx? p with | some i => i | none => -1

set_option maxRecDepth 100000 in
set_option maxHeartbeats 400000 in
theorem index_span1 (w : World) (px : Nat) (A : Option Addr) (c : Nat) (l : List SpV) (hl : Sl w 3 (.slice A l.length c) l.length (l.flatMap SpV.cells)) (hn : l.length ≤ 140737488351232) (p : SpV → Bool)
    (hp : ∀ w', Fr no w w' → ∀ x ∈ l, Calls Try.prog 113 #[.agg #[x.F, x.T, .bool x.o], .pointer (some ⟨px, 0, none⟩)] w' fun e w'' => e = .returned (.bool (p x)) ∧ Fr no w' w'') :
    Calls Try.prog 112 #[.slice A l.length c, .func (.func 113) #[] #[.pointer (some ⟨px, 0, none⟩)]] w fun e w' => e = .returned (.int .i64 (fits p l)) ∧ Fr no w w' := by
  have HL := Lib.hid hl; have HP := Lib.hid hp; clear hl hp
  go_enter Try.func112, Try.ntmps112
  go_wp2
  go_loopw [8] (fun i wr => ∃ j : Nat, j ≤ l.length ∧ i = .int .i64 j ∧ Fr no w wr ∧ ∀ k (hk : k < l.length), k < j → p l[k] = false) (fun i _ => l.length - (intOf i).toNat)
  case atStart => exact ⟨0, Nat.zero_le _, rfl, Fr.refl _ _, fun k _ h => by omega⟩
  case round =>
    obtain ⟨j, hj, rfl, hf, hno⟩ := hrel
    have HF := Lib.hid hf; have HNO := Lib.hid hno; clear hf hno
    by_cases hlt : j < l.length
    · obtain ⟨b, o, hA, q0, q1, q2⟩ := Spans.at (HL.out.kept0 HF.out) j hlt
      subst hA
      cases hpj : p l[j] with
      | true =>
        have HPJ := Lib.hid hpj; clear hpj
        go_wp2_with fail
        refine (HP.out wr HF.out l[j] (List.getElem_mem _)).mono ?_
        rintro e w1 ⟨rfl, hf1⟩
        rw [HPJ.out]
        have HF1 := Lib.hid hf1; clear hf1
        go_wp2
        go_ret
        have e : fits p l = j := by
          unfold fits
          rw [List.findIdx?_eq_some_iff_getElem.2 ⟨hlt, HPJ.out, fun k hk => by rw [HNO.out k (by omega) hk]; simp⟩]
        rw [e]
        exact ⟨rfl, HF.out.trans HF1.out (fun _ _ h => h)⟩
      | false =>
        have HPJ := Lib.hid hpj; clear hpj
        go_wp2_with fail
        refine (HP.out wr HF.out l[j] (List.getElem_mem _)).mono ?_
        rintro e w1 ⟨rfl, hf1⟩
        rw [HPJ.out]
        have HF1 := Lib.hid hf1; clear hf1
        go_wp2
        go_roundw
        case rel =>
          refine ⟨j + 1, hlt, by go_num, HF.out.trans HF1.out (fun _ _ h => h), fun k hk hkj => ?_⟩
          by_cases h : k = j
          · subst h; exact HPJ.out
          · exact HNO.out k hk (by omega)
        case measure => simp [intOf]; omega
    · go_wp2
      go_ret
      have e : fits p l = -1 := by
        unfold fits
        rw [List.findIdx?_eq_none_iff.2 (fun x hx => by
          obtain ⟨k, hk, rfl⟩ := List.getElem_of_mem hx
          exact HNO.out k hk (by omega))]
      rw [e]
      exact ⟨rfl, HF.out⟩


set_option maxRecDepth 100000 in
set_option maxHeartbeats 400000 in
theorem index_has1 (w : World) (px : Nat) (A : Option Addr) (c : Nat) (l : List SpV) (hl : Sl w 3 (.slice A l.length c) l.length (l.flatMap SpV.cells)) (hn : l.length ≤ 140737488351232) (p : SpV → Bool)
    (hp : ∀ w', Fr no w w' → ∀ x ∈ l, Calls Try.prog 117 #[.agg #[x.F, x.T, .bool x.o], .pointer (some ⟨px, 0, none⟩)] w' fun e w'' => e = .returned (.bool (p x)) ∧ Fr no w' w'') :
    Calls Try.prog 112 #[.slice A l.length c, .func (.func 117) #[] #[.pointer (some ⟨px, 0, none⟩)]] w fun e w' => e = .returned (.int .i64 (fits p l)) ∧ Fr no w w' := by
  have HL := Lib.hid hl; have HP := Lib.hid hp; clear hl hp
  go_enter Try.func112, Try.ntmps112
  go_wp2
  go_loopw [8] (fun i wr => ∃ j : Nat, j ≤ l.length ∧ i = .int .i64 j ∧ Fr no w wr ∧ ∀ k (hk : k < l.length), k < j → p l[k] = false) (fun i _ => l.length - (intOf i).toNat)
  case atStart => exact ⟨0, Nat.zero_le _, rfl, Fr.refl _ _, fun k _ h => by omega⟩
  case round =>
    obtain ⟨j, hj, rfl, hf, hno⟩ := hrel
    have HF := Lib.hid hf; have HNO := Lib.hid hno; clear hf hno
    by_cases hlt : j < l.length
    · obtain ⟨b, o, hA, q0, q1, q2⟩ := Spans.at (HL.out.kept0 HF.out) j hlt
      subst hA
      cases hpj : p l[j] with
      | true =>
        have HPJ := Lib.hid hpj; clear hpj
        go_wp2_with fail
        refine (HP.out wr HF.out l[j] (List.getElem_mem _)).mono ?_
        rintro e w1 ⟨rfl, hf1⟩
        rw [HPJ.out]
        have HF1 := Lib.hid hf1; clear hf1
        go_wp2
        go_ret
        have e : fits p l = j := by
          unfold fits
          rw [List.findIdx?_eq_some_iff_getElem.2 ⟨hlt, HPJ.out, fun k hk => by rw [HNO.out k (by omega) hk]; simp⟩]
        rw [e]
        exact ⟨rfl, HF.out.trans HF1.out (fun _ _ h => h)⟩
      | false =>
        have HPJ := Lib.hid hpj; clear hpj
        go_wp2_with fail
        refine (HP.out wr HF.out l[j] (List.getElem_mem _)).mono ?_
        rintro e w1 ⟨rfl, hf1⟩
        rw [HPJ.out]
        have HF1 := Lib.hid hf1; clear hf1
        go_wp2
        go_roundw
        case rel =>
          refine ⟨j + 1, hlt, by go_num, HF.out.trans HF1.out (fun _ _ h => h), fun k hk hkj => ?_⟩
          by_cases h : k = j
          · subst h; exact HPJ.out
          · exact HNO.out k hk (by omega)
        case measure => simp [intOf]; omega
    · go_wp2
      go_ret
      have e : fits p l = -1 := by
        unfold fits
        rw [List.findIdx?_eq_none_iff.2 (fun x hx => by
          obtain ⟨k, hk, rfl⟩ := List.getElem_of_mem hx
          exact HNO.out k hk (by omega))]
      rw [e]
      exact ⟨rfl, HF.out⟩

end Go.Proofs.Ytdnohhlgaaihmaa

/- Rows of three cells an element, spliced: plain lists, and what memory tells of them. General. -/
namespace Go
open Go.RowKit

theorem Has.sl {w : World} {g : Nat} {e : TypeId} {cur : List Value} (h : Has w g e cur) (sz off n c : Nat) (hn : off + n * sz ≤ cur.length) (hc : n ≤ c) (hm : c ≤ maxLen) : Sl w sz (.slice (some ⟨g, off, none⟩) n c) n ((cur.drop off).take (n * sz)) := by
  refine ⟨by rw [List.length_take, List.length_drop]; omega, .inr ⟨g, off, c, rfl, hc, hm, fun j u hu => ?_⟩⟩
  rw [List.getElem?_take] at hu
  split at hu
  · rw [List.getElem?_drop] at hu
    rw [cell_of_row w g _ cur.toArray e (0, 0) h]
    simpa using hu
  · cases hu

theorem Has.kept {w w1 : World} {g : Nat} {e : TypeId} {cur : List Value} {S : Nat → Prop} (h : Has w g e cur) (f : Fr S w w1) (hn : ¬ S g) : Has w1 g e cur := f.heap h hn

theorem Has.ow {w : World} {g : Nat} {e : TypeId} {cur : List Value} (h : Has w g e cur) (sz n c : Nat) (hc : c * sz ≤ cur.length) (hn : n ≤ c) (hm : c ≤ maxLen) : Ow w e sz (.slice (some ⟨g, 0, none⟩) n c) n (cur.take (n * sz)) := by
  have : n * sz ≤ c * sz := Nat.mul_le_mul_right _ hn
  exact ⟨by rw [List.length_take]; omega, .inr ⟨g, c, _, rfl, h, hn, hm, by simpa using hc, by simp⟩⟩

theorem Ow.has {w : World} {e : TypeId} {sz g n c : Nat} {xs : List Value} (h : Ow w e sz (.slice (some ⟨g, 0, none⟩) n c) n xs) : ∃ cur, Has w g e cur ∧ c * sz ≤ cur.length ∧ n ≤ c ∧ c ≤ maxLen ∧ cur.take (n * sz) = xs := by
  rcases h.2 with ⟨h1, _⟩ | ⟨g', cap, cur, h1, hg, h2, h3, h4, h5⟩
  · cases h1
  · cases h1
    exact ⟨cur.toList, by simpa [Has] using hg, by simpa using h4, h2, h3, h5⟩

/-- With room: what lies behind is moved, then the new ones laid in. -/
theorem ins_room (cur xs us : List Value) (i n : Nat) (hx : cur.take (n * 3) = xs) (hl : (n + 1) * 3 ≤ cur.length) (hi : i ≤ n) (hu : us.length = 3) :
    let cur1 := cur.take ((i + 1) * 3) ++ ((cur.drop (i * 3)).take ((n + 1 - i) * 3)).take ((n - i) * 3) ++ cur.drop ((i + 1) * 3 + (n - i) * 3)
    (cur1.take (i * 3) ++ us ++ cur1.drop (i * 3 + 3)).take ((n + 1) * 3) = xs.take (i * 3) ++ us ++ xs.drop (i * 3) := by
  intro cur1
  obtain ⟨a, b, r, hc, ha, hb⟩ : ∃ a b r, cur = a ++ (b ++ r) ∧ a.length = i * 3 ∧ b.length = (n - i) * 3 :=
    ⟨cur.take (i * 3), (cur.drop (i * 3)).take ((n - i) * 3), cur.drop (i * 3 + (n - i) * 3), by
      rw [← List.drop_drop, List.take_append_drop, List.take_append_drop], by rw [List.length_take]; omega, by rw [List.length_take, List.length_drop]; omega⟩
  have hr : 3 ≤ r.length := by have := congrArg List.length hc; simp at this; omega
  have hxs : xs = a ++ b := by
    rw [← hx, hc, show n * 3 = (a ++ b).length by simp; omega, ← List.append_assoc, List.take_left]
  have h1 : cur1 = a ++ ((b ++ r).take 3 ++ b ++ r.drop 3) := by
    show cur.take ((i + 1) * 3) ++ ((cur.drop (i * 3)).take ((n + 1 - i) * 3)).take ((n - i) * 3) ++ cur.drop ((i + 1) * 3 + (n - i) * 3) = _
    rw [List.take_take, Nat.min_eq_left (by omega), hc]
    rw [show (i + 1) * 3 = a.length + 3 by omega, List.take_length_add_append]
    rw [show i * 3 = a.length by omega, List.drop_left, show (n - i) * 3 = b.length by omega, List.take_left]
    rw [show a.length + 3 + b.length = a.length + (b.length + 3) by omega, List.drop_length_add_append, List.drop_length_add_append]
    simp [List.append_assoc]
  have h2 : ((b ++ r).take 3).length = 3 := by rw [List.length_take, List.length_append]; omega
  rw [h1, hxs, show i * 3 = a.length by omega, List.take_left, List.drop_length_add_append, List.take_left, List.drop_left]
  rw [List.append_assoc ((b ++ r).take 3)]
  rw [List.drop_left' h2]
  rw [show (n + 1) * 3 = (a ++ us ++ b).length by simp only [List.length_append]; omega]
  rw [← List.append_assoc, List.take_left]

/-- Into a new block. -/
theorem ins_new (xs us ys : List Value) (i n : Nat) (hx : xs.length = n * 3) (_hy : (n + 1) * 3 ≤ i * 3 + ys.length) (hi : i ≤ n) (hu : us.length = 3) :
    let cur := xs.take (i * 3) ++ ys
    let cur1 := cur.take (i * 3) ++ us ++ cur.drop (i * 3 + 3)
    (cur1.take ((i + 1) * 3) ++ xs.drop (i * 3) ++ cur1.drop ((i + 1) * 3 + (n - i) * 3)).take ((n + 1) * 3) = xs.take (i * 3) ++ us ++ xs.drop (i * 3) := by
  intro cur cur1
  have ha : (xs.take (i * 3)).length = i * 3 := by rw [List.length_take]; omega
  have h1 : cur1.take ((i + 1) * 3) = xs.take (i * 3) ++ us := by
    show (cur.take (i * 3) ++ us ++ cur.drop (i * 3 + 3)).take ((i + 1) * 3) = _
    have h2 : cur.take (i * 3) = xs.take (i * 3) := by
      show (xs.take (i * 3) ++ ys).take (i * 3) = _
      conv => lhs; rw [show i * 3 = (xs.take (i * 3)).length from ha.symm]
      rw [ha, List.take_left' ha]
    rw [h2, show (i + 1) * 3 = (xs.take (i * 3) ++ us).length by rw [List.length_append]; omega, List.take_left]
  rw [h1, show (n + 1) * 3 = (xs.take (i * 3) ++ us ++ xs.drop (i * 3)).length by simp only [List.length_append, List.length_drop]; omega, List.take_left]

theorem rep_mid (cur xs us : List Value) (i j n : Nat) (hx : cur.take (n * 3) = xs) (hl : n * 3 ≤ cur.length) (hi : i < j) (hj : j ≤ n) (hu : us.length = 3) :
    ((cur.take (i * 3) ++ us ++ cur.drop (i * 3 + 3)).drop (j * 3)).take ((n - j) * 3) = xs.drop (j * 3) := by
  have hp : (cur.take (i * 3) ++ us).length = i * 3 + 3 := by rw [List.length_append, List.length_take]; omega
  have hd : (cur.take (i * 3) ++ us ++ cur.drop (i * 3 + 3)).drop (j * 3) = cur.drop (j * 3) := by
    rw [List.drop_append, List.drop_of_length_le (by omega), List.nil_append, List.drop_drop, hp]
    congr 1
    omega
  rw [hd, ← hx, List.drop_take]
  congr 1
  omega

/-- A part written over by one, what lies behind drawn up. -/
theorem rep_room (cur xs us ys : List Value) (i j n : Nat) (hx : cur.take (n * 3) = xs) (hl : n * 3 ≤ cur.length) (hi : i < j) (hj : j ≤ n) (hu : us.length = 3) (_hy : ys.length = (j - i - 1) * 3) :
    let cur1 := cur.take (i * 3) ++ us ++ cur.drop (i * 3 + 3)
    let cur2 := cur1.take ((i + 1) * 3) ++ (cur1.drop (j * 3)).take ((n - j) * 3) ++ cur1.drop ((i + 1) * 3 + (n - j) * 3)
    (cur2.take ((i + 1 + (n - j)) * 3) ++ ys ++ cur2.drop ((i + 1 + (n - j)) * 3 + (j - i - 1) * 3)).take ((i + 1 + (n - j)) * 3) = xs.take (i * 3) ++ us ++ xs.drop (j * 3) := by
  intro cur1 cur2
  have ha : (cur.take (i * 3)).length = i * 3 := by rw [List.length_take]; omega
  have hxa : xs.take (i * 3) = cur.take (i * 3) := by rw [← hx, List.take_take, Nat.min_eq_left (by omega)]
  have h1 : cur1.take ((i + 1) * 3) = cur.take (i * 3) ++ us := by
    show (cur.take (i * 3) ++ us ++ cur.drop (i * 3 + 3)).take ((i + 1) * 3) = _
    rw [show (i + 1) * 3 = (cur.take (i * 3) ++ us).length by rw [List.length_append]; omega, List.take_left]
  have h2 : (cur1.drop (j * 3)).take ((n - j) * 3) = xs.drop (j * 3) := by
    have hd : cur1.drop (j * 3) = cur.drop (j * 3) := by
      show (cur.take (i * 3) ++ us ++ cur.drop (i * 3 + 3)).drop (j * 3) = _
      have hp : (cur.take (i * 3) ++ us).length = i * 3 + 3 := by rw [List.length_append]; omega
      rw [List.drop_append, List.drop_of_length_le (by omega), List.nil_append, List.drop_drop, hp]
      congr 1
      omega
    rw [hd, ← hx, List.drop_take]
    congr 1
    omega
  have h3 : cur2.take ((i + 1 + (n - j)) * 3) = xs.take (i * 3) ++ us ++ xs.drop (j * 3) := by
    show (cur1.take ((i + 1) * 3) ++ (cur1.drop (j * 3)).take ((n - j) * 3) ++ cur1.drop ((i + 1) * 3 + (n - j) * 3)).take ((i + 1 + (n - j)) * 3) = _
    have hxl : xs.length = n * 3 := by rw [← hx, List.length_take]; omega
    rw [h1, h2, hxa, show (i + 1 + (n - j)) * 3 = (cur.take (i * 3) ++ us ++ xs.drop (j * 3)).length by simp only [List.length_append, List.length_drop]; omega, List.take_left]
  have hl3 : (cur2.take ((i + 1 + (n - j)) * 3)).length = (i + 1 + (n - j)) * 3 := by
    have hxl : xs.length = n * 3 := by rw [← hx, List.length_take]; omega
    rw [h3]; simp only [List.length_append, List.length_drop, List.length_take]; omega
  rw [List.append_assoc, List.take_left' hl3, h3]
end Go
