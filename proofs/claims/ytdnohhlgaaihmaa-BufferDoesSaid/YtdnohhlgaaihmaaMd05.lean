import Derived.Test.YtdnohhlgaaihmaaMd03
import Derived.ProofKit
import Derived.OpenShut
import Derived.ChangeOld
import Derived.SizedLaws
import Derived.Test.YtdnohhlgaaihmaaMd04

/- What is read as data, opened by its type: numbers, texts, structs, slices of any of these. General. -/
namespace Go
open Go.ChangeShapes Go.WideShapes Go.ChangeAt Go.RowKit

/-- A slice that is handed in lies in a block that is there. -/
theorem okWide_lt {P : Program} {w : World} {r : Reach} {base : Nat} {t e : TypeId} {v : Value} (ht : P.underlying t = some (.slice e)) (h : Value.okWide P w r base t v) : ∀ k, v.ownBlock = some k → k < w.heap.size := by
  simp only [Value.okWide, ht, Cell.okWide] at h
  intro k hk
  cases v <;> simp only [Value.ownBlock] at hk <;> try (cases hk; done)
  rename_i a len cap
  cases a with
  | none => simp at hk
  | some a =>
    simp only [Option.some.injEq] at hk
    subst hk
    simp only [Cell.ok, ht, World.has] at h
    obtain ⟨_, _, _, _, row, cells, h1, _⟩ := h
    unfold World.shape? at h1
    split at h1
    · rename_i h2; exact (Array.getElem?_eq_some_iff.1 h2).1
    · cases h1

/-- Cells that read as a datum of type t, within the reach. -/
def Td (P : Program) (w : World) (t : TypeId) (cs : List Value) : Prop :=
  ∃ (H : Type) (enc : TypeId × Value → H) (held : Bool) (fuel : Nat) (x : DataW H × List MemPlace), DataW.trod enc P w 0 (fun _ => true) held fuel t cs = some x ∧ ∀ n ∈ x.1.weights P t, n ≤ reachBytes

theorem wAll_mem {H : Type} {P : Program} {e : TypeId} : ∀ {l : List (DataW H)} {d : DataW H}, d ∈ l → ∀ n ∈ d.weights P e, n ∈ DataW.weightsAll P e l
  | d' :: r, d, hd, n, hn => by
    simp only [DataW.weightsAll, List.mem_append]
    rcases List.mem_cons.1 hd with rfl | h
    · exact Or.inl hn
    · exact Or.inr (wAll_mem h n hn)

theorem wEach_mem {H : Type} {P : Program} : ∀ {ts : List TypeId} {l : List (DataW H)} {j : Nat} {t : TypeId} {d : DataW H}, ts[j]? = some t → l[j]? = some d → ∀ n ∈ d.weights P t, n ∈ DataW.weightsEach P ts l
  | t' :: ts, d' :: r, 0, t, d, ht, hd, n, hn => by
    simp at ht hd; subst ht; subst hd
    simp only [DataW.weightsEach, List.mem_append]
    exact .inl hn
  | t' :: ts, d' :: r, j + 1, t, d, ht, hd, n, hn => by
    simp only [DataW.weightsEach, List.mem_append]
    exact .inr (wEach_mem (by simpa using ht) (by simpa using hd) n hn)
  | [], _, j, t, d, ht, hd, n, hn => by simp at ht
  | _ :: _, [], j, t, d, ht, hd, n, hn => by simp at hd

theorem trodAll_at {H : Type} {enc : TypeId × Value → H} {P : Program} {w : World} {base : Nat} {spare : Nat → Bool} {held : Bool} : ∀ {ts : List TypeId} {vs : List Value} {ds : List (DataW H)} {ps : List MemPlace},
    DataW.TrodAll enc P w base spare held ts vs ds ps → ∀ (j : Nat) t v, ts[j]? = some t → vs[j]? = some v → ∃ d p, ds[j]? = some d ∧ DataW.Trod enc P w base spare held t v d p
  | [], _, _, _, _, j, t, v, ht, _ => by simp at ht
  | t' :: ts, [], ds, ps, h, j, t, v, ht, hv => by simp at hv
  | t' :: ts, v' :: vs, [], ps, h, j, t, v, ht, hv => by simp [DataW.TrodAll] at h
  | t' :: ts, v' :: vs, d' :: ds, ps, h, j, t, v, ht, hv => by
    obtain ⟨p, q, h1, h2, rfl⟩ := h
    cases j with
    | zero => simp at ht hv; subst ht; subst hv; exact ⟨d', p, rfl, h1⟩
    | succ j => simpa using trodAll_at h2 j t v (by simpa using ht) (by simpa using hv)

/-- Of a row's hypotheses: each argument. -/
theorem Td.arg {H : Type} {enc : TypeId × Value → H} {P : Program} {w : World} {held : Bool} {ts : List TypeId} {vs : List Value} {ds : List (DataW H)} {ps : List MemPlace} {ts2 : List TypeId} {gs : List (DataW H)}
    (h : DataW.TrodAll enc P w 0 (fun _ => true) held ts vs ds ps) (hz : (DataW.weightsEach P (ts ++ ts2) (ds ++ gs)).all (· ≤ reachBytes) = true) (j : Nat) (t : TypeId) (v : Value) (ht : ts[j]? = some t) (hv : vs[j]? = some v) : Td P w t v.cells.toList := by
  obtain ⟨d, p, hd, fuel, hf⟩ := trodAll_at h j t v ht hv
  refine ⟨H, enc, held, fuel, (d, p), hf, fun n hn => ?_⟩
  have hj1 := (List.getElem?_eq_some_iff.1 ht).1
  have hj2 := (List.getElem?_eq_some_iff.1 hd).1
  have := List.all_eq_true.1 hz n (wEach_mem (j := j) (t := t) (d := d) (by rw [List.getElem?_append_left hj1, ht]) (by rw [List.getElem?_append_left hj2, hd]) n hn)
  simpa using this

theorem cell_spot0 {w : World} {b o : Nat} {sp : Option Nat} {v : Value} (h : w.cell? ⟨b, o, sp⟩ = some v) : sp = none := by
  cases sp with
  | none => rfl
  | some x =>
    unfold World.cell? at h
    split at h <;> simp at h

/-- Lists of lists of one length. -/
theorem flat_get {α : Type} {sz : Nat} (hs : 0 < sz) : ∀ (css : List (List α)) (_ : ∀ c ∈ css, c.length = sz) (j : Nat), css.flatten[j]? = (css[j / sz]?).bind (fun c => c[j % sz]?)
  | [], _, j => by simp
  | c :: css, h, j => by
    have hc := h c (.head _)
    rw [List.flatten_cons, List.getElem?_append]
    split
    · rename_i hj
      rw [Nat.div_eq_of_lt (by omega), Nat.mod_eq_of_lt (by omega)]
      simp
    · rename_i hj
      rw [flat_get hs css (fun c hc => h c (.tail _ hc)), hc]
      obtain ⟨k, rfl⟩ : ∃ k, j = k + sz := ⟨j - sz, by omega⟩
      rw [Nat.add_sub_cancel, Nat.add_div_right _ hs, Nat.add_mod_right]
      simp

theorem flat_len {α : Type} {sz : Nat} : ∀ (css : List (List α)) (_ : ∀ c ∈ css, c.length = sz), css.flatten.length = css.length * sz
  | [], _ => by simp
  | c :: css, h => by
    rw [List.flatten_cons, List.length_append, flat_len css (fun c hc => h c (.tail _ hc)), h c (.head _), List.length_cons, Nat.succ_mul, Nat.add_comm]

namespace Td
variable {P : Program} {w : World} {t e : TypeId} {cs : List Value}

theorem int {k : IntKind} (ht : P.underlying t = some (.int k)) (h : Td P w t cs) : ∃ n, cs = [.int k n] ∧ (Lit.int k n).wf = true := by
  obtain ⟨H, enc, held, fuel, x, hx, _⟩ := h
  obtain ⟨n, h1, _, h3⟩ := DataW.trod_int ht hx
  exact ⟨n, h1, h3⟩

theorem bool (ht : P.underlying t = some .bool) (h : Td P w t cs) : ∃ b, cs = [.bool b] := by
  obtain ⟨H, enc, held, fuel, x, hx, _⟩ := h
  obtain ⟨n, h1, _⟩ := DataW.trod_bool ht hx
  exact ⟨n, h1⟩

theorem str (ht : P.underlying t = some .string) (h : Td P w t cs) : ∃ s : ByteArray, cs = [.string s] ∧ s.size ≤ reachBytes := by
  obtain ⟨H, enc, held, fuel, x, hx, hw⟩ := h
  obtain ⟨s, h1, rfl, _⟩ := DataW.trod_string ht hx
  refine ⟨s, h1, hw _ ?_⟩
  simp [DataW.weights]

theorem struct {fs : Array Field} (ht : P.underlying t = some (.struct fs)) (h : Td P w t cs) : cs.length = P.cellsOf t ∧ ∀ (i : Nat) (f : Field), fs[i]? = some f → Td P w f.type ((cs.drop f.offset).take (P.cellsOf f.type)) := by
  obtain ⟨H, enc, held, fuel, x, hx, hw⟩ := h
  obtain ⟨xs, n, _, rfl, hl, hlen, hf⟩ := DataW.trod_struct ht hx
  refine ⟨hl, fun i f hi => ?_⟩
  have h1 := hf i f hi
  have hi2 := (Array.getElem?_eq_some_iff.1 hi).1
  obtain ⟨y, hy⟩ : ∃ y, xs[i]? = some y := ⟨xs[i]'(by omega), by simp⟩
  refine ⟨H, enc, held, n, y, by rw [h1, hy], fun m hm => hw m ?_⟩
  simp only [DataW.weights, ht]
  exact wEach_mem (j := i) (t := f.type) (d := y.1) (by simp [hi]) (by simp [hy]) m hm

theorem slice (ht : P.underlying t = some (.slice e)) (hs : 0 < P.cellsOf e) (h : Td P w t cs) :
    ∃ (v : Value) (css : List (List Value)), cs = [v] ∧ Sl w (P.cellsOf e) v css.length css.flatten ∧ (∀ c ∈ css, c.length = P.cellsOf e ∧ Td P w e c) ∧ css.length * P.bytesOf e ≤ reachBytes := by
  obtain ⟨H, enc, held, fuel, x, hx, hw⟩ := h
  rcases DataW.trod_slice ht hx with ⟨rfl, rfl⟩ | ⟨a, len, cap, elems, rest, n, _, rfl, rfl, _, hlc, hcm, hlen, hel, hsp, _⟩
  · exact ⟨_, [], rfl, Sl.nil _ _, by simp, by simp⟩
  · have hweigh : ∀ y ∈ elems, ∀ m ∈ y.1.weights P e, m ≤ reachBytes := fun y hy m hm => hw m (by
      simp only [DataW.weights, ht]
      exact .tail _ (List.mem_append_left _ (wAll_mem (List.mem_map_of_mem hy) m hm)))
    have hbytes : len * P.bytesOf e ≤ reachBytes := by
      have h1 := hw ((elems.length + rest.length) * P.bytesOf e) (by simp only [DataW.weights, ht, List.length_map]; exact .head _)
      have h2 : len * P.bytesOf e ≤ (elems.length + rest.length) * P.bytesOf e := Nat.mul_le_mul_right _ (by omega)
      omega
    have each : ∀ i, i < len → ∃ c, w.cells? 0 (a.add (i * P.cellsOf e)) (P.cellsOf e) = some c ∧ Td P w e c := by
      intro i hi
      have h1 := hel i hi
      have hy : elems[i]? = some (elems[i]'(by omega)) := by simp
      rw [hy, Option.bind_eq_some_iff] at h1
      obtain ⟨c, h2, h3⟩ := h1
      exact ⟨c, h2, H, enc, held, n, _, h3, hweigh _ (List.getElem_mem _)⟩
    by_cases hl0 : len = 0
    · by_cases hc0 : cap = 0
      · subst hl0; subst hc0
        exact ⟨_, [], rfl, ⟨by simp, .inl ⟨_, rfl, rfl⟩⟩, by simp, by simp⟩
      · subst hl0
        obtain ⟨hr, hj⟩ := hsp rfl
        have h1 := hj 0 (by omega)
        have hy : rest[0]? = some (rest[0]'(by omega)) := by simp
        rw [hy, Option.bind_eq_some_iff] at h1
        obtain ⟨c, h2, _⟩ := h1
        have h3 := (World.cells?_some h2).2
        have h4 := h3.2 0 hs
        simp only [Nat.zero_add, Nat.zero_mul, Addr.add_zero'] at h4
        obtain ⟨b, o, sp⟩ := a
        have h5 : sp = none := by
          have : c[0]? = some (c[0]'(by omega)) := by simp
          rw [this] at h4
          exact cell_spot0 h4
        subst h5
        exact ⟨_, [], rfl, ⟨by simp, .inr ⟨b, o, cap, rfl, by simp, hcm, by simp⟩⟩, by simp, by simp⟩
    · obtain ⟨b, o, sp⟩ := a
      have hsp0 : sp = none := by
        obtain ⟨c, h2, _⟩ := each 0 (by omega)
        have h3 := (World.cells?_some h2).2
        have h4 := h3.2 0 hs
        simp only [Nat.zero_mul, Addr.add_zero'] at h4
        have : c[0]? = some (c[0]'(by omega)) := by simp
        rw [this] at h4
        exact cell_spot0 h4
      subst hsp0
      refine ⟨_, (List.range len).map fun i => (w.cells? 0 ((⟨b, o, none⟩ : Addr).add (i * P.cellsOf e)) (P.cellsOf e)).getD [], rfl, ?_, ?_, ?_⟩
      · have hall : ∀ c ∈ (List.range len).map fun i => (w.cells? 0 ((⟨b, o, none⟩ : Addr).add (i * P.cellsOf e)) (P.cellsOf e)).getD [], c.length = P.cellsOf e := by
          intro c hc
          obtain ⟨i, hi, rfl⟩ := List.mem_map.1 hc
          obtain ⟨c, h2, _⟩ := each i (by simpa using hi)
          rw [h2]; exact (World.cells?_some h2).2.1
        refine ⟨flat_len _ hall, .inr ⟨b, o, cap, by simp, by simpa using hlc, hcm, fun j u hu => ?_⟩⟩
        rw [flat_get hs _ hall, Option.bind_eq_some_iff] at hu
        obtain ⟨c, h1, h2⟩ := hu
        rw [List.getElem?_map, Option.map_eq_some_iff] at h1
        obtain ⟨i, h3, rfl⟩ := h1
        obtain ⟨hi, rfl⟩ : j / P.cellsOf e < len ∧ i = j / P.cellsOf e := by
          have := List.getElem?_eq_some_iff.1 h3
          obtain ⟨h, h4⟩ := this
          simp at h h4
          exact ⟨h, h4.symm⟩
        obtain ⟨c, h4, _⟩ := each _ hi
        rw [h4] at h2
        have h5 := (World.cells?_some h4).2.2 (j % P.cellsOf e) (Nat.mod_lt _ hs)
        simp only [Option.getD_some] at h2
        rw [h2, Addr.add_add, Addr.add_lit, Nat.mul_comm, Nat.div_add_mod] at h5
        exact h5
      · intro c hc
        obtain ⟨i, hi, rfl⟩ := List.mem_map.1 hc
        obtain ⟨c, h2, h3⟩ := each i (by simpa using hi)
        rw [h2]; exact ⟨(World.cells?_some h2).2.1, h3⟩
      · simpa using hbytes

end Td

theorem u8_of_wf {n : Int} (h : (Lit.int .u8 n).wf = true) : 0 ≤ n ∧ n < 256 := by
  simp only [Lit.wf, Bool.and_eq_true, IntKind.min, IntKind.max, IntKind.signed, IntKind.bits] at h
  simp at h
  omega

theorem u64_of_wf {n : Int} (h : (Lit.int .u64 n).wf = true) : 0 ≤ n ∧ n < 18446744073709551616 := by
  simp only [Lit.wf, Bool.and_eq_true, IntKind.min, IntKind.max, IntKind.signed, IntKind.bits] at h
  simp at h
  omega

theorem i64_of_wf {n : Int} (h : (Lit.int .i64 n).wf = true) : -9223372036854775808 ≤ n ∧ n ≤ 9223372036854775807 := by
  simp only [Lit.wf, Bool.and_eq_true, IntKind.min, IntKind.max, IntKind.signed, IntKind.bits] at h
  simp at h
  omega

/-- A slice of bytes. -/
theorem Td.bytes {P : Program} {w : World} {t e : TypeId} {cs : List Value} (ht : P.underlying t = some (.slice e)) (he : P.underlying e = some (.int .u8)) (hc : P.cellsOf e = 1) (hb : P.bytesOf e = 1) (h : Td P w t cs) :
    ∃ (v : Value) (l : List UInt8), cs = [v] ∧ Sl w 1 v l.length (bvs l) ∧ l.length ≤ reachBytes := by
  obtain ⟨v, css, rfl, h1, h2, h3⟩ := h.slice ht (by omega)
  rw [hc] at h1
  have key : ∀ (css : List (List Value)), (∀ c ∈ css, c.length = P.cellsOf e ∧ Td P w e c) → ∃ l : List UInt8, l.length = css.length ∧ css.flatten = bvs l := by
    intro css
    induction css with
    | nil => intro _; exact ⟨[], rfl, rfl⟩
    | cons c css ih =>
      intro hall
      obtain ⟨l, e1, e2⟩ := ih fun c hc => hall c (.tail _ hc)
      obtain ⟨n, rfl, hn⟩ := (hall c (.head _)).2.int he
      obtain ⟨n0, n1⟩ := u8_of_wf hn
      refine ⟨UInt8.ofNat n.toNat :: l, by simp [e1], ?_⟩
      rw [List.flatten_cons, e2]
      simp only [bvs, Bv, List.map_cons, UInt8.toNat_ofNat', List.cons_append, List.nil_append, List.cons.injEq, and_true]
      congr 1
      omega
  obtain ⟨l, e1, e2⟩ := key css h2
  rw [e2, ← e1] at h1
  exact ⟨v, l, rfl, h1, by rw [hb, Nat.mul_one] at h3; omega⟩
end Go

/- Spans, as package reads has them: a slice of them, the first that fits. -/
namespace Go.Proofs.Ytdnohhlgaaihmaa
open Go.RowKit

/-- A span: its two slices, their bytes, and whether it is open. -/
structure SpV where
  F : Value
  T : Value
  f : List UInt8
  t : List UInt8
  o : Bool

namespace SpV
def cells (x : SpV) : List Value := [x.F, x.T, .bool x.o]
structure Good (w : World) (x : SpV) : Prop where
  F : Sl w 1 x.F x.f.length (bvs x.f)
  T : Sl w 1 x.T x.t.length (bvs x.t)
  lf : x.f.length ≤ 140737488351232
  lt : x.t.length ≤ 140737488351232
theorem Good.kept {w w1 : World} {x : SpV} {S : Nat → Prop} (h : x.Good w) (f : Fr S w w1) (h1 : ∀ k, x.F.ownBlock = some k → ¬ S k) (h2 : ∀ k, x.T.ownBlock = some k → ¬ S k) : x.Good w1 :=
  ⟨h.F.kept f h1, h.T.kept f h2, h.lf, h.lt⟩
theorem Good.kept0 {w w1 : World} {x : SpV} (h : x.Good w) (f : Fr no w w1) : x.Good w1 := h.kept f (fun _ _ h => h) (fun _ _ h => h)
theorem Good.below {w w1 : World} {x : SpV} (h : x.Good w) (b : Below w.heap.size w w1) : x.Good w1 := ⟨h.F.below b, h.T.below b, h.lf, h.lt⟩
end SpV

theorem flat3 (l : List SpV) (j : Nat) (h : j < l.length) (i : Nat) (hi : i < 3) : (l.flatMap SpV.cells)[3 * j + i]? = (l[j].cells)[i]? := by
  have e : l.flatMap SpV.cells = (l.map SpV.cells).flatten := by rw [List.flatMap_def]
  rw [e, flat_get (sz := 3) (by omega) _ (by intro c hc; obtain ⟨o, _, rfl⟩ := List.mem_map.1 hc; rfl)]
  rw [show (3 * j + i) / 3 = j by omega, show (3 * j + i) % 3 = i by omega]
  simp [h]

theorem cells3_len (l : List SpV) : (l.flatMap SpV.cells).length = l.length * 3 := by
  induction l with
  | nil => rfl
  | cons a l ih => simp [List.flatMap_cons, ih, SpV.cells, Nat.succ_mul]

theorem cells3_one (l : List SpV) {w : World} (h : ∀ x ∈ l, x.Good w) : ∀ u ∈ l.flatMap SpV.cells, u.oneCell' = true := by
  intro u hu
  obtain ⟨x, hx, hu⟩ := List.mem_flatMap.1 hu
  obtain ⟨A, c, hA, _, _⟩ := (h x hx).F.form
  obtain ⟨B, d, hB, _, _⟩ := (h x hx).T.form
  simp only [SpV.cells, List.mem_cons, List.not_mem_nil, or_false] at hu
  rcases hu with rfl | rfl | rfl
  · rw [hA]; rfl
  · rw [hB]; rfl
  · rfl

theorem Spans.at {w : World} {A : Option Addr} {n c : Nat} {l : List SpV} (h : Sl w 3 (.slice A n c) l.length (l.flatMap SpV.cells)) (j : Nat) (hj : j < l.length) :
    ∃ b o, A = some ⟨b, o, none⟩ ∧ w.cell? ⟨b, o + j * 3, none⟩ = some l[j].F ∧ w.cell? ⟨b, o + j * 3 + 1, none⟩ = some l[j].T ∧ w.cell? ⟨b, o + j * 3 + 2, none⟩ = some (.bool l[j].o) := by
  rcases h.2 with ⟨_, h1, h2⟩ | ⟨b, o, cap, h1, _, _, h4⟩
  · omega
  · cases h1
    have g : ∀ i, i < 3 → ∀ u, (l[j].cells)[i]? = some u → w.cell? ⟨b, o + j * 3 + i, none⟩ = some u := fun i hi u hu => by
      have := h4 (3 * j + i) u (by rw [flat3 l j hj i hi, hu])
      rw [show o + j * 3 + i = o + (3 * j + i) by omega]; exact this
    exact ⟨b, o, rfl, g 0 (by omega) _ rfl, g 1 (by omega) _ rfl, g 2 (by omega) _ rfl⟩

/-- The span ends no earlier than where the key begins. -/
def reach (o : Bool) (t k : List UInt8) : Bool := o || decide (0 ≤ cb t k)

set_option maxRecDepth 100000 in
set_option maxHeartbeats 400000 in
theorem reaches_any (w : World) (F T K : Value) (t k : List UInt8) (o : Bool) (hT : Sl w 1 T t.length (bvs t)) (hK : Sl w 1 K k.length (bvs k)) :
    Calls Try.prog 114 #[.agg #[F, T, .bool o], K] w fun e w' => e = .returned (.bool (reach o t k)) ∧ Fr no w w' := by
  have HT := Lib.hid hT; have HK := Lib.hid hK; clear hT hK
  cases o with
  | true =>
    go_enter Try.func114, Try.ntmps114
    go_wp2
    go_ret
    exact ⟨rfl, (Fr.refl no w).alloc _⟩
  | false =>
    go_enter Try.func114, Try.ntmps114
    go_wp2_with fail
    refine (cmp_any _ _ _ t k (HT.out.kept0 ((Fr.refl no w).alloc _)) (HK.out.kept0 ((Fr.refl no w).alloc _))).mono ?_
    rintro e w1 ⟨rfl, rfl⟩
    go_wp2
    go_ret
    exact ⟨by simp [reach], (Fr.refl no w).alloc _⟩

set_option maxRecDepth 100000 in
set_option maxHeartbeats 400000 in
/-- What Span asks of each span: whether it reaches to where x begins. -/
theorem span1_any (w : World) (px : Nat) (F T XF : Value) (t k : List UInt8) (o : Bool) (hT : Sl w 1 T t.length (bvs t)) (hK : Sl w 1 XF k.length (bvs k)) (hc : w.cell? ⟨px, 0, none⟩ = some XF) :
    Calls Try.prog 113 #[.agg #[F, T, .bool o], .pointer (some ⟨px, 0, none⟩)] w fun e w' => e = .returned (.bool (reach o t k)) ∧ Fr no w w' := by
  have HT := Lib.hid hT; have HK := Lib.hid hK; clear hT hK
  have hlt := World.block_lt_of_cell? w _ hc
  have hc2 := ((Fr.refl no w).alloc (.cells #[F, T, .bool o] 100)).cell hc (fun h => h)
  go_enter Try.func113, Try.ntmps113
  go_wp2_with fail
  refine (reaches_any _ F T XF t k o (HT.out.kept0 ((Fr.refl no w).alloc _)) (HK.out.kept0 ((Fr.refl no w).alloc _))).mono ?_
  rintro e w1 ⟨rfl, hf⟩
  have HF := Lib.hid hf; clear hf
  go_wp2
  go_ret
  exact ⟨rfl, ((Fr.refl no w).alloc _).trans HF.out (fun _ _ h => h)⟩

/-- A span that ends behind k. -/
def past (o : Bool) (t k : List UInt8) : Bool := o || decide (0 < cb t k)

set_option maxRecDepth 100000 in
set_option maxHeartbeats 400000 in
theorem has1_any (w : World) (px : Nat) (F T XK : Value) (t k : List UInt8) (o : Bool) (hT : Sl w 1 T t.length (bvs t)) (hK : Sl w 1 XK k.length (bvs k)) (hc : w.cell? ⟨px, 0, none⟩ = some XK) :
    Calls Try.prog 117 #[.agg #[F, T, .bool o], .pointer (some ⟨px, 0, none⟩)] w fun e w' => e = .returned (.bool (past o t k)) ∧ Fr no w w' := by
  have HT := Lib.hid hT; have HK := Lib.hid hK; clear hT hK
  have hlt := World.block_lt_of_cell? w _ hc
  have hc2 := ((Fr.refl no w).alloc (.cells #[F, T, .bool o] 100)).cell hc (fun h => h)
  cases o with
  | true =>
    go_enter Try.func117, Try.ntmps117
    go_wp2
    go_ret
    exact ⟨rfl, (Fr.refl no w).alloc _⟩
  | false =>
    go_enter Try.func117, Try.ntmps117
    go_wp2_with fail
    refine (cmp_any _ _ _ t k (HT.out.kept0 ((Fr.refl no w).alloc _)) (HK.out.kept0 ((Fr.refl no w).alloc _))).mono ?_
    rintro e w1 ⟨rfl, rfl⟩
    go_wp2
    go_ret
    exact ⟨by simp [past], (Fr.refl no w).alloc _⟩

/-- The first that fits; -1: none does. -/
def fits (p : SpV → Bool) (l : List SpV) : Int := match l.findIdx? p with | some i => i | none => -1

set_option maxRecDepth 100000 in
set_option maxHeartbeats 400000 in
theorem index_span1 (w : World) (px : Nat) (A : Option Addr) (c : Nat) (l : List SpV) (hl : Sl w 3 (.slice A l.length c) l.length (l.flatMap SpV.cells)) (hn : l.length ≤ 140737488351232) (p : SpV → Bool)
    (hp : ∀ w', Fr no w w' → ∀ x ∈ l, Calls Try.prog 113 #[.agg #[x.F, x.T, .bool x.o], .pointer (some ⟨px, 0, none⟩)] w' fun e w'' => e = .returned (.bool (p x)) ∧ Fr no w' w'') :
    Calls Try.prog 112 #[.slice A l.length c, .func (.func 113) #[] #[.pointer (some ⟨px, 0, none⟩)]] w fun e w' => e = .returned (.int .i64 (fits p l)) ∧ Fr no w w' := by
  have HL := Lib.hid hl; have HP := Lib.hid hp; clear hl hp
  go_enter Try.func112, Try.ntmps112
  go_wp2
  go_loopw [8] (fun i wr => ∃ j : Nat, j ≤ l.length ∧ i = .int .i64 j ∧ Fr no w wr ∧ ∀ k (hk : k < l.length), k < j → p l[k] = false) (fun i _ => l.length - (intOf i).toNat)
  case atStart => exact ⟨0, Nat.zero_le _, rfl, Fr.refl _ _, fun k _ h => by omega⟩
  case round =>
    obtain ⟨j, hj, rfl, hf, hno⟩ := hrel
    have HF := Lib.hid hf; have HNO := Lib.hid hno; clear hf hno
    by_cases hlt : j < l.length
    · obtain ⟨b, o, hA, q0, q1, q2⟩ := Spans.at (HL.out.kept0 HF.out) j hlt
      subst hA
      cases hpj : p l[j] with
      | true =>
        have HPJ := Lib.hid hpj; clear hpj
        go_wp2_with fail
        refine (HP.out wr HF.out l[j] (List.getElem_mem _)).mono ?_
        rintro e w1 ⟨rfl, hf1⟩
        rw [HPJ.out]
        have HF1 := Lib.hid hf1; clear hf1
        go_wp2
        go_ret
        have e : fits p l = j := by
          unfold fits
          rw [List.findIdx?_eq_some_iff_getElem.2 ⟨hlt, HPJ.out, fun k hk => by rw [HNO.out k (by omega) hk]; simp⟩]
        rw [e]
        exact ⟨rfl, HF.out.trans HF1.out (fun _ _ h => h)⟩
      | false =>
        have HPJ := Lib.hid hpj; clear hpj
        go_wp2_with fail
        refine (HP.out wr HF.out l[j] (List.getElem_mem _)).mono ?_
        rintro e w1 ⟨rfl, hf1⟩
        rw [HPJ.out]
        have HF1 := Lib.hid hf1; clear hf1
        go_wp2
        go_roundw
        case rel =>
          refine ⟨j + 1, hlt, by go_num, HF.out.trans HF1.out (fun _ _ h => h), fun k hk hkj => ?_⟩
          by_cases h : k = j
          · subst h; exact HPJ.out
          · exact HNO.out k hk (by omega)
        case measure => simp [intOf]; omega
    · go_wp2
      go_ret
      have e : fits p l = -1 := by
        unfold fits
        rw [List.findIdx?_eq_none_iff.2 (fun x hx => by
          obtain ⟨k, hk, rfl⟩ := List.getElem_of_mem hx
          exact HNO.out k hk (by omega))]
      rw [e]
      exact ⟨rfl, HF.out⟩


set_option maxRecDepth 100000 in
set_option maxHeartbeats 400000 in
theorem index_has1 (w : World) (px : Nat) (A : Option Addr) (c : Nat) (l : List SpV) (hl : Sl w 3 (.slice A l.length c) l.length (l.flatMap SpV.cells)) (hn : l.length ≤ 140737488351232) (p : SpV → Bool)
    (hp : ∀ w', Fr no w w' → ∀ x ∈ l, Calls Try.prog 117 #[.agg #[x.F, x.T, .bool x.o], .pointer (some ⟨px, 0, none⟩)] w' fun e w'' => e = .returned (.bool (p x)) ∧ Fr no w' w'') :
    Calls Try.prog 112 #[.slice A l.length c, .func (.func 117) #[] #[.pointer (some ⟨px, 0, none⟩)]] w fun e w' => e = .returned (.int .i64 (fits p l)) ∧ Fr no w w' := by
  have HL := Lib.hid hl; have HP := Lib.hid hp; clear hl hp
  go_enter Try.func112, Try.ntmps112
  go_wp2
  go_loopw [8] (fun i wr => ∃ j : Nat, j ≤ l.length ∧ i = .int .i64 j ∧ Fr no w wr ∧ ∀ k (hk : k < l.length), k < j → p l[k] = false) (fun i _ => l.length - (intOf i).toNat)
  case atStart => exact ⟨0, Nat.zero_le _, rfl, Fr.refl _ _, fun k _ h => by omega⟩
  case round =>
    obtain ⟨j, hj, rfl, hf, hno⟩ := hrel
    have HF := Lib.hid hf; have HNO := Lib.hid hno; clear hf hno
    by_cases hlt : j < l.length
    · obtain ⟨b, o, hA, q0, q1, q2⟩ := Spans.at (HL.out.kept0 HF.out) j hlt
      subst hA
      cases hpj : p l[j] with
      | true =>
        have HPJ := Lib.hid hpj; clear hpj
        go_wp2_with fail
        refine (HP.out wr HF.out l[j] (List.getElem_mem _)).mono ?_
        rintro e w1 ⟨rfl, hf1⟩
        rw [HPJ.out]
        have HF1 := Lib.hid hf1; clear hf1
        go_wp2
        go_ret
        have e : fits p l = j := by
          unfold fits
          rw [List.findIdx?_eq_some_iff_getElem.2 ⟨hlt, HPJ.out, fun k hk => by rw [HNO.out k (by omega) hk]; simp⟩]
        rw [e]
        exact ⟨rfl, HF.out.trans HF1.out (fun _ _ h => h)⟩
      | false =>
        have HPJ := Lib.hid hpj; clear hpj
        go_wp2_with fail
        refine (HP.out wr HF.out l[j] (List.getElem_mem _)).mono ?_
        rintro e w1 ⟨rfl, hf1⟩
        rw [HPJ.out]
        have HF1 := Lib.hid hf1; clear hf1
        go_wp2
        go_roundw
        case rel =>
          refine ⟨j + 1, hlt, by go_num, HF.out.trans HF1.out (fun _ _ h => h), fun k hk hkj => ?_⟩
          by_cases h : k = j
          · subst h; exact HPJ.out
          · exact HNO.out k hk (by omega)
        case measure => simp [intOf]; omega
    · go_wp2
      go_ret
      have e : fits p l = -1 := by
        unfold fits
        rw [List.findIdx?_eq_none_iff.2 (fun x hx => by
          obtain ⟨k, hk, rfl⟩ := List.getElem_of_mem hx
          exact HNO.out k hk (by omega))]
      rw [e]
      exact ⟨rfl, HF.out⟩

end Go.Proofs.Ytdnohhlgaaihmaa

/- What things of a call's own take up in memory: each its own blocks. General. -/
namespace Go
open Go.RowKit

def Dj (S T : Nat → Prop) : Prop := ∀ k, S k → ¬ T k

theorem Dj.symm {S T : Nat → Prop} (h : Dj S T) : Dj T S := fun k h1 h2 => h k h2 h1

/-- The blocks of a slice's row. -/
def ob (v : Value) : Nat → Prop := fun k => v.ownBlock = some k

/-- One block. -/
def at1 (g : Nat) : Nat → Prop := fun k => k = g

/-- Footprints, apart from each other, of blocks from lo on, below hi. -/
structure Sep (lo hi : Nat) (F : List (Nat → Prop)) : Prop where
  dj : F.Pairwise Dj
  bd : ∀ S ∈ F, ∀ k, S k → lo ≤ k ∧ k < hi

namespace Sep
variable {lo hi hi' : Nat} {F : List (Nat → Prop)}
theorem nil (lo hi : Nat) : Sep lo hi [] := ⟨.nil, by simp⟩
theorem later (h : Sep lo hi F) (hh : hi ≤ hi') : Sep lo hi' F := ⟨h.dj, fun S hS k hk => ⟨(h.bd S hS k hk).1, Nat.lt_of_lt_of_le (h.bd S hS k hk).2 hh⟩⟩
theorem ne (h : Sep lo hi F) (i j : Nat) (hij : i ≠ j) {S T : Nat → Prop} (hi : F[i]? = some S) (hj : F[j]? = some T) : Dj S T := by
  obtain ⟨hi1, rfl⟩ := List.getElem?_eq_some_iff.1 hi
  obtain ⟨hj1, rfl⟩ := List.getElem?_eq_some_iff.1 hj
  rcases Nat.lt_or_gt_of_ne hij with h1 | h1
  · exact List.pairwise_iff_getElem.1 h.dj i j hi1 hj1 h1
  · exact (List.pairwise_iff_getElem.1 h.dj j i hj1 hi1 h1).symm
theorem lo_of (h : Sep lo hi F) (i : Nat) {S : Nat → Prop} (hS : F[i]? = some S) (k : Nat) (hk : S k) : lo ≤ k ∧ k < hi := h.bd S (List.mem_of_getElem? hS) k hk
/-- One of them goes on: in its own blocks, and in new ones. -/
theorem upd (h : Sep lo hi F) (i : Nat) {S : Nat → Prop} (S' : Nat → Prop) (hS : F[i]? = some S) (hh : hi ≤ hi') (hl : lo ≤ hi) (h' : ∀ k, S' k → S k ∨ (hi ≤ k ∧ k < hi')) : Sep lo hi' (F.set i S') := by
  have key : ∀ k, S' k → lo ≤ k ∧ k < hi' := fun k hk => by
    rcases h' k hk with h1 | h1
    · have := h.lo_of i hS k h1; omega
    · omega
  refine ⟨List.pairwise_iff_getElem.2 fun a b ha hb hab => ?_, fun T hT k hk => ?_⟩
  · simp only [List.length_set] at ha hb
    have other : ∀ c (hc : c < F.length), i ≠ c → Dj S' F[c] := fun c hc hne k hk hk2 => by
      rcases h' k hk with h1 | h1
      · exact h.ne i c hne hS (List.getElem?_eq_getElem hc) k h1 hk2
      · have := (h.lo_of c (List.getElem?_eq_getElem hc) k hk2).2; omega
    by_cases h1 : i = a
    · subst h1
      rw [List.getElem_set_self, List.getElem_set_ne (by omega)]
      exact other b hb (by omega)
    · rw [List.getElem_set_ne h1]
      by_cases h2 : i = b
      · subst h2
        rw [List.getElem_set_self]
        exact (other a ha (by omega)).symm
      · rw [List.getElem_set_ne h2]
        exact List.pairwise_iff_getElem.1 h.dj a b ha hb hab
  · rcases List.mem_or_eq_of_mem_set hT with h1 | rfl
    · have := h.bd T h1 k hk; omega
    · exact key k hk
/-- A new one. -/
theorem cons (h : Sep lo hi F) {S : Nat → Prop} (hh : hi ≤ hi') (hl : lo ≤ hi) (h' : ∀ k, S k → hi ≤ k ∧ k < hi') : Sep lo hi' (S :: F) := by
  refine ⟨List.pairwise_cons.2 ⟨fun T hT k hk hk2 => ?_, h.dj⟩, fun T hT k hk => ?_⟩
  · have := (h.bd T hT k hk2).2; have := (h' k hk).1; omega
  · rcases List.mem_cons.1 hT with rfl | h1
    · have := h' k hk; omega
    · have := h.bd T h1 k hk; omega
theorem tail {S : Nat → Prop} (h : Sep lo hi (S :: F)) : Sep lo hi F := ⟨(List.pairwise_cons.1 h.dj).2, fun T hT => h.bd T (List.mem_cons_of_mem _ hT)⟩
/-- Less of one of them. -/
theorem less (h : Sep lo hi F) (i : Nat) {S : Nat → Prop} (S' : Nat → Prop) (hS : F[i]? = some S) (hl : lo ≤ hi) (h' : ∀ k, S' k → S k) : Sep lo hi (F.set i S') := h.upd i S' hS (Nat.le_refl _) hl (fun k hk => .inl (h' k hk))
end Sep

theorem Moved.blk {w w' : World} {v v' : Value} (m : Moved w w' v v') (k : Nat) (h : ob v' k) : ob v k ∨ (w.heap.size ≤ k ∧ k < w'.heap.size) := by
  rcases m with m | m
  · exact .inl (m.symm.trans h)
  · exact .inr (m k h)
end Go

/- The order of bytes; string(b) against string(c); reading within a drawn region. (Law 16's copy of what SpanP, SpanE and SpansP say for law 17.) -/
namespace Go.Proofs.Ytdnohhlgaaihmaa
open Go.RowKit

theorem cb_self (l : List UInt8) : cb l l = 0 := by
  unfold cb
  induction l with
  | nil => rfl
  | cons a l ih => simp [Lib.compareBytes, ih]
theorem cb_eq {l k : List UInt8} (h : cb l k = 0) : l = k := by
  unfold cb at h
  induction l generalizing k with
  | nil => cases k <;> simp_all [Lib.compareBytes]
  | cons a l ih =>
    cases k with
    | nil => simp [Lib.compareBytes] at h
    | cons b k =>
      simp only [Lib.compareBytes] at h
      split at h
      · omega
      · split at h
        · omega
        · rename_i h1 h2
          rw [ih h, UInt8.le_antisymm (UInt8.not_lt.1 h2) (UInt8.not_lt.1 h1)]
theorem cb_swap (l k : List UInt8) : cb k l = - cb l k := by
  unfold cb
  induction l generalizing k with
  | nil => cases k <;> simp [Lib.compareBytes]
  | cons a l ih =>
    cases k with
    | nil => simp [Lib.compareBytes]
    | cons b k =>
      simp only [Lib.compareBytes]
      by_cases h1 : a < b
      · have h2 : ¬ b < a := UInt8.not_lt.2 (UInt8.le_of_lt h1)
        simp [h1, h2]
      · by_cases h2 : b < a <;> simp [h1, h2, ih]
theorem cb_trans {a b c : List UInt8} (h1 : cb a b ≤ 0) (h2 : cb b c ≤ 0) : cb a c ≤ 0 ∧ (cb a b < 0 ∨ cb b c < 0 → cb a c < 0) := by
  unfold cb at *
  induction a generalizing b c with
  | nil =>
    cases c with
    | nil => cases b with
      | nil => simp [Lib.compareBytes]
      | cons b bs => simp [Lib.compareBytes] at h2
    | cons c cs => simp [Lib.compareBytes]
  | cons a us ih =>
    cases b with
    | nil => simp [Lib.compareBytes] at h1
    | cons b bs =>
      cases c with
      | nil => simp [Lib.compareBytes] at h2
      | cons c cs =>
        simp only [Lib.compareBytes] at h1 h2 ⊢
        by_cases ab : a < b
        · by_cases bc : b < c
          · have ac := UInt8.lt_trans ab bc
            simp [ac]
          · by_cases cb' : c < b
            · simp [bc, cb'] at h2
            · have e : b = c := UInt8.le_antisymm (UInt8.not_lt.1 cb') (UInt8.not_lt.1 bc)
              subst e
              simp [ab]
        · by_cases ba : b < a
          · simp [ab, ba] at h1
          · have e : a = b := UInt8.le_antisymm (UInt8.not_lt.1 ba) (UInt8.not_lt.1 ab)
            subst e
            by_cases bc : a < c
            · simp [bc]
            · by_cases cb' : c < a
              · simp [bc, cb'] at h2
              · simp only [bc, cb', if_false, if_neg ab] at h1 h2 ⊢
                exact ih h1 h2

/-- No later than. -/
def le (a b : List UInt8) : Prop := cb a b ≤ 0
/-- Sooner than. -/
def lt (a b : List UInt8) : Prop := cb a b < 0
theorem le_rfl (a : List UInt8) : le a a := by unfold le; rw [cb_self]; omega
theorem lt_irrefl {a : List UInt8} (h : lt a a) : False := by unfold lt at h; rw [cb_self] at h; omega
theorem lt_le {a b : List UInt8} (h : lt a b) : le a b := by unfold lt at h; unfold le; omega
theorem le_trans {a b c : List UInt8} (h1 : le a b) (h2 : le b c) : le a c := (cb_trans h1 h2).1
theorem lt_le_trans {a b c : List UInt8} (h1 : lt a b) (h2 : le b c) : lt a c := (cb_trans (lt_le h1) h2).2 (.inl h1)
theorem le_lt_trans {a b c : List UInt8} (h1 : le a b) (h2 : lt b c) : lt a c := (cb_trans h1 (lt_le h2)).2 (.inr h2)
theorem lt_trans {a b c : List UInt8} (h1 : lt a b) (h2 : lt b c) : lt a c := lt_le_trans h1 (lt_le h2)
theorem le_or {a b : List UInt8} : le a b ∨ lt b a := by unfold le lt; have := cb_swap a b; omega
theorem not_lt {a b : List UInt8} (h : ¬ lt a b) : le b a := by unfold lt at h; unfold le; have := cb_swap a b; omega
theorem not_le {a b : List UInt8} (h : ¬ le a b) : lt b a := by unfold le at h; unfold lt; have := cb_swap a b; omega
theorem le_antisymm {a b : List UInt8} (h1 : le a b) (h2 : le b a) : a = b := by
  refine cb_eq ?_
  unfold le at *
  have := cb_swap a b; omega
theorem lt_not_le {a b : List UInt8} (h : lt a b) (h2 : le b a) : False := lt_irrefl (lt_le_trans h h2)

theorem less_cb (l k : List UInt8) : Op.bytesLess l k = decide (cb l k < 0) := by
  unfold cb
  induction l generalizing k with
  | nil => cases k <;> simp [Op.bytesLess, Lib.compareBytes]
  | cons a l ih =>
    cases k with
    | nil => simp [Op.bytesLess, Lib.compareBytes]
    | cons b k =>
      simp only [Op.bytesLess, Lib.compareBytes, ih]
      by_cases h1 : a < b
      · simp [h1]
      · by_cases h2 : b < a
        · have h3 : a ≠ b := fun e => by subst e; exact h1 h2
          simp [h1, h2, h3]
        · have h3 : a = b := UInt8.le_antisymm (UInt8.not_lt.1 h2) (UInt8.not_lt.1 h1)
          subst h3
          simp [h1]
theorem leq_cb (l k : List UInt8) : (Op.bytesLess l k || l == k) = decide (cb l k ≤ 0) := by
  rw [less_cb]
  have := cb_range l k
  by_cases h : l = k
  · subst h; simp [cb_self]
  · have h2 : cb l k ≠ 0 := fun e => h (cb_eq e)
    have h3 : (l == k) = false := by simpa using h
    rw [h3, Bool.or_false, decide_eq_decide]
    omega

@[go_sem] theorem strs_leq (t : TypeId) (l k : List UInt8) : binOp .leq t (.string ⟨l.toArray⟩) (.string ⟨k.toArray⟩) = pure (.bool (decide (cb l k ≤ 0))) := by
  simp only [binOp, Op.stringOp, ByteArray.toList_mk, leq_cb]
@[go_sem] theorem strs_gtr (t : TypeId) (l k : List UInt8) : binOp .gtr t (.string ⟨l.toArray⟩) (.string ⟨k.toArray⟩) = pure (.bool !(decide (cb l k ≤ 0))) := by
  simp only [binOp, Op.stringOp, ByteArray.toList_mk, leq_cb]
@[go_sem] theorem strs_geq (t : TypeId) (l k : List UInt8) : binOp .geq t (.string ⟨l.toArray⟩) (.string ⟨k.toArray⟩) = pure (.bool !(decide (cb l k < 0))) := by
  simp only [binOp, Op.stringOp, ByteArray.toList_mk, less_cb]
@[go_sem] theorem strs_lss (t : TypeId) (l k : List UInt8) : binOp .lss t (.string ⟨l.toArray⟩) (.string ⟨k.toArray⟩) = pure (.bool (decide (cb l k < 0))) := by
  simp only [binOp, Op.stringOp, ByteArray.toList_mk, less_cb]

theorem wpX_lv {P : Program} {ops : Array Oper} {Q : Exit → Act → World → Prop} {I : World → Prop} {kds : Nat → Kd} {i : Nat} {rest : List Nat} {a : Act} {w : World} {o : Oper} (v : Value) (hi : ops[i]? = some o) (hg : Region.wanted o (yielded ops a.tmps) = true) (hk : kds i = .l)
    (hv : ∀ e, (execOp a.eval o).run P (w.ext e) = .ok (.value v) (w.ext e))
    (h : wpX P ops Q I kds rest (a.put o.dst v) w) : wpX P ops Q I kds (i :: rest) a w := by
  refine wpX_step hi hg fun K hK => ?_
  rw [hk]
  refine ⟨v, fun e => ?_, hK _ _ h⟩
  unfold Oper.val
  rw [hv e]
  exact ⟨rfl, rfl⟩

/-- string(b). -/
theorem str_ext {P : Program} {w : World} {src dst e : TypeId} (hs : P.underlying src = some (.slice e)) (he : P.underlying e = some (.int .u8)) (hd : P.underlying dst = some .string) {v : Value} {n : Nat} {l : List UInt8}
    (hv : Sl w 1 v n (bvs l)) (x : Array Obj × Nat) : (convert src dst v).run P (w.ext x) = .ok (.string ⟨l.toArray⟩) (w.ext x) := run_str _ hs he hd (hv.kept0 (Fr.of_ext w x))

end Go.Proofs.Ytdnohhlgaaihmaa
