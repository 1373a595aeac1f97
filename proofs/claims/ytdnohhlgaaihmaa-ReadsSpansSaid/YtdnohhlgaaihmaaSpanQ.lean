/- law17: what came in, one by one; a set of its own. -/
import Derived.Test.YtdnohhlgaaihmaaSpanN
namespace Go.Proofs.Ytdnohhlgaaihmaa
open Go.RowKit

/-- Keys and spans that are looked at. -/
structure Ins (w : World) (X Y : Value) (ks : List Kv) (l : List SpV) : Prop where
  keys : Keys w X ks
  spans : SpIn w Y l
  nk : ks.length ≤ 300
  nl : l.length ≤ 300
  bk : ∀ x ∈ ks, x.b.length ≤ 20000
  bl : ∀ x ∈ l, x.f.length ≤ 20000 ∧ x.t.length ≤ 20000

theorem over_keys {ks : List Kv} (h : over17 ks.length (ks.map fun k => k.b.length) = false) : ks.length ≤ 300 ∧ ∀ x ∈ ks, x.b.length ≤ 20000 := by
  unfold over17 at h
  simp only [Bool.or_eq_false_iff, decide_eq_false_iff_not] at h
  refine ⟨by omega, fun x hx => ?_⟩
  have := le_sum17 (List.mem_map_of_mem (f := fun k : Kv => k.b.length) hx)
  omega
theorem over_spans {l : List SpV} (h : over17 l.length (l.map fun k => k.f.length + k.t.length) = false) : l.length ≤ 300 ∧ ∀ x ∈ l, x.f.length ≤ 20000 ∧ x.t.length ≤ 20000 := by
  unfold over17 at h
  simp only [Bool.or_eq_false_iff, decide_eq_false_iff_not] at h
  refine ⟨by omega, fun x hx => ?_⟩
  have := le_sum17 (List.mem_map_of_mem (f := fun k : SpV => k.f.length + k.t.length) hx)
  omega

/-- One key that came in. -/
theorem key_in {w : World} {A : Option Addr} {n c : Nat} {ks : List Kv} (h : Keys w (.slice A n c) ks) (j : Nat) (hj : j < ks.length) :
    ∃ b o VA vc, A = some ⟨b, o, none⟩ ∧ ks[j].V = .slice VA ks[j].b.length vc ∧ w.cell? ⟨b, o + j, none⟩ = some (.slice VA ks[j].b.length vc) ∧ Sl w 1 (.slice VA ks[j].b.length vc) ks[j].b.length (bvs ks[j].b) := by
  obtain ⟨kb, ko, hA, q0⟩ := Keys.at h j hj
  have hkv := (h.good ks[j] (List.getElem_mem _)).1
  obtain ⟨VA, vc, hV, _, _⟩ := hkv.form
  rw [hV] at q0 hkv
  exact ⟨kb, ko, VA, vc, hA, hV, q0, hkv⟩

/-- One span that came in. -/
theorem span_in {w : World} {A : Option Addr} {n c : Nat} {l : List SpV} (h : SpIn w (.slice A n c) l) (hb : ∀ x ∈ l, x.f.length ≤ 20000 ∧ x.t.length ≤ 20000) (j : Nat) (hj : j < l.length) :
    ∃ b o FA fc TA tc, A = some ⟨b, o, none⟩ ∧ w.cell? ⟨b, o + j * 3, none⟩ = some (.slice FA l[j].f.length fc) ∧ w.cell? ⟨b, o + j * 3 + 1, none⟩ = some (.slice TA l[j].t.length tc) ∧ w.cell? ⟨b, o + j * 3 + 2, none⟩ = some (.bool l[j].o) ∧
      SpV.Good w ⟨.slice FA l[j].f.length fc, .slice TA l[j].t.length tc, l[j].f, l[j].t, l[j].o⟩ := by
  obtain ⟨sb, so, hB, q0, q1, q2⟩ := Spans.at h.sl j hj
  obtain ⟨h1, h2⟩ := hb l[j] (List.getElem_mem _)
  have hr := h.raw l[j] (List.getElem_mem _)
  obtain ⟨FA, fc, hF, _, _⟩ := hr.F.form
  obtain ⟨TA, tc, hT, _, _⟩ := hr.T.form
  rw [hF] at q0; rw [hT] at q1
  exact ⟨sb, so, FA, fc, TA, tc, hB, q0, q1, q2, ⟨hF ▸ hr.F, hT ▸ hr.T, by simp only []; omega, by simp only []; omega⟩⟩

/-- A new set. -/
theorem one_new {w w1 : World} {p : Nat} (hp : w.heap.size ≤ p) (hs : Se w1 p (.slice none 0 0) []) (f : Fr no w w1) : One w w1 p (.slice none 0 0) [] (fun _ => False) 0 no :=
  ⟨f, hs, trivial, fun k => ⟨fun h => SpV.Mem.nil h, fun h => h.elim⟩, Nat.le_refl _, (fun k hk => by
    rcases hk with h | h | ⟨x, hx, _⟩
    · omega
    · simp [Value.ownBlock] at h
    · cases hx), fun k h => h.elim⟩

/-- A set of its own. -/
def Lone (w wr : World) (p : Nat) (M : List UInt8 → Prop) (n : Nat) : Prop := ∃ sv l, One w wr p sv l M n no
theorem Lone.fr {w wr : World} {p : Nat} {M : List UInt8 → Prop} {n : Nat} (h : Lone w wr p M n) : Fr no w wr := by obtain ⟨_, _, h⟩ := h; exact h.fr
theorem Lone.kept0 {w wr w1 : World} {p : Nat} {M : List UInt8 → Prop} {n : Nat} (h : Lone w wr p M n) (f : Fr no wr w1) : Lone w w1 p M n := by obtain ⟨sv, l, h⟩ := h; exact ⟨sv, l, h.kept0 f⟩
theorem Lone.turn {w wr : World} {p : Nat} {M M' : List UInt8 → Prop} {n m : Nat} (h : Lone w wr p M n) (hm : ∀ k, M k ↔ M' k) (hn : n ≤ m) : Lone w wr p M' m := by
  obtain ⟨sv, l, h⟩ := h; exact ⟨sv, l, { h.turn hm with len := Nat.le_trans h.len hn }⟩
theorem Both.lone {w wr : World} {p q : Nat} {M1 M2 : List UInt8 → Prop} {n : Nat} {G : Nat → Prop} (h : Both w wr p q M1 M2 n G) : Lone w wr p M1 n := by
  obtain ⟨sv, l, rv, rl, h1, _⟩ := h; exact ⟨sv, l, h1.gets (fun k h => h.elim)⟩
theorem lone_span (w wr : World) (p : Nat) (M : List UInt8 → Prop) (n : Nat) (x : SpV) (h : Lone w wr p M n) (hx : x.Good wr) (hn : n ≤ 100000) :
    Calls Try.prog 43 #[.pointer (some ⟨p, 0, none⟩), .agg #[x.F, x.T, .bool x.o]] wr fun e w' => e = .returned (.tuple #[]) ∧ Lone w w' p (fun k => x.mem k ∨ M k) (n + 1) := by
  obtain ⟨sv, l, h1⟩ := h
  refine (span_any wr p sv l x h1.se hx (Nat.le_trans h1.len hn)).mono fun e w' hs => ?_
  obtain ⟨h0, sv', l', h2, _⟩ := h1.spanned hs
  exact ⟨h0, sv', l', h2⟩
theorem lone_key (w wr : World) (p : Nat) (M : List UInt8 → Prop) (n : Nat) (K : Value) (b : List UInt8) (h : Lone w wr p M n) (hK : Sl wr 1 K b.length (bvs b)) (hb : b.length ≤ 100000000) (hn : n ≤ 100000) :
    Calls Try.prog 44 #[.pointer (some ⟨p, 0, none⟩), K] wr fun e w' => e = .returned (.tuple #[]) ∧ Lone w w' p (fun k => b = k ∨ M k) (n + 1) := by
  obtain ⟨sv, l, h1⟩ := h
  refine (key_any wr p sv K l b h1.se hK hb (Nat.le_trans h1.len hn)).mono fun e w' hs => ?_
  obtain ⟨h0, sv', l', h2, _⟩ := h1.spanned hs
  exact ⟨h0, sv', l', h2.turn fun k => or_congr (key_mem K K b k) Iff.rfl⟩
theorem lone_has (w wr : World) (p : Nat) (M : List UInt8 → Prop) (n : Nat) (K : Value) (k : List UInt8) (h : Lone w wr p M n) (hK : Sl wr 1 K k.length (bvs k)) (hn : n ≤ 100000) :
    Calls Try.prog 48 #[.pointer (some ⟨p, 0, none⟩), K] wr fun e w' => (∃ b, e = .returned (.bool b) ∧ (b = true ↔ M k)) ∧ Fr no wr w' := by
  obtain ⟨sv, l, h1⟩ := h
  refine (has_any wr p sv K l k h1.se hK (Nat.le_trans h1.len hn)).mono fun e w' hs => ?_
  exact ⟨⟨_, hs.1, by rw [hasV_mem h1.norm, h1.mem]⟩, hs.2⟩

/-- Just this is put in. -/
theorem drop_mem (l : List SpV) (m : Nat) (hm : m < l.length) (k : List UInt8) : SpV.mem l[m] k ∨ SpV.Mem (l.drop (m + 1)) k ↔ SpV.Mem (l.drop m) k := by
  rw [List.drop_eq_getElem_cons hm, SpV.Mem.cons]
def KMem (ks : List Kv) (k : List UInt8) : Prop := ∃ x ∈ ks, x.b = k
theorem drop_kmem (l : List Kv) (m : Nat) (hm : m < l.length) (k : List UInt8) : l[m].b = k ∨ KMem (l.drop (m + 1)) k ↔ KMem (l.drop m) k := by
  have e : KMem (l[m] :: l.drop (m + 1)) k ↔ l[m].b = k ∨ KMem (l.drop (m + 1)) k := by unfold KMem; simp only [List.mem_cons, or_and_right, exists_or, exists_eq_left]
  rw [List.drop_eq_getElem_cons hm]
  exact e.symm
end Go.Proofs.Ytdnohhlgaaihmaa
