/- law16: pairs, and what lies below a buffer. -/
import Derived.Test.YtdnohhlgaaihmaaSameC
import Derived.Test.YtdnohhlgaaihmaaLent
namespace Go.Proofs.Ytdnohhlgaaihmaa
open Go.RowKit

/-- A pair: its two slices, their bytes. -/
structure PrV where
  K : Value
  V : Value
  k : List UInt8
  v : List UInt8
namespace PrV
def cells (x : PrV) : List Value := [x.K, x.V]
structure Good (w : World) (x : PrV) : Prop where
  K : Sl w 1 x.K x.k.length (bvs x.k)
  V : Sl w 1 x.V x.v.length (bvs x.v)
  lk : x.k.length ≤ 140737488351232
  lv : x.v.length ≤ 140737488351232
theorem Good.kept {w w1 : World} {x : PrV} {S : Nat → Prop} (h : x.Good w) (f : Fr S w w1) (h1 : ∀ k, x.K.ownBlock = some k → ¬ S k) (h2 : ∀ k, x.V.ownBlock = some k → ¬ S k) : x.Good w1 :=
  ⟨h.K.kept f h1, h.V.kept f h2, h.lk, h.lv⟩
theorem Good.kept0 {w w1 : World} {x : PrV} (h : x.Good w) (f : Fr no w w1) : x.Good w1 := h.kept f (fun _ _ h => h) (fun _ _ h => h)
end PrV

theorem flat2 (l : List PrV) (j : Nat) (h : j < l.length) (i : Nat) (hi : i < 2) : (l.flatMap PrV.cells)[2 * j + i]? = (l[j].cells)[i]? := by
  have e : l.flatMap PrV.cells = (l.map PrV.cells).flatten := by rw [List.flatMap_def]
  rw [e, flat_get (sz := 2) (by omega) _ (by intro c hc; obtain ⟨o, _, rfl⟩ := List.mem_map.1 hc; rfl)]
  rw [show (2 * j + i) / 2 = j by omega, show (2 * j + i) % 2 = i by omega]
  simp [h]

/-- Pairs in a row. -/
structure Pairs (w : World) (x : Value) (l : List PrV) : Prop where
  sl : Sl w 2 x l.length (l.flatMap PrV.cells)
  good : ∀ y ∈ l, y.Good w
  n : l.length ≤ 1000000
theorem Pairs.kept0 {w w1 : World} {x : Value} {l : List PrV} (h : Pairs w x l) (f : Fr no w w1) : Pairs w1 x l := ⟨h.sl.kept0 f, fun y hy => (h.good y hy).kept0 f, h.n⟩
theorem Pairs.at {w : World} {A : Option Addr} {n c : Nat} {l : List PrV} (h : Pairs w (.slice A n c) l) (j : Nat) (hj : j < l.length) :
    ∃ b o KA kc VA vc, A = some ⟨b, o, none⟩ ∧ n = l.length ∧ w.cell? ⟨b, o + j * 2, none⟩ = some (.slice KA l[j].k.length kc) ∧ w.cell? ⟨b, o + j * 2 + 1, none⟩ = some (.slice VA l[j].v.length vc) ∧
      PrV.Good w ⟨.slice KA l[j].k.length kc, .slice VA l[j].v.length vc, l[j].k, l[j].v⟩ ∧ l[j].K = .slice KA l[j].k.length kc ∧ l[j].V = .slice VA l[j].v.length vc := by
  have hg := h.good l[j] (List.getElem_mem _)
  obtain ⟨KA, kc, hK, _, _⟩ := hg.K.form
  obtain ⟨VA, vc, hV, _, _⟩ := hg.V.form
  rcases h.sl.2 with ⟨_, h1, h2⟩ | ⟨b, o, cap, h1, _, _, h4⟩
  · omega
  · cases h1
    have g : ∀ i, i < 2 → ∀ u, (l[j].cells)[i]? = some u → w.cell? ⟨b, o + j * 2 + i, none⟩ = some u := fun i hi u hu => by
      have := h4 (2 * j + i) u (by rw [flat2 l j hj i hi, hu])
      rw [show o + j * 2 + i = o + (2 * j + i) by omega]; exact this
    refine ⟨b, o, KA, kc, VA, vc, rfl, rfl, ?_, ?_, ⟨hK ▸ hg.K, hV ▸ hg.V, hg.lk, hg.lv⟩, hK, hV⟩
    · rw [← hK]; exact g 0 (by omega) _ rfl
    · rw [← hV]; exact g 1 (by omega) _ rfl

/-- A key behind a place, going up. -/
def abv (k f : List UInt8) (b : Bool) : Bool := decide (0 < cb k f) || (b && decide (k = f))
/-- And going down. -/
def bel (k f : List UInt8) (b : Bool) : Bool := decide (cb k f < 0) || (b && (decide (f = []) || decide (k = f)))

theorem str_eq (k f : List UInt8) : (k == f) = decide (k = f) := by
  by_cases h : k = f <;> simp [h]

set_option maxRecDepth 100000 in
set_option maxHeartbeats 4000000 in
theorem above_any (w : World) (K F : Value) (k f : List UInt8) (b : Bool) (hK : Sl w 1 K k.length (bvs k)) (hF : Sl w 1 F f.length (bvs f)) :
    Calls Try.prog 123 #[K, F, .bool b] w fun e w' => e = .returned (.bool (abv k f b)) ∧ w' = w := by
  have hs1 := run_str (P := Try.prog) w (src := 34) (dst := 9) (e := 5) (by kernel_rfl) (by kernel_rfl) (by kernel_rfl) hK
  have hs2 := run_str (P := Try.prog) w (src := 34) (dst := 9) (e := 5) (by kernel_rfl) (by kernel_rfl) (by kernel_rfl) hF
  clear hK hF
  by_cases h1 : 0 < cb k f
  · have hl : Op.bytesLess f k = true := by rw [less_cb]; have := cb_swap k f; exact decide_eq_true (by omega)
    have he : abv k f b = true := by unfold abv; simp [h1]
    have HE := Lib.hid he; clear he
    go_enter Try.func123, Try.ntmps123
    go_wp2
    go_ret
    rw [HE.out]; exact ⟨by first | rfl | simp, rfl⟩
  · have hl : Op.bytesLess f k = false := by rw [less_cb]; have := cb_swap k f; exact decide_eq_false (by omega)
    cases b with
    | false =>
      have he : abv k f false = false := by unfold abv; simp; omega
      have HE := Lib.hid he; clear he
      go_enter Try.func123, Try.ntmps123
      go_wp2
      go_ret
      rw [HE.out]; exact ⟨by first | rfl | simp, rfl⟩
    | true =>
      have he : abv k f true = (k == f) := by unfold abv; rw [str_eq]; simp [h1]
      have HE := Lib.hid he; clear he
      go_enter Try.func123, Try.ntmps123
      go_wp2
      go_ret
      rw [HE.out]; exact ⟨by first | rfl | simp, rfl⟩

set_option maxRecDepth 100000 in
set_option maxHeartbeats 4000000 in
theorem below_any (w : World) (K F : Value) (k f : List UInt8) (b : Bool) (hK : Sl w 1 K k.length (bvs k)) (hF : Sl w 1 F f.length (bvs f)) :
    Calls Try.prog 124 #[K, F, .bool b] w fun e w' => e = .returned (.bool (bel k f b)) ∧ w' = w := by
  obtain ⟨A, c, rfl, _, _⟩ := hF.form
  have hs1 := run_str (P := Try.prog) w (src := 34) (dst := 9) (e := 5) (by kernel_rfl) (by kernel_rfl) (by kernel_rfl) hK
  have hs2 := run_str (P := Try.prog) w (src := 34) (dst := 9) (e := 5) (by kernel_rfl) (by kernel_rfl) (by kernel_rfl) hF
  clear hK hF
  by_cases h1 : cb k f < 0
  · have hl : Op.bytesLess k f = true := by rw [less_cb]; exact decide_eq_true h1
    have he : bel k f b = true := by unfold bel; simp [h1]
    have HE := Lib.hid he; clear he
    go_enter Try.func124, Try.ntmps124
    go_wp2
    go_ret
    rw [HE.out]; exact ⟨by first | rfl | simp, rfl⟩
  · have hl : Op.bytesLess k f = false := by rw [less_cb]; exact decide_eq_false h1
    cases b with
    | false =>
      have he : bel k f false = false := by unfold bel; simp; omega
      have HE := Lib.hid he; clear he
      go_enter Try.func124, Try.ntmps124
      go_wp2
      go_ret
      rw [HE.out]; exact ⟨by first | rfl | simp, rfl⟩
    | true =>
      by_cases hf0 : f = []
      · have hfl : ((f.length : Int) == 0) = true := by simp [hf0]
        have he : bel k f true = true := by unfold bel; simp [hf0]
        have HE := Lib.hid he; clear he hf0
        go_enter Try.func124, Try.ntmps124
        go_wp2
        go_ret
        rw [HE.out]; exact ⟨by first | rfl | simp, rfl⟩
      · have hfl : ((f.length : Int) == 0) = false := by have := List.length_pos_iff.2 hf0; simp; omega
        have he : bel k f true = (k == f) := by unfold bel; rw [str_eq]; simp [h1, hf0]
        have HE := Lib.hid he; clear he hf0
        go_enter Try.func124, Try.ntmps124
        go_wp2
        go_ret
        rw [HE.out]; exact ⟨by first | rfl | simp, rfl⟩
end Go.Proofs.Ytdnohhlgaaihmaa
