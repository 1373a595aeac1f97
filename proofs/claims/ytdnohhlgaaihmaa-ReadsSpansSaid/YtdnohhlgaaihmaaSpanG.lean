/- law17: many, much. -/
import Derived.Test.YtdnohhlgaaihmaaSpanF
import Derived.Deep.QuietTactic
import Derived.BigQuiet
namespace Go.Proofs.Ytdnohhlgaaihmaa
open Go.RowKit

theorem sum_take (l : List Nat) (j : Nat) (h : j < l.length) : (l.take (j + 1)).sum = (l.take j).sum + l[j] := by
  rw [List.take_succ_eq_append_getElem h, List.sum_append, List.sum_singleton]
theorem sum_le (l : List Nat) (j : Nat) : (l.take j).sum ≤ l.sum := by
  have h := congrArg List.sum (List.take_append_drop j l)
  rw [List.sum_append] at h
  omega
theorem le_sum17 {l : List Nat} {x : Nat} (h : x ∈ l) : x ≤ l.sum := by
  induction l with
  | nil => cases h
  | cons a l ih =>
    rcases List.mem_cons.1 h with rfl | h
    · simp
    · have := ih h; simp; omega

theorem wrap64_id17 (n : Int) (h : -9223372036854775808 ≤ n) (h2 : n ≤ 9223372036854775807) : wrap64 n = n := by unfold wrap64; omega

/-- A span that came in. -/
structure SpV.Raw (w : World) (x : SpV) : Prop where
  F : Sl w 1 x.F x.f.length (bvs x.f)
  T : Sl w 1 x.T x.t.length (bvs x.t)
  lf : x.f.length ≤ reachBytes
  lt : x.t.length ≤ reachBytes
/-- Spans that came in. -/
structure SpIn (w : World) (x : Value) (l : List SpV) : Prop where
  sl : Sl w 3 x l.length (l.flatMap SpV.cells)
  raw : ∀ y ∈ l, y.Raw w
  n : l.length ≤ reachBytes
theorem SpIn.kept0 {w w1 : World} {x : Value} {l : List SpV} (h : SpIn w x l) (f : Fr no w w1) : SpIn w1 x l := ⟨h.sl.kept0 f, fun y hy => ⟨(h.raw y hy).F.kept0 f, (h.raw y hy).T.kept0 f, (h.raw y hy).lf, (h.raw y hy).lt⟩, h.n⟩
theorem SpIn.below {w w1 : World} {x : Value} {l : List SpV} (h : SpIn w x l) (b : Below w.heap.size w w1) : SpIn w1 x l := ⟨h.sl.below b, fun y hy => ⟨(h.raw y hy).F.below b, (h.raw y hy).T.below b, (h.raw y hy).lf, (h.raw y hy).lt⟩, h.n⟩
/-- More than is looked at. -/
def over17 (n : Nat) (ls : List Nat) : Bool := decide (20000 < n + ls.sum) || decide (300 < n)

set_option maxRecDepth 100000 in
set_option maxHeartbeats 4000000 in
theorem many_any (w : World) (x : Value) (ks : List Kv) (hx : Keys w x ks) (hn : ks.length ≤ reachBytes) :
    Calls Try.prog 38 #[x] w fun e w' => e = .returned (.bool (over17 ks.length (ks.map fun k => k.b.length))) ∧ Fr no w w' := by
  obtain ⟨A, c, rfl, hc1, hc2⟩ := hx.sl.form
  have HX := Lib.hid hx; clear hx hc2
  obtain ⟨ls, hls⟩ : ∃ ls, ls = ks.map fun k => k.b.length := ⟨_, rfl⟩
  rw [← hls]
  have hll : ls.length = ks.length := by rw [hls]; simp
  have HLS := Lib.hid hls; have HLL := Lib.hid hll; clear hls hll
  go_enter Try.func38, Try.ntmps38
  go_wp2
  go_loopw [3, 4] (fun s i wr => ∃ j : Nat, j ≤ ks.length ∧ i = .int .i64 j ∧ s = .int .i64 ((ks.length + (ls.take j).sum : Nat) : Int) ∧ Fr no w wr) (fun s i _ => ks.length - (intOf i).toNat)
  case atStart => exact ⟨0, Nat.zero_le _, rfl, by simp, Fr.refl _ _⟩
  case round =>
    obtain ⟨j, hj, rfl, rfl, hf⟩ := hrel
    have HF := Lib.hid hf; clear hf
    obtain ⟨T, hT⟩ : ∃ T, T = ks.length + (ls.take j).sum := ⟨_, rfl⟩
    rw [← hT]
    have HT := Lib.hid hT; clear hT
    have fin : 20000 < T → over17 ks.length ls = true := fun h => by
      have := HT.out; have := sum_le ls j
      unfold over17; simp; omega
    have FIN := Lib.hid fin; clear fin
    by_cases hlt : j < ks.length
    · by_cases hb : T ≤ 20000
      · obtain ⟨b, o, hA, q0⟩ := Keys.at (HX.out.kept0 HF.out) j hlt
        obtain ⟨B, d, hB, _, _⟩ := (HX.out.good ks[j] (List.getElem_mem _)).1.form
        have hbl := (HX.out.good ks[j] (List.getElem_mem _)).2
        rw [hB] at q0
        subst hA
        have hjl : j < ls.length := by have := HLL.out; omega
        have hst := sum_take ls j hjl
        have hlj : ls[j] = ks[j].b.length := by have := HLS.out; subst this; simp
        have HS := Lib.hid hst; have HB := Lib.hid hbl; have HLJ := Lib.hid hlj; clear hB hst hbl hlj
        go_wp2
        have hs := HS.out
        have hT := HT.out
        have hbl := HB.out
        have hlj := HLJ.out
        simp only [reachBytes] at hbl hn
        rw [wrap64_id17 _ (by omega) (by omega), wrap64_id17 _ (by omega) (by omega)]
        refine ⟨⟨j + 1, hlt, rfl, ?_, HF.out⟩, by simp [intOf]; omega⟩
        congr 1
        omega
      · have hbb : ¬ ((T : Int) ≤ 20000) := by omega
        go_wp2
        go_ret
        rw [FIN.out (by omega)]
        exact ⟨by first | rfl | simp, HF.out⟩
    · obtain rfl : j = ks.length := by omega
      have hTs : T = ks.length + ls.sum := by have := HT.out; rw [List.take_of_length_le (by have := HLL.out; omega)] at this; exact this
      have HTS := Lib.hid hTs; clear hTs
      by_cases hb : T ≤ 20000
      · by_cases hb3 : 300 < ks.length
        · go_wp2
          go_ret
          have e : over17 ks.length ls = true := by unfold over17; simp; omega
          rw [e]
          exact ⟨by first | rfl | (simp; omega), HF.out⟩
        · go_wp2
          go_ret
          have e : over17 ks.length ls = false := by have := HTS.out; unfold over17; simp; omega
          rw [e]
          exact ⟨by first | rfl | (simp; omega), HF.out⟩
      · go_wp2
        go_ret
        rw [FIN.out (by omega)]
        exact ⟨by first | rfl | (simp; omega), HF.out⟩
set_option maxRecDepth 100000 in
set_option maxHeartbeats 4000000 in
theorem much_any (w : World) (x : Value) (ks : List SpV) (hx : SpIn w x ks) :
    Calls Try.prog 39 #[x] w fun e w' => e = .returned (.bool (over17 ks.length (ks.map fun k => k.f.length + k.t.length))) ∧ Fr no w w' := by
  obtain ⟨A, c, rfl, hc1, hc2⟩ := hx.sl.form
  have hn := hx.n
  simp only [reachBytes] at hn
  have HX := Lib.hid hx; clear hx hc2
  obtain ⟨ls, hls⟩ : ∃ ls, ls = ks.map fun k => k.f.length + k.t.length := ⟨_, rfl⟩
  rw [← hls]
  have hll : ls.length = ks.length := by rw [hls]; simp
  have HLS := Lib.hid hls; have HLL := Lib.hid hll; clear hls hll
  go_enter Try.func39, Try.ntmps39
  go_wp2
  go_loopw [3, 4] (fun s i wr => ∃ j : Nat, j ≤ ks.length ∧ i = .int .i64 j ∧ s = .int .i64 ((ks.length + (ls.take j).sum : Nat) : Int) ∧ Fr no w wr) (fun s i _ => ks.length - (intOf i).toNat)
  case atStart => exact ⟨0, Nat.zero_le _, rfl, by simp, Fr.refl _ _⟩
  case round =>
    obtain ⟨j, hj, rfl, rfl, hf⟩ := hrel
    have HF := Lib.hid hf; clear hf
    obtain ⟨T, hT⟩ : ∃ T, T = ks.length + (ls.take j).sum := ⟨_, rfl⟩
    rw [← hT]
    have HT := Lib.hid hT; clear hT
    have fin : 20000 < T → over17 ks.length ls = true := fun h => by
      have := HT.out; have := sum_le ls j
      unfold over17; simp; omega
    have FIN := Lib.hid fin; clear fin
    by_cases hlt : j < ks.length
    · by_cases hb : T ≤ 20000
      · obtain ⟨b, o, hA, q0, q1, _⟩ := Spans.at (HX.out.kept0 HF.out).sl j hlt
        obtain ⟨B, d, hB, _, _⟩ := (HX.out.raw ks[j] (List.getElem_mem _)).F.form
        obtain ⟨D, d2, hD, _, _⟩ := (HX.out.raw ks[j] (List.getElem_mem _)).T.form
        have hbl := (HX.out.raw ks[j] (List.getElem_mem _)).lf
        have hbt := (HX.out.raw ks[j] (List.getElem_mem _)).lt
        have hq := World.block_lt_of_cell? wr _ q0
        rw [hB] at q0
        rw [hD] at q1
        subst hA
        have hjl : j < ls.length := by have := HLL.out; omega
        have hst := sum_take ls j hjl
        have hlj : ls[j] = ks[j].f.length + ks[j].t.length := by have := HLS.out; subst this; simp
        have w1 : IntKind.i64.wrap ((ks[j].f.length : Int) + (ks[j].t.length : Int)) = (ks[j].f.length : Int) + (ks[j].t.length : Int) := IntWalk.i64_in _ (by simp only [reachBytes] at hbl hbt; omega)
        have w2 : IntKind.i64.wrap ((T : Int) + ((ks[j].f.length : Int) + (ks[j].t.length : Int))) = (T : Int) + ((ks[j].f.length : Int) + (ks[j].t.length : Int)) := IntWalk.i64_in _ (by simp only [reachBytes] at hbl hbt; omega)
        have HS := Lib.hid hst; have HB := Lib.hid hbl; have HBT := Lib.hid hbt; have HLJ := Lib.hid hlj; clear hB hD hst hbl hbt hlj
        go_wp2
        go_quiet (fail)
        go_wp2
        go_roundw
        case rel =>
          have hs := HS.out
          have hT := HT.out
          have hlj := HLJ.out
          refine ⟨j + 1, hlt, by go_num, ?_, HF.out.moreN _⟩
          congr 1
          omega
        case measure => simp [intOf]; omega
      · have hbb : ¬ ((T : Int) ≤ 20000) := by omega
        go_wp2
        go_ret
        rw [FIN.out (by omega)]
        exact ⟨by first | rfl | simp, HF.out⟩
    · obtain rfl : j = ks.length := by omega
      have hTs : T = ks.length + ls.sum := by have := HT.out; rw [List.take_of_length_le (by have := HLL.out; omega)] at this; exact this
      have HTS := Lib.hid hTs; clear hTs
      by_cases hb : T ≤ 20000
      · by_cases hb3 : 300 < ks.length
        · go_wp2
          go_ret
          have e : over17 ks.length ls = true := by unfold over17; simp; omega
          rw [e]
          exact ⟨by first | rfl | (simp; omega), HF.out⟩
        · go_wp2
          go_ret
          have e : over17 ks.length ls = false := by have := HTS.out; unfold over17; simp; omega
          rw [e]
          exact ⟨by first | rfl | (simp; omega), HF.out⟩
      · go_wp2
        go_ret
        rw [FIN.out (by omega)]
        exact ⟨by first | rfl | (simp; omega), HF.out⟩
end Go.Proofs.Ytdnohhlgaaihmaa
