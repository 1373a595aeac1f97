/- law16: much. -/
import Derived.Test.YtdnohhlgaaihmaaFill16
import Derived.Deep.QuietTactic
import Derived.BigQuiet
namespace Go.Proofs.Ytdnohhlgaaihmaa
open Go.RowKit

theorem sum_take (l : List Nat) (j : Nat) (h : j < l.length) : (l.take (j + 1)).sum = (l.take j).sum + l[j] := by
  rw [List.take_succ_eq_append_getElem h, List.sum_append, List.sum_singleton]
theorem sum_le (l : List Nat) (j : Nat) : (l.take j).sum ≤ l.sum := by
  have h := congrArg List.sum (List.take_append_drop j l)
  rw [List.sum_append] at h
  omega
theorem wrap64_id17 (n : Int) (h : -9223372036854775808 ≤ n) (h2 : n ≤ 9223372036854775807) : wrap64 n = n := by unfold wrap64; omega

set_option maxRecDepth 100000 in
set_option maxHeartbeats 4000000 in
theorem much16_any (w : World) (x : Value) (ks : List OpB) (hx : OpsB w x ks) :
    Calls Try.prog 12 #[x] w fun e w' => e = .returned (.bool (over16 ks)) ∧ Fr no w w' := by
  obtain ⟨A, c, rfl, hc1, hc2⟩ := hx.sl.form
  have hn := hx.n
  simp only [reachBytes] at hn
  have HX := Lib.hid hx; clear hx hc2
  obtain ⟨ls, hls⟩ : ∃ ls, ls = ks.map fun o => o.kb.length / 8 + o.vb.length / 8 := ⟨_, rfl⟩
  have hov : over16 ks = (decide (3000 < ks.length + ls.sum) || decide (300 < ks.length)) := by rw [hls]; rfl
  have HOV := Lib.hid hov; clear hov
  have hll : ls.length = ks.length := by rw [hls]; simp
  have HLS := Lib.hid hls; have HLL := Lib.hid hll; clear hls hll
  go_enter Try.func12, Try.ntmps12
  go_wp2
  go_loopw [3, 4] (fun s i wr => ∃ j : Nat, j ≤ ks.length ∧ i = .int .i64 j ∧ s = .int .i64 ((ks.length + (ls.take j).sum : Nat) : Int) ∧ Fr no w wr) (fun s i _ => ks.length - (intOf i).toNat)
  case atStart => exact ⟨0, Nat.zero_le _, rfl, by simp, Fr.refl _ _⟩
  case round =>
    obtain ⟨j, hj, rfl, rfl, hf⟩ := hrel
    have HF := Lib.hid hf; clear hf
    obtain ⟨T, hT⟩ : ∃ T, T = ks.length + (ls.take j).sum := ⟨_, rfl⟩
    rw [← hT]
    have HT := Lib.hid hT; clear hT
    have fin : 3000 < T → over16 ks = true := fun h => by
      have := HT.out; have := sum_le ls j
      rw [HOV.out]; simp; omega
    have FIN := Lib.hid fin; clear fin
    by_cases hlt : j < ks.length
    · by_cases hb : T ≤ 3000
      · obtain ⟨b, o, KA, kc, VA, vc, rfl, _, _, q0, q1, _, _, _, _⟩ := (HX.out.kept0 HF.out).at j hlt
        have hbl := (HX.out.good ks[j] (List.getElem_mem _)).lk
        have hbt := (HX.out.good ks[j] (List.getElem_mem _)).lv
        have hq := World.block_lt_of_cell? wr _ q0
        have hjl : j < ls.length := by have := HLL.out; omega
        have hst := sum_take ls j hjl
        have hlj : ls[j] = ks[j].kb.length / 8 + ks[j].vb.length / 8 := by have := HLS.out; subst this; simp
        have w1 : IntKind.i64.wrap (((ks[j].kb.length : Int) / 8) + ((ks[j].vb.length : Int) / 8)) = ((ks[j].kb.length : Int) / 8) + ((ks[j].vb.length : Int) / 8) := IntWalk.i64_in _ (by simp only [reachBytes] at hbl hbt; omega)
        have w2 : IntKind.i64.wrap ((T : Int) + (((ks[j].kb.length : Int) / 8) + ((ks[j].vb.length : Int) / 8))) = (T : Int) + (((ks[j].kb.length : Int) / 8) + ((ks[j].vb.length : Int) / 8)) := IntWalk.i64_in _ (by simp only [reachBytes] at hbl hbt; omega)
        have HS := Lib.hid hst; have HB := Lib.hid hbl; have HBT := Lib.hid hbt; have HLJ := Lib.hid hlj; clear hst hbl hbt hlj
        go_wp2
        go_quiet (fail)
        go_wp2
        go_roundw
        case rel =>
          have hs := HS.out
          have hT := HT.out
          have hlj := HLJ.out
          refine ⟨j + 1, hlt, by go_num, ?_, HF.out.moreN _⟩
          have hb1 := HB.out; have hb2 := HBT.out
          simp only [reachBytes] at hb1 hb2
          rw [wrap64_id17 ((ks[j].kb.length : Int) / 8) (by omega) (by omega), wrap64_id17 ((ks[j].vb.length : Int) / 8) (by omega) (by omega), wrap64_id17 ((ks[j].kb.length : Int) / 8 + (ks[j].vb.length : Int) / 8) (by omega) (by omega), wrap64_id17 _ (by omega) (by omega)]
          congr 1
          omega
        case measure => simp [intOf]; omega
      · have hbb : ¬ ((T : Int) ≤ 3000) := by omega
        go_wp2
        go_ret
        rw [FIN.out (by omega)]
        exact ⟨by first | rfl | simp, HF.out⟩
    · obtain rfl : j = ks.length := by omega
      have hTs : T = ks.length + ls.sum := by have := HT.out; rw [List.take_of_length_le (by have := HLL.out; omega)] at this; exact this
      have HTS := Lib.hid hTs; clear hTs
      by_cases hb : T ≤ 3000
      · by_cases hb3 : 300 < ks.length
        · go_wp2
          go_ret
          have e : over16 ks = true := by rw [HOV.out]; simp; omega
          rw [e]
          exact ⟨by first | rfl | (simp; omega), HF.out⟩
        · go_wp2
          go_ret
          have e : over16 ks = false := by have := HTS.out; rw [HOV.out]; simp; omega
          rw [e]
          exact ⟨by first | rfl | (simp; omega), HF.out⟩
      · go_wp2
        go_ret
        rw [FIN.out (by omega)]
        exact ⟨by first | rfl | (simp; omega), HF.out⟩
end Go.Proofs.Ytdnohhlgaaihmaa
