/- Two byte lists, compared. -/
import Derived.Test.YtdnohhlgaaihmaaProg
import Derived.Test.YtdnohhlgaaihmaaMem
import Derived.KernelRfl
import Derived.Lib.Hide
import Derived.Deep.QuietTactic
import Derived.BigQuiet
namespace Go.Proofs.Ytdnohhlgaaihmaa
open Go.RowKit

set_option maxRecDepth 100000 in
set_option maxHeartbeats 400000 in
theorem same_any (w : World) (x y : Value) (l k : List UInt8) (hx : Sl w 1 x l.length (bvs l)) (hy : Sl w 1 y k.length (bvs k)) (hl : l.length ≤ 140737488351232) (hk : k.length ≤ 140737488351232) :
    Calls Try.prog 27 #[x, y] w fun e w' => e = .returned (.bool (decide (l = k))) ∧ ∃ n, w' = w.drewN n := by
  obtain ⟨A, c, rfl, hc1, hc2⟩ := hx.form
  obtain ⟨B, d, rfl, hd1, hd2⟩ := hy.form
  have HX := Lib.hid hx; have HY := Lib.hid hy; clear hx hy
  by_cases hlen : l.length = k.length
  · have hb : ((l.length : Int) != (k.length : Int)) = false := by simp [hlen]
    have HLEN := Lib.hid hlen; clear hlen
    go_enter Try.func27, Try.ntmps27
    go_wp2
    go_loopw [5] (fun i wr => ∃ j n : Nat, j ≤ l.length ∧ i = .int .i64 j ∧ wr = w.drewN n ∧ l.take j = k.take j) (fun i _ => l.length - (intOf i).toNat)
    case atStart => exact ⟨0, 0, Nat.zero_le _, rfl, rfl, rfl⟩
    case round =>
      obtain ⟨j, n, hj, rfl, rfl, ht⟩ := hrel
      have HT := Lib.hid ht; clear ht
      by_cases hlt : j < l.length
      · have hlt2 : j < k.length := by have := HLEN.out; omega
        obtain ⟨b, o, rfl, h1⟩ := HX.out.byte j hlt
        obtain ⟨b2, o2, rfl, h2⟩ := HY.out.byte j hlt2
        have e1 : l.take (j + 1) = l.take j ++ [l[j]] := by rw [List.take_succ_eq_append_getElem hlt]
        have e2 : k.take (j + 1) = k.take j ++ [k[j]] := by rw [List.take_succ_eq_append_getElem hlt2]
        by_cases he : l[j] = k[j]
        · have e3 : l.take (j + 1) = k.take (j + 1) := by rw [e1, e2, HT.out, he]
          rw [← he] at h2
          have hb2 : ((l[j].toNat : Int) != (l[j].toNat : Int)) = false := by simp
          have HE := Lib.hid e3; clear e1 e2 e3 he
          go_wp2
          go_quiet (fail)
          go_wp2
          go_roundw
          case rel => exact ⟨j + 1, _, by omega, by go_num, rfl, HE.out⟩
          case measure => simp [intOf]; omega
        · have hb2 : ((l[j].toNat : Int) != (k[j].toNat : Int)) = true := by
            rw [bne_iff_ne]; intro h; exact he (UInt8.toNat_inj.1 (by omega))
          have hne : decide (l = k) = false := by
            rw [decide_eq_false_iff_not]; intro h; subst h; exact he rfl
          have HE := Lib.hid he; have HN := Lib.hid hne; clear e1 e2 he hne
          go_wp2
          go_quiet (fail)
          go_wp2
          go_ret
          exact ⟨by rw [HN.out]; rfl, _, World.drewN_drewN _ _ _⟩
      · go_wp2
        go_ret
        have e : l = k := by
          have h := HT.out
          rw [List.take_of_length_le (by omega), List.take_of_length_le (by have := HLEN.out; omega)] at h
          exact h
        exact ⟨by simp [e], n, rfl⟩
  · have hb : ((l.length : Int) != (k.length : Int)) = true := by rw [bne_iff_ne]; omega
    have hne : decide (l = k) = false := by
      rw [decide_eq_false_iff_not]; intro h; subst h; exact hlen rfl
    have HN := Lib.hid hne; clear hlen hne
    go_enter Try.func27, Try.ntmps27
    go_wp2
    go_ret
    exact ⟨by rw [HN.out]; rfl, 0, rfl⟩
end Go.Proofs.Ytdnohhlgaaihmaa
