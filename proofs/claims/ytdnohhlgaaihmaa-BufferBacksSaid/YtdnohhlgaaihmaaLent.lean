/- What is lent to a call, looked at and written over behind it: LentBytes, WholeBytes, SpoilBytes. -/
import Derived.Test.YtdnohhlgaaihmaaBase
import Derived.Test.YtdnohhlgaaihmaaRoom
import Derived.Test.YtdnohhlgaaihmaaSame
namespace Go.Proofs.Ytdnohhlgaaihmaa
open Go.RowKit

/-- At block g lie these bytes, and the two marks behind. -/
def Lent (w : World) (g : Nat) (l : List UInt8) : Prop := w.heap[g]? = some (.cells (bvs (l ++ [91, 92])).toArray 5 (0, 0))

theorem Lent.sl {w : World} {g : Nat} {l : List UInt8} (h : Lent w g l) (hl : l.length ≤ 140737488351232) : Sl w 1 (.slice (some ⟨g, 0, none⟩) l.length (l.length + 2)) l.length (bvs l) := by
  refine ⟨by rw [bvs_length, Nat.mul_one], .inr ⟨g, 0, _, rfl, by omega, by simp only [maxLen]; omega, fun j u hu => ?_⟩⟩
  have hj := (List.getElem?_eq_some_iff.1 hu).1
  rw [Nat.zero_add, cell_of_row w g j _ _ (0, 0) h, bvs_append]
  simp only [List.getElem?_toArray]
  rw [List.getElem?_append_left hj, hu]

set_option maxRecDepth 100000 in
set_option maxHeartbeats 400000 in
theorem lent_any (w : World) (x : Value) (l : List UInt8) (hx : Sl w 1 x l.length (bvs l)) (hl : l.length ≤ 140737488351232) :
    Calls Try.prog 64 #[x] w fun e w' => ∃ g, e = .returned (.slice (some ⟨g, 0, none⟩) l.length (l.length + 2)) ∧ w.heap.size ≤ g ∧ Lent w' g l ∧ Fr no w w' := by
  obtain ⟨A, c, rfl, hc1, hc2⟩ := hx.form
  have HX := Lib.hid hx; clear hx hc2
  obtain ⟨inf, hi, hz0, hz1, hz2⟩ := info_parts tbB.info
  obtain ⟨wm, hmk, hown, hgrow⟩ := run_make_own (P := Try.prog) w 0 34 5 inf (.int .u8 0) 1 tbB.und hi hz0 hz1 .i64 .i64 (l.length + 2) (by rw [hz2]; omega) (by simp only [maxLen]; omega) (Nat.zero_le _)
  rw [show ((l.length + 2 : Nat) : Int) = (l.length : Int) + 2 from by omega] at hmk
  have hfm : Fr no w wm := (Fr.of_grown hgrow).mono (fun k _ h => by cases h)
  have HO := Lib.hid hown; have HFM := Lib.hid hfm; have HG := Lib.hid (hown.lt _ rfl); clear hown hfm hgrow hi hz0 hz1 hz2
  go_enter Try.func64, Try.ntmps64
  go_wp2_with (at_builtin; refine wpList_apr rfl (.tmp 8) (.tmp 9) 34 rfl tbB HO.out (HX.out.kept0 HFM.out) rfl rfl (bvs_one l) (by omega) ?go)
  case go =>
    intro N w1 hN ho1 hf1
    obtain rfl : N = l.length := by omega
    have HO1 := Lib.hid ho1; have HF1 := Lib.hid hf1; clear ho1 hf1 hmk hN
    go_wp2_with (at_builtin; refine wpList_apr rfl (.tmp 11) (.tmp 12) 34 rfl tbB (own_kept0 HO1.out ?fr) (Sl.fresh w1 [91, 92] 5 (by rfl) (by simp [maxLen])) rfl rfl (bvs_one _) (by simp) ?go2)
    case fr => (repeat first | exact Fr.refl _ _ | apply Fr.drew | apply Fr.alloc)
    case go2 =>
      intro N w2 hN ho2 hf2
      have HO2 := Lib.hid ho2; have HF2 := Lib.hid hf2; clear ho2 hf2
      obtain rfl : N = l.length + 2 := by simpa using hN
      clear hN
      go_wp2
      go_ret
      have h := HO2.out
      rcases h.2 with ⟨h1, _⟩ | ⟨g, cap, cur, h1, _, hg, _, _, h4, h5⟩
      · cases h1
      · simp only [Value.slice.injEq, Option.some.injEq, Addr.mk.injEq, and_true, true_and] at h1
        obtain ⟨rfl, rfl⟩ := h1
        refine ⟨_, rfl, Nat.le_refl _, ?_, ?_⟩
        · unfold Lent
          rw [hg]
          rw [List.take_of_length_le (by rw [Array.length_toList]; omega)] at h5
          rw [bvs_append, ← h5]
        · have f1 : Fr no w w1 := HFM.out.trans HF1.out (fun k hk h => by omega)
          exact (f1.alloc _).trans HF2.out (fun k hk h => by omega)

theorem Lent.whole {w : World} {g : Nat} {l : List UInt8} (h : Lent w g l) : w.cell? ⟨g, l.length, none⟩ = some (.int .u8 91) ∧ w.cell? ⟨g, l.length + 1, none⟩ = some (.int .u8 92) := by
  constructor
  · rw [cell_of_row w g _ _ _ (0, 0) h]; simp [bvs, Bv]
  · rw [cell_of_row w g _ _ _ (0, 0) h]; simp [bvs, Bv]

theorem Lent.kept {S : Nat → Prop} {w w1 : World} {g : Nat} {l : List UInt8} (h : Lent w g l) (f : Fr S w w1) (hn : ¬ S g) : Lent w1 g l := f.heap h hn

set_option maxRecDepth 100000 in
set_option maxHeartbeats 400000 in
theorem whole_lent (w : World) (g : Nat) (y : Value) (l k : List UInt8) (hx : Lent w g l) (hy : Sl w 1 y k.length (bvs k)) (hl : l.length ≤ 140737488351232) (hk : k.length ≤ 140737488351232) :
    Calls Try.prog 80 #[.slice (some ⟨g, 0, none⟩) l.length (l.length + 2), y] w fun e w' => e = .returned (.bool (decide (l = k))) ∧ ∃ n, w' = w.drewN n := by
  obtain ⟨A, c, rfl, hc1, hc2⟩ := hy.form
  obtain ⟨q1, q2⟩ := hx.whole
  have HX := Lib.hid (hx.sl hl); have HY := Lib.hid hy; clear hx hy hc2
  go_enter Try.func80, Try.ntmps80
  go_wp2_with fail
  refine (same_any _ _ _ l k HX.out HY.out hl hk).mono ?_
  rintro e w1 ⟨rfl, n1, rfl⟩
  go_wp2
  go_ret
  exact ⟨rfl, n1, rfl⟩

set_option maxRecDepth 100000 in
set_option maxHeartbeats 400000 in
theorem spoil_lent (w : World) (g : Nat) (l : List UInt8) (hx : Lent w g l) (hl : l.length ≤ 140737488351232) :
    Calls Try.prog 81 #[.slice (some ⟨g, 0, none⟩) l.length (l.length + 2)] w fun e w' => e = .returned (.tuple #[]) ∧ Fr (fun k => k = g) w w' := by
  go_enter Try.func81, Try.ntmps81
  go_wp2
  go_loopw [3] (fun i wr => ∃ j : Nat, j ≤ l.length + 2 ∧ i = .int .i64 j ∧ Fr (fun k => k = g) w wr ∧ ∃ cur, wr.heap[g]? = some (.cells cur 5 (0, 0)) ∧ cur.size = l.length + 2) (fun i _ => l.length + 2 - (intOf i).toNat)
  case atStart => exact ⟨0, Nat.zero_le _, rfl, Fr.refl _ _, _, hx, by simp [bvs]⟩
  case round =>
    obtain ⟨j, hj, rfl, hf, cur, hg, hsz⟩ := hrel
    have HF := Lib.hid hf; have HG := Lib.hid hg; clear hf hg
    by_cases hlt : j < l.length + 2
    · have q0 : wr.cell? ⟨g, j, none⟩ = some (cur[j]'(by omega)) := by rw [cell_of_row wr g _ _ _ (0, 0) HG.out]; simp
      have q1 : wr.frozen? ⟨g, j, none⟩ = false := by simp [World.frozen?, HG.out]
      go_wp2
      go_roundw
      case rel =>
        refine ⟨j + 1, hlt, by go_num, HF.out.setCell _ _ (fun _ => rfl), cur.setIfInBounds j (.int .u8 238), ?_, by simp [hsz]⟩
        rw [hp_same HG.out]
      case measure => simp [intOf]; omega
    · go_wp2
      go_end0
      exact ⟨rfl, HF.out⟩
end Go.Proofs.Ytdnohhlgaaihmaa
