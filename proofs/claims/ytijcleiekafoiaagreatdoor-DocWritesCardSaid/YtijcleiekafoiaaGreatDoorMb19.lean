import Derived.Test.YtijcleiekafoiaaGreatDoorMb18
import Derived.Test.YtijcleiekafoiaaGreatDoorMb07
import Derived.Test.YtijcleiekafoiaaGreatDoorMb02

/- codicilref03.IsRune, Rune, Runes, Name. -/
namespace Go.Proofs.YtijcleiekafoiaaGreatDoor
open Go.RowKit Go.Lib

theorem isrune_any (w : World) (n : Nat) (_ : n ≤ 1000000000) : Calls Tryz.prog 134 #[.int .i64 (n : Int)] w fun e w' => e = .returned (.bool (Utf8.valid (n : Int))) ∧ w' = w := by
  have hr : n < 55296 ∨ (55296 ≤ n ∧ n ≤ 57343) ∨ (57344 ≤ n ∧ n ≤ 1114111) ∨ 1114112 ≤ n := by omega
  rcases hr with h | h | h | h
  · have hv : Utf8.valid (n : Int) = true := by unfold Utf8.valid; simp; omega
    rw [hv]
    have fa : decide ((0 : Int) ≤ (n : Int)) = true := by simp
    have fb : decide ((n : Int) ≤ 1114111) = true := by simp; omega
    have fc : decide ((n : Int) < 55296) = true := by simp; omega
    clear hv h
    go_enter Tryz.func134, Tryz.ntmps134
    go_wp2
    go_ret
    exact ⟨rfl, rfl⟩
  · have hv : Utf8.valid (n : Int) = false := by unfold Utf8.valid; simp; omega
    rw [hv]
    have fa : decide ((0 : Int) ≤ (n : Int)) = true := by simp
    have fb : decide ((n : Int) ≤ 1114111) = true := by simp; omega
    have fc : decide ((n : Int) < 55296) = false := by simp; omega
    have fd : decide ((57343 : Int) < (n : Int)) = false := by simp; omega
    clear hv h
    go_enter Tryz.func134, Tryz.ntmps134
    go_wp2
    go_ret
    exact ⟨rfl, rfl⟩
  · have hv : Utf8.valid (n : Int) = true := by unfold Utf8.valid; simp; omega
    rw [hv]
    have fa : decide ((0 : Int) ≤ (n : Int)) = true := by simp
    have fb : decide ((n : Int) ≤ 1114111) = true := by simp; omega
    have fc : decide ((n : Int) < 55296) = false := by simp; omega
    have fd : decide ((57343 : Int) < (n : Int)) = true := by simp; omega
    clear hv h
    go_enter Tryz.func134, Tryz.ntmps134
    go_wp2
    go_ret
    exact ⟨rfl, rfl⟩
  · have hv : Utf8.valid (n : Int) = false := by unfold Utf8.valid; simp; omega
    rw [hv]
    have fa : decide ((0 : Int) ≤ (n : Int)) = true := by simp
    have fb : decide ((n : Int) ≤ 1114111) = false := by simp; omega
    clear hv h
    go_enter Tryz.func134, Tryz.ntmps134
    go_wp2
    go_ret
    exact ⟨rfl, rfl⟩

theorem ba_get (l : List UInt8) (j : Nat) (h : j < (⟨l.toArray⟩ : ByteArray).size) : (⟨l.toArray⟩ : ByteArray)[j]'h = l[j]'(by simpa [ByteArray.size] using h) := rfl
theorem wrap_byte (u : UInt8) : wrap64 (u.toNat : Int) = (u.toNat : Int) := by
  have := u.toNat_lt
  exact IntWalk.wrap64_in _ ⟨by omega, by omega⟩
attribute [local go_sem] ba_get wrap_byte List.getElem_cons_zero List.getElem_cons_succ
theorem getD1 (c : UInt8) (r : List UInt8) (k : Nat) (h : k < r.length) : (c :: r).getD (k + 1) 0 = r[k] := by simp [h]

theorem valR1 {n b0 b1 b2 b3 : Nat} (h : b0 < 128) : valR n b0 b1 b2 b3 = (b0, 1) := by unfold valR; rw [if_pos h]
theorem valR2 {n b0 b1 b2 b3 : Nat} (h : 192 ≤ b0 ∧ b0 < 224) : valR n b0 b1 b2 b3 = if n < 2 then (0, 0) else if ctR b1 = false then (0, 0) else finR (64 * (b0 - 192) + b1 - 128) 128 2 := by unfold valR; rw [if_neg (by omega), if_pos h]
theorem valR3 {n b0 b1 b2 b3 : Nat} (h : 224 ≤ b0 ∧ b0 < 240) : valR n b0 b1 b2 b3 = if n < 3 then (0, 0) else if ctR b1 = false then (0, 0) else if ctR b2 = false then (0, 0) else finR (64 * (64 * (b0 - 224) + b1 - 128) + b2 - 128) 2048 3 := by unfold valR; rw [if_neg (by omega), if_neg (by omega), if_pos h]
theorem valR4 {n b0 b1 b2 b3 : Nat} (h : 240 ≤ b0 ∧ b0 < 248) : valR n b0 b1 b2 b3 = if n < 4 then (0, 0) else if ctR b1 = false then (0, 0) else if ctR b2 = false then (0, 0) else if ctR b3 = false then (0, 0) else finR (64 * (64 * (64 * (b0 - 240) + b1 - 128) + b2 - 128) + b3 - 128) 65536 4 := by unfold valR; rw [if_neg (by omega), if_neg (by omega), if_neg (by omega), if_pos h]
theorem valR0 {n b0 b1 b2 b3 : Nat} (h : (128 ≤ b0 ∧ b0 < 192) ∨ 248 ≤ b0) : valR n b0 b1 b2 b3 = (0, 0) := by unfold valR; rw [if_neg (by omega), if_neg (by omega), if_neg (by omega), if_neg (by omega)]

def RuneOut (l : List UInt8) (w : World) (e : Ending) (w' : World) : Prop := e = .returned (.tuple #[.int .i64 ((runeR l).1 : Int), .int .i64 ((runeR l).2 : Int)]) ∧ w' = w


set_option maxRecDepth 200000 in
set_option maxHeartbeats 8000000 in
theorem rune_a (w : World) (c : UInt8) (r : List UInt8) (hn : r.length + 1 ≤ 140737488351232) (hk : c.toNat < 128) : Calls Tryz.prog 133 #[.string ⟨(c :: r).toArray⟩] w fun e w' => RuneOut (c :: r) w e w' := by
  have hr := runeR_val (l := c :: r) (by simp)
  have h0 : (c :: r).getD 0 0 = c := rfl
  rw [h0] at hr
  have hc := c.toNat_lt
  rw [valR1 hk] at hr
  have f1 : decide ((c.toNat : Int) < 128) = true := by simp; omega
  have f2 : decide ((192 : Int) ≤ (c.toNat : Int)) = false := by simp; omega
  have f3 : decide ((c.toNat : Int) < 224) = true := by simp; omega
  have f4 : decide ((224 : Int) ≤ (c.toNat : Int)) = false := by simp; omega
  have f5 : decide ((c.toNat : Int) < 240) = true := by simp; omega
  have f6 : decide ((240 : Int) ≤ (c.toNat : Int)) = false := by simp; omega
  have f7 : decide ((c.toNat : Int) < 248) = true := by simp; omega
  have HR := Lib.hid hr
  clear hr hk h0
  go_enter Tryz.func133, Tryz.ntmps133
  go_wp2
  go_ret2
  exact ⟨by rw [HR.out]; rfl, rfl⟩

set_option maxRecDepth 200000 in
set_option maxHeartbeats 8000000 in
theorem rune_b (w : World) (c : UInt8) (r : List UInt8) (hn : r.length + 1 ≤ 140737488351232) (hk : 128 ≤ c.toNat ∧ c.toNat < 192) : Calls Tryz.prog 133 #[.string ⟨(c :: r).toArray⟩] w fun e w' => RuneOut (c :: r) w e w' := by
  have hr := runeR_val (l := c :: r) (by simp)
  have h0 : (c :: r).getD 0 0 = c := rfl
  rw [h0] at hr
  have hc := c.toNat_lt
  rw [valR0 (.inl hk)] at hr
  have f1 : decide ((c.toNat : Int) < 128) = false := by simp; omega
  have f2 : decide ((192 : Int) ≤ (c.toNat : Int)) = false := by simp; omega
  have f3 : decide ((c.toNat : Int) < 224) = true := by simp; omega
  have f4 : decide ((224 : Int) ≤ (c.toNat : Int)) = false := by simp; omega
  have f5 : decide ((c.toNat : Int) < 240) = true := by simp; omega
  have f6 : decide ((240 : Int) ≤ (c.toNat : Int)) = false := by simp; omega
  have f7 : decide ((c.toNat : Int) < 248) = true := by simp; omega
  have HR := Lib.hid hr
  clear hr hk h0
  go_enter Tryz.func133, Tryz.ntmps133
  go_wp2
  go_ret2
  exact ⟨by rw [HR.out]; rfl, rfl⟩

set_option maxRecDepth 200000 in
set_option maxHeartbeats 8000000 in
theorem rune_c (w : World) (c : UInt8) (r : List UInt8) (hn : r.length + 1 ≤ 140737488351232) (hk : 192 ≤ c.toNat ∧ c.toNat < 224) : Calls Tryz.prog 133 #[.string ⟨(c :: r).toArray⟩] w fun e w' => RuneOut (c :: r) w e w' := by
  have hr := runeR_val (l := c :: r) (by simp)
  have h0 : (c :: r).getD 0 0 = c := rfl
  rw [h0] at hr
  have hc := c.toNat_lt
  have f1 : decide ((c.toNat : Int) < 128) = false := by simp; omega
  have f2 : decide ((192 : Int) ≤ (c.toNat : Int)) = true := by simp; omega
  have f3 : decide ((c.toNat : Int) < 224) = true := by simp; omega
  have f4 : decide ((224 : Int) ≤ (c.toNat : Int)) = false := by simp; omega
  have f5 : decide ((c.toNat : Int) < 240) = true := by simp; omega
  have f6 : decide ((240 : Int) ≤ (c.toNat : Int)) = false := by simp; omega
  have f7 : decide ((c.toNat : Int) < 248) = true := by simp; omega
  rw [valR2 hk] at hr
  simp only [List.length_cons] at hr
  by_cases hlen : r.length + 1 < 2
  · have hv : runeR (c :: r) = (0, 0) := by rw [hr, if_pos hlen]
    have HV := Lib.hid hv
    have hw : IntKind.i64.wrap ((c.toNat : Int) - 192) = (c.toNat : Int) - 192 := IntWalk.i64_in _ ⟨by omega, by omega⟩
    have hl3 : (r.length : Int) + 1 < 2 := by omega
    clear hv hr h0
    go_enter Tryz.func133, Tryz.ntmps133
    go_wp2
    go_ret2
    exact ⟨by rw [HV.out]; rfl, rfl⟩
  · rw [if_neg hlen] at hr
    have hr0 : 0 < r.length := by omega
    have ht0 := r[0].toNat_lt
    rw [show (c :: r).getD 1 0 = r[0] from getD1 c r 0 hr0] at hr
    have hl3 : ¬ (r.length : Int) + 1 < 2 := by omega
    have hw : IntKind.i64.wrap ((c.toNat : Int) - 192) = ((c.toNat - 192 : Nat) : Int) := by
      rw [show ((c.toNat : Int) - 192) = ((c.toNat - 192 : Nat) : Int) by omega]
      exact IntWalk.i64_in _ ⟨by omega, by omega⟩
    clear h0 hlen
    obtain ⟨v0, hv0⟩ : ∃ v0 : Nat, v0 = (c.toNat - 192) := ⟨_, rfl⟩
    obtain ⟨v1, hv1⟩ : ∃ v1 : Nat, v1 = (64 * v0 + r[0].toNat - 128) := ⟨_, rfl⟩
    rw [← hv0] at hw hr
    rw [← hv1] at hr
    have HR := Lib.hid hr
    clear hr
    have HV0 := Lib.hid hv0
    have HV1 := Lib.hid hv1
    have hb0 : v0 < 64 := by omega
    have hb1 : v1 < 8192 := by omega
    clear hv0 hv1
    go_enter Tryz.func133, Tryz.ntmps133
    go_wp2
    go_loop [6, 8] (fun vv iv => (iv = .int .i64 1 ∧ vv = .int .i64 (v0 : Int)) ∨ (iv = .int .i64 2 ∧ vv = .int .i64 (v1 : Int) ∧ ctR r[0].toNat = true)) (fun _ iv => 2 - (RowKit.intOf iv).toNat)
    case atStart => exact .inl ⟨rfl, rfl⟩
    case round =>
      rcases hrel with ⟨rfl, rfl⟩ | ⟨rfl, rfl, c0⟩
      · cases hcd : ctR r[0].toNat with
        | true =>
          obtain ⟨_, p2, p3⟩ := ct_mod hcd
          have dlt : decide ((r[0].toNat : Int) < 128) = false := by simp; omega
          have dge : decide ((192 : Int) ≤ (r[0].toNat : Int)) = false := by simp; omega
          have w1 : IntKind.i64.wrap (64 * (v0 : Int)) = 64 * (v0 : Int) := IntWalk.i64_in _ ⟨by omega, by omega⟩
          have w2 : IntKind.i64.wrap (64 * (v0 : Int) + (r[0].toNat : Int)) = 64 * (v0 : Int) + (r[0].toNat : Int) := IntWalk.i64_in _ ⟨by omega, by omega⟩
          have w3 : IntKind.i64.wrap (64 * (v0 : Int) + (r[0].toNat : Int) - 128) = (v1 : Int) := by
            rw [show (64 * (v0 : Int) + (r[0].toNat : Int) - 128) = (v1 : Int) by have := HV1.out; omega]
            exact IntWalk.i64_in _ ⟨by omega, by omega⟩
          have HC := Lib.hid hcd; have HW3 := Lib.hid w3
          have HE := Lib.hid (by have := HV1.out; omega : (64 : Int) * (v0 : Int) + (r[0].toNat : Int) - 128 = (v1 : Int))
          clear hcd
          go_wp2
          go_round
          case rel => exact .inr (⟨by first | rfl | go_num, by first | rfl | exact congrArg (Value.int IntKind.i64) HE.out, by first | exact HC.out | trivial⟩)
          case measure => simp [RowKit.intOf]
        | false =>
          have hv : runeR (c :: r) = (0, 0) := by
            have h := HR.out
            simp only [hcd, if_true] at h
            exact h
          have HV := Lib.hid hv
          have hd : r[0].toNat < 128 ∨ 192 ≤ r[0].toNat := by
            unfold ctR at hcd
            simp only [Bool.and_eq_false_iff, decide_eq_false_iff_not] at hcd
            omega
          clear hv hcd
          rcases hd with hd | hd
          · have dlt : decide ((r[0].toNat : Int) < 128) = true := by simp; omega
            go_wp2
            go_ret2
            exact ⟨by rw [HV.out]; rfl, rfl⟩
          · have dlt : decide ((r[0].toNat : Int) < 128) = false := by simp; omega
            have dge : decide ((192 : Int) ≤ (r[0].toNat : Int)) = true := by simp; omega
            go_wp2
            go_ret2
            exact ⟨by rw [HV.out]; rfl, rfl⟩
      · skip
        have h := HR.out
        simp only [c0, Bool.true_eq_false, if_false] at h
        unfold finR at h
        have HF := Lib.hid h
        clear h
        by_cases hls : v1 < 128
        · have hv : runeR (c :: r) = (0, 0) := by rw [HF.out, if_pos (.inl hls)]
          have gls : decide ((v1 : Int) < 128) = true := decide_eq_true (by omega)
          have HV := Lib.hid hv
          clear hv hls
          go_wp2
          go_ret2
          exact ⟨by rw [HV.out]; rfl, rfl⟩
        · have hcall := isrune_any w v1 (by omega)
          have gls : decide ((v1 : Int) < 128) = false := decide_eq_false (by omega)
          have hvF : Utf8.valid (v1 : Int) = false → runeR (c :: r) = (0, 0) := fun h => by rw [HF.out, if_pos (.inr h)]
          have hvT : Utf8.valid (v1 : Int) = true → runeR (c :: r) = (v1, 2) := fun h => by rw [HF.out, if_neg (by rw [h]; simp; omega)]
          have HC := Lib.hid hcall; have HVF := Lib.hid hvF; have HVT := Lib.hid hvT
          clear hcall hvF hvT hls hb0 hb1
          go_wp2_with fail
          refine HC.out.mono ?_
          rintro e w' ⟨rfl, rfl⟩
          cases hva : Utf8.valid (v1 : Int) with
          | false =>
            have HV := Lib.hid (HVF.out hva)
            clear hva HVF HVT
            go_wp2
            go_ret2
            exact ⟨by rw [HV.out]; rfl, rfl⟩
          | true =>
            have HV := Lib.hid (HVT.out hva)
            clear hva HVF HVT
            go_wp2
            go_ret2
            exact ⟨by rw [HV.out]; rfl, rfl⟩

set_option maxRecDepth 200000 in
set_option maxHeartbeats 8000000 in
theorem rune_d (w : World) (c : UInt8) (r : List UInt8) (hn : r.length + 1 ≤ 140737488351232) (hk : 224 ≤ c.toNat ∧ c.toNat < 240) : Calls Tryz.prog 133 #[.string ⟨(c :: r).toArray⟩] w fun e w' => RuneOut (c :: r) w e w' := by
  have hr := runeR_val (l := c :: r) (by simp)
  have h0 : (c :: r).getD 0 0 = c := rfl
  rw [h0] at hr
  have hc := c.toNat_lt
  have f1 : decide ((c.toNat : Int) < 128) = false := by simp; omega
  have f2 : decide ((192 : Int) ≤ (c.toNat : Int)) = true := by simp; omega
  have f3 : decide ((c.toNat : Int) < 224) = false := by simp; omega
  have f4 : decide ((224 : Int) ≤ (c.toNat : Int)) = true := by simp; omega
  have f5 : decide ((c.toNat : Int) < 240) = true := by simp; omega
  have f6 : decide ((240 : Int) ≤ (c.toNat : Int)) = false := by simp; omega
  have f7 : decide ((c.toNat : Int) < 248) = true := by simp; omega
  rw [valR3 hk] at hr
  simp only [List.length_cons] at hr
  by_cases hlen : r.length + 1 < 3
  · have hv : runeR (c :: r) = (0, 0) := by rw [hr, if_pos hlen]
    have HV := Lib.hid hv
    have hw : IntKind.i64.wrap ((c.toNat : Int) - 224) = (c.toNat : Int) - 224 := IntWalk.i64_in _ ⟨by omega, by omega⟩
    have hl3 : (r.length : Int) + 1 < 3 := by omega
    clear hv hr h0
    go_enter Tryz.func133, Tryz.ntmps133
    go_wp2
    go_ret2
    exact ⟨by rw [HV.out]; rfl, rfl⟩
  · rw [if_neg hlen] at hr
    have hr0 : 0 < r.length := by omega
    have ht0 := r[0].toNat_lt
    rw [show (c :: r).getD 1 0 = r[0] from getD1 c r 0 hr0] at hr
    have hr1 : 1 < r.length := by omega
    have ht1 := r[1].toNat_lt
    rw [show (c :: r).getD 2 0 = r[1] from getD1 c r 1 hr1] at hr
    have hl3 : ¬ (r.length : Int) + 1 < 3 := by omega
    have hw : IntKind.i64.wrap ((c.toNat : Int) - 224) = ((c.toNat - 224 : Nat) : Int) := by
      rw [show ((c.toNat : Int) - 224) = ((c.toNat - 224 : Nat) : Int) by omega]
      exact IntWalk.i64_in _ ⟨by omega, by omega⟩
    clear h0 hlen
    obtain ⟨v0, hv0⟩ : ∃ v0 : Nat, v0 = (c.toNat - 224) := ⟨_, rfl⟩
    obtain ⟨v1, hv1⟩ : ∃ v1 : Nat, v1 = (64 * v0 + r[0].toNat - 128) := ⟨_, rfl⟩
    obtain ⟨v2, hv2⟩ : ∃ v2 : Nat, v2 = (64 * v1 + r[1].toNat - 128) := ⟨_, rfl⟩
    rw [← hv0] at hw hr
    rw [← hv1] at hr
    rw [← hv2] at hr
    have HR := Lib.hid hr
    clear hr
    have HV0 := Lib.hid hv0
    have HV1 := Lib.hid hv1
    have HV2 := Lib.hid hv2
    have hb0 : v0 < 64 := by omega
    have hb1 : v1 < 8192 := by omega
    have hb2 : v2 < 524288 := by omega
    clear hv0 hv1 hv2
    go_enter Tryz.func133, Tryz.ntmps133
    go_wp2
    go_loop [6, 8] (fun vv iv => (iv = .int .i64 1 ∧ vv = .int .i64 (v0 : Int)) ∨ (iv = .int .i64 2 ∧ vv = .int .i64 (v1 : Int) ∧ ctR r[0].toNat = true) ∨ (iv = .int .i64 3 ∧ vv = .int .i64 (v2 : Int) ∧ ctR r[0].toNat = true ∧ ctR r[1].toNat = true)) (fun _ iv => 3 - (RowKit.intOf iv).toNat)
    case atStart => exact .inl ⟨rfl, rfl⟩
    case round =>
      rcases hrel with ⟨rfl, rfl⟩ | ⟨rfl, rfl, c0⟩ | ⟨rfl, rfl, c0, c1⟩
      · cases hcd : ctR r[0].toNat with
        | true =>
          obtain ⟨_, p2, p3⟩ := ct_mod hcd
          have dlt : decide ((r[0].toNat : Int) < 128) = false := by simp; omega
          have dge : decide ((192 : Int) ≤ (r[0].toNat : Int)) = false := by simp; omega
          have w1 : IntKind.i64.wrap (64 * (v0 : Int)) = 64 * (v0 : Int) := IntWalk.i64_in _ ⟨by omega, by omega⟩
          have w2 : IntKind.i64.wrap (64 * (v0 : Int) + (r[0].toNat : Int)) = 64 * (v0 : Int) + (r[0].toNat : Int) := IntWalk.i64_in _ ⟨by omega, by omega⟩
          have w3 : IntKind.i64.wrap (64 * (v0 : Int) + (r[0].toNat : Int) - 128) = (v1 : Int) := by
            rw [show (64 * (v0 : Int) + (r[0].toNat : Int) - 128) = (v1 : Int) by have := HV1.out; omega]
            exact IntWalk.i64_in _ ⟨by omega, by omega⟩
          have HC := Lib.hid hcd; have HW3 := Lib.hid w3
          have HE := Lib.hid (by have := HV1.out; omega : (64 : Int) * (v0 : Int) + (r[0].toNat : Int) - 128 = (v1 : Int))
          clear hcd
          go_wp2
          go_round
          case rel => exact .inr (.inl (⟨by first | rfl | go_num, by first | rfl | exact congrArg (Value.int IntKind.i64) HE.out, by first | exact HC.out | trivial⟩))
          case measure => simp [RowKit.intOf]
        | false =>
          have hv : runeR (c :: r) = (0, 0) := by
            have h := HR.out
            simp only [hcd, if_true] at h
            exact h
          have HV := Lib.hid hv
          have hd : r[0].toNat < 128 ∨ 192 ≤ r[0].toNat := by
            unfold ctR at hcd
            simp only [Bool.and_eq_false_iff, decide_eq_false_iff_not] at hcd
            omega
          clear hv hcd
          rcases hd with hd | hd
          · have dlt : decide ((r[0].toNat : Int) < 128) = true := by simp; omega
            go_wp2
            go_ret2
            exact ⟨by rw [HV.out]; rfl, rfl⟩
          · have dlt : decide ((r[0].toNat : Int) < 128) = false := by simp; omega
            have dge : decide ((192 : Int) ≤ (r[0].toNat : Int)) = true := by simp; omega
            go_wp2
            go_ret2
            exact ⟨by rw [HV.out]; rfl, rfl⟩
      · cases hcd : ctR r[1].toNat with
        | true =>
          obtain ⟨_, p2, p3⟩ := ct_mod hcd
          have dlt : decide ((r[1].toNat : Int) < 128) = false := by simp; omega
          have dge : decide ((192 : Int) ≤ (r[1].toNat : Int)) = false := by simp; omega
          have w1 : IntKind.i64.wrap (64 * (v1 : Int)) = 64 * (v1 : Int) := IntWalk.i64_in _ ⟨by omega, by omega⟩
          have w2 : IntKind.i64.wrap (64 * (v1 : Int) + (r[1].toNat : Int)) = 64 * (v1 : Int) + (r[1].toNat : Int) := IntWalk.i64_in _ ⟨by omega, by omega⟩
          have w3 : IntKind.i64.wrap (64 * (v1 : Int) + (r[1].toNat : Int) - 128) = (v2 : Int) := by
            rw [show (64 * (v1 : Int) + (r[1].toNat : Int) - 128) = (v2 : Int) by have := HV2.out; omega]
            exact IntWalk.i64_in _ ⟨by omega, by omega⟩
          have HC := Lib.hid hcd; have HW3 := Lib.hid w3
          have HE := Lib.hid (by have := HV2.out; omega : (64 : Int) * (v1 : Int) + (r[1].toNat : Int) - 128 = (v2 : Int))
          clear hcd
          go_wp2
          go_round
          case rel => exact .inr (.inr (⟨by first | rfl | go_num, by first | rfl | exact congrArg (Value.int IntKind.i64) HE.out, by first | exact c0 | trivial, by first | exact HC.out | trivial⟩))
          case measure => simp [RowKit.intOf]
        | false =>
          have hv : runeR (c :: r) = (0, 0) := by
            have h := HR.out
            simp only [c0, hcd, if_true, Bool.true_eq_false, if_false] at h
            exact h
          have HV := Lib.hid hv
          have hd : r[1].toNat < 128 ∨ 192 ≤ r[1].toNat := by
            unfold ctR at hcd
            simp only [Bool.and_eq_false_iff, decide_eq_false_iff_not] at hcd
            omega
          clear hv hcd
          rcases hd with hd | hd
          · have dlt : decide ((r[1].toNat : Int) < 128) = true := by simp; omega
            go_wp2
            go_ret2
            exact ⟨by rw [HV.out]; rfl, rfl⟩
          · have dlt : decide ((r[1].toNat : Int) < 128) = false := by simp; omega
            have dge : decide ((192 : Int) ≤ (r[1].toNat : Int)) = true := by simp; omega
            go_wp2
            go_ret2
            exact ⟨by rw [HV.out]; rfl, rfl⟩
      · skip
        have h := HR.out
        simp only [c0, c1, Bool.true_eq_false, if_false] at h
        unfold finR at h
        have HF := Lib.hid h
        clear h
        by_cases hls : v2 < 2048
        · have hv : runeR (c :: r) = (0, 0) := by rw [HF.out, if_pos (.inl hls)]
          have gls : decide ((v2 : Int) < 2048) = true := decide_eq_true (by omega)
          have HV := Lib.hid hv
          clear hv hls
          go_wp2
          go_ret2
          exact ⟨by rw [HV.out]; rfl, rfl⟩
        · have hcall := isrune_any w v2 (by omega)
          have gls : decide ((v2 : Int) < 2048) = false := decide_eq_false (by omega)
          have hvF : Utf8.valid (v2 : Int) = false → runeR (c :: r) = (0, 0) := fun h => by rw [HF.out, if_pos (.inr h)]
          have hvT : Utf8.valid (v2 : Int) = true → runeR (c :: r) = (v2, 3) := fun h => by rw [HF.out, if_neg (by rw [h]; simp; omega)]
          have HC := Lib.hid hcall; have HVF := Lib.hid hvF; have HVT := Lib.hid hvT
          clear hcall hvF hvT hls hb0 hb1 hb2
          go_wp2_with fail
          refine HC.out.mono ?_
          rintro e w' ⟨rfl, rfl⟩
          cases hva : Utf8.valid (v2 : Int) with
          | false =>
            have HV := Lib.hid (HVF.out hva)
            clear hva HVF HVT
            go_wp2
            go_ret2
            exact ⟨by rw [HV.out]; rfl, rfl⟩
          | true =>
            have HV := Lib.hid (HVT.out hva)
            clear hva HVF HVT
            go_wp2
            go_ret2
            exact ⟨by rw [HV.out]; rfl, rfl⟩

set_option maxRecDepth 200000 in
set_option maxHeartbeats 8000000 in
theorem rune_e (w : World) (c : UInt8) (r : List UInt8) (hn : r.length + 1 ≤ 140737488351232) (hk : 240 ≤ c.toNat ∧ c.toNat < 248) : Calls Tryz.prog 133 #[.string ⟨(c :: r).toArray⟩] w fun e w' => RuneOut (c :: r) w e w' := by
  have hr := runeR_val (l := c :: r) (by simp)
  have h0 : (c :: r).getD 0 0 = c := rfl
  rw [h0] at hr
  have hc := c.toNat_lt
  have f1 : decide ((c.toNat : Int) < 128) = false := by simp; omega
  have f2 : decide ((192 : Int) ≤ (c.toNat : Int)) = true := by simp; omega
  have f3 : decide ((c.toNat : Int) < 224) = false := by simp; omega
  have f4 : decide ((224 : Int) ≤ (c.toNat : Int)) = true := by simp; omega
  have f5 : decide ((c.toNat : Int) < 240) = false := by simp; omega
  have f6 : decide ((240 : Int) ≤ (c.toNat : Int)) = true := by simp; omega
  have f7 : decide ((c.toNat : Int) < 248) = true := by simp; omega
  rw [valR4 hk] at hr
  simp only [List.length_cons] at hr
  by_cases hlen : r.length + 1 < 4
  · have hv : runeR (c :: r) = (0, 0) := by rw [hr, if_pos hlen]
    have HV := Lib.hid hv
    have hw : IntKind.i64.wrap ((c.toNat : Int) - 240) = (c.toNat : Int) - 240 := IntWalk.i64_in _ ⟨by omega, by omega⟩
    have hl3 : (r.length : Int) + 1 < 4 := by omega
    clear hv hr h0
    go_enter Tryz.func133, Tryz.ntmps133
    go_wp2
    go_ret2
    exact ⟨by rw [HV.out]; rfl, rfl⟩
  · rw [if_neg hlen] at hr
    have hr0 : 0 < r.length := by omega
    have ht0 := r[0].toNat_lt
    rw [show (c :: r).getD 1 0 = r[0] from getD1 c r 0 hr0] at hr
    have hr1 : 1 < r.length := by omega
    have ht1 := r[1].toNat_lt
    rw [show (c :: r).getD 2 0 = r[1] from getD1 c r 1 hr1] at hr
    have hr2 : 2 < r.length := by omega
    have ht2 := r[2].toNat_lt
    rw [show (c :: r).getD 3 0 = r[2] from getD1 c r 2 hr2] at hr
    have hl3 : ¬ (r.length : Int) + 1 < 4 := by omega
    have hw : IntKind.i64.wrap ((c.toNat : Int) - 240) = ((c.toNat - 240 : Nat) : Int) := by
      rw [show ((c.toNat : Int) - 240) = ((c.toNat - 240 : Nat) : Int) by omega]
      exact IntWalk.i64_in _ ⟨by omega, by omega⟩
    clear h0 hlen
    obtain ⟨v0, hv0⟩ : ∃ v0 : Nat, v0 = (c.toNat - 240) := ⟨_, rfl⟩
    obtain ⟨v1, hv1⟩ : ∃ v1 : Nat, v1 = (64 * v0 + r[0].toNat - 128) := ⟨_, rfl⟩
    obtain ⟨v2, hv2⟩ : ∃ v2 : Nat, v2 = (64 * v1 + r[1].toNat - 128) := ⟨_, rfl⟩
    obtain ⟨v3, hv3⟩ : ∃ v3 : Nat, v3 = (64 * v2 + r[2].toNat - 128) := ⟨_, rfl⟩
    rw [← hv0] at hw hr
    rw [← hv1] at hr
    rw [← hv2] at hr
    rw [← hv3] at hr
    have HR := Lib.hid hr
    clear hr
    have HV0 := Lib.hid hv0
    have HV1 := Lib.hid hv1
    have HV2 := Lib.hid hv2
    have HV3 := Lib.hid hv3
    have hb0 : v0 < 64 := by omega
    have hb1 : v1 < 8192 := by omega
    have hb2 : v2 < 524288 := by omega
    have hb3 : v3 < 33554432 := by omega
    clear hv0 hv1 hv2 hv3
    go_enter Tryz.func133, Tryz.ntmps133
    go_wp2
    go_loop [6, 8] (fun vv iv => (iv = .int .i64 1 ∧ vv = .int .i64 (v0 : Int)) ∨ (iv = .int .i64 2 ∧ vv = .int .i64 (v1 : Int) ∧ ctR r[0].toNat = true) ∨ (iv = .int .i64 3 ∧ vv = .int .i64 (v2 : Int) ∧ ctR r[0].toNat = true ∧ ctR r[1].toNat = true) ∨ (iv = .int .i64 4 ∧ vv = .int .i64 (v3 : Int) ∧ ctR r[0].toNat = true ∧ ctR r[1].toNat = true ∧ ctR r[2].toNat = true)) (fun _ iv => 4 - (RowKit.intOf iv).toNat)
    case atStart => exact .inl ⟨rfl, rfl⟩
    case round =>
      rcases hrel with ⟨rfl, rfl⟩ | ⟨rfl, rfl, c0⟩ | ⟨rfl, rfl, c0, c1⟩ | ⟨rfl, rfl, c0, c1, c2⟩
      · cases hcd : ctR r[0].toNat with
        | true =>
          obtain ⟨_, p2, p3⟩ := ct_mod hcd
          have dlt : decide ((r[0].toNat : Int) < 128) = false := by simp; omega
          have dge : decide ((192 : Int) ≤ (r[0].toNat : Int)) = false := by simp; omega
          have w1 : IntKind.i64.wrap (64 * (v0 : Int)) = 64 * (v0 : Int) := IntWalk.i64_in _ ⟨by omega, by omega⟩
          have w2 : IntKind.i64.wrap (64 * (v0 : Int) + (r[0].toNat : Int)) = 64 * (v0 : Int) + (r[0].toNat : Int) := IntWalk.i64_in _ ⟨by omega, by omega⟩
          have w3 : IntKind.i64.wrap (64 * (v0 : Int) + (r[0].toNat : Int) - 128) = (v1 : Int) := by
            rw [show (64 * (v0 : Int) + (r[0].toNat : Int) - 128) = (v1 : Int) by have := HV1.out; omega]
            exact IntWalk.i64_in _ ⟨by omega, by omega⟩
          have HC := Lib.hid hcd; have HW3 := Lib.hid w3
          have HE := Lib.hid (by have := HV1.out; omega : (64 : Int) * (v0 : Int) + (r[0].toNat : Int) - 128 = (v1 : Int))
          clear hcd
          go_wp2
          go_round
          case rel => exact .inr (.inl (⟨by first | rfl | go_num, by first | rfl | exact congrArg (Value.int IntKind.i64) HE.out, by first | exact HC.out | trivial⟩))
          case measure => simp [RowKit.intOf]
        | false =>
          have hv : runeR (c :: r) = (0, 0) := by
            have h := HR.out
            simp only [hcd, if_true] at h
            exact h
          have HV := Lib.hid hv
          have hd : r[0].toNat < 128 ∨ 192 ≤ r[0].toNat := by
            unfold ctR at hcd
            simp only [Bool.and_eq_false_iff, decide_eq_false_iff_not] at hcd
            omega
          clear hv hcd
          rcases hd with hd | hd
          · have dlt : decide ((r[0].toNat : Int) < 128) = true := by simp; omega
            go_wp2
            go_ret2
            exact ⟨by rw [HV.out]; rfl, rfl⟩
          · have dlt : decide ((r[0].toNat : Int) < 128) = false := by simp; omega
            have dge : decide ((192 : Int) ≤ (r[0].toNat : Int)) = true := by simp; omega
            go_wp2
            go_ret2
            exact ⟨by rw [HV.out]; rfl, rfl⟩
      · cases hcd : ctR r[1].toNat with
        | true =>
          obtain ⟨_, p2, p3⟩ := ct_mod hcd
          have dlt : decide ((r[1].toNat : Int) < 128) = false := by simp; omega
          have dge : decide ((192 : Int) ≤ (r[1].toNat : Int)) = false := by simp; omega
          have w1 : IntKind.i64.wrap (64 * (v1 : Int)) = 64 * (v1 : Int) := IntWalk.i64_in _ ⟨by omega, by omega⟩
          have w2 : IntKind.i64.wrap (64 * (v1 : Int) + (r[1].toNat : Int)) = 64 * (v1 : Int) + (r[1].toNat : Int) := IntWalk.i64_in _ ⟨by omega, by omega⟩
          have w3 : IntKind.i64.wrap (64 * (v1 : Int) + (r[1].toNat : Int) - 128) = (v2 : Int) := by
            rw [show (64 * (v1 : Int) + (r[1].toNat : Int) - 128) = (v2 : Int) by have := HV2.out; omega]
            exact IntWalk.i64_in _ ⟨by omega, by omega⟩
          have HC := Lib.hid hcd; have HW3 := Lib.hid w3
          have HE := Lib.hid (by have := HV2.out; omega : (64 : Int) * (v1 : Int) + (r[1].toNat : Int) - 128 = (v2 : Int))
          clear hcd
          go_wp2
          go_round
          case rel => exact .inr (.inr (.inl (⟨by first | rfl | go_num, by first | rfl | exact congrArg (Value.int IntKind.i64) HE.out, by first | exact c0 | trivial, by first | exact HC.out | trivial⟩)))
          case measure => simp [RowKit.intOf]
        | false =>
          have hv : runeR (c :: r) = (0, 0) := by
            have h := HR.out
            simp only [c0, hcd, if_true, Bool.true_eq_false, if_false] at h
            exact h
          have HV := Lib.hid hv
          have hd : r[1].toNat < 128 ∨ 192 ≤ r[1].toNat := by
            unfold ctR at hcd
            simp only [Bool.and_eq_false_iff, decide_eq_false_iff_not] at hcd
            omega
          clear hv hcd
          rcases hd with hd | hd
          · have dlt : decide ((r[1].toNat : Int) < 128) = true := by simp; omega
            go_wp2
            go_ret2
            exact ⟨by rw [HV.out]; rfl, rfl⟩
          · have dlt : decide ((r[1].toNat : Int) < 128) = false := by simp; omega
            have dge : decide ((192 : Int) ≤ (r[1].toNat : Int)) = true := by simp; omega
            go_wp2
            go_ret2
            exact ⟨by rw [HV.out]; rfl, rfl⟩
      · cases hcd : ctR r[2].toNat with
        | true =>
          obtain ⟨_, p2, p3⟩ := ct_mod hcd
          have dlt : decide ((r[2].toNat : Int) < 128) = false := by simp; omega
          have dge : decide ((192 : Int) ≤ (r[2].toNat : Int)) = false := by simp; omega
          have w1 : IntKind.i64.wrap (64 * (v2 : Int)) = 64 * (v2 : Int) := IntWalk.i64_in _ ⟨by omega, by omega⟩
          have w2 : IntKind.i64.wrap (64 * (v2 : Int) + (r[2].toNat : Int)) = 64 * (v2 : Int) + (r[2].toNat : Int) := IntWalk.i64_in _ ⟨by omega, by omega⟩
          have w3 : IntKind.i64.wrap (64 * (v2 : Int) + (r[2].toNat : Int) - 128) = (v3 : Int) := by
            rw [show (64 * (v2 : Int) + (r[2].toNat : Int) - 128) = (v3 : Int) by have := HV3.out; omega]
            exact IntWalk.i64_in _ ⟨by omega, by omega⟩
          have HC := Lib.hid hcd; have HW3 := Lib.hid w3
          have HE := Lib.hid (by have := HV3.out; omega : (64 : Int) * (v2 : Int) + (r[2].toNat : Int) - 128 = (v3 : Int))
          clear hcd
          go_wp2
          go_round
          case rel => exact .inr (.inr (.inr (⟨by first | rfl | go_num, by first | rfl | exact congrArg (Value.int IntKind.i64) HE.out, by first | exact c0 | trivial, by first | exact c1 | trivial, by first | exact HC.out | trivial⟩)))
          case measure => simp [RowKit.intOf]
        | false =>
          have hv : runeR (c :: r) = (0, 0) := by
            have h := HR.out
            simp only [c0, c1, hcd, if_true, Bool.true_eq_false, if_false] at h
            exact h
          have HV := Lib.hid hv
          have hd : r[2].toNat < 128 ∨ 192 ≤ r[2].toNat := by
            unfold ctR at hcd
            simp only [Bool.and_eq_false_iff, decide_eq_false_iff_not] at hcd
            omega
          clear hv hcd
          rcases hd with hd | hd
          · have dlt : decide ((r[2].toNat : Int) < 128) = true := by simp; omega
            go_wp2
            go_ret2
            exact ⟨by rw [HV.out]; rfl, rfl⟩
          · have dlt : decide ((r[2].toNat : Int) < 128) = false := by simp; omega
            have dge : decide ((192 : Int) ≤ (r[2].toNat : Int)) = true := by simp; omega
            go_wp2
            go_ret2
            exact ⟨by rw [HV.out]; rfl, rfl⟩
      · skip
        have h := HR.out
        simp only [c0, c1, c2, Bool.true_eq_false, if_false] at h
        unfold finR at h
        have HF := Lib.hid h
        clear h
        by_cases hls : v3 < 65536
        · have hv : runeR (c :: r) = (0, 0) := by rw [HF.out, if_pos (.inl hls)]
          have gls : decide ((v3 : Int) < 65536) = true := decide_eq_true (by omega)
          have HV := Lib.hid hv
          clear hv hls
          go_wp2
          go_ret2
          exact ⟨by rw [HV.out]; rfl, rfl⟩
        · have hcall := isrune_any w v3 (by omega)
          have gls : decide ((v3 : Int) < 65536) = false := decide_eq_false (by omega)
          have hvF : Utf8.valid (v3 : Int) = false → runeR (c :: r) = (0, 0) := fun h => by rw [HF.out, if_pos (.inr h)]
          have hvT : Utf8.valid (v3 : Int) = true → runeR (c :: r) = (v3, 4) := fun h => by rw [HF.out, if_neg (by rw [h]; simp; omega)]
          have HC := Lib.hid hcall; have HVF := Lib.hid hvF; have HVT := Lib.hid hvT
          clear hcall hvF hvT hls hb0 hb1 hb2 hb3
          go_wp2_with fail
          refine HC.out.mono ?_
          rintro e w' ⟨rfl, rfl⟩
          cases hva : Utf8.valid (v3 : Int) with
          | false =>
            have HV := Lib.hid (HVF.out hva)
            clear hva HVF HVT
            go_wp2
            go_ret2
            exact ⟨by rw [HV.out]; rfl, rfl⟩
          | true =>
            have HV := Lib.hid (HVT.out hva)
            clear hva HVF HVT
            go_wp2
            go_ret2
            exact ⟨by rw [HV.out]; rfl, rfl⟩

set_option maxRecDepth 200000 in
set_option maxHeartbeats 8000000 in
theorem rune_f (w : World) (c : UInt8) (r : List UInt8) (hn : r.length + 1 ≤ 140737488351232) (hk : 248 ≤ c.toNat) : Calls Tryz.prog 133 #[.string ⟨(c :: r).toArray⟩] w fun e w' => RuneOut (c :: r) w e w' := by
  have hr := runeR_val (l := c :: r) (by simp)
  have h0 : (c :: r).getD 0 0 = c := rfl
  rw [h0] at hr
  have hc := c.toNat_lt
  rw [valR0 (.inr hk)] at hr
  have f1 : decide ((c.toNat : Int) < 128) = false := by simp; omega
  have f2 : decide ((192 : Int) ≤ (c.toNat : Int)) = true := by simp; omega
  have f3 : decide ((c.toNat : Int) < 224) = false := by simp; omega
  have f4 : decide ((224 : Int) ≤ (c.toNat : Int)) = true := by simp; omega
  have f5 : decide ((c.toNat : Int) < 240) = false := by simp; omega
  have f6 : decide ((240 : Int) ≤ (c.toNat : Int)) = true := by simp; omega
  have f7 : decide ((c.toNat : Int) < 248) = false := by simp; omega
  have HR := Lib.hid hr
  clear hr hk h0
  go_enter Tryz.func133, Tryz.ntmps133
  go_wp2
  go_ret2
  exact ⟨by rw [HR.out]; rfl, rfl⟩

set_option maxRecDepth 100000 in
theorem rune_any (w : World) (l : List UInt8) (hn : l.length ≤ reachBytes) : Calls Tryz.prog 133 #[.string ⟨l.toArray⟩] w fun e w' => RuneOut l w e w' := by
  have hn : l.length ≤ 140737488351232 := hn
  cases l with
  | nil =>
    have hr : runeR [] = (0, 0) := rfl
    have HR := Lib.hid hr; clear hr
    go_enter Tryz.func133, Tryz.ntmps133
    go_wp2
    go_ret2
    exact ⟨by rw [HR.out]; rfl, rfl⟩
  | cons c r =>
    simp only [List.length_cons] at hn
    have hc := c.toNat_lt
    have hcl : c.toNat < 128 ∨ (128 ≤ c.toNat ∧ c.toNat < 192) ∨ (192 ≤ c.toNat ∧ c.toNat < 224) ∨ (224 ≤ c.toNat ∧ c.toNat < 240) ∨ (240 ≤ c.toNat ∧ c.toNat < 248) ∨ 248 ≤ c.toNat := by omega
    rcases hcl with hk | hk | hk | hk | hk | hk
    · exact rune_a w c r hn hk
    · exact rune_b w c r hn hk
    · exact rune_c w c r hn hk
    · exact rune_d w c r hn hk
    · exact rune_e w c r hn hk
    · exact rune_f w c r hn hk
end Go.Proofs.YtijcleiekafoiaaGreatDoor

/- codicilref00.mark: a text for two numbers. -/
namespace Go.Proofs.YtijcleiekafoiaaGreatDoor
open Go.RowKit

def mkS (a b : Nat) : List UInt8 := [UInt8.ofNat (97 + a % 26), UInt8.ofNat (97 + a / 26 % 26), UInt8.ofNat (97 + a / 676 % 26), UInt8.ofNat (97 + b % 26), UInt8.ofNat (97 + b / 26 % 26)]
/-- The mark of two numbers. -/
def mkB (i : Int) (k : Nat) : ByteArray := if 0 ≤ i then ⟨(mkS i.toNat k).toArray⟩ else (⟨#[45]⟩ : ByteArray) ++ ⟨(mkS (-(i + 1)).toNat k).toArray⟩
theorem mkB_same (i : Int) (k : Nat) : (mkB i k == mkB i k) = true := by
  show ((mkB i k).data == (mkB i k).data) = true
  exact beq_self_eq_true _
theorem u8_small (n : Nat) (h : n < 26) : ((UInt8.ofNat (97 + n)).toNat : Int) = 97 + (n : Int) := by
  rw [UInt8.toNat_ofNat']
  omega

set_option maxRecDepth 100000 in
theorem mark_pos (w : World) (a b : Nat) (ha : a ≤ 1000000) (hb : b ≤ 1000000) : Calls Tryz.prog 88 #[.int .i64 (a : Int), .int .i64 (b : Int)] w fun e w' => e = .returned (.string (mkB a b)) ∧ Fr no w w' := by
  have g0 : decide ((a : Int) < 0) = false := decide_eq_false (by omega)
  have hcs : #[Value.int .u8 (97 + (a : Int) % 26), .int .u8 (97 + (a : Int) / 26 % 26), .int .u8 (97 + (a : Int) / 676 % 26), .int .u8 (97 + (b : Int) % 26), .int .u8 (97 + (b : Int) / 26 % 26)] = (bvs (mkS a b)).toArray := by
    unfold mkS bvs Bv
    simp only [List.map_cons, List.map_nil]
    rw [u8_small _ (Nat.mod_lt _ (by omega)), u8_small _ (Nat.mod_lt _ (by omega)), u8_small _ (Nat.mod_lt _ (by omega)), u8_small _ (Nat.mod_lt _ (by omega)), u8_small _ (Nat.mod_lt _ (by omega))]
    rfl
  have hsl := Sl.fresh w (mkS a b) 5 hcs (by simp [mkS, maxLen])
  have s1 := run_str (P := Tryz.prog) (src := 23) (dst := 9) (e := 5) _ (by kernel_rfl) (by kernel_rfl) (by kernel_rfl) hsl
  have hl : (mkS a b).length = 5 := rfl
  rw [hl] at s1
  have hm : mkB a b = ⟨(mkS a b).toArray⟩ := by
    unfold mkB
    rw [if_pos (by omega)]
    rfl
  rw [hm]
  clear hcs hsl hl hm
  go_enter Tryz.func88, Tryz.ntmps88
  go_wp2
  go_ret
  exact ⟨rfl, by (repeat first | exact Fr.refl _ _ | exact Fr.drewN _ _ _ | apply Fr.drew | apply Fr.alloc | apply Fr.setAt | apply Fr.moreN)⟩
set_option maxRecDepth 100000 in
theorem mark_neg (w : World) (a b : Nat) (ha : a ≤ 1000000) (hb : b ≤ 1000000) : Calls Tryz.prog 88 #[.int .i64 (-1 - (a : Int)), .int .i64 (b : Int)] w fun e w' => e = .returned (.string (mkB (-1 - (a : Int)) b)) ∧ Fr no w w' := by
  have g0 : decide (-1 - (a : Int) < 0) = true := decide_eq_true (by omega)
  have h1 : IntKind.i64.wrap (-1 - (a : Int) + 1) = -(a : Int) := by
    rw [show -1 - (a : Int) + 1 = -(a : Int) by omega]
    exact IntWalk.i64_in _ ⟨by omega, by omega⟩
  have h2 : IntKind.i64.wrap (- -(a : Int)) = (a : Int) := by
    rw [show - -(a : Int) = (a : Int) by omega]
    exact IntWalk.i64_in _ ⟨by omega, by omega⟩
  have hm : mkB (-1 - (a : Int)) b = (⟨#[45]⟩ : ByteArray) ++ mkB a b := by
    unfold mkB
    rw [if_neg (by omega), if_pos (by omega), show (-(-1 - (a : Int) + 1)).toNat = a by omega]
    rfl
  rw [hm]
  have hp := fun W => mark_pos W a b ha hb
  have HP := Lib.hid hp
  clear hm hp
  go_enter Tryz.func88, Tryz.ntmps88
  go_wp2_with fail
  refine (HP.out _).mono ?_
  rintro e w1 ⟨rfl, f1⟩
  have F1 := Lib.hid f1
  clear f1
  go_wp2
  go_ret
  exact ⟨rfl, F1.out⟩
end Go.Proofs.YtijcleiekafoiaaGreatDoor
