import Derived.Test.YtgcicljklejmjaaDoorMt01
import Derived.Test.YtgcicljklejmjaaDoorMb07

/- codicilref03.IsRune, Rune, Runes, Name. -/
namespace Go.Proofs.YtgcicljklejmjaaDoor
open Go.RowKit Go.Lib

theorem isrune_any (w : World) (n : Nat) (_ : n ≤ 1000000000) : Calls Tryd.prog 112 #[.int .i64 (n : Int)] w fun e w' => e = .returned (.bool (Utf8.valid (n : Int))) ∧ w' = w := by
  have hr : n < 55296 ∨ (55296 ≤ n ∧ n ≤ 57343) ∨ (57344 ≤ n ∧ n ≤ 1114111) ∨ 1114112 ≤ n := by omega
  rcases hr with h | h | h | h
  · have hv : Utf8.valid (n : Int) = true := by unfold Utf8.valid; simp; omega
    rw [hv]
    have fa : decide ((0 : Int) ≤ (n : Int)) = true := by simp
    have fb : decide ((n : Int) ≤ 1114111) = true := by simp; omega
    have fc : decide ((n : Int) < 55296) = true := by simp; omega
    clear hv h
    go_enter Tryd.func112, Tryd.ntmps112
    go_wp2
    go_ret
    exact ⟨rfl, rfl⟩
  · have hv : Utf8.valid (n : Int) = false := by unfold Utf8.valid; simp; omega
    rw [hv]
    have fa : decide ((0 : Int) ≤ (n : Int)) = true := by simp
    have fb : decide ((n : Int) ≤ 1114111) = true := by simp; omega
    have fc : decide ((n : Int) < 55296) = false := by simp; omega
    have fd : decide ((57343 : Int) < (n : Int)) = false := by simp; omega
    clear hv h
    go_enter Tryd.func112, Tryd.ntmps112
    go_wp2
    go_ret
    exact ⟨rfl, rfl⟩
  · have hv : Utf8.valid (n : Int) = true := by unfold Utf8.valid; simp; omega
    rw [hv]
    have fa : decide ((0 : Int) ≤ (n : Int)) = true := by simp
    have fb : decide ((n : Int) ≤ 1114111) = true := by simp; omega
    have fc : decide ((n : Int) < 55296) = false := by simp; omega
    have fd : decide ((57343 : Int) < (n : Int)) = true := by simp; omega
    clear hv h
    go_enter Tryd.func112, Tryd.ntmps112
    go_wp2
    go_ret
    exact ⟨rfl, rfl⟩
  · have hv : Utf8.valid (n : Int) = false := by unfold Utf8.valid; simp; omega
    rw [hv]
    have fa : decide ((0 : Int) ≤ (n : Int)) = true := by simp
    have fb : decide ((n : Int) ≤ 1114111) = false := by simp; omega
    clear hv h
    go_enter Tryd.func112, Tryd.ntmps112
    go_wp2
    go_ret
    exact ⟨rfl, rfl⟩

theorem ba_get (l : List UInt8) (j : Nat) (h : j < (⟨l.toArray⟩ : ByteArray).size) : (⟨l.toArray⟩ : ByteArray)[j]'h = l[j]'(by simpa [ByteArray.size] using h) := rfl
theorem wrap_byte (u : UInt8) : wrap64 (u.toNat : Int) = (u.toNat : Int) := by
  have := u.toNat_lt
  exact IntWalk.wrap64_in _ ⟨by omega, by omega⟩
attribute [local go_sem] ba_get wrap_byte List.getElem_cons_zero List.getElem_cons_succ
theorem getD1 (c : UInt8) (r : List UInt8) (k : Nat) (h : k < r.length) : (c :: r).getD (k + 1) 0 = r[k] := by simp [h]

theorem valR1 {n b0 b1 b2 b3 : Nat} (h : b0 < 128) : valR n b0 b1 b2 b3 = (b0, 1) := by unfold valR; rw [if_pos h]
theorem valR2 {n b0 b1 b2 b3 : Nat} (h : 192 ≤ b0 ∧ b0 < 224) : valR n b0 b1 b2 b3 = if n < 2 then (0, 0) else if ctR b1 = false then (0, 0) else finR (64 * (b0 - 192) + b1 - 128) 128 2 := by unfold valR; rw [if_neg (by omega), if_pos h]
theorem valR3 {n b0 b1 b2 b3 : Nat} (h : 224 ≤ b0 ∧ b0 < 240) : valR n b0 b1 b2 b3 = if n < 3 then (0, 0) else if ctR b1 = false then (0, 0) else if ctR b2 = false then (0, 0) else finR (64 * (64 * (b0 - 224) + b1 - 128) + b2 - 128) 2048 3 := by unfold valR; rw [if_neg (by omega), if_neg (by omega), if_pos h]
theorem valR4 {n b0 b1 b2 b3 : Nat} (h : 240 ≤ b0 ∧ b0 < 248) : valR n b0 b1 b2 b3 = if n < 4 then (0, 0) else if ctR b1 = false then (0, 0) else if ctR b2 = false then (0, 0) else if ctR b3 = false then (0, 0) else finR (64 * (64 * (64 * (b0 - 240) + b1 - 128) + b2 - 128) + b3 - 128) 65536 4 := by unfold valR; rw [if_neg (by omega), if_neg (by omega), if_neg (by omega), if_pos h]
theorem valR0 {n b0 b1 b2 b3 : Nat} (h : (128 ≤ b0 ∧ b0 < 192) ∨ 248 ≤ b0) : valR n b0 b1 b2 b3 = (0, 0) := by unfold valR; rw [if_neg (by omega), if_neg (by omega), if_neg (by omega), if_neg (by omega)]

def RuneOut (l : List UInt8) (w : World) (e : Ending) (w' : World) : Prop := e = .returned (.tuple #[.int .i64 ((runeR l).1 : Int), .int .i64 ((runeR l).2 : Int)]) ∧ w' = w


set_option maxRecDepth 200000 in
set_option maxHeartbeats 8000000 in
theorem rune_a (w : World) (c : UInt8) (r : List UInt8) (hn : r.length + 1 ≤ 140737488351232) (hk : c.toNat < 128) : Calls Tryd.prog 111 #[.string ⟨(c :: r).toArray⟩] w fun e w' => RuneOut (c :: r) w e w' := by
  have hr := runeR_val (l := c :: r) (by simp)
  have h0 : (c :: r).getD 0 0 = c := rfl
  rw [h0] at hr
  have hc := c.toNat_lt
  rw [valR1 hk] at hr
  have f1 : decide ((c.toNat : Int) < 128) = true := by simp; omega
  have f2 : decide ((192 : Int) ≤ (c.toNat : Int)) = false := by simp; omega
  have f3 : decide ((c.toNat : Int) < 224) = true := by simp; omega
  have f4 : decide ((224 : Int) ≤ (c.toNat : Int)) = false := by simp; omega
  have f5 : decide ((c.toNat : Int) < 240) = true := by simp; omega
  have f6 : decide ((240 : Int) ≤ (c.toNat : Int)) = false := by simp; omega
  have f7 : decide ((c.toNat : Int) < 248) = true := by simp; omega
  have HR := Lib.hid hr
  clear hr hk h0
  go_enter Tryd.func111, Tryd.ntmps111
  go_wp2
  go_ret2
  exact ⟨by rw [HR.out]; rfl, rfl⟩

set_option maxRecDepth 200000 in
set_option maxHeartbeats 8000000 in
theorem rune_b (w : World) (c : UInt8) (r : List UInt8) (hn : r.length + 1 ≤ 140737488351232) (hk : 128 ≤ c.toNat ∧ c.toNat < 192) : Calls Tryd.prog 111 #[.string ⟨(c :: r).toArray⟩] w fun e w' => RuneOut (c :: r) w e w' := by
  have hr := runeR_val (l := c :: r) (by simp)
  have h0 : (c :: r).getD 0 0 = c := rfl
  rw [h0] at hr
  have hc := c.toNat_lt
  rw [valR0 (.inl hk)] at hr
  have f1 : decide ((c.toNat : Int) < 128) = false := by simp; omega
  have f2 : decide ((192 : Int) ≤ (c.toNat : Int)) = false := by simp; omega
  have f3 : decide ((c.toNat : Int) < 224) = true := by simp; omega
  have f4 : decide ((224 : Int) ≤ (c.toNat : Int)) = false := by simp; omega
  have f5 : decide ((c.toNat : Int) < 240) = true := by simp; omega
  have f6 : decide ((240 : Int) ≤ (c.toNat : Int)) = false := by simp; omega
  have f7 : decide ((c.toNat : Int) < 248) = true := by simp; omega
  have HR := Lib.hid hr
  clear hr hk h0
  go_enter Tryd.func111, Tryd.ntmps111
  go_wp2
  go_ret2
  exact ⟨by rw [HR.out]; rfl, rfl⟩

set_option maxRecDepth 200000 in
set_option maxHeartbeats 8000000 in
theorem rune_c (w : World) (c : UInt8) (r : List UInt8) (hn : r.length + 1 ≤ 140737488351232) (hk : 192 ≤ c.toNat ∧ c.toNat < 224) : Calls Tryd.prog 111 #[.string ⟨(c :: r).toArray⟩] w fun e w' => RuneOut (c :: r) w e w' := by
  have hr := runeR_val (l := c :: r) (by simp)
  have h0 : (c :: r).getD 0 0 = c := rfl
  rw [h0] at hr
  have hc := c.toNat_lt
  have f1 : decide ((c.toNat : Int) < 128) = false := by simp; omega
  have f2 : decide ((192 : Int) ≤ (c.toNat : Int)) = true := by simp; omega
  have f3 : decide ((c.toNat : Int) < 224) = true := by simp; omega
  have f4 : decide ((224 : Int) ≤ (c.toNat : Int)) = false := by simp; omega
  have f5 : decide ((c.toNat : Int) < 240) = true := by simp; omega
  have f6 : decide ((240 : Int) ≤ (c.toNat : Int)) = false := by simp; omega
  have f7 : decide ((c.toNat : Int) < 248) = true := by simp; omega
  rw [valR2 hk] at hr
  simp only [List.length_cons] at hr
  by_cases hlen : r.length + 1 < 2
  · have hv : runeR (c :: r) = (0, 0) := by rw [hr, if_pos hlen]
    have HV := Lib.hid hv
    have hw : IntKind.i64.wrap ((c.toNat : Int) - 192) = (c.toNat : Int) - 192 := IntWalk.i64_in _ ⟨by omega, by omega⟩
    have hl3 : (r.length : Int) + 1 < 2 := by omega
    clear hv hr h0
    go_enter Tryd.func111, Tryd.ntmps111
    go_wp2
    go_ret2
    exact ⟨by rw [HV.out]; rfl, rfl⟩
  · rw [if_neg hlen] at hr
    have hr0 : 0 < r.length := by omega
    have ht0 := r[0].toNat_lt
    rw [show (c :: r).getD 1 0 = r[0] from getD1 c r 0 hr0] at hr
    have hl3 : ¬ (r.length : Int) + 1 < 2 := by omega
    have hw : IntKind.i64.wrap ((c.toNat : Int) - 192) = ((c.toNat - 192 : Nat) : Int) := by
      rw [show ((c.toNat : Int) - 192) = ((c.toNat - 192 : Nat) : Int) by omega]
      exact IntWalk.i64_in _ ⟨by omega, by omega⟩
    clear h0 hlen
    obtain ⟨v0, hv0⟩ : ∃ v0 : Nat, v0 = (c.toNat - 192) := ⟨_, rfl⟩
    obtain ⟨v1, hv1⟩ : ∃ v1 : Nat, v1 = (64 * v0 + r[0].toNat - 128) := ⟨_, rfl⟩
    rw [← hv0] at hw hr
    rw [← hv1] at hr
    have HR := Lib.hid hr
    clear hr
    have HV0 := Lib.hid hv0
    have HV1 := Lib.hid hv1
    have hb0 : v0 < 64 := by omega
    have hb1 : v1 < 8192 := by omega
    clear hv0 hv1
    go_enter Tryd.func111, Tryd.ntmps111
    go_wp2
    go_loop [6, 8] (fun vv iv => (iv = .int .i64 1 ∧ vv = .int .i64 (v0 : Int)) ∨ (iv = .int .i64 2 ∧ vv = .int .i64 (v1 : Int) ∧ ctR r[0].toNat = true)) (fun _ iv => 2 - (RowKit.intOf iv).toNat)
    case atStart => exact .inl ⟨rfl, rfl⟩
    case round =>
      rcases hrel with ⟨rfl, rfl⟩ | ⟨rfl, rfl, c0⟩
      · cases hcd : ctR r[0].toNat with
        | true =>
          obtain ⟨_, p2, p3⟩ := ct_mod hcd
          have dlt : decide ((r[0].toNat : Int) < 128) = false := by simp; omega
          have dge : decide ((192 : Int) ≤ (r[0].toNat : Int)) = false := by simp; omega
          have w1 : IntKind.i64.wrap (64 * (v0 : Int)) = 64 * (v0 : Int) := IntWalk.i64_in _ ⟨by omega, by omega⟩
          have w2 : IntKind.i64.wrap (64 * (v0 : Int) + (r[0].toNat : Int)) = 64 * (v0 : Int) + (r[0].toNat : Int) := IntWalk.i64_in _ ⟨by omega, by omega⟩
          have w3 : IntKind.i64.wrap (64 * (v0 : Int) + (r[0].toNat : Int) - 128) = (v1 : Int) := by
            rw [show (64 * (v0 : Int) + (r[0].toNat : Int) - 128) = (v1 : Int) by have := HV1.out; omega]
            exact IntWalk.i64_in _ ⟨by omega, by omega⟩
          have HC := Lib.hid hcd; have HW3 := Lib.hid w3
          have HE := Lib.hid (by have := HV1.out; omega : (64 : Int) * (v0 : Int) + (r[0].toNat : Int) - 128 = (v1 : Int))
          clear hcd
          go_wp2
          go_round
          case rel => exact .inr (⟨by first | rfl | go_num, by first | rfl | exact congrArg (Value.int IntKind.i64) HE.out, by first | exact HC.out | trivial⟩)
          case measure => simp [RowKit.intOf]
        | false =>
          have hv : runeR (c :: r) = (0, 0) := by
            have h := HR.out
            simp only [hcd, if_true] at h
            exact h
          have HV := Lib.hid hv
          have hd : r[0].toNat < 128 ∨ 192 ≤ r[0].toNat := by
            unfold ctR at hcd
            simp only [Bool.and_eq_false_iff, decide_eq_false_iff_not] at hcd
            omega
          clear hv hcd
          rcases hd with hd | hd
          · have dlt : decide ((r[0].toNat : Int) < 128) = true := by simp; omega
            go_wp2
            go_ret2
            exact ⟨by rw [HV.out]; rfl, rfl⟩
          · have dlt : decide ((r[0].toNat : Int) < 128) = false := by simp; omega
            have dge : decide ((192 : Int) ≤ (r[0].toNat : Int)) = true := by simp; omega
            go_wp2
            go_ret2
            exact ⟨by rw [HV.out]; rfl, rfl⟩
      · skip
        have h := HR.out
        simp only [c0, Bool.true_eq_false, if_false] at h
        unfold finR at h
        have HF := Lib.hid h
        clear h
        by_cases hls : v1 < 128
        · have hv : runeR (c :: r) = (0, 0) := by rw [HF.out, if_pos (.inl hls)]
          have gls : decide ((v1 : Int) < 128) = true := decide_eq_true (by omega)
          have HV := Lib.hid hv
          clear hv hls
          go_wp2
          go_ret2
          exact ⟨by rw [HV.out]; rfl, rfl⟩
        · have hcall := isrune_any w v1 (by omega)
          have gls : decide ((v1 : Int) < 128) = false := decide_eq_false (by omega)
          have hvF : Utf8.valid (v1 : Int) = false → runeR (c :: r) = (0, 0) := fun h => by rw [HF.out, if_pos (.inr h)]
          have hvT : Utf8.valid (v1 : Int) = true → runeR (c :: r) = (v1, 2) := fun h => by rw [HF.out, if_neg (by rw [h]; simp; omega)]
          have HC := Lib.hid hcall; have HVF := Lib.hid hvF; have HVT := Lib.hid hvT
          clear hcall hvF hvT hls hb0 hb1
          go_wp2_with fail
          refine HC.out.mono ?_
          rintro e w' ⟨rfl, rfl⟩
          cases hva : Utf8.valid (v1 : Int) with
          | false =>
            have HV := Lib.hid (HVF.out hva)
            clear hva HVF HVT
            go_wp2
            go_ret2
            exact ⟨by rw [HV.out]; rfl, rfl⟩
          | true =>
            have HV := Lib.hid (HVT.out hva)
            clear hva HVF HVT
            go_wp2
            go_ret2
            exact ⟨by rw [HV.out]; rfl, rfl⟩

set_option maxRecDepth 200000 in
set_option maxHeartbeats 8000000 in
theorem rune_d (w : World) (c : UInt8) (r : List UInt8) (hn : r.length + 1 ≤ 140737488351232) (hk : 224 ≤ c.toNat ∧ c.toNat < 240) : Calls Tryd.prog 111 #[.string ⟨(c :: r).toArray⟩] w fun e w' => RuneOut (c :: r) w e w' := by
  have hr := runeR_val (l := c :: r) (by simp)
  have h0 : (c :: r).getD 0 0 = c := rfl
  rw [h0] at hr
  have hc := c.toNat_lt
  have f1 : decide ((c.toNat : Int) < 128) = false := by simp; omega
  have f2 : decide ((192 : Int) ≤ (c.toNat : Int)) = true := by simp; omega
  have f3 : decide ((c.toNat : Int) < 224) = false := by simp; omega
  have f4 : decide ((224 : Int) ≤ (c.toNat : Int)) = true := by simp; omega
  have f5 : decide ((c.toNat : Int) < 240) = true := by simp; omega
  have f6 : decide ((240 : Int) ≤ (c.toNat : Int)) = false := by simp; omega
  have f7 : decide ((c.toNat : Int) < 248) = true := by simp; omega
  rw [valR3 hk] at hr
  simp only [List.length_cons] at hr
  by_cases hlen : r.length + 1 < 3
  · have hv : runeR (c :: r) = (0, 0) := by rw [hr, if_pos hlen]
    have HV := Lib.hid hv
    have hw : IntKind.i64.wrap ((c.toNat : Int) - 224) = (c.toNat : Int) - 224 := IntWalk.i64_in _ ⟨by omega, by omega⟩
    have hl3 : (r.length : Int) + 1 < 3 := by omega
    clear hv hr h0
    go_enter Tryd.func111, Tryd.ntmps111
    go_wp2
    go_ret2
    exact ⟨by rw [HV.out]; rfl, rfl⟩
  · rw [if_neg hlen] at hr
    have hr0 : 0 < r.length := by omega
    have ht0 := r[0].toNat_lt
    rw [show (c :: r).getD 1 0 = r[0] from getD1 c r 0 hr0] at hr
    have hr1 : 1 < r.length := by omega
    have ht1 := r[1].toNat_lt
    rw [show (c :: r).getD 2 0 = r[1] from getD1 c r 1 hr1] at hr
    have hl3 : ¬ (r.length : Int) + 1 < 3 := by omega
    have hw : IntKind.i64.wrap ((c.toNat : Int) - 224) = ((c.toNat - 224 : Nat) : Int) := by
      rw [show ((c.toNat : Int) - 224) = ((c.toNat - 224 : Nat) : Int) by omega]
      exact IntWalk.i64_in _ ⟨by omega, by omega⟩
    clear h0 hlen
    obtain ⟨v0, hv0⟩ : ∃ v0 : Nat, v0 = (c.toNat - 224) := ⟨_, rfl⟩
    obtain ⟨v1, hv1⟩ : ∃ v1 : Nat, v1 = (64 * v0 + r[0].toNat - 128) := ⟨_, rfl⟩
    obtain ⟨v2, hv2⟩ : ∃ v2 : Nat, v2 = (64 * v1 + r[1].toNat - 128) := ⟨_, rfl⟩
    rw [← hv0] at hw hr
    rw [← hv1] at hr
    rw [← hv2] at hr
    have HR := Lib.hid hr
    clear hr
    have HV0 := Lib.hid hv0
    have HV1 := Lib.hid hv1
    have HV2 := Lib.hid hv2
    have hb0 : v0 < 64 := by omega
    have hb1 : v1 < 8192 := by omega
    have hb2 : v2 < 524288 := by omega
    clear hv0 hv1 hv2
    go_enter Tryd.func111, Tryd.ntmps111
    go_wp2
    go_loop [6, 8] (fun vv iv => (iv = .int .i64 1 ∧ vv = .int .i64 (v0 : Int)) ∨ (iv = .int .i64 2 ∧ vv = .int .i64 (v1 : Int) ∧ ctR r[0].toNat = true) ∨ (iv = .int .i64 3 ∧ vv = .int .i64 (v2 : Int) ∧ ctR r[0].toNat = true ∧ ctR r[1].toNat = true)) (fun _ iv => 3 - (RowKit.intOf iv).toNat)
    case atStart => exact .inl ⟨rfl, rfl⟩
    case round =>
      rcases hrel with ⟨rfl, rfl⟩ | ⟨rfl, rfl, c0⟩ | ⟨rfl, rfl, c0, c1⟩
      · cases hcd : ctR r[0].toNat with
        | true =>
          obtain ⟨_, p2, p3⟩ := ct_mod hcd
          have dlt : decide ((r[0].toNat : Int) < 128) = false := by simp; omega
          have dge : decide ((192 : Int) ≤ (r[0].toNat : Int)) = false := by simp; omega
          have w1 : IntKind.i64.wrap (64 * (v0 : Int)) = 64 * (v0 : Int) := IntWalk.i64_in _ ⟨by omega, by omega⟩
          have w2 : IntKind.i64.wrap (64 * (v0 : Int) + (r[0].toNat : Int)) = 64 * (v0 : Int) + (r[0].toNat : Int) := IntWalk.i64_in _ ⟨by omega, by omega⟩
          have w3 : IntKind.i64.wrap (64 * (v0 : Int) + (r[0].toNat : Int) - 128) = (v1 : Int) := by
            rw [show (64 * (v0 : Int) + (r[0].toNat : Int) - 128) = (v1 : Int) by have := HV1.out; omega]
            exact IntWalk.i64_in _ ⟨by omega, by omega⟩
          have HC := Lib.hid hcd; have HW3 := Lib.hid w3
          have HE := Lib.hid (by have := HV1.out; omega : (64 : Int) * (v0 : Int) + (r[0].toNat : Int) - 128 = (v1 : Int))
          clear hcd
          go_wp2
          go_round
          case rel => exact .inr (.inl (⟨by first | rfl | go_num, by first | rfl | exact congrArg (Value.int IntKind.i64) HE.out, by first | exact HC.out | trivial⟩))
          case measure => simp [RowKit.intOf]
        | false =>
          have hv : runeR (c :: r) = (0, 0) := by
            have h := HR.out
            simp only [hcd, if_true] at h
            exact h
          have HV := Lib.hid hv
          have hd : r[0].toNat < 128 ∨ 192 ≤ r[0].toNat := by
            unfold ctR at hcd
            simp only [Bool.and_eq_false_iff, decide_eq_false_iff_not] at hcd
            omega
          clear hv hcd
          rcases hd with hd | hd
          · have dlt : decide ((r[0].toNat : Int) < 128) = true := by simp; omega
            go_wp2
            go_ret2
            exact ⟨by rw [HV.out]; rfl, rfl⟩
          · have dlt : decide ((r[0].toNat : Int) < 128) = false := by simp; omega
            have dge : decide ((192 : Int) ≤ (r[0].toNat : Int)) = true := by simp; omega
            go_wp2
            go_ret2
            exact ⟨by rw [HV.out]; rfl, rfl⟩
      · cases hcd : ctR r[1].toNat with
        | true =>
          obtain ⟨_, p2, p3⟩ := ct_mod hcd
          have dlt : decide ((r[1].toNat : Int) < 128) = false := by simp; omega
          have dge : decide ((192 : Int) ≤ (r[1].toNat : Int)) = false := by simp; omega
          have w1 : IntKind.i64.wrap (64 * (v1 : Int)) = 64 * (v1 : Int) := IntWalk.i64_in _ ⟨by omega, by omega⟩
          have w2 : IntKind.i64.wrap (64 * (v1 : Int) + (r[1].toNat : Int)) = 64 * (v1 : Int) + (r[1].toNat : Int) := IntWalk.i64_in _ ⟨by omega, by omega⟩
          have w3 : IntKind.i64.wrap (64 * (v1 : Int) + (r[1].toNat : Int) - 128) = (v2 : Int) := by
            rw [show (64 * (v1 : Int) + (r[1].toNat : Int) - 128) = (v2 : Int) by have := HV2.out; omega]
            exact IntWalk.i64_in _ ⟨by omega, by omega⟩
          have HC := Lib.hid hcd; have HW3 := Lib.hid w3
          have HE := Lib.hid (by have := HV2.out; omega : (64 : Int) * (v1 : Int) + (r[1].toNat : Int) - 128 = (v2 : Int))
          clear hcd
          go_wp2
          go_round
          case rel => exact .inr (.inr (⟨by first | rfl | go_num, by first | rfl | exact congrArg (Value.int IntKind.i64) HE.out, by first | exact c0 | trivial, by first | exact HC.out | trivial⟩))
          case measure => simp [RowKit.intOf]
        | false =>
          have hv : runeR (c :: r) = (0, 0) := by
            have h := HR.out
            simp only [c0, hcd, if_true, Bool.true_eq_false, if_false] at h
            exact h
          have HV := Lib.hid hv
          have hd : r[1].toNat < 128 ∨ 192 ≤ r[1].toNat := by
            unfold ctR at hcd
            simp only [Bool.and_eq_false_iff, decide_eq_false_iff_not] at hcd
            omega
          clear hv hcd
          rcases hd with hd | hd
          · have dlt : decide ((r[1].toNat : Int) < 128) = true := by simp; omega
            go_wp2
            go_ret2
            exact ⟨by rw [HV.out]; rfl, rfl⟩
          · have dlt : decide ((r[1].toNat : Int) < 128) = false := by simp; omega
            have dge : decide ((192 : Int) ≤ (r[1].toNat : Int)) = true := by simp; omega
            go_wp2
            go_ret2
            exact ⟨by rw [HV.out]; rfl, rfl⟩
      · skip
        have h := HR.out
        simp only [c0, c1, Bool.true_eq_false, if_false] at h
        unfold finR at h
        have HF := Lib.hid h
        clear h
        by_cases hls : v2 < 2048
        · have hv : runeR (c :: r) = (0, 0) := by rw [HF.out, if_pos (.inl hls)]
          have gls : decide ((v2 : Int) < 2048) = true := decide_eq_true (by omega)
          have HV := Lib.hid hv
          clear hv hls
          go_wp2
          go_ret2
          exact ⟨by rw [HV.out]; rfl, rfl⟩
        · have hcall := isrune_any w v2 (by omega)
          have gls : decide ((v2 : Int) < 2048) = false := decide_eq_false (by omega)
          have hvF : Utf8.valid (v2 : Int) = false → runeR (c :: r) = (0, 0) := fun h => by rw [HF.out, if_pos (.inr h)]
          have hvT : Utf8.valid (v2 : Int) = true → runeR (c :: r) = (v2, 3) := fun h => by rw [HF.out, if_neg (by rw [h]; simp; omega)]
          have HC := Lib.hid hcall; have HVF := Lib.hid hvF; have HVT := Lib.hid hvT
          clear hcall hvF hvT hls hb0 hb1 hb2
          go_wp2_with fail
          refine HC.out.mono ?_
          rintro e w' ⟨rfl, rfl⟩
          cases hva : Utf8.valid (v2 : Int) with
          | false =>
            have HV := Lib.hid (HVF.out hva)
            clear hva HVF HVT
            go_wp2
            go_ret2
            exact ⟨by rw [HV.out]; rfl, rfl⟩
          | true =>
            have HV := Lib.hid (HVT.out hva)
            clear hva HVF HVT
            go_wp2
            go_ret2
            exact ⟨by rw [HV.out]; rfl, rfl⟩

set_option maxRecDepth 200000 in
set_option maxHeartbeats 8000000 in
theorem rune_e (w : World) (c : UInt8) (r : List UInt8) (hn : r.length + 1 ≤ 140737488351232) (hk : 240 ≤ c.toNat ∧ c.toNat < 248) : Calls Tryd.prog 111 #[.string ⟨(c :: r).toArray⟩] w fun e w' => RuneOut (c :: r) w e w' := by
  have hr := runeR_val (l := c :: r) (by simp)
  have h0 : (c :: r).getD 0 0 = c := rfl
  rw [h0] at hr
  have hc := c.toNat_lt
  have f1 : decide ((c.toNat : Int) < 128) = false := by simp; omega
  have f2 : decide ((192 : Int) ≤ (c.toNat : Int)) = true := by simp; omega
  have f3 : decide ((c.toNat : Int) < 224) = false := by simp; omega
  have f4 : decide ((224 : Int) ≤ (c.toNat : Int)) = true := by simp; omega
  have f5 : decide ((c.toNat : Int) < 240) = false := by simp; omega
  have f6 : decide ((240 : Int) ≤ (c.toNat : Int)) = true := by simp; omega
  have f7 : decide ((c.toNat : Int) < 248) = true := by simp; omega
  rw [valR4 hk] at hr
  simp only [List.length_cons] at hr
  by_cases hlen : r.length + 1 < 4
  · have hv : runeR (c :: r) = (0, 0) := by rw [hr, if_pos hlen]
    have HV := Lib.hid hv
    have hw : IntKind.i64.wrap ((c.toNat : Int) - 240) = (c.toNat : Int) - 240 := IntWalk.i64_in _ ⟨by omega, by omega⟩
    have hl3 : (r.length : Int) + 1 < 4 := by omega
    clear hv hr h0
    go_enter Tryd.func111, Tryd.ntmps111
    go_wp2
    go_ret2
    exact ⟨by rw [HV.out]; rfl, rfl⟩
  · rw [if_neg hlen] at hr
    have hr0 : 0 < r.length := by omega
    have ht0 := r[0].toNat_lt
    rw [show (c :: r).getD 1 0 = r[0] from getD1 c r 0 hr0] at hr
    have hr1 : 1 < r.length := by omega
    have ht1 := r[1].toNat_lt
    rw [show (c :: r).getD 2 0 = r[1] from getD1 c r 1 hr1] at hr
    have hr2 : 2 < r.length := by omega
    have ht2 := r[2].toNat_lt
    rw [show (c :: r).getD 3 0 = r[2] from getD1 c r 2 hr2] at hr
    have hl3 : ¬ (r.length : Int) + 1 < 4 := by omega
    have hw : IntKind.i64.wrap ((c.toNat : Int) - 240) = ((c.toNat - 240 : Nat) : Int) := by
      rw [show ((c.toNat : Int) - 240) = ((c.toNat - 240 : Nat) : Int) by omega]
      exact IntWalk.i64_in _ ⟨by omega, by omega⟩
    clear h0 hlen
    obtain ⟨v0, hv0⟩ : ∃ v0 : Nat, v0 = (c.toNat - 240) := ⟨_, rfl⟩
    obtain ⟨v1, hv1⟩ : ∃ v1 : Nat, v1 = (64 * v0 + r[0].toNat - 128) := ⟨_, rfl⟩
    obtain ⟨v2, hv2⟩ : ∃ v2 : Nat, v2 = (64 * v1 + r[1].toNat - 128) := ⟨_, rfl⟩
    obtain ⟨v3, hv3⟩ : ∃ v3 : Nat, v3 = (64 * v2 + r[2].toNat - 128) := ⟨_, rfl⟩
    rw [← hv0] at hw hr
    rw [← hv1] at hr
    rw [← hv2] at hr
    rw [← hv3] at hr
    have HR := Lib.hid hr
    clear hr
    have HV0 := Lib.hid hv0
    have HV1 := Lib.hid hv1
    have HV2 := Lib.hid hv2
    have HV3 := Lib.hid hv3
    have hb0 : v0 < 64 := by omega
    have hb1 : v1 < 8192 := by omega
    have hb2 : v2 < 524288 := by omega
    have hb3 : v3 < 33554432 := by omega
    clear hv0 hv1 hv2 hv3
    go_enter Tryd.func111, Tryd.ntmps111
    go_wp2
    go_loop [6, 8] (fun vv iv => (iv = .int .i64 1 ∧ vv = .int .i64 (v0 : Int)) ∨ (iv = .int .i64 2 ∧ vv = .int .i64 (v1 : Int) ∧ ctR r[0].toNat = true) ∨ (iv = .int .i64 3 ∧ vv = .int .i64 (v2 : Int) ∧ ctR r[0].toNat = true ∧ ctR r[1].toNat = true) ∨ (iv = .int .i64 4 ∧ vv = .int .i64 (v3 : Int) ∧ ctR r[0].toNat = true ∧ ctR r[1].toNat = true ∧ ctR r[2].toNat = true)) (fun _ iv => 4 - (RowKit.intOf iv).toNat)
    case atStart => exact .inl ⟨rfl, rfl⟩
    case round =>
      rcases hrel with ⟨rfl, rfl⟩ | ⟨rfl, rfl, c0⟩ | ⟨rfl, rfl, c0, c1⟩ | ⟨rfl, rfl, c0, c1, c2⟩
      · cases hcd : ctR r[0].toNat with
        | true =>
          obtain ⟨_, p2, p3⟩ := ct_mod hcd
          have dlt : decide ((r[0].toNat : Int) < 128) = false := by simp; omega
          have dge : decide ((192 : Int) ≤ (r[0].toNat : Int)) = false := by simp; omega
          have w1 : IntKind.i64.wrap (64 * (v0 : Int)) = 64 * (v0 : Int) := IntWalk.i64_in _ ⟨by omega, by omega⟩
          have w2 : IntKind.i64.wrap (64 * (v0 : Int) + (r[0].toNat : Int)) = 64 * (v0 : Int) + (r[0].toNat : Int) := IntWalk.i64_in _ ⟨by omega, by omega⟩
          have w3 : IntKind.i64.wrap (64 * (v0 : Int) + (r[0].toNat : Int) - 128) = (v1 : Int) := by
            rw [show (64 * (v0 : Int) + (r[0].toNat : Int) - 128) = (v1 : Int) by have := HV1.out; omega]
            exact IntWalk.i64_in _ ⟨by omega, by omega⟩
          have HC := Lib.hid hcd; have HW3 := Lib.hid w3
          have HE := Lib.hid (by have := HV1.out; omega : (64 : Int) * (v0 : Int) + (r[0].toNat : Int) - 128 = (v1 : Int))
          clear hcd
          go_wp2
          go_round
          case rel => exact .inr (.inl (⟨by first | rfl | go_num, by first | rfl | exact congrArg (Value.int IntKind.i64) HE.out, by first | exact HC.out | trivial⟩))
          case measure => simp [RowKit.intOf]
        | false =>
          have hv : runeR (c :: r) = (0, 0) := by
            have h := HR.out
            simp only [hcd, if_true] at h
            exact h
          have HV := Lib.hid hv
          have hd : r[0].toNat < 128 ∨ 192 ≤ r[0].toNat := by
            unfold ctR at hcd
            simp only [Bool.and_eq_false_iff, decide_eq_false_iff_not] at hcd
            omega
          clear hv hcd
          rcases hd with hd | hd
          · have dlt : decide ((r[0].toNat : Int) < 128) = true := by simp; omega
            go_wp2
            go_ret2
            exact ⟨by rw [HV.out]; rfl, rfl⟩
          · have dlt : decide ((r[0].toNat : Int) < 128) = false := by simp; omega
            have dge : decide ((192 : Int) ≤ (r[0].toNat : Int)) = true := by simp; omega
            go_wp2
            go_ret2
            exact ⟨by rw [HV.out]; rfl, rfl⟩
      · cases hcd : ctR r[1].toNat with
        | true =>
          obtain ⟨_, p2, p3⟩ := ct_mod hcd
          have dlt : decide ((r[1].toNat : Int) < 128) = false := by simp; omega
          have dge : decide ((192 : Int) ≤ (r[1].toNat : Int)) = false := by simp; omega
          have w1 : IntKind.i64.wrap (64 * (v1 : Int)) = 64 * (v1 : Int) := IntWalk.i64_in _ ⟨by omega, by omega⟩
          have w2 : IntKind.i64.wrap (64 * (v1 : Int) + (r[1].toNat : Int)) = 64 * (v1 : Int) + (r[1].toNat : Int) := IntWalk.i64_in _ ⟨by omega, by omega⟩
          have w3 : IntKind.i64.wrap (64 * (v1 : Int) + (r[1].toNat : Int) - 128) = (v2 : Int) := by
            rw [show (64 * (v1 : Int) + (r[1].toNat : Int) - 128) = (v2 : Int) by have := HV2.out; omega]
            exact IntWalk.i64_in _ ⟨by omega, by omega⟩
          have HC := Lib.hid hcd; have HW3 := Lib.hid w3
          have HE := Lib.hid (by have := HV2.out; omega : (64 : Int) * (v1 : Int) + (r[1].toNat : Int) - 128 = (v2 : Int))
          clear hcd
          go_wp2
          go_round
          case rel => exact .inr (.inr (.inl (⟨by first | rfl | go_num, by first | rfl | exact congrArg (Value.int IntKind.i64) HE.out, by first | exact c0 | trivial, by first | exact HC.out | trivial⟩)))
          case measure => simp [RowKit.intOf]
        | false =>
          have hv : runeR (c :: r) = (0, 0) := by
            have h := HR.out
            simp only [c0, hcd, if_true, Bool.true_eq_false, if_false] at h
            exact h
          have HV := Lib.hid hv
          have hd : r[1].toNat < 128 ∨ 192 ≤ r[1].toNat := by
            unfold ctR at hcd
            simp only [Bool.and_eq_false_iff, decide_eq_false_iff_not] at hcd
            omega
          clear hv hcd
          rcases hd with hd | hd
          · have dlt : decide ((r[1].toNat : Int) < 128) = true := by simp; omega
            go_wp2
            go_ret2
            exact ⟨by rw [HV.out]; rfl, rfl⟩
          · have dlt : decide ((r[1].toNat : Int) < 128) = false := by simp; omega
            have dge : decide ((192 : Int) ≤ (r[1].toNat : Int)) = true := by simp; omega
            go_wp2
            go_ret2
            exact ⟨by rw [HV.out]; rfl, rfl⟩
      · cases hcd : ctR r[2].toNat with
        | true =>
          obtain ⟨_, p2, p3⟩ := ct_mod hcd
          have dlt : decide ((r[2].toNat : Int) < 128) = false := by simp; omega
          have dge : decide ((192 : Int) ≤ (r[2].toNat : Int)) = false := by simp; omega
          have w1 : IntKind.i64.wrap (64 * (v2 : Int)) = 64 * (v2 : Int) := IntWalk.i64_in _ ⟨by omega, by omega⟩
          have w2 : IntKind.i64.wrap (64 * (v2 : Int) + (r[2].toNat : Int)) = 64 * (v2 : Int) + (r[2].toNat : Int) := IntWalk.i64_in _ ⟨by omega, by omega⟩
          have w3 : IntKind.i64.wrap (64 * (v2 : Int) + (r[2].toNat : Int) - 128) = (v3 : Int) := by
            rw [show (64 * (v2 : Int) + (r[2].toNat : Int) - 128) = (v3 : Int) by have := HV3.out; omega]
            exact IntWalk.i64_in _ ⟨by omega, by omega⟩
          have HC := Lib.hid hcd; have HW3 := Lib.hid w3
          have HE := Lib.hid (by have := HV3.out; omega : (64 : Int) * (v2 : Int) + (r[2].toNat : Int) - 128 = (v3 : Int))
          clear hcd
          go_wp2
          go_round
          case rel => exact .inr (.inr (.inr (⟨by first | rfl | go_num, by first | rfl | exact congrArg (Value.int IntKind.i64) HE.out, by first | exact c0 | trivial, by first | exact c1 | trivial, by first | exact HC.out | trivial⟩)))
          case measure => simp [RowKit.intOf]
        | false =>
          have hv : runeR (c :: r) = (0, 0) := by
            have h := HR.out
            simp only [c0, c1, hcd, if_true, Bool.true_eq_false, if_false] at h
            exact h
          have HV := Lib.hid hv
          have hd : r[2].toNat < 128 ∨ 192 ≤ r[2].toNat := by
            unfold ctR at hcd
            simp only [Bool.and_eq_false_iff, decide_eq_false_iff_not] at hcd
            omega
          clear hv hcd
          rcases hd with hd | hd
          · have dlt : decide ((r[2].toNat : Int) < 128) = true := by simp; omega
            go_wp2
            go_ret2
            exact ⟨by rw [HV.out]; rfl, rfl⟩
          · have dlt : decide ((r[2].toNat : Int) < 128) = false := by simp; omega
            have dge : decide ((192 : Int) ≤ (r[2].toNat : Int)) = true := by simp; omega
            go_wp2
            go_ret2
            exact ⟨by rw [HV.out]; rfl, rfl⟩
      · skip
        have h := HR.out
        simp only [c0, c1, c2, Bool.true_eq_false, if_false] at h
        unfold finR at h
        have HF := Lib.hid h
        clear h
        by_cases hls : v3 < 65536
        · have hv : runeR (c :: r) = (0, 0) := by rw [HF.out, if_pos (.inl hls)]
          have gls : decide ((v3 : Int) < 65536) = true := decide_eq_true (by omega)
          have HV := Lib.hid hv
          clear hv hls
          go_wp2
          go_ret2
          exact ⟨by rw [HV.out]; rfl, rfl⟩
        · have hcall := isrune_any w v3 (by omega)
          have gls : decide ((v3 : Int) < 65536) = false := decide_eq_false (by omega)
          have hvF : Utf8.valid (v3 : Int) = false → runeR (c :: r) = (0, 0) := fun h => by rw [HF.out, if_pos (.inr h)]
          have hvT : Utf8.valid (v3 : Int) = true → runeR (c :: r) = (v3, 4) := fun h => by rw [HF.out, if_neg (by rw [h]; simp; omega)]
          have HC := Lib.hid hcall; have HVF := Lib.hid hvF; have HVT := Lib.hid hvT
          clear hcall hvF hvT hls hb0 hb1 hb2 hb3
          go_wp2_with fail
          refine HC.out.mono ?_
          rintro e w' ⟨rfl, rfl⟩
          cases hva : Utf8.valid (v3 : Int) with
          | false =>
            have HV := Lib.hid (HVF.out hva)
            clear hva HVF HVT
            go_wp2
            go_ret2
            exact ⟨by rw [HV.out]; rfl, rfl⟩
          | true =>
            have HV := Lib.hid (HVT.out hva)
            clear hva HVF HVT
            go_wp2
            go_ret2
            exact ⟨by rw [HV.out]; rfl, rfl⟩

set_option maxRecDepth 200000 in
set_option maxHeartbeats 8000000 in
theorem rune_f (w : World) (c : UInt8) (r : List UInt8) (hn : r.length + 1 ≤ 140737488351232) (hk : 248 ≤ c.toNat) : Calls Tryd.prog 111 #[.string ⟨(c :: r).toArray⟩] w fun e w' => RuneOut (c :: r) w e w' := by
  have hr := runeR_val (l := c :: r) (by simp)
  have h0 : (c :: r).getD 0 0 = c := rfl
  rw [h0] at hr
  have hc := c.toNat_lt
  rw [valR0 (.inr hk)] at hr
  have f1 : decide ((c.toNat : Int) < 128) = false := by simp; omega
  have f2 : decide ((192 : Int) ≤ (c.toNat : Int)) = true := by simp; omega
  have f3 : decide ((c.toNat : Int) < 224) = false := by simp; omega
  have f4 : decide ((224 : Int) ≤ (c.toNat : Int)) = true := by simp; omega
  have f5 : decide ((c.toNat : Int) < 240) = false := by simp; omega
  have f6 : decide ((240 : Int) ≤ (c.toNat : Int)) = true := by simp; omega
  have f7 : decide ((c.toNat : Int) < 248) = false := by simp; omega
  have HR := Lib.hid hr
  clear hr hk h0
  go_enter Tryd.func111, Tryd.ntmps111
  go_wp2
  go_ret2
  exact ⟨by rw [HR.out]; rfl, rfl⟩

set_option maxRecDepth 100000 in
theorem rune_any (w : World) (l : List UInt8) (hn : l.length ≤ reachBytes) : Calls Tryd.prog 111 #[.string ⟨l.toArray⟩] w fun e w' => RuneOut l w e w' := by
  have hn : l.length ≤ 140737488351232 := hn
  cases l with
  | nil =>
    have hr : runeR [] = (0, 0) := rfl
    have HR := Lib.hid hr; clear hr
    go_enter Tryd.func111, Tryd.ntmps111
    go_wp2
    go_ret2
    exact ⟨by rw [HR.out]; rfl, rfl⟩
  | cons c r =>
    simp only [List.length_cons] at hn
    have hc := c.toNat_lt
    have hcl : c.toNat < 128 ∨ (128 ≤ c.toNat ∧ c.toNat < 192) ∨ (192 ≤ c.toNat ∧ c.toNat < 224) ∨ (224 ≤ c.toNat ∧ c.toNat < 240) ∨ (240 ≤ c.toNat ∧ c.toNat < 248) ∨ 248 ≤ c.toNat := by omega
    rcases hcl with hk | hk | hk | hk | hk | hk
    · exact rune_a w c r hn hk
    · exact rune_b w c r hn hk
    · exact rune_c w c r hn hk
    · exact rune_d w c r hn hk
    · exact rune_e w c r hn hk
    · exact rune_f w c r hn hk
end Go.Proofs.YtgcicljklejmjaaDoor

/- codicilref03.Runes, Name. -/
namespace Go.Proofs.YtgcicljklejmjaaDoor
open Go.RowKit Go.Lib

/-- How many runes; -1: none. -/
def runesV (l : List UInt8) : Int := if validD l then (runeCountL l : Int) else -1

theorem ba_extract (l : List UInt8) (k : Nat) : (⟨l.toArray⟩ : ByteArray).extract k l.length = ⟨(l.drop k).toArray⟩ := by
  apply ByteArray.ext
  simp only [ByteArray.data_extract, List.extract_toArray, List.extract_eq_take_drop]
  rw [List.take_of_length_le (by rw [List.length_drop]; omega)]

set_option maxRecDepth 100000 in
set_option maxHeartbeats 2000000 in
theorem runes3_any (w : World) (l : List UInt8) (hn : l.length ≤ reachBytes) : Calls Tryd.prog 106 #[.string ⟨l.toArray⟩] w fun e w' => e = .returned (.int .i64 (runesV l)) ∧ w' = w := by
  have hn : l.length ≤ 140737488351232 := hn
  go_enter Tryd.func106, Tryd.ntmps106
  go_wp2
  go_loop [0, 3] (fun sv nv => ∃ (s : List UInt8) (n : Nat), sv = .string ⟨s.toArray⟩ ∧ nv = .int .i64 (n : Int) ∧ n + s.length ≤ l.length ∧ validD l = validD s ∧ runeCountL l = n + runeCountL s) (fun sv _ => match sv with | .string b => b.size | _ => 0)
  case atStart => exact ⟨l, 0, rfl, rfl, by omega, rfl, by omega⟩
  case round =>
    obtain ⟨s, n, rfl, rfl, hsl, hv, hc⟩ := hrel
    have HV := Lib.hid hv; have HC := Lib.hid hc
    clear hv hc
    cases s with
    | nil =>
      have hr : runesV l = (n : Int) := by
        unfold runesV
        rw [HV.out, HC.out, count_nil]
        simp [validD_nil]
      have HR := Lib.hid hr; clear hr
      go_wp2
      go_ret
      exact ⟨by rw [HR.out]; rfl, rfl⟩
    | cons c r =>
      simp only [List.length_cons] at hsl
      have hru := rune_any w (c :: r) (by simp only [List.length_cons, reachBytes]; omega)
      have HRU := Lib.hid hru
      clear hru
      by_cases hk : (runeR (c :: r)).2 = 0
      · have hb : runesV l = -1 := by unfold runesV; rw [HV.out, validD_bad (by simp) hk]; rfl
        have HB := Lib.hid hb
        have gk : (((runeR (c :: r)).2 : Int) == 0) = true := by rw [hk]; rfl
        clear hb hk
        go_wp2_with fail
        refine HRU.out.mono ?_
        rintro e w' ⟨rfl, hw⟩
        subst w'
        go_wp2
        go_ret
        exact ⟨by rw [HB.out]; rfl, rfl⟩
      · have hs1 := validD_step hk
        have hs2 := count_step hk
        have hle := runeR_le (l := c :: r)
        have gk : (((runeR (c :: r)).2 : Int) == 0) = false := by rw [beq_eq_false_iff_ne]; omega
        have hdl : ((c :: r).drop (runeR (c :: r)).2).length = r.length + 1 - (runeR (c :: r)).2 := by rw [List.length_drop, List.length_cons]
        obtain ⟨k, hkk⟩ : ∃ k, k = (runeR (c :: r)).2 := ⟨_, rfl⟩
        rw [← hkk] at hs1 hs2 hle gk hdl hk
        have HKK := Lib.hid hkk; have HS1 := Lib.hid hs1; have HS2 := Lib.hid hs2; have HDL := Lib.hid hdl
        have hrp : RuneOut (c :: r) = RuneOut (c :: r) := rfl
        clear hkk hs1 hs2 hdl hrp
        simp only [List.length_cons] at hle
        go_wp2_with fail
        refine HRU.out.mono ?_
        rintro e w' ⟨rfl, hw⟩
        subst w'
        rw [← HKK.out]
        have hex := ba_extract (c :: r) k
        rw [List.length_cons] at hex
        have HEX := Lib.hid hex; clear hex
        go_wp2
        go_round
        case rel => exact ⟨(c :: r).drop k, n + 1, by rw [HEX.out], by first | rfl | go_num, by rw [HDL.out]; omega, HV.out.trans HS1.out, by rw [HC.out, HS2.out]; omega⟩
        case measure =>
          show ((⟨(c :: r).toArray⟩ : ByteArray).extract k (r.length + 1)).size < (⟨(c :: r).toArray⟩ : ByteArray).size
          rw [HEX.out]
          show ((c :: r).drop k).toArray.size < (c :: r).toArray.size
          rw [List.size_toArray, List.size_toArray, HDL.out, List.length_cons]
          omega
end Go.Proofs.YtgcicljklejmjaaDoor

/- codicilref03.Name. Printed by mkname3.py. -/
namespace Go.Proofs.YtgcicljklejmjaaDoor
open Go.RowKit Go.Lib
attribute [local go_sem] ba_get

/-- The i-th byte of a name. -/
def okN (l : List UInt8) (i : Nat) : Bool := letterB (l.getD i 0) || (digitB (l.getD i 0) && i != 0)
theorem letters_all {l : List UInt8} (h : ∀ i, i < l.length → okN l i = true) : lettersB l = true := by
  cases l with
  | nil => rfl
  | cons c r =>
    have h0 := h 0 (by simp)
    have hc : letterB c = true := by simpa [okN] using h0
    simp only [lettersB, hc, Bool.true_and, List.all_eq_true]
    intro x hx
    obtain ⟨i, hi, rfl⟩ := List.getElem_of_mem hx
    have := h (i + 1) (by simpa using hi)
    have e : (c :: r).getD (i + 1) 0 = r[i] := by simp [hi]
    rw [okN, e] at this
    simpa using this
theorem letters_not {l : List UInt8} {i : Nat} (hi : i < l.length) (h : okN l i = false) : lettersB l = false := by
  cases l with
  | nil => simp at hi
  | cons c r =>
    cases i with
    | zero =>
      have : letterB c = false := by simpa [okN] using h
      simp [lettersB, this]
    | succ i =>
      have hi2 : i < r.length := by simpa using hi
      have e : (c :: r).getD (i + 1) 0 = r[i] := by simp [hi2]
      rw [okN, e] at h
      have hx : (letterB r[i] || digitB r[i]) = false := by simpa using h
      have : (r.all fun c => letterB c || digitB c) = false := by
        rw [Bool.eq_false_iff]
        intro ha
        rw [List.all_eq_true] at ha
        have := ha _ (List.getElem_mem hi2)
        rw [hx] at this
        cases this
      simp [lettersB, this]
theorem letter_is (c : UInt8) : letterB c = letterR c.toNat := (letterR_byte c).symm
theorem digit_is (c : UInt8) : digitB c = (decide (48 ≤ c.toNat) && decide (c.toNat ≤ 57)) := by
  unfold digitB
  rw [show (decide (48 ≤ c)) = decide (48 ≤ c.toNat) from decide_eq_decide.2 UInt8.le_iff_toNat_le, show (decide (c ≤ 57)) = decide (c.toNat ≤ 57) from decide_eq_decide.2 UInt8.le_iff_toNat_le]

set_option maxRecDepth 100000 in
set_option maxHeartbeats 8000000 in
theorem name3_any (w : World) (l : List UInt8) (hn : l.length ≤ reachBytes) : Calls Tryd.prog 105 #[.string ⟨l.toArray⟩] w fun e w' => e = .returned (.bool (nameV l)) ∧ w' = w := by
  have hru := runes3_any w l hn
  have hn : l.length ≤ 140737488351232 := hn
  have hcl : runeCountL l ≤ l.length := by
    have := runeCount_le ⟨l.toArray⟩
    have h2 : (⟨l.toArray⟩ : ByteArray).size = l.length := by show l.toArray.size = _; simp
    rw [h2] at this
    exact this
  have hne : l ≠ [] → 1 ≤ runeCountL l := fun h => by
    rw [count_eq]
    cases hl : l.length with
    | zero => exact absurd (List.eq_nil_of_length_eq_zero hl) h
    | succ n => simp only [cntD]; rw [if_neg h]; omega
  have HRU := Lib.hid hru
  clear hru
  by_cases hv : validD l = true
  rotate_left
  · have hr : runesV l = -1 := by unfold runesV; rw [if_neg hv]
    have hnv : nameV l = false := by unfold nameV; simp [hv]
    have HNV := Lib.hid hnv; have HR := Lib.hid hr
    clear hr hnv hv hne
    go_enter Tryd.func105, Tryd.ntmps105
    go_wp2_with fail
    refine HRU.out.mono ?_
    rintro e w' ⟨rfl, hw⟩
    subst w'
    rw [HR.out]
    go_wp2
    go_ret
    exact ⟨by rw [HNV.out]; rfl, rfl⟩
  have hr : runesV l = (runeCountL l : Int) := by unfold runesV; rw [if_pos hv]
  by_cases h1 : 1 ≤ runeCountL l
  rotate_left
  · have hl : l = [] := Decidable.byContradiction (fun h => h1 (hne h))
    have hnv : nameV l = false := by unfold nameV; simp [hl]
    have g1 : decide ((runeCountL l : Int) < 1) = true := decide_eq_true (by omega)
    have HNV := Lib.hid hnv; have HR := Lib.hid hr
    clear hr hnv hv hne hl h1
    go_enter Tryd.func105, Tryd.ntmps105
    go_wp2_with fail
    refine HRU.out.mono ?_
    rintro e w' ⟨rfl, hw⟩
    subst w'
    rw [HR.out]
    go_wp2
    go_ret
    exact ⟨by rw [HNV.out]; rfl, rfl⟩
  have g1 : decide ((runeCountL l : Int) < 1) = false := decide_eq_false (by omega)
  by_cases h2 : runeCountL l ≤ 32
  rotate_left
  · have hnv : nameV l = false := by unfold nameV; simp [h2]
    have g2 : decide ((32 : Int) < (runeCountL l : Int)) = true := decide_eq_true (by omega)
    have HNV := Lib.hid hnv; have HR := Lib.hid hr
    clear hr hnv hv hne h1 h2
    go_enter Tryd.func105, Tryd.ntmps105
    go_wp2_with fail
    refine HRU.out.mono ?_
    rintro e w' ⟨rfl, hw⟩
    subst w'
    rw [HR.out]
    go_wp2
    go_ret
    exact ⟨by rw [HNV.out]; rfl, rfl⟩
  have g2 : decide ((32 : Int) < (runeCountL l : Int)) = false := decide_eq_false (by omega)
  have hl : l ≠ [] := fun h => by rw [h, count_nil] at h1; omega
  have hnv : nameV l = lettersB l := by
    have he : l.isEmpty = false := by cases l; exact absurd rfl hl; rfl
    unfold nameV
    rw [hv, decide_eq_true h2, he]
    simp
  have HNV := Lib.hid hnv; have HR := Lib.hid hr
  clear hr hnv hv hne h1 h2 hl
  go_enter Tryd.func105, Tryd.ntmps105
  go_wp2_with fail
  refine HRU.out.mono ?_
  rintro e w' ⟨rfl, hw⟩
  subst w'
  rw [HR.out]
  go_wp2
  go_loop [4] (fun iv => ∃ j : Nat, j ≤ l.length ∧ iv = .int .i64 (j : Int) ∧ ∀ i, i < j → okN l i = true) (fun iv => l.length - (RowKit.intOf iv).toNat)
  case atStart => exact ⟨0, Nat.zero_le _, rfl, fun i h => absurd h (Nat.not_lt_zero i)⟩
  case round =>
    obtain ⟨j, hj, rfl, hall⟩ := hrel
    by_cases hlt : j < l.length
    · obtain ⟨c, hc⟩ : ∃ c, c = l[j] := ⟨_, rfl⟩
      have hgd : l.getD j 0 = c := by rw [hc]; simp [hlt]
      have hix : (⟨l.toArray⟩ : ByteArray)[j]'(by show j < l.toArray.size; simpa using hlt) = c := by rw [hc]; rfl
      have hcl2 := c.toNat_lt
      have HALL := Lib.hid hall; have HGD := Lib.hid hgd
      have hstep : okN l j = true → ∀ i, i < j + 1 → okN l i = true := fun h i hi => by
        by_cases e : i = j
        · subst e; exact h
        · exact HALL.out i (by omega)
      have hok : okN l j = (letterR c.toNat || ((decide (48 ≤ c.toNat) && decide (c.toNat ≤ 57)) && j != 0)) := by unfold okN; rw [hgd, letter_is, digit_is]
      have HST := Lib.hid hstep; have HOK := Lib.hid hok
      have hcl3 : c = l[j] := hc
      clear hall hgd hstep hok
      have hr : c.toNat < 48 ∨ (48 ≤ c.toNat ∧ c.toNat ≤ 57) ∨ (58 ≤ c.toNat ∧ c.toNat ≤ 64) ∨ (65 ≤ c.toNat ∧ c.toNat ≤ 90) ∨ (91 ≤ c.toNat ∧ c.toNat ≤ 94) ∨ c.toNat = 95 ∨ c.toNat = 96 ∨ (97 ≤ c.toNat ∧ c.toNat ≤ 122) ∨ (123 ≤ c.toNat ∧ c.toNat ≤ 127) ∨ 128 ≤ c.toNat := by omega
      clear hcl3 hc
      rcases hr with h | h | h | h | h | h | h | h | h | h
      · skip
        have fa : decide ((97 : Int) ≤ (c.toNat : Int)) = false := by simp; omega
        have fb : decide ((c.toNat : Int) ≤ 122) = true := by simp; omega
        have fc : decide ((65 : Int) ≤ (c.toNat : Int)) = false := by simp; omega
        have fd : decide ((c.toNat : Int) ≤ 90) = true := by simp; omega
        have fe : ((c.toNat : Int) == 95) = false := by simp; omega
        have ff : decide ((128 : Int) ≤ (c.toNat : Int)) = false := by simp; omega
        have fg : decide ((c.toNat : Int) < 48) = true := by simp; omega
        have fh : decide ((57 : Int) < (c.toNat : Int)) = false := by simp; omega
        have hko : okN l j = false := by rw [HOK.out]; unfold letterR; simp; omega
        clear h
        have hln := letters_not hlt hko
        have HLN := Lib.hid (HNV.out.trans hln)
        clear hln hko
        go_wp2
        go_ret
        exact ⟨by rw [HLN.out]; rfl, rfl⟩
      · skip
        have fa : decide ((97 : Int) ≤ (c.toNat : Int)) = false := by simp; omega
        have fb : decide ((c.toNat : Int) ≤ 122) = true := by simp; omega
        have fc : decide ((65 : Int) ≤ (c.toNat : Int)) = false := by simp; omega
        have fd : decide ((c.toNat : Int) ≤ 90) = true := by simp; omega
        have fe : ((c.toNat : Int) == 95) = false := by simp; omega
        have ff : decide ((128 : Int) ≤ (c.toNat : Int)) = false := by simp; omega
        have fg : decide ((c.toNat : Int) < 48) = false := by simp; omega
        have fh : decide ((57 : Int) < (c.toNat : Int)) = false := by simp; omega
        by_cases hj0 : j = 0
        · have gj : ((j : Int) == 0) = true := by rw [hj0]; rfl
          have hko : okN l j = false := by rw [HOK.out, hj0]; unfold letterR; simp; omega
          clear h hj0
          have hln := letters_not hlt hko
          have HLN := Lib.hid (HNV.out.trans hln)
          clear hln hko
          go_wp2
          go_ret
          exact ⟨by rw [HLN.out]; rfl, rfl⟩
        · have gj : ((j : Int) == 0) = false := by rw [beq_eq_false_iff_ne]; omega
          have hko : okN l j = true := by rw [HOK.out]; unfold letterR; simp; omega
          have HST2 := Lib.hid (HST.out hko)
          clear h hj0 hko
          go_wp2
          go_round
          case rel => exact ⟨j + 1, by omega, by go_num, HST2.out⟩
          case measure => simp [RowKit.intOf]; omega
      · skip
        have fa : decide ((97 : Int) ≤ (c.toNat : Int)) = false := by simp; omega
        have fb : decide ((c.toNat : Int) ≤ 122) = true := by simp; omega
        have fc : decide ((65 : Int) ≤ (c.toNat : Int)) = false := by simp; omega
        have fd : decide ((c.toNat : Int) ≤ 90) = true := by simp; omega
        have fe : ((c.toNat : Int) == 95) = false := by simp; omega
        have ff : decide ((128 : Int) ≤ (c.toNat : Int)) = false := by simp; omega
        have fg : decide ((c.toNat : Int) < 48) = false := by simp; omega
        have fh : decide ((57 : Int) < (c.toNat : Int)) = true := by simp; omega
        have hko : okN l j = false := by rw [HOK.out]; unfold letterR; simp; omega
        clear h
        have hln := letters_not hlt hko
        have HLN := Lib.hid (HNV.out.trans hln)
        clear hln hko
        go_wp2
        go_ret
        exact ⟨by rw [HLN.out]; rfl, rfl⟩
      · skip
        have fa : decide ((97 : Int) ≤ (c.toNat : Int)) = false := by simp; omega
        have fb : decide ((c.toNat : Int) ≤ 122) = true := by simp; omega
        have fc : decide ((65 : Int) ≤ (c.toNat : Int)) = true := by simp; omega
        have fd : decide ((c.toNat : Int) ≤ 90) = true := by simp; omega
        have fe : ((c.toNat : Int) == 95) = false := by simp; omega
        have ff : decide ((128 : Int) ≤ (c.toNat : Int)) = false := by simp; omega
        have fg : decide ((c.toNat : Int) < 48) = false := by simp; omega
        have fh : decide ((57 : Int) < (c.toNat : Int)) = true := by simp; omega
        have hko : okN l j = true := by rw [HOK.out]; unfold letterR; simp; omega
        have HST2 := Lib.hid (HST.out hko)
        clear hko h
        go_wp2
        go_round
        case rel => exact ⟨j + 1, by omega, by go_num, HST2.out⟩
        case measure => simp [RowKit.intOf]; omega
      · skip
        have fa : decide ((97 : Int) ≤ (c.toNat : Int)) = false := by simp; omega
        have fb : decide ((c.toNat : Int) ≤ 122) = true := by simp; omega
        have fc : decide ((65 : Int) ≤ (c.toNat : Int)) = true := by simp; omega
        have fd : decide ((c.toNat : Int) ≤ 90) = false := by simp; omega
        have fe : ((c.toNat : Int) == 95) = false := by simp; omega
        have ff : decide ((128 : Int) ≤ (c.toNat : Int)) = false := by simp; omega
        have fg : decide ((c.toNat : Int) < 48) = false := by simp; omega
        have fh : decide ((57 : Int) < (c.toNat : Int)) = true := by simp; omega
        have hko : okN l j = false := by rw [HOK.out]; unfold letterR; simp; omega
        clear h
        have hln := letters_not hlt hko
        have HLN := Lib.hid (HNV.out.trans hln)
        clear hln hko
        go_wp2
        go_ret
        exact ⟨by rw [HLN.out]; rfl, rfl⟩
      · skip
        have fa : decide ((97 : Int) ≤ (c.toNat : Int)) = false := by simp; omega
        have fb : decide ((c.toNat : Int) ≤ 122) = true := by simp; omega
        have fc : decide ((65 : Int) ≤ (c.toNat : Int)) = true := by simp; omega
        have fd : decide ((c.toNat : Int) ≤ 90) = false := by simp; omega
        have fe : ((c.toNat : Int) == 95) = true := by simp; omega
        have ff : decide ((128 : Int) ≤ (c.toNat : Int)) = false := by simp; omega
        have fg : decide ((c.toNat : Int) < 48) = false := by simp; omega
        have fh : decide ((57 : Int) < (c.toNat : Int)) = true := by simp; omega
        have hko : okN l j = true := by rw [HOK.out]; unfold letterR; simp; omega
        have HST2 := Lib.hid (HST.out hko)
        clear hko h
        go_wp2
        go_round
        case rel => exact ⟨j + 1, by omega, by go_num, HST2.out⟩
        case measure => simp [RowKit.intOf]; omega
      · skip
        have fa : decide ((97 : Int) ≤ (c.toNat : Int)) = false := by simp; omega
        have fb : decide ((c.toNat : Int) ≤ 122) = true := by simp; omega
        have fc : decide ((65 : Int) ≤ (c.toNat : Int)) = true := by simp; omega
        have fd : decide ((c.toNat : Int) ≤ 90) = false := by simp; omega
        have fe : ((c.toNat : Int) == 95) = false := by simp; omega
        have ff : decide ((128 : Int) ≤ (c.toNat : Int)) = false := by simp; omega
        have fg : decide ((c.toNat : Int) < 48) = false := by simp; omega
        have fh : decide ((57 : Int) < (c.toNat : Int)) = true := by simp; omega
        have hko : okN l j = false := by rw [HOK.out]; unfold letterR; simp; omega
        clear h
        have hln := letters_not hlt hko
        have HLN := Lib.hid (HNV.out.trans hln)
        clear hln hko
        go_wp2
        go_ret
        exact ⟨by rw [HLN.out]; rfl, rfl⟩
      · skip
        have fa : decide ((97 : Int) ≤ (c.toNat : Int)) = true := by simp; omega
        have fb : decide ((c.toNat : Int) ≤ 122) = true := by simp; omega
        have fc : decide ((65 : Int) ≤ (c.toNat : Int)) = true := by simp; omega
        have fd : decide ((c.toNat : Int) ≤ 90) = false := by simp; omega
        have fe : ((c.toNat : Int) == 95) = false := by simp; omega
        have ff : decide ((128 : Int) ≤ (c.toNat : Int)) = false := by simp; omega
        have fg : decide ((c.toNat : Int) < 48) = false := by simp; omega
        have fh : decide ((57 : Int) < (c.toNat : Int)) = true := by simp; omega
        have hko : okN l j = true := by rw [HOK.out]; unfold letterR; simp; omega
        have HST2 := Lib.hid (HST.out hko)
        clear hko h
        go_wp2
        go_round
        case rel => exact ⟨j + 1, by omega, by go_num, HST2.out⟩
        case measure => simp [RowKit.intOf]; omega
      · skip
        have fa : decide ((97 : Int) ≤ (c.toNat : Int)) = true := by simp; omega
        have fb : decide ((c.toNat : Int) ≤ 122) = false := by simp; omega
        have fc : decide ((65 : Int) ≤ (c.toNat : Int)) = true := by simp; omega
        have fd : decide ((c.toNat : Int) ≤ 90) = false := by simp; omega
        have fe : ((c.toNat : Int) == 95) = false := by simp; omega
        have ff : decide ((128 : Int) ≤ (c.toNat : Int)) = false := by simp; omega
        have fg : decide ((c.toNat : Int) < 48) = false := by simp; omega
        have fh : decide ((57 : Int) < (c.toNat : Int)) = true := by simp; omega
        have hko : okN l j = false := by rw [HOK.out]; unfold letterR; simp; omega
        clear h
        have hln := letters_not hlt hko
        have HLN := Lib.hid (HNV.out.trans hln)
        clear hln hko
        go_wp2
        go_ret
        exact ⟨by rw [HLN.out]; rfl, rfl⟩
      · skip
        have fa : decide ((97 : Int) ≤ (c.toNat : Int)) = true := by simp; omega
        have fb : decide ((c.toNat : Int) ≤ 122) = false := by simp; omega
        have fc : decide ((65 : Int) ≤ (c.toNat : Int)) = true := by simp; omega
        have fd : decide ((c.toNat : Int) ≤ 90) = false := by simp; omega
        have fe : ((c.toNat : Int) == 95) = false := by simp; omega
        have ff : decide ((128 : Int) ≤ (c.toNat : Int)) = true := by simp; omega
        have fg : decide ((c.toNat : Int) < 48) = false := by simp; omega
        have fh : decide ((57 : Int) < (c.toNat : Int)) = true := by simp; omega
        have hko : okN l j = true := by rw [HOK.out]; unfold letterR; simp; omega
        have HST2 := Lib.hid (HST.out hko)
        clear hko h
        go_wp2
        go_round
        case rel => exact ⟨j + 1, by omega, by go_num, HST2.out⟩
        case measure => simp [RowKit.intOf]; omega
    · obtain rfl : j = l.length := by omega
      have hle := letters_all hall
      have HLE := Lib.hid (HNV.out.trans hle)
      clear hle hall
      go_wp2
      go_ret
      exact ⟨by rw [HLE.out]; rfl, rfl⟩
end Go.Proofs.YtgcicljklejmjaaDoor
