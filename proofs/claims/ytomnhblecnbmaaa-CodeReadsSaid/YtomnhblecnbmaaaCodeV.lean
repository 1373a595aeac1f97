/- The writer's other calls. -/
import Derived.Test.YtomnhblecnbmaaaCodeW
import Derived.Test.YtomnhblecnbmaaaBits
namespace Go.Proofs.Ytomnhblecnbmaaa
open Go.RowKit

set_option maxRecDepth 100000 in
set_option maxHeartbeats 400000 in
theorem u8_any (p : Nat) (w : World) (sv : Value) (l : List UInt8) (v : Int) (hv : 0 ≤ v) (hv2 : v < 256) (hw : Wr w p sv l) (hl : l.length ≤ 1000000000) :
    Calls Try.prog 42 #[.pointer (some ⟨p, 0, none⟩), .int .u8 v] w fun e w' => e = .returned (.tuple #[]) ∧ Wrote w w' p sv l (fx v.toNat 1) := by
  obtain ⟨n, rfl⟩ := Int.eq_ofNat_of_zero_le hv
  go_enter Try.func42, Try.ntmps42
  go_wp2_with (go_at_call 80; refine (fixed_any p _ sv l n 1 (by omega) hw hl).mono ?_; rintro e w' ⟨rfl, hq⟩)
  go_end0
  exact ⟨rfl, hq⟩

set_option maxRecDepth 100000 in
set_option maxHeartbeats 400000 in
theorem u16_any (p : Nat) (w : World) (sv : Value) (l : List UInt8) (v : Int) (hv : 0 ≤ v) (hv2 : v < 65536) (hw : Wr w p sv l) (hl : l.length ≤ 1000000000) :
    Calls Try.prog 36 #[.pointer (some ⟨p, 0, none⟩), .int .u16 v] w fun e w' => e = .returned (.tuple #[]) ∧ Wrote w w' p sv l (fx v.toNat 2) := by
  obtain ⟨n, rfl⟩ := Int.eq_ofNat_of_zero_le hv
  go_enter Try.func36, Try.ntmps36
  go_wp2_with (go_at_call 80; refine (fixed_any p _ sv l n 2 (by omega) hw hl).mono ?_; rintro e w' ⟨rfl, hq⟩)
  go_end0
  exact ⟨rfl, hq⟩

set_option maxRecDepth 100000 in
set_option maxHeartbeats 400000 in
theorem u32_any (p : Nat) (w : World) (sv : Value) (l : List UInt8) (v : Int) (hv : 0 ≤ v) (hv2 : v < 4294967296) (hw : Wr w p sv l) (hl : l.length ≤ 1000000000) :
    Calls Try.prog 44 #[.pointer (some ⟨p, 0, none⟩), .int .u32 v] w fun e w' => e = .returned (.tuple #[]) ∧ Wrote w w' p sv l (fx v.toNat 4) := by
  obtain ⟨n, rfl⟩ := Int.eq_ofNat_of_zero_le hv
  go_enter Try.func44, Try.ntmps44
  go_wp2_with (go_at_call 80; refine (fixed_any p _ sv l n 4 (by omega) hw hl).mono ?_; rintro e w' ⟨rfl, hq⟩)
  go_end0
  exact ⟨rfl, hq⟩

set_option maxRecDepth 100000 in
set_option maxHeartbeats 400000 in
theorem u64_any (p : Nat) (w : World) (sv : Value) (l : List UInt8) (v : Int) (hv : 0 ≤ v) (hw : Wr w p sv l) (hl : l.length ≤ 1000000000) :
    Calls Try.prog 45 #[.pointer (some ⟨p, 0, none⟩), .int .u64 v] w fun e w' => e = .returned (.tuple #[]) ∧ Wrote w w' p sv l (fx v.toNat 8) := by
  obtain ⟨n, rfl⟩ := Int.eq_ofNat_of_zero_le hv
  go_enter Try.func45, Try.ntmps45
  go_wp2_with (go_at_call 80; refine (fixed_any p _ sv l n 8 (by omega) hw hl).mono ?_; rintro e w' ⟨rfl, hq⟩)
  go_end0
  exact ⟨rfl, hq⟩

set_option maxHeartbeats 400000 in
theorem new_any (w : World) :
    Calls Try.prog 9 #[] w fun e w' => ∃ p, e = .returned (.pointer (some ⟨p, 0, none⟩)) ∧ w.heap.size ≤ p ∧ p < w'.heap.size ∧ Wr w' p (.slice none 0 0) [] ∧ Fr no w w' := by
  go_enter Try.func9, Try.ntmps9
  go_wp2
  go_ret
  refine ⟨_, rfl, Nat.le_refl _, by simp, ⟨heap_alloc_new _ _, ⟨rfl, .inl ⟨rfl, rfl⟩⟩, by simp [Value.ownBlock]⟩, by (repeat first | exact Fr.refl _ _ | apply Fr.drew | apply Fr.alloc)⟩

set_option maxHeartbeats 400000 in
theorem len_any (p : Nat) (w : World) (sv : Value) (l : List UInt8) (hw : Wr w p sv l) :
    Calls Try.prog 17 #[.pointer (some ⟨p, 0, none⟩)] w fun e w' => e = .returned (.int .i64 (l.length : Int)) ∧ w' = w := by
  obtain ⟨A, c, rfl⟩ := own_form hw.2.1
  obtain ⟨hc0, hfz, hps⟩ := one_cells hw.1
  go_enter Try.func17, Try.ntmps17
  go_wp2
  go_ret
  exact ⟨rfl, rfl⟩

/-- The bytes of a number, seven bits each. -/
def vi (v : Nat) : List UInt8 := if h : v < 128 then [UInt8.ofNat v] else UInt8.ofNat (v % 128 + 128) :: vi (v / 128)
termination_by v
decreasing_by omega

/-- Behind a name, for the walk's sake. -/
structure lt64 (v : Int) : Prop where
  out : v < 18446744073709551616

theorem vi_pos (v : Nat) : 0 < (vi v).length := by rw [vi]; split <;> simp

theorem vi_lt : ∀ (j v : Nat), v < 128 ^ (j + 1) → (vi v).length ≤ j + 1
  | 0, v, h => by rw [vi, dif_pos (by omega)]; simp
  | j + 1, v, h => by
    rw [vi]
    split
    · simp
    · have := vi_lt j (v / 128) (by rw [Nat.pow_succ] at h; omega)
      simp; omega

theorem vi_length (v : Nat) (h : v < 18446744073709551616) : (vi v).length ≤ 10 := vi_lt 9 v (by omega)

theorem byte_nat (x : Nat) (h : x < 256) : ([Value.int .u8 ((x : Nat) : Int)] : List Value) = bvs [UInt8.ofNat x] := by
  simp only [bvs, Bv, List.map_cons, List.map_nil, UInt8.toNat_ofNat']
  rw [Nat.mod_eq_of_lt h]

set_option maxRecDepth 100000 in
set_option maxHeartbeats 400000 in
theorem varint_any (p : Nat) (w : World) (sv : Value) (l : List UInt8) (v : Int) (hv : 0 ≤ v) (hv2 : lt64 v) (hw : Wr w p sv l) (hl : l.length ≤ 1000000000) :
    Calls Try.prog 13 #[.pointer (some ⟨p, 0, none⟩), .int .u64 v] w fun e w' => e = .returned (.tuple #[]) ∧ Wrote w w' p sv l (vi v.toNat) := by
  obtain ⟨n, rfl⟩ := Int.eq_ofNat_of_zero_le hv
  have hvl := vi_length n (by have := hv2.out; omega)
  clear hv2
  go_enter Try.func13, Try.ntmps13
  go_wp2
  go_loopw [1] (fun i wr => ∃ (k : Nat) (d : List UInt8), i = .int .u64 (k : Int) ∧ d ++ vi k = vi n ∧ Wrote w wr p sv l d) (fun i _ => (intOf i).toNat)
  case atStart => exact ⟨n, [], rfl, rfl, hw.wrote⟩
  case round =>
    obtain ⟨k, d, rfl, hd, A, m, c, hwr, hfr, hmv⟩ := hrel
    obtain ⟨hc0, hfz, hps⟩ := one_cells hwr.1
    have hdl : d.length ≤ 10 := by have h := congrArg List.length hd; simp at h; omega
    have HL := Lib.hid (show (l ++ d).length ≤ 1000000010 by simp; omega)
    have HW := Lib.hid hwr; have HD := Lib.hid hd; clear hwr hd hdl
    by_cases hk0 : 128 ≤ k
    · go_wp2_with (at_builtin; refine wpList_ap rfl (.tmp 12) (.tmp 16) 22 rfl tbB HW.out.2.1 ?fr ((Sl.built wr _ _).kept0 ((Fr.refl no _))) rfl rfl (by simp [Value.oneCell']) ?b1 ?b2 ?go)
      case go =>
        intro A' N c' w2 ho hf2 hm2
        have hg : Fr (fun k => Value.ownBlock (.slice A (m) c) = some k) wr w2 := Fr.trans (S := fun k => Value.ownBlock (.slice A (m) c) = some k) (by (repeat first | exact Fr.refl _ _ | apply Fr.drew | apply Fr.alloc)) hf2 (fun _ _ h => h)
        have hc1 := hg.cell hc0 HW.out.2.2
        have hf1 := (hg.frozen (a := ⟨p, 0, none⟩) hps HW.out.2.2).trans (hfz 0)
        have HO := Lib.hid ho; have HG := Lib.hid hf2; have HM := Lib.hid hm2; clear ho hf2 hm2 hg
        go_wp2
        go_roundw
        case rel =>
          refine ⟨k / 128, d ++ [UInt8.ofNat (k % 128 + 128)], by go_num, ?_, ?_⟩
          · rw [← HD.out, List.append_assoc]
            conv => rhs; rw [vi]
            rw [dif_neg (by omega)]; rfl
          · have ho := HO.out
            rw [or128, byte_nat _ (by omega)] at ho
            exact Wrote.more HW.out hfr hmv (by (repeat first | exact Fr.refl _ _ | apply Fr.drew | apply Fr.alloc)) ho HG.out HM.out
        case measure => simp [intOf]; omega
      case fr => (repeat first | exact Fr.refl _ _ | apply Fr.drew | apply Fr.alloc)
      case b1 => have := HL.out; simp only [maxLen]; omega
      case b2 => have := HL.out; omega
    · go_wp2_with (at_builtin; refine wpList_ap rfl (.tmp 24) (.tmp 27) 22 rfl tbB HW.out.2.1 ?fr ((Sl.built wr _ _).kept0 ((Fr.refl no _))) rfl rfl (by simp [Value.oneCell']) ?b1 ?b2 ?go)
      case go =>
        intro A' N c' w2 ho hf2 hm2
        have hg : Fr (fun k => Value.ownBlock (.slice A (m) c) = some k) wr w2 := Fr.trans (S := fun k => Value.ownBlock (.slice A (m) c) = some k) (by (repeat first | exact Fr.refl _ _ | apply Fr.drew | apply Fr.alloc)) hf2 (fun _ _ h => h)
        have hc1 := hg.cell hc0 HW.out.2.2
        have hf1 := (hg.frozen (a := ⟨p, 0, none⟩) hps HW.out.2.2).trans (hfz 0)
        have HO := Lib.hid ho; have HG := Lib.hid hf2; have HM := Lib.hid hm2; clear ho hf2 hm2 hg
        go_wp2
        go_end0
        refine ⟨rfl, ?_⟩
        have ho := HO.out
        have e : vi n = d ++ [UInt8.ofNat k] := by rw [← HD.out, vi, dif_pos (by omega)]
        rw [Int.toNat_natCast, e]
        rw [byte_nat k (by omega)] at ho
        exact Wrote.more HW.out hfr hmv (by (repeat first | exact Fr.refl _ _ | apply Fr.drew | apply Fr.alloc)) ho HG.out HM.out
      case fr => (repeat first | exact Fr.refl _ _ | apply Fr.drew | apply Fr.alloc)
      case b1 => have := HL.out; simp only [maxLen]; omega
      case b2 => have := HL.out; omega

/-- A number of either sign as one without. -/
def zz (v : Int) : Nat := (if 0 ≤ v then 2 * v else -2 * v - 1).toNat

set_option maxRecDepth 100000 in
set_option maxHeartbeats 400000 in
theorem signed_any (p : Nat) (w : World) (sv : Value) (l : List UInt8) (v : Int) (hv : -9223372036854775808 ≤ v) (hv2 : v ≤ 9223372036854775807) (hw : Wr w p sv l) (hl : l.length ≤ 1000000000) :
    Calls Try.prog 37 #[.pointer (some ⟨p, 0, none⟩), .int .i64 v] w fun e w' => e = .returned (.tuple #[]) ∧ Wrote w w' p sv l (vi (zz v)) := by
  go_enter Try.func37, Try.ntmps37
  go_wp2_with fail
  rw [zigzag v hv hv2]
  obtain ⟨z, hz, h0, h1⟩ : ∃ z : Int, z = (if 0 ≤ v then 2 * v else -2 * v - 1) ∧ 0 ≤ z ∧ lt64 z := ⟨_, rfl, by split <;> omega, ⟨by split <;> omega⟩⟩
  rw [← hz]
  have hz2 : zz v = z.toNat := by rw [hz]; rfl
  refine (varint_any p _ sv l _ h0 h1 hw hl).mono ?_
  rintro e w' ⟨rfl, hq⟩
  rw [← hz2] at hq
  clear hz hz2 h1 hv hv2
  go_wp2
  go_end0
  exact ⟨rfl, hq⟩

set_option maxRecDepth 100000 in
set_option maxHeartbeats 400000 in
theorem raw_any (p : Nat) (w : World) (sv : Value) (l : List UInt8) (x : Value) (b : List UInt8) (hx : Sl w 1 x b.length (bvs b)) (hw : Wr w p sv l) (hl : l.length + b.length ≤ 2000000000) :
    Calls Try.prog 48 #[.pointer (some ⟨p, 0, none⟩), x] w fun e w' => e = .returned (.tuple #[]) ∧ Wrote w w' p sv l b := by
  obtain ⟨A, c, rfl⟩ := own_form hw.2.1
  obtain ⟨hc0, hfz, hps⟩ := one_cells hw.1
  have HW := Lib.hid hw; clear hw
  go_enter Try.func48, Try.ntmps48
  go_wp2_with (at_builtin; refine wpList_ap rfl (.tmp 8) (.tmp 9) 22 rfl tbB HW.out.2.1 ?fr hx rfl rfl (bvs_one b) ?b1 ?b2 ?go)
  case go =>
    intro A' N c' w2 ho hf2 hm2
    have hg : Fr (fun k => Value.ownBlock (.slice A (l.length) c) = some k) w w2 := Fr.trans (S := fun k => Value.ownBlock (.slice A (l.length) c) = some k) (by (repeat first | exact Fr.refl _ _ | apply Fr.drew | apply Fr.alloc)) hf2 (fun _ _ h => h)
    have hc1 := hg.cell hc0 HW.out.2.2
    have hf1 := (hg.frozen (a := ⟨p, 0, none⟩) hps HW.out.2.2).trans (hfz 0)
    have HO := Lib.hid ho; have HG := Lib.hid hf2; have HM := Lib.hid hm2; clear ho hf2 hm2 hg
    go_wp2
    go_end0
    refine ⟨rfl, ?_⟩
    have h := Wrote.more (bs := []) (w := w) (by simpa using HW.out) (Fr.refl _ _) (Moved.refl _ _) (Fr.refl _ _) (by simpa using HO.out) HG.out HM.out
    simpa using h
  case fr => (repeat first | exact Fr.refl _ _ | apply Fr.drew | apply Fr.alloc)
  case b1 => simp [maxLen]; omega
  case b2 => simp; omega

set_option maxRecDepth 100000 in
set_option maxHeartbeats 400000 in
theorem text_any (p : Nat) (w : World) (sv : Value) (l : List UInt8) (s : ByteArray) (hw : Wr w p sv l) (hl : l.length + s.size ≤ 1000000000) :
    Calls Try.prog 38 #[.pointer (some ⟨p, 0, none⟩), .string s] w fun e w' => e = .returned (.tuple #[]) ∧ Wrote w w' p sv l (vi s.size ++ s.data.toList) := by
  go_enter Try.func38, Try.ntmps38
  go_wp2_with fail
  refine (varint_any p _ sv l _ (by omega) ⟨by omega⟩ hw (by omega)).mono ?_
  rintro e w1 ⟨rfl, A, m, c, hwr, hfr, hmv⟩
  have hvl := vi_length s.size (by omega)
  rw [Int.toNat_natCast] at hwr
  have HL := Lib.hid (show (l ++ vi s.size).length + s.size ≤ 1000000010 by simp; omega)
  obtain ⟨hc0, hfz, hps⟩ := one_cells hwr.1
  have HW := Lib.hid hwr; clear hwr hvl
  go_wp2_with (at_builtin; refine wpList_aps rfl (.tmp 13) (.tmp 14) 22 9 rfl tbB (by kernel_rfl) HW.out.2.1 ?fr s rfl rfl ?b1 ?b2 ?go)
  case go =>
    intro A' N c' w2 ho hf2 hm2
    have hg : Fr (fun k => Value.ownBlock (.slice A (m) c) = some k) w1 w2 := Fr.trans (S := fun k => Value.ownBlock (.slice A (m) c) = some k) (by (repeat first | exact Fr.refl _ _ | apply Fr.drew | apply Fr.alloc)) hf2 (fun _ _ h => h)
    have hc1 := hg.cell hc0 HW.out.2.2
    have hf1 := (hg.frozen (a := ⟨p, 0, none⟩) hps HW.out.2.2).trans (hfz 0)
    have HO := Lib.hid ho; have HG := Lib.hid hf2; have HM := Lib.hid hm2; clear ho hf2 hm2 hg
    go_wp2
    go_end0
    exact ⟨rfl, Wrote.more HW.out hfr hmv (Fr.refl _ _) HO.out HG.out HM.out⟩
  case fr => (repeat first | exact Fr.refl _ _ | apply Fr.drew | apply Fr.alloc)
  case b1 => have := HL.out; simp only [maxLen]; omega
  case b2 => have := HL.out; omega
end Go.Proofs.Ytomnhblecnbmaaa
