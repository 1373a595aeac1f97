/- The document's answer for package code: the bytes of numbers and texts. Conditions: of Fixed: at most 8 bytes; of Text: fewer than 2^30 bytes. -/
import Derived.Test.YtomnhblecnbmaaaCodeV
namespace Go.Proofs.Ytomnhblecnbmaaa
open Go.RowKit

/-- A new row, all of it one's own. -/
def NewB (w w' : World) (v : Value) (bs : List UInt8) : Prop :=
  w'.ownsRow 0 5 1 v bs.length (bvs bs) ∧ (∀ k, v.ownBlock = some k → w.heap.size ≤ k) ∧ Fr no w w'

theorem NewB.form {w w' : World} {v : Value} {bs : List UInt8} (h : NewB w w' v bs) : ∃ A c, v = .slice A bs.length c := own_form h.1

theorem NewB.nil (w : World) : NewB w w (.slice none 0 0) [] := ⟨⟨rfl, .inl ⟨rfl, rfl⟩⟩, by simp [Value.ownBlock], Fr.refl _ _⟩

theorem NewB.more {w w1 wx w2 : World} {v v2 : Value} {bs cs : List UInt8} {N : Nat} (h : NewB w w1 v bs) (f : Fr no w1 wx) (ho : w2.ownsRow 0 5 1 v2 N (bvs bs ++ bvs cs))
    (hf : Fr (fun k => v.ownBlock = some k) wx w2) (hm : Moved wx w2 v v2) : N = (bs ++ cs).length ∧ NewB w w2 v2 (bs ++ cs) := by
  obtain ⟨h1, h2, h3⟩ := h
  rw [← bvs_append] at ho
  obtain rfl : N = (bs ++ cs).length := by have := ho.1; rw [bvs_length, Nat.mul_one] at this; exact this.symm
  refine ⟨rfl, ho, fun k hk => ?_, (h3.trans f (fun _ _ h => h)).trans hf (fun k hk h => by have := h2 k h; omega)⟩
  have s1 := h3.size; have s2 := f.size
  rcases hm with hm | hm
  · exact h2 k (hm ▸ hk)
  · have := hm k hk; omega

theorem and255 (x : Nat) (h : x < 18446744073709551616) : bits .and .u64 (x : Int) 255 = ((x % 256 : Nat) : Int) := by
  have := bits_and_u64_nat x 255 h (by omega)
  rw [show ((255 : Nat) : Int) = 255 from rfl] at this
  rw [this]
  congr 1
  exact Nat.and_two_pow_sub_one_eq_mod x 8

theorem shr255 (v e : Nat) (h : v < 18446744073709551616) : ([Value.int .u8 (bits .and .u64 ((v : Int) / 2 ^ e) 255 % 256)] : List Value) = bvs [UInt8.ofNat (v / 2 ^ e)] := by
  rw [← byte_shr]
  have e1 : ((v : Int) / 2 ^ e) = ((v / 2 ^ e : Nat) : Int) := by simp
  have h2 : v / 2 ^ e ≤ v := Nat.div_le_self _ _
  rw [e1, and255 _ (by omega)]
  congr 2
  omega

set_option maxRecDepth 100000 in
set_option maxHeartbeats 400000 in
theorem fixed_ref (w : World) (v n : Nat) (hv : lt64 v) (hn : n ≤ 8) :
    Calls Try.prog 43 #[.int .u64 v, .int .i64 n] w fun e w' => ∃ A c, e = .returned (.slice A (fx v n).length c) ∧ NewB w w' (.slice A (fx v n).length c) (fx v n) := by
  go_enter Try.func43, Try.ntmps43
  go_wp2
  go_loopw [5, 6] (fun s i wr => ∃ (k : Nat) (d : List UInt8) (A : Option Addr) (c : Nat), k ≤ n ∧ s = .slice A d.length c ∧ i = .int .i64 ((k : Int) - 1) ∧ d ++ fx v k = fx v n ∧ NewB w wr s d) (fun s i _ => (intOf i + 1).toNat)
  case atStart => exact ⟨n, [], none, 0, Nat.le_refl _, rfl, rfl, rfl, NewB.nil w⟩
  case round =>
    obtain ⟨k, d, A, c, hk, rfl, rfl, hd, hnew⟩ := hrel
    have hdl : d.length ≤ n := by have := congrArg List.length hd; simp [fx_length] at this; omega
    have HW := Lib.hid hnew; have HD := Lib.hid hd; clear hnew hd
    by_cases hk0 : 0 < k
    · have h1 : (0 : Int) ≤ (k : Int) - 1 := by omega
      go_wp2_with (at_builtin; refine wpList_ap rfl (.tmp 13) (.tmp 21) 22 rfl tbB HW.out.1 ?fr ((Sl.built wr _ _).kept0 ((Fr.refl no _))) rfl rfl (by simp [Value.oneCell']) ?b1 ?b2 ?go)
      case fr => (repeat first | exact Fr.refl _ _ | apply Fr.drew | apply Fr.alloc)
      case b1 => simp only [maxLen]; omega
      case b2 => omega
      case go =>
        intro A' N c' w2 ho hf2 hm2
        have HO := Lib.hid ho; have HG := Lib.hid hf2; have HM := Lib.hid hm2; clear ho hf2 hm2
        go_wp2
        go_roundw
        case rel =>
          have ho := HO.out
          rw [shr255 v _ (by have := hv.out; omega)] at ho
          obtain ⟨e1, e2⟩ := HW.out.more (by (repeat first | exact Fr.refl _ _ | apply Fr.drew | apply Fr.alloc)) ho HG.out HM.out
          refine ⟨k - 1, d ++ [UInt8.ofNat (v / 2 ^ (8 * (k - 1)))], A', c', by omega, by rw [e1], by congr 1; omega, ?_, e2⟩
          have h := HD.out
          obtain ⟨j, rfl⟩ : ∃ j, k = j + 1 := ⟨k - 1, by omega⟩
          rw [← h]; simp [fx]
        case measure => simp [intOf]; omega
    · have hz : k = 0 := by omega
      subst hz
      go_wp2
      go_ret
      have h := HD.out
      simp [fx] at h
      subst h
      exact ⟨A, c, rfl, HW.out⟩

set_option maxRecDepth 100000 in
set_option maxHeartbeats 400000 in
theorem varint_ref (w : World) (n : Nat) (hv2 : lt64 n) :
    Calls Try.prog 46 #[.int .u64 n] w fun e w' => ∃ A c, e = .returned (.slice A (vi n).length c) ∧ NewB w w' (.slice A (vi n).length c) (vi n) := by
  have hvl := vi_length n (by have := hv2.out; omega)
  have HV := Lib.hid hv2; clear hv2
  go_enter Try.func46, Try.ntmps46
  go_wp2
  go_loopw [0, 3] (fun i s wr => ∃ (k : Nat) (d : List UInt8) (A : Option Addr) (c : Nat), k ≤ n ∧ i = .int .u64 (k : Int) ∧ s = .slice A d.length c ∧ d ++ vi k = vi n ∧ NewB w wr s d) (fun i s _ => (intOf i).toNat)
  case atStart => exact ⟨n, [], none, 0, Nat.le_refl _, rfl, rfl, rfl, NewB.nil w⟩
  case round =>
    obtain ⟨k, d, A, c, hkn, rfl, rfl, hd, hnew⟩ := hrel
    have hwk : IntKind.u64.wrap ((k : Int) / 128) = ((k / 128 : Nat) : Int) := by
      rw [wrap_u64_id _ (by omega) (by have := HV.out.out; omega)]; rfl
    have hdl : d.length ≤ 10 := by have h := congrArg List.length hd; simp at h; omega
    have HW := Lib.hid hnew; have HD := Lib.hid hd; clear hnew hd
    by_cases hk0 : 128 ≤ k
    · have hk1 : (127 : Int) < (k : Int) := by omega
      go_wp2_with (at_builtin; refine wpList_ap rfl (.tmp 6) (.tmp 11) 22 rfl tbB HW.out.1 ?fr ((Sl.built wr _ _).kept0 ((Fr.refl no _))) rfl rfl (by simp [Value.oneCell']) ?b1 ?b2 ?go)
      case fr => (repeat first | exact Fr.refl _ _ | apply Fr.drew | apply Fr.alloc)
      case b1 => simp only [maxLen]; omega
      case b2 => omega
      case go =>
        intro A' N c' w2 ho hf2 hm2
        have HO := Lib.hid ho; have HG := Lib.hid hf2; have HM := Lib.hid hm2; clear ho hf2 hm2
        go_wp2
        go_roundw
        case rel =>
          have ho := HO.out
          rw [show ((k : Int) % 128 + 128) = ((k % 128 + 128 : Nat) : Int) from by omega, byte_nat _ (by omega)] at ho
          obtain ⟨e1, e2⟩ := HW.out.more (by (repeat first | exact Fr.refl _ _ | apply Fr.drew | apply Fr.alloc)) ho HG.out HM.out
          refine ⟨k / 128, d ++ [UInt8.ofNat (k % 128 + 128)], A', c', by omega, by go_num, by rw [e1], ?_, e2⟩
          rw [← HD.out, List.append_assoc]
          conv => rhs; rw [vi]
          rw [dif_neg (by omega)]; rfl
        case measure => simp [intOf]; omega
    · have hk1 : ¬ (127 : Int) < (k : Int) := by omega
      clear hwk
      go_wp2_with (at_builtin; refine wpList_ap rfl (.tmp 15) (.tmp 18) 22 rfl tbB HW.out.1 ?fr ((Sl.built wr _ _).kept0 ((Fr.refl no _))) rfl rfl (by simp [Value.oneCell']) ?b1 ?b2 ?go)
      case fr => (repeat first | exact Fr.refl _ _ | apply Fr.drew | apply Fr.alloc)
      case b1 => simp only [maxLen]; omega
      case b2 => omega
      case go =>
        intro A' N c' w2 ho hf2 hm2
        have HO := Lib.hid ho; have HG := Lib.hid hf2; have HM := Lib.hid hm2; clear ho hf2 hm2
        go_wp2
        go_ret
        have e : vi n = d ++ [UInt8.ofNat k] := by rw [← HD.out, vi, dif_pos (by omega)]
        have ho := HO.out
        rw [byte_nat k (by omega)] at ho
        obtain ⟨e1, e2⟩ := HW.out.more (by (repeat first | exact Fr.refl _ _ | apply Fr.drew | apply Fr.alloc)) ho HG.out HM.out
        rw [e]
        subst e1
        exact ⟨A', c', rfl, e2⟩

theorem wrap64_id (n : Int) (h : -9223372036854775808 ≤ n) (h2 : n ≤ 9223372036854775807) : wrap64 n = n := by unfold wrap64; omega

set_option maxRecDepth 100000 in
set_option maxHeartbeats 400000 in
theorem zigzag_ref (w : World) (v : Int) (hv : -9223372036854775808 ≤ v) (hv2 : v ≤ 9223372036854775807) :
    Calls Try.prog 47 #[.int .i64 v] w fun e w' => e = .returned (.int .u64 (zz v : Nat)) ∧ w' = w := by
  by_cases h0 : v < 0
  · have H1 := Lib.hid hv; have H2 := Lib.hid hv2; clear hv hv2
    go_enter Try.func47, Try.ntmps47
    go_wp2
    go_ret
    have e : IntKind.u64.wrap (IntKind.u64.wrap (2 * IntKind.u64.wrap (wrap64 (-wrap64 (v + 1)))) + 1) = ((zz v : Nat) : Int) := by
      have h1 := H1.out; have h2 := H2.out
      rw [wrap64_id (v + 1) (by omega) (by omega), wrap64_id _ (by omega) (by omega), wrap_u64_id (-(v + 1)) (by omega) (by omega), wrap_u64_id (2 * -(v + 1)) (by omega) (by omega), wrap_u64_id _ (by omega) (by omega)]
      unfold zz
      rw [if_neg (by omega)]
      omega
    exact ⟨congrArg (fun z => Ending.returned (.int .u64 z)) e, rfl⟩
  · have H1 := Lib.hid hv; have H2 := Lib.hid hv2; clear hv hv2
    have h1 : 0 ≤ v := by omega
    go_enter Try.func47, Try.ntmps47
    go_wp2
    go_ret
    have e : IntKind.u64.wrap (2 * IntKind.u64.wrap v) = ((zz v : Nat) : Int) := by
      have h2 := H2.out
      rw [wrap_u64_id v (by omega) (by omega), wrap_u64_id _ (by omega) (by omega)]
      unfold zz
      rw [if_pos (by omega)]
      omega
    exact ⟨congrArg (fun z => Ending.returned (.int .u64 z)) e, rfl⟩

set_option maxRecDepth 100000 in
set_option maxHeartbeats 400000 in
theorem text_ref (w : World) (s : ByteArray) (hl : s.size ≤ 1000000000) :
    Calls Try.prog 49 #[.string s] w fun e w' => ∃ A c, e = .returned (.slice A (vi s.size ++ s.data.toList).length c) ∧ NewB w w' (.slice A (vi s.size ++ s.data.toList).length c) (vi s.size ++ s.data.toList) := by
  go_enter Try.func49, Try.ntmps49
  go_wp2_with fail
  refine (varint_ref _ s.size ⟨by omega⟩).mono ?_
  rintro e w1 ⟨A, c, rfl, hn⟩
  have hvl := vi_length s.size (by omega)
  have HW := Lib.hid hn; clear hn
  go_wp2_with (at_builtin; refine wpList_aps rfl (.tmp 8) (.tmp 9) 22 9 rfl tbB (by kernel_rfl) HW.out.1 ?fr s rfl rfl ?b1 ?b2 ?go)
  case fr => (repeat first | exact Fr.refl _ _ | apply Fr.drew | apply Fr.alloc)
  case b1 => simp only [maxLen]; omega
  case b2 => omega
  case go =>
    intro A' N c' w2 ho hf2 hm2
    have HO := Lib.hid ho; have HG := Lib.hid hf2; have HM := Lib.hid hm2; clear ho hf2 hm2
    go_wp2
    go_ret
    obtain ⟨e1, e2⟩ := HW.out.more (Fr.refl _ _) HO.out HG.out HM.out
    subst e1
    exact ⟨A', c', rfl, e2⟩
end Go.Proofs.Ytomnhblecnbmaaa
