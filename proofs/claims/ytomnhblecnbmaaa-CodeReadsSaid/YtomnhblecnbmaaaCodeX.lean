/- A number of seven bits a byte, read. -/
import Derived.Test.YtomnhblecnbmaaaCodeR
namespace Go.Proofs.Ytomnhblecnbmaaa
open Go.RowKit

def vl : Nat → Nat → List UInt8 → Nat × Nat × Nat
  | _, _, [] => (0, 0, 20)
  | i, v, c :: r => if (i = 9 ∧ c.toNat ≠ 1) ∨ (0 < i ∧ c.toNat = 0) then (0, 0, 21) else if c.toNat < 128 then (v + c.toNat % 128 * 2 ^ (7 * i), i + 1, 0) else vl (i + 1) (v + c.toNat % 128 * 2 ^ (7 * i)) r

def Num3 (x : Nat × Nat × Nat) : Ending := .returned (.tuple #[.int .u64 (x.1 : Int), .int .i64 (x.2.1 : Int), .int .u16 (x.2.2 : Int)])

set_option maxRecDepth 100000 in
set_option maxHeartbeats 400000 in
theorem varint_reads (w : World) (x : Value) (l : List UInt8) (hx : Sl w 1 x l.length (bvs l)) (hl : l.length ≤ 1000000000) :
    Calls Try.prog 39 #[x] w fun e w' => e = Num3 (vl 0 0 l) ∧ w' = w := by
  obtain ⟨A, c, rfl, hl1, hl2⟩ := hx.form
  have HX := Lib.hid hx; clear hx
  go_enter Try.func39, Try.ntmps39
  go_wp2
  go_step3
  go_wp2
  go_step3
  go_wp2
  go_loop [2, 4, 9] (fun v e i => ∃ k a : Nat, k ≤ l.length ∧ k ≤ 9 ∧ a < 2 ^ (7 * k) ∧ i = .int .i64 k ∧ v = .int .u64 a ∧ e = .int .u16 20 ∧ vl k a (l.drop k) = vl 0 0 l) (fun _ _ i => l.length - (intOf i).toNat)
  case atStart => exact ⟨0, 0, by omega, by omega, by simp, rfl, rfl, rfl, rfl⟩
  case round =>
    obtain ⟨k, a, hk, hk9, ha, rfl, rfl, rfl, hv⟩ := hrel
    have HV := Lib.hid hv; have HA := Lib.hid ha; clear hv ha
    by_cases hlt : k < l.length
    · obtain ⟨b, o, rfl, hc⟩ := HX.out.byte k hlt
      have hd : l.drop k = l[k] :: l.drop (k + 1) := List.drop_eq_getElem_cons hlt
      have HD := Lib.hid hd; clear hd
      obtain ⟨y, hy⟩ : ∃ y : UInt8, y = l[k] := ⟨_, rfl⟩
      rw [← hy] at hc HD
      clear hy
      have hy2 : (y.toNat : Int) < 256 := by have := y.toNat_lt; omega
      have k0 : (0 : Int) ≤ (k : Int) := by omega
      have hvl : vl 0 0 l = if (k = 9 ∧ y.toNat ≠ 1) ∨ (0 < k ∧ y.toNat = 0) then (0, 0, 21) else if y.toNat < 128 then (a + y.toNat % 128 * 2 ^ (7 * k), k + 1, 0) else vl (k + 1) (a + y.toNat % 128 * 2 ^ (7 * k)) (l.drop (k + 1)) := by
        rw [← HV.out, HD.out]; rfl
      have HL := Lib.hid hvl; clear hvl
      by_cases h9 : k = 9
      · subst h9
        by_cases h1 : y.toNat = 1
        · have hb : ((y.toNat : Int) != 1) = false := by simp [h1]
          have hb2 : ((y.toNat : Int) == 0) = false := by simp [h1]
          have hb3 : (y.toNat : Int) < 128 := by omega
          have H1 := Lib.hid h1; clear h1
          go_wp2
          have hfin : vl 0 0 l = (a + y.toNat % 128 * 2 ^ (7 * 9), 10, 0) := by
            have h1 := H1.out
            rw [HL.out, if_neg (by omega), if_pos (by omega)]
          have hs := (seven a y.toNat 9 (by omega) HA.out (by omega) (fun _ => H1.out)).1
          have e63 : (2 : Int) ^ (7 * 9) = 9223372036854775808 := by decide
          rw [e63] at hs
          rw [hs, hfin]
          go_ret3
          exact ⟨rfl, rfl⟩
        · have hb : ((y.toNat : Int) != 1) = true := by simp; omega
          have H1 := Lib.hid h1; clear h1
          go_wp2
          have hfin : vl 0 0 l = (0, 0, 21) := by rw [HL.out, if_pos (.inl ⟨by trivial, H1.out⟩)]
          rw [hfin]
          go_ret3
          exact ⟨rfl, rfl⟩
      · have hb9 : ((k : Int) == 9) = false := by simp; omega
        by_cases hz : k = 0
        · subst hz
          have hc' : w.cell? ⟨b, o, none⟩ = some (.int .u8 (y.toNat : Int)) := hc
          clear hc
          by_cases h128 : (y.toNat : Int) < 128
          · go_wp2
            have hfin : vl 0 0 l = (a + y.toNat % 128 * 2 ^ (7 * 0), 1, 0) := by rw [HL.out, if_neg (by omega), if_pos (by omega)]
            have hs := (seven a y.toNat 0 (by omega) HA.out (by omega) (fun h => by omega)).1
            have e0 : (2 : Int) ^ (7 * 0) = 1 := by decide
            rw [e0, Int.mul_one] at hs
            rw [hs, hfin]
            go_ret3
            exact ⟨rfl, rfl⟩
          · go_wp2
            have hs := (seven a y.toNat 0 (by omega) HA.out (by omega) (fun h => by omega)).1
            have e0 : (2 : Int) ^ (7 * 0) = 1 := by decide
            rw [e0, Int.mul_one] at hs
            go_round
            case rel =>
              refine ⟨1, a + y.toNat % 128 * 2 ^ (7 * 0), by omega, by omega, ?_, by go_num, by rw [hs], rfl, ?_⟩
              · have := HA.out
                omega
              · conv => rhs; rw [HL.out, if_neg (by omega), if_neg (by omega)]
            case measure => simp [intOf]; omega
        · have hbk : decide ((0 : Int) < (k : Int)) = true := by simp; omega
          by_cases h0 : y.toNat = 0
          · have hb2 : ((y.toNat : Int) == 0) = true := by simp [h0]
            have H1 := Lib.hid h0; clear h0
            go_wp2
            have hfin : vl 0 0 l = (0, 0, 21) := by rw [HL.out, if_pos (.inr ⟨by omega, H1.out⟩)]
            rw [hfin]
            go_ret3
            exact ⟨rfl, rfl⟩
          · have hb2 : ((y.toNat : Int) == 0) = false := by simp; omega
            have H1 := Lib.hid h0; clear h0
            by_cases h128 : (y.toNat : Int) < 128
            · go_wp2
              have hfin : vl 0 0 l = (a + y.toNat % 128 * 2 ^ (7 * k), k + 1, 0) := by
                have h1 := H1.out
                rw [HL.out, if_neg (by omega), if_pos (by omega)]
              have hs := (seven a y.toNat k (by omega) HA.out (by omega) (fun h => by omega)).1
              rw [hs, hfin]
              go_ret3
              exact ⟨rfl, rfl⟩
            · have h8 : k ≤ 8 := by omega
              go_wp2
              have hs := seven a y.toNat k (by omega) HA.out (by omega) (fun h => by omega)
              go_round
              case rel =>
                refine ⟨k + 1, a + y.toNat % 128 * 2 ^ (7 * k), by omega, by omega, ?_, by go_num, by rw [hs.1], rfl, ?_⟩
                · have := HA.out
                  have e : 2 ^ (7 * (k + 1)) = 128 * 2 ^ (7 * k) := by rw [Nat.mul_add, Nat.pow_add]; omega
                  have : y.toNat % 128 * 2 ^ (7 * k) ≤ 127 * 2 ^ (7 * k) := Nat.mul_le_mul_right _ (by omega)
                  omega
                · have h1 := H1.out
                  conv => rhs; rw [HL.out, if_neg (by omega), if_neg (by omega)]
              case measure => simp [intOf]; omega
    · go_wp2
      have hfin : vl 0 0 l = (0, 0, 20) := by rw [← HV.out, List.drop_of_length_le (by omega)]; rfl
      rw [hfin]
      go_ret3
      exact ⟨rfl, rfl⟩
end Go.Proofs.Ytomnhblecnbmaaa
