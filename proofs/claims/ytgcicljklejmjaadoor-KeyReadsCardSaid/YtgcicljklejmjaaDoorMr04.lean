import Derived.Test.YtgcicljklejmjaaDoorMr01
import Derived.Test.YtgcicljklejmjaaDoorMr03

/- codicilref03.Runes, Name. -/
namespace Go.Proofs.YtgcicljklejmjaaDoor
open Go.RowKit Go.Lib

/-- How many runes; -1: none. -/
def runesV (l : List UInt8) : Int := if validD l then (runeCountL l : Int) else -1

theorem ba_extract (l : List UInt8) (k : Nat) : (⟨l.toArray⟩ : ByteArray).extract k l.length = ⟨(l.drop k).toArray⟩ := by
  apply ByteArray.ext
  simp only [ByteArray.data_extract, List.extract_toArray, List.extract_eq_take_drop]
  rw [List.take_of_length_le (by rw [List.length_drop]; omega)]

set_option maxRecDepth 100000 in
set_option maxHeartbeats 2000000 in
theorem runes3_any (w : World) (l : List UInt8) (hn : l.length ≤ reachBytes) : Calls Tryd.prog 106 #[.string ⟨l.toArray⟩] w fun e w' => e = .returned (.int .i64 (runesV l)) ∧ w' = w := by
  have hn : l.length ≤ 140737488351232 := hn
  go_enter Tryd.func106, Tryd.ntmps106
  go_wp2
  go_loop [0, 3] (fun sv nv => ∃ (s : List UInt8) (n : Nat), sv = .string ⟨s.toArray⟩ ∧ nv = .int .i64 (n : Int) ∧ n + s.length ≤ l.length ∧ validD l = validD s ∧ runeCountL l = n + runeCountL s) (fun sv _ => match sv with | .string b => b.size | _ => 0)
  case atStart => exact ⟨l, 0, rfl, rfl, by omega, rfl, by omega⟩
  case round =>
    obtain ⟨s, n, rfl, rfl, hsl, hv, hc⟩ := hrel
    have HV := Lib.hid hv; have HC := Lib.hid hc
    clear hv hc
    cases s with
    | nil =>
      have hr : runesV l = (n : Int) := by
        unfold runesV
        rw [HV.out, HC.out, count_nil]
        simp [validD_nil]
      have HR := Lib.hid hr; clear hr
      go_wp2
      go_ret
      exact ⟨by rw [HR.out]; rfl, rfl⟩
    | cons c r =>
      simp only [List.length_cons] at hsl
      have hru := rune_any w (c :: r) (by simp only [List.length_cons, reachBytes]; omega)
      have HRU := Lib.hid hru
      clear hru
      by_cases hk : (runeR (c :: r)).2 = 0
      · have hb : runesV l = -1 := by unfold runesV; rw [HV.out, validD_bad (by simp) hk]; rfl
        have HB := Lib.hid hb
        have gk : (((runeR (c :: r)).2 : Int) == 0) = true := by rw [hk]; rfl
        clear hb hk
        go_wp2_with fail
        refine HRU.out.mono ?_
        rintro e w' ⟨rfl, hw⟩
        subst w'
        go_wp2
        go_ret
        exact ⟨by rw [HB.out]; rfl, rfl⟩
      · have hs1 := validD_step hk
        have hs2 := count_step hk
        have hle := runeR_le (l := c :: r)
        have gk : (((runeR (c :: r)).2 : Int) == 0) = false := by rw [beq_eq_false_iff_ne]; omega
        have hdl : ((c :: r).drop (runeR (c :: r)).2).length = r.length + 1 - (runeR (c :: r)).2 := by rw [List.length_drop, List.length_cons]
        obtain ⟨k, hkk⟩ : ∃ k, k = (runeR (c :: r)).2 := ⟨_, rfl⟩
        rw [← hkk] at hs1 hs2 hle gk hdl hk
        have HKK := Lib.hid hkk; have HS1 := Lib.hid hs1; have HS2 := Lib.hid hs2; have HDL := Lib.hid hdl
        have hrp : RuneOut (c :: r) = RuneOut (c :: r) := rfl
        clear hkk hs1 hs2 hdl hrp
        simp only [List.length_cons] at hle
        go_wp2_with fail
        refine HRU.out.mono ?_
        rintro e w' ⟨rfl, hw⟩
        subst w'
        rw [← HKK.out]
        have hex := ba_extract (c :: r) k
        rw [List.length_cons] at hex
        have HEX := Lib.hid hex; clear hex
        go_wp2
        go_round
        case rel => exact ⟨(c :: r).drop k, n + 1, by rw [HEX.out], by first | rfl | go_num, by rw [HDL.out]; omega, HV.out.trans HS1.out, by rw [HC.out, HS2.out]; omega⟩
        case measure =>
          show ((⟨(c :: r).toArray⟩ : ByteArray).extract k (r.length + 1)).size < (⟨(c :: r).toArray⟩ : ByteArray).size
          rw [HEX.out]
          show ((c :: r).drop k).toArray.size < (c :: r).toArray.size
          rw [List.size_toArray, List.size_toArray, HDL.out, List.length_cons]
          omega
end Go.Proofs.YtgcicljklejmjaaDoor

/- codicilref03.Name. Printed by mkname3.py. -/
namespace Go.Proofs.YtgcicljklejmjaaDoor
open Go.RowKit Go.Lib
attribute [local go_sem] ba_get

/-- The i-th byte of a name. -/
def okN (l : List UInt8) (i : Nat) : Bool := letterB (l.getD i 0) || (digitB (l.getD i 0) && i != 0)
theorem letters_all {l : List UInt8} (h : ∀ i, i < l.length → okN l i = true) : lettersB l = true := by
  cases l with
  | nil => rfl
  | cons c r =>
    have h0 := h 0 (by simp)
    have hc : letterB c = true := by simpa [okN] using h0
    simp only [lettersB, hc, Bool.true_and, List.all_eq_true]
    intro x hx
    obtain ⟨i, hi, rfl⟩ := List.getElem_of_mem hx
    have := h (i + 1) (by simpa using hi)
    have e : (c :: r).getD (i + 1) 0 = r[i] := by simp [hi]
    rw [okN, e] at this
    simpa using this
theorem letters_not {l : List UInt8} {i : Nat} (hi : i < l.length) (h : okN l i = false) : lettersB l = false := by
  cases l with
  | nil => simp at hi
  | cons c r =>
    cases i with
    | zero =>
      have : letterB c = false := by simpa [okN] using h
      simp [lettersB, this]
    | succ i =>
      have hi2 : i < r.length := by simpa using hi
      have e : (c :: r).getD (i + 1) 0 = r[i] := by simp [hi2]
      rw [okN, e] at h
      have hx : (letterB r[i] || digitB r[i]) = false := by simpa using h
      have : (r.all fun c => letterB c || digitB c) = false := by
        rw [Bool.eq_false_iff]
        intro ha
        rw [List.all_eq_true] at ha
        have := ha _ (List.getElem_mem hi2)
        rw [hx] at this
        cases this
      simp [lettersB, this]
theorem letter_is (c : UInt8) : letterB c = letterR c.toNat := (letterR_byte c).symm
theorem digit_is (c : UInt8) : digitB c = (decide (48 ≤ c.toNat) && decide (c.toNat ≤ 57)) := by
  unfold digitB
  rw [show (decide (48 ≤ c)) = decide (48 ≤ c.toNat) from decide_eq_decide.2 UInt8.le_iff_toNat_le, show (decide (c ≤ 57)) = decide (c.toNat ≤ 57) from decide_eq_decide.2 UInt8.le_iff_toNat_le]

set_option maxRecDepth 100000 in
set_option maxHeartbeats 8000000 in
theorem name3_any (w : World) (l : List UInt8) (hn : l.length ≤ reachBytes) : Calls Tryd.prog 105 #[.string ⟨l.toArray⟩] w fun e w' => e = .returned (.bool (nameV l)) ∧ w' = w := by
  have hru := runes3_any w l hn
  have hn : l.length ≤ 140737488351232 := hn
  have hcl : runeCountL l ≤ l.length := by
    have := runeCount_le ⟨l.toArray⟩
    have h2 : (⟨l.toArray⟩ : ByteArray).size = l.length := by show l.toArray.size = _; simp
    rw [h2] at this
    exact this
  have hne : l ≠ [] → 1 ≤ runeCountL l := fun h => by
    rw [count_eq]
    cases hl : l.length with
    | zero => exact absurd (List.eq_nil_of_length_eq_zero hl) h
    | succ n => simp only [cntD]; rw [if_neg h]; omega
  have HRU := Lib.hid hru
  clear hru
  by_cases hv : validD l = true
  rotate_left
  · have hr : runesV l = -1 := by unfold runesV; rw [if_neg hv]
    have hnv : nameV l = false := by unfold nameV; simp [hv]
    have HNV := Lib.hid hnv; have HR := Lib.hid hr
    clear hr hnv hv hne
    go_enter Tryd.func105, Tryd.ntmps105
    go_wp2_with fail
    refine HRU.out.mono ?_
    rintro e w' ⟨rfl, hw⟩
    subst w'
    rw [HR.out]
    go_wp2
    go_ret
    exact ⟨by rw [HNV.out]; rfl, rfl⟩
  have hr : runesV l = (runeCountL l : Int) := by unfold runesV; rw [if_pos hv]
  by_cases h1 : 1 ≤ runeCountL l
  rotate_left
  · have hl : l = [] := Decidable.byContradiction (fun h => h1 (hne h))
    have hnv : nameV l = false := by unfold nameV; simp [hl]
    have g1 : decide ((runeCountL l : Int) < 1) = true := decide_eq_true (by omega)
    have HNV := Lib.hid hnv; have HR := Lib.hid hr
    clear hr hnv hv hne hl h1
    go_enter Tryd.func105, Tryd.ntmps105
    go_wp2_with fail
    refine HRU.out.mono ?_
    rintro e w' ⟨rfl, hw⟩
    subst w'
    rw [HR.out]
    go_wp2
    go_ret
    exact ⟨by rw [HNV.out]; rfl, rfl⟩
  have g1 : decide ((runeCountL l : Int) < 1) = false := decide_eq_false (by omega)
  by_cases h2 : runeCountL l ≤ 32
  rotate_left
  · have hnv : nameV l = false := by unfold nameV; simp [h2]
    have g2 : decide ((32 : Int) < (runeCountL l : Int)) = true := decide_eq_true (by omega)
    have HNV := Lib.hid hnv; have HR := Lib.hid hr
    clear hr hnv hv hne h1 h2
    go_enter Tryd.func105, Tryd.ntmps105
    go_wp2_with fail
    refine HRU.out.mono ?_
    rintro e w' ⟨rfl, hw⟩
    subst w'
    rw [HR.out]
    go_wp2
    go_ret
    exact ⟨by rw [HNV.out]; rfl, rfl⟩
  have g2 : decide ((32 : Int) < (runeCountL l : Int)) = false := decide_eq_false (by omega)
  have hl : l ≠ [] := fun h => by rw [h, count_nil] at h1; omega
  have hnv : nameV l = lettersB l := by
    have he : l.isEmpty = false := by cases l; exact absurd rfl hl; rfl
    unfold nameV
    rw [hv, decide_eq_true h2, he]
    simp
  have HNV := Lib.hid hnv; have HR := Lib.hid hr
  clear hr hnv hv hne h1 h2 hl
  go_enter Tryd.func105, Tryd.ntmps105
  go_wp2_with fail
  refine HRU.out.mono ?_
  rintro e w' ⟨rfl, hw⟩
  subst w'
  rw [HR.out]
  go_wp2
  go_loop [4] (fun iv => ∃ j : Nat, j ≤ l.length ∧ iv = .int .i64 (j : Int) ∧ ∀ i, i < j → okN l i = true) (fun iv => l.length - (RowKit.intOf iv).toNat)
  case atStart => exact ⟨0, Nat.zero_le _, rfl, fun i h => absurd h (Nat.not_lt_zero i)⟩
  case round =>
    obtain ⟨j, hj, rfl, hall⟩ := hrel
    by_cases hlt : j < l.length
    · obtain ⟨c, hc⟩ : ∃ c, c = l[j] := ⟨_, rfl⟩
      have hgd : l.getD j 0 = c := by rw [hc]; simp [hlt]
      have hix : (⟨l.toArray⟩ : ByteArray)[j]'(by show j < l.toArray.size; simpa using hlt) = c := by rw [hc]; rfl
      have hcl2 := c.toNat_lt
      have HALL := Lib.hid hall; have HGD := Lib.hid hgd
      have hstep : okN l j = true → ∀ i, i < j + 1 → okN l i = true := fun h i hi => by
        by_cases e : i = j
        · subst e; exact h
        · exact HALL.out i (by omega)
      have hok : okN l j = (letterR c.toNat || ((decide (48 ≤ c.toNat) && decide (c.toNat ≤ 57)) && j != 0)) := by unfold okN; rw [hgd, letter_is, digit_is]
      have HST := Lib.hid hstep; have HOK := Lib.hid hok
      have hcl3 : c = l[j] := hc
      clear hall hgd hstep hok
      have hr : c.toNat < 48 ∨ (48 ≤ c.toNat ∧ c.toNat ≤ 57) ∨ (58 ≤ c.toNat ∧ c.toNat ≤ 64) ∨ (65 ≤ c.toNat ∧ c.toNat ≤ 90) ∨ (91 ≤ c.toNat ∧ c.toNat ≤ 94) ∨ c.toNat = 95 ∨ c.toNat = 96 ∨ (97 ≤ c.toNat ∧ c.toNat ≤ 122) ∨ (123 ≤ c.toNat ∧ c.toNat ≤ 127) ∨ 128 ≤ c.toNat := by omega
      clear hcl3 hc
      rcases hr with h | h | h | h | h | h | h | h | h | h
      · skip
        have fa : decide ((97 : Int) ≤ (c.toNat : Int)) = false := by simp; omega
        have fb : decide ((c.toNat : Int) ≤ 122) = true := by simp; omega
        have fc : decide ((65 : Int) ≤ (c.toNat : Int)) = false := by simp; omega
        have fd : decide ((c.toNat : Int) ≤ 90) = true := by simp; omega
        have fe : ((c.toNat : Int) == 95) = false := by simp; omega
        have ff : decide ((128 : Int) ≤ (c.toNat : Int)) = false := by simp; omega
        have fg : decide ((c.toNat : Int) < 48) = true := by simp; omega
        have fh : decide ((57 : Int) < (c.toNat : Int)) = false := by simp; omega
        have hko : okN l j = false := by rw [HOK.out]; unfold letterR; simp; omega
        clear h
        have hln := letters_not hlt hko
        have HLN := Lib.hid (HNV.out.trans hln)
        clear hln hko
        go_wp2
        go_ret
        exact ⟨by rw [HLN.out]; rfl, rfl⟩
      · skip
        have fa : decide ((97 : Int) ≤ (c.toNat : Int)) = false := by simp; omega
        have fb : decide ((c.toNat : Int) ≤ 122) = true := by simp; omega
        have fc : decide ((65 : Int) ≤ (c.toNat : Int)) = false := by simp; omega
        have fd : decide ((c.toNat : Int) ≤ 90) = true := by simp; omega
        have fe : ((c.toNat : Int) == 95) = false := by simp; omega
        have ff : decide ((128 : Int) ≤ (c.toNat : Int)) = false := by simp; omega
        have fg : decide ((c.toNat : Int) < 48) = false := by simp; omega
        have fh : decide ((57 : Int) < (c.toNat : Int)) = false := by simp; omega
        by_cases hj0 : j = 0
        · have gj : ((j : Int) == 0) = true := by rw [hj0]; rfl
          have hko : okN l j = false := by rw [HOK.out, hj0]; unfold letterR; simp; omega
          clear h hj0
          have hln := letters_not hlt hko
          have HLN := Lib.hid (HNV.out.trans hln)
          clear hln hko
          go_wp2
          go_ret
          exact ⟨by rw [HLN.out]; rfl, rfl⟩
        · have gj : ((j : Int) == 0) = false := by rw [beq_eq_false_iff_ne]; omega
          have hko : okN l j = true := by rw [HOK.out]; unfold letterR; simp; omega
          have HST2 := Lib.hid (HST.out hko)
          clear h hj0 hko
          go_wp2
          go_round
          case rel => exact ⟨j + 1, by omega, by go_num, HST2.out⟩
          case measure => simp [RowKit.intOf]; omega
      · skip
        have fa : decide ((97 : Int) ≤ (c.toNat : Int)) = false := by simp; omega
        have fb : decide ((c.toNat : Int) ≤ 122) = true := by simp; omega
        have fc : decide ((65 : Int) ≤ (c.toNat : Int)) = false := by simp; omega
        have fd : decide ((c.toNat : Int) ≤ 90) = true := by simp; omega
        have fe : ((c.toNat : Int) == 95) = false := by simp; omega
        have ff : decide ((128 : Int) ≤ (c.toNat : Int)) = false := by simp; omega
        have fg : decide ((c.toNat : Int) < 48) = false := by simp; omega
        have fh : decide ((57 : Int) < (c.toNat : Int)) = true := by simp; omega
        have hko : okN l j = false := by rw [HOK.out]; unfold letterR; simp; omega
        clear h
        have hln := letters_not hlt hko
        have HLN := Lib.hid (HNV.out.trans hln)
        clear hln hko
        go_wp2
        go_ret
        exact ⟨by rw [HLN.out]; rfl, rfl⟩
      · skip
        have fa : decide ((97 : Int) ≤ (c.toNat : Int)) = false := by simp; omega
        have fb : decide ((c.toNat : Int) ≤ 122) = true := by simp; omega
        have fc : decide ((65 : Int) ≤ (c.toNat : Int)) = true := by simp; omega
        have fd : decide ((c.toNat : Int) ≤ 90) = true := by simp; omega
        have fe : ((c.toNat : Int) == 95) = false := by simp; omega
        have ff : decide ((128 : Int) ≤ (c.toNat : Int)) = false := by simp; omega
        have fg : decide ((c.toNat : Int) < 48) = false := by simp; omega
        have fh : decide ((57 : Int) < (c.toNat : Int)) = true := by simp; omega
        have hko : okN l j = true := by rw [HOK.out]; unfold letterR; simp; omega
        have HST2 := Lib.hid (HST.out hko)
        clear hko h
        go_wp2
        go_round
        case rel => exact ⟨j + 1, by omega, by go_num, HST2.out⟩
        case measure => simp [RowKit.intOf]; omega
      · skip
        have fa : decide ((97 : Int) ≤ (c.toNat : Int)) = false := by simp; omega
        have fb : decide ((c.toNat : Int) ≤ 122) = true := by simp; omega
        have fc : decide ((65 : Int) ≤ (c.toNat : Int)) = true := by simp; omega
        have fd : decide ((c.toNat : Int) ≤ 90) = false := by simp; omega
        have fe : ((c.toNat : Int) == 95) = false := by simp; omega
        have ff : decide ((128 : Int) ≤ (c.toNat : Int)) = false := by simp; omega
        have fg : decide ((c.toNat : Int) < 48) = false := by simp; omega
        have fh : decide ((57 : Int) < (c.toNat : Int)) = true := by simp; omega
        have hko : okN l j = false := by rw [HOK.out]; unfold letterR; simp; omega
        clear h
        have hln := letters_not hlt hko
        have HLN := Lib.hid (HNV.out.trans hln)
        clear hln hko
        go_wp2
        go_ret
        exact ⟨by rw [HLN.out]; rfl, rfl⟩
      · skip
        have fa : decide ((97 : Int) ≤ (c.toNat : Int)) = false := by simp; omega
        have fb : decide ((c.toNat : Int) ≤ 122) = true := by simp; omega
        have fc : decide ((65 : Int) ≤ (c.toNat : Int)) = true := by simp; omega
        have fd : decide ((c.toNat : Int) ≤ 90) = false := by simp; omega
        have fe : ((c.toNat : Int) == 95) = true := by simp; omega
        have ff : decide ((128 : Int) ≤ (c.toNat : Int)) = false := by simp; omega
        have fg : decide ((c.toNat : Int) < 48) = false := by simp; omega
        have fh : decide ((57 : Int) < (c.toNat : Int)) = true := by simp; omega
        have hko : okN l j = true := by rw [HOK.out]; unfold letterR; simp; omega
        have HST2 := Lib.hid (HST.out hko)
        clear hko h
        go_wp2
        go_round
        case rel => exact ⟨j + 1, by omega, by go_num, HST2.out⟩
        case measure => simp [RowKit.intOf]; omega
      · skip
        have fa : decide ((97 : Int) ≤ (c.toNat : Int)) = false := by simp; omega
        have fb : decide ((c.toNat : Int) ≤ 122) = true := by simp; omega
        have fc : decide ((65 : Int) ≤ (c.toNat : Int)) = true := by simp; omega
        have fd : decide ((c.toNat : Int) ≤ 90) = false := by simp; omega
        have fe : ((c.toNat : Int) == 95) = false := by simp; omega
        have ff : decide ((128 : Int) ≤ (c.toNat : Int)) = false := by simp; omega
        have fg : decide ((c.toNat : Int) < 48) = false := by simp; omega
        have fh : decide ((57 : Int) < (c.toNat : Int)) = true := by simp; omega
        have hko : okN l j = false := by rw [HOK.out]; unfold letterR; simp; omega
        clear h
        have hln := letters_not hlt hko
        have HLN := Lib.hid (HNV.out.trans hln)
        clear hln hko
        go_wp2
        go_ret
        exact ⟨by rw [HLN.out]; rfl, rfl⟩
      · skip
        have fa : decide ((97 : Int) ≤ (c.toNat : Int)) = true := by simp; omega
        have fb : decide ((c.toNat : Int) ≤ 122) = true := by simp; omega
        have fc : decide ((65 : Int) ≤ (c.toNat : Int)) = true := by simp; omega
        have fd : decide ((c.toNat : Int) ≤ 90) = false := by simp; omega
        have fe : ((c.toNat : Int) == 95) = false := by simp; omega
        have ff : decide ((128 : Int) ≤ (c.toNat : Int)) = false := by simp; omega
        have fg : decide ((c.toNat : Int) < 48) = false := by simp; omega
        have fh : decide ((57 : Int) < (c.toNat : Int)) = true := by simp; omega
        have hko : okN l j = true := by rw [HOK.out]; unfold letterR; simp; omega
        have HST2 := Lib.hid (HST.out hko)
        clear hko h
        go_wp2
        go_round
        case rel => exact ⟨j + 1, by omega, by go_num, HST2.out⟩
        case measure => simp [RowKit.intOf]; omega
      · skip
        have fa : decide ((97 : Int) ≤ (c.toNat : Int)) = true := by simp; omega
        have fb : decide ((c.toNat : Int) ≤ 122) = false := by simp; omega
        have fc : decide ((65 : Int) ≤ (c.toNat : Int)) = true := by simp; omega
        have fd : decide ((c.toNat : Int) ≤ 90) = false := by simp; omega
        have fe : ((c.toNat : Int) == 95) = false := by simp; omega
        have ff : decide ((128 : Int) ≤ (c.toNat : Int)) = false := by simp; omega
        have fg : decide ((c.toNat : Int) < 48) = false := by simp; omega
        have fh : decide ((57 : Int) < (c.toNat : Int)) = true := by simp; omega
        have hko : okN l j = false := by rw [HOK.out]; unfold letterR; simp; omega
        clear h
        have hln := letters_not hlt hko
        have HLN := Lib.hid (HNV.out.trans hln)
        clear hln hko
        go_wp2
        go_ret
        exact ⟨by rw [HLN.out]; rfl, rfl⟩
      · skip
        have fa : decide ((97 : Int) ≤ (c.toNat : Int)) = true := by simp; omega
        have fb : decide ((c.toNat : Int) ≤ 122) = false := by simp; omega
        have fc : decide ((65 : Int) ≤ (c.toNat : Int)) = true := by simp; omega
        have fd : decide ((c.toNat : Int) ≤ 90) = false := by simp; omega
        have fe : ((c.toNat : Int) == 95) = false := by simp; omega
        have ff : decide ((128 : Int) ≤ (c.toNat : Int)) = true := by simp; omega
        have fg : decide ((c.toNat : Int) < 48) = false := by simp; omega
        have fh : decide ((57 : Int) < (c.toNat : Int)) = true := by simp; omega
        have hko : okN l j = true := by rw [HOK.out]; unfold letterR; simp; omega
        have HST2 := Lib.hid (HST.out hko)
        clear hko h
        go_wp2
        go_round
        case rel => exact ⟨j + 1, by omega, by go_num, HST2.out⟩
        case measure => simp [RowKit.intOf]; omega
    · obtain rfl : j = l.length := by omega
      have hle := letters_all hall
      have HLE := Lib.hid (HNV.out.trans hle)
      clear hle hall
      go_wp2
      go_ret
      exact ⟨by rw [HLE.out]; rfl, rfl⟩
end Go.Proofs.YtgcicljklejmjaaDoor

/- codicilref03.own, kind by kind. (printed by mkown5.py) -/
namespace Go.Proofs.YtgcicljklejmjaaDoor
open Go.RowKit Go.Shelf
open Tr

def cnt3 (R : Int) (nb : Nat) : Nat := if R < 0 then 34 else if 1000 < R ∨ 4000 < nb then 33 else 0

set_option maxRecDepth 100000 in
set_option maxHeartbeats 8000000 in
theorem own3_b1 (w : World) (b : Bool) (i : Int) (t : List UInt8) {BA LA FA : Option Addr} {nb bc nl lc nf fc : Nat}
    (hbad : ¬ (b = false ∧ i = 0 ∧ t = [] ∧ nb = 0 ∧ nl = 0 ∧ nf = 0)) :
    Calls Tryd.prog 93 #[.agg #[.int .u8 1, .bool b, .int .i64 i, .string ⟨t.toArray⟩, .slice BA nb bc, .slice LA nl lc, .slice FA nf fc]] w fun e w' => e = .returned (.int .i64 (30 : Nat)) ∧ Fr no w w' := by
  have HB := Lib.hid hbad
  clear hbad
  go_enter Tryd.func93, Tryd.ntmps93
  go_wp2_with fail
  all_goals first
    | (go_ret; exact ⟨rfl, by (repeat first | exact Fr.refl _ _ | exact Fr.drewN _ _ _ | apply Fr.drew | apply Fr.alloc | apply Fr.setAt | apply Fr.moreN)⟩)
    | (exfalso; apply HB.out; clear HB; simp_all; done)
    | (exfalso; apply HB.out; clear HB; simp_all; omega)

set_option maxRecDepth 100000 in
set_option maxHeartbeats 8000000 in
theorem own3_b2 (w : World) (b : Bool) (i : Int) (t : List UInt8) {BA LA FA : Option Addr} {nb bc nl lc nf fc : Nat}
    (hbad : ¬ (i = 0 ∧ t = [] ∧ nb = 0 ∧ nl = 0 ∧ nf = 0)) :
    Calls Tryd.prog 93 #[.agg #[.int .u8 2, .bool b, .int .i64 i, .string ⟨t.toArray⟩, .slice BA nb bc, .slice LA nl lc, .slice FA nf fc]] w fun e w' => e = .returned (.int .i64 (30 : Nat)) ∧ Fr no w w' := by
  have HB := Lib.hid hbad
  clear hbad
  go_enter Tryd.func93, Tryd.ntmps93
  go_wp2_with fail
  all_goals first
    | (go_ret; exact ⟨rfl, by (repeat first | exact Fr.refl _ _ | exact Fr.drewN _ _ _ | apply Fr.drew | apply Fr.alloc | apply Fr.setAt | apply Fr.moreN)⟩)
    | (exfalso; apply HB.out; clear HB; simp_all; done)
    | (exfalso; apply HB.out; clear HB; simp_all; omega)

set_option maxRecDepth 100000 in
set_option maxHeartbeats 8000000 in
theorem own3_b3 (w : World) (b : Bool) (i : Int) (t : List UInt8) {BA LA FA : Option Addr} {nb bc nl lc nf fc : Nat}
    (hbad : ¬ (b = false ∧ t = [] ∧ nb = 0 ∧ nl = 0 ∧ nf = 0)) :
    Calls Tryd.prog 93 #[.agg #[.int .u8 3, .bool b, .int .i64 i, .string ⟨t.toArray⟩, .slice BA nb bc, .slice LA nl lc, .slice FA nf fc]] w fun e w' => e = .returned (.int .i64 (30 : Nat)) ∧ Fr no w w' := by
  have HB := Lib.hid hbad
  clear hbad
  go_enter Tryd.func93, Tryd.ntmps93
  go_wp2_with fail
  all_goals first
    | (go_ret; exact ⟨rfl, by (repeat first | exact Fr.refl _ _ | exact Fr.drewN _ _ _ | apply Fr.drew | apply Fr.alloc | apply Fr.setAt | apply Fr.moreN)⟩)
    | (exfalso; apply HB.out; clear HB; simp_all; done)
    | (exfalso; apply HB.out; clear HB; simp_all; omega)

set_option maxRecDepth 100000 in
set_option maxHeartbeats 8000000 in
theorem own3_b4 (w : World) (b : Bool) (i : Int) (t : List UInt8) {BA LA FA : Option Addr} {nb bc nl lc nf fc : Nat}
    (hbad : ¬ (b = false ∧ i = 0 ∧ nb = 0 ∧ nl = 0 ∧ nf = 0)) :
    Calls Tryd.prog 93 #[.agg #[.int .u8 4, .bool b, .int .i64 i, .string ⟨t.toArray⟩, .slice BA nb bc, .slice LA nl lc, .slice FA nf fc]] w fun e w' => e = .returned (.int .i64 (30 : Nat)) ∧ Fr no w w' := by
  have HB := Lib.hid hbad
  clear hbad
  go_enter Tryd.func93, Tryd.ntmps93
  go_wp2_with fail
  all_goals first
    | (go_ret; exact ⟨rfl, by (repeat first | exact Fr.refl _ _ | exact Fr.drewN _ _ _ | apply Fr.drew | apply Fr.alloc | apply Fr.setAt | apply Fr.moreN)⟩)
    | (exfalso; apply HB.out; clear HB; simp_all; done)
    | (exfalso; apply HB.out; clear HB; simp_all; omega)

set_option maxRecDepth 100000 in
set_option maxHeartbeats 8000000 in
theorem own3_b5 (w : World) (b : Bool) (i : Int) (t : List UInt8) {BA LA FA : Option Addr} {nb bc nl lc nf fc : Nat}
    (hbad : ¬ (b = false ∧ i = 0 ∧ t = [] ∧ nl = 0 ∧ nf = 0)) :
    Calls Tryd.prog 93 #[.agg #[.int .u8 5, .bool b, .int .i64 i, .string ⟨t.toArray⟩, .slice BA nb bc, .slice LA nl lc, .slice FA nf fc]] w fun e w' => e = .returned (.int .i64 (30 : Nat)) ∧ Fr no w w' := by
  have HB := Lib.hid hbad
  clear hbad
  go_enter Tryd.func93, Tryd.ntmps93
  go_wp2_with fail
  all_goals first
    | (go_ret; exact ⟨rfl, by (repeat first | exact Fr.refl _ _ | exact Fr.drewN _ _ _ | apply Fr.drew | apply Fr.alloc | apply Fr.setAt | apply Fr.moreN)⟩)
    | (exfalso; apply HB.out; clear HB; simp_all; done)
    | (exfalso; apply HB.out; clear HB; simp_all; omega)

set_option maxRecDepth 100000 in
set_option maxHeartbeats 8000000 in
theorem own3_b6 (w : World) (b : Bool) (i : Int) (t : List UInt8) {BA LA FA : Option Addr} {nb bc nl lc nf fc : Nat}
    (hbad : ¬ (b = false ∧ i = 0 ∧ t = [] ∧ nb = 0 ∧ nf = 0)) :
    Calls Tryd.prog 93 #[.agg #[.int .u8 6, .bool b, .int .i64 i, .string ⟨t.toArray⟩, .slice BA nb bc, .slice LA nl lc, .slice FA nf fc]] w fun e w' => e = .returned (.int .i64 (30 : Nat)) ∧ Fr no w w' := by
  have HB := Lib.hid hbad
  clear hbad
  go_enter Tryd.func93, Tryd.ntmps93
  go_wp2_with fail
  all_goals first
    | (go_ret; exact ⟨rfl, by (repeat first | exact Fr.refl _ _ | exact Fr.drewN _ _ _ | apply Fr.drew | apply Fr.alloc | apply Fr.setAt | apply Fr.moreN)⟩)
    | (exfalso; apply HB.out; clear HB; simp_all; done)
    | (exfalso; apply HB.out; clear HB; simp_all; omega)

set_option maxRecDepth 100000 in
set_option maxHeartbeats 8000000 in
theorem own3_b7 (w : World) (b : Bool) (i : Int) (t : List UInt8) {BA LA FA : Option Addr} {nb bc nl lc nf fc : Nat}
    (hbad : ¬ (b = false ∧ i = 0 ∧ t = [] ∧ nb = 0 ∧ nl = 0)) :
    Calls Tryd.prog 93 #[.agg #[.int .u8 7, .bool b, .int .i64 i, .string ⟨t.toArray⟩, .slice BA nb bc, .slice LA nl lc, .slice FA nf fc]] w fun e w' => e = .returned (.int .i64 (30 : Nat)) ∧ Fr no w w' := by
  have HB := Lib.hid hbad
  clear hbad
  go_enter Tryd.func93, Tryd.ntmps93
  go_wp2_with fail
  all_goals first
    | (go_ret; exact ⟨rfl, by (repeat first | exact Fr.refl _ _ | exact Fr.drewN _ _ _ | apply Fr.drew | apply Fr.alloc | apply Fr.setAt | apply Fr.moreN)⟩)
    | (exfalso; apply HB.out; clear HB; simp_all; done)
    | (exfalso; apply HB.out; clear HB; simp_all; omega)

set_option maxRecDepth 100000 in
set_option maxHeartbeats 8000000 in
theorem own3_bo (w : World) (kz : Int) (b : Bool) (i : Int) (t : List UInt8) {BA LA FA : Option Addr} {nb bc nl lc nf fc : Nat}
    (hbad : kz < 1 ∨ 7 < kz) :
    Calls Tryd.prog 93 #[.agg #[.int .u8 kz, .bool b, .int .i64 i, .string ⟨t.toArray⟩, .slice BA nb bc, .slice LA nl lc, .slice FA nf fc]] w fun e w' => e = .returned (.int .i64 (30 : Nat)) ∧ Fr no w w' := by
  rcases hbad with h | h
  · have g1 : decide (kz < 1) = true := decide_eq_true h
    clear h
    go_enter Tryd.func93, Tryd.ntmps93
    go_wp2_with fail
    go_ret
    exact ⟨rfl, by (repeat first | exact Fr.refl _ _ | exact Fr.drewN _ _ _ | apply Fr.drew | apply Fr.alloc | apply Fr.setAt | apply Fr.moreN)⟩
  · have g1 : decide (kz < 1) = false := decide_eq_false (by omega)
    have g2 : decide (7 < kz) = true := decide_eq_true h
    clear h
    go_enter Tryd.func93, Tryd.ntmps93
    go_wp2_with fail
    go_ret
    exact ⟨rfl, by (repeat first | exact Fr.refl _ _ | exact Fr.drewN _ _ _ | apply Fr.drew | apply Fr.alloc | apply Fr.setAt | apply Fr.moreN)⟩

set_option maxRecDepth 100000 in
set_option maxHeartbeats 8000000 in
theorem own3_g1 (w : World) {BA LA FA : Option Addr} {bc lc fc : Nat} (R : Int)
    (hru : ∀ W, Fr no w W → Calls Tryd.prog 106 #[.string ⟨#[]⟩] W fun e w' => e = .returned (.int .i64 R) ∧ w' = W) :
    Calls Tryd.prog 93 #[.agg #[.int .u8 1, .bool false, .int .i64 0, .string ⟨#[]⟩, .slice BA 0 bc, .slice LA 0 lc, .slice FA 0 fc]] w fun e w' => e = .returned (.int .i64 (cnt3 R 0)) ∧ Fr no w w' := by
  have HRU := Lib.hid hru
  clear hru
  have r1 : R < 0 → cnt3 R 0 = 34 := fun h => by unfold cnt3; rw [if_pos h]
  have r2 : ¬ R < 0 → 1000 < R ∨ 4000 < 0 → cnt3 R 0 = 33 := fun h h2 => by unfold cnt3; rw [if_neg h, if_pos h2]
  have r3 : ¬ R < 0 → ¬ (1000 < R ∨ 4000 < 0) → cnt3 R 0 = 0 := fun h h2 => by unfold cnt3; rw [if_neg h, if_neg h2]
  have R1 := Lib.hid r1; have R2 := Lib.hid r2; have R3 := Lib.hid r3
  clear r1 r2 r3
  go_enter Tryd.func93, Tryd.ntmps93
  go_wp2_with fail
  all_goals (
    go_loop [3] (fun iv => iv = .int .i64 0) (fun _ => 0)
    case atStart => rfl
    case round =>
      obtain rfl := hrel
      go_wp2_with fail
      refine (HRU.out _ (by (repeat first | exact Fr.refl _ _ | exact Fr.drewN _ _ _ | apply Fr.drew | apply Fr.alloc | apply Fr.setAt | apply Fr.moreN))).mono ?_
      rintro e w7 ⟨rfl, hw⟩
      subst w7
      go_wp2
      all_goals (go_ret; exact ⟨by first | (rw [R1.out (by omega)]; rfl) | (rw [R2.out (by omega) (by omega)]; rfl) | (rw [R3.out (by omega) (by omega)]; rfl), by (repeat first | exact Fr.refl _ _ | exact Fr.drewN _ _ _ | apply Fr.drew | apply Fr.alloc | apply Fr.setAt | apply Fr.moreN)⟩))

set_option maxRecDepth 100000 in
set_option maxHeartbeats 8000000 in
theorem own3_g2 (w : World) (b : Bool) {BA LA FA : Option Addr} {bc lc fc : Nat} (R : Int)
    (hru : ∀ W, Fr no w W → Calls Tryd.prog 106 #[.string ⟨#[]⟩] W fun e w' => e = .returned (.int .i64 R) ∧ w' = W) :
    Calls Tryd.prog 93 #[.agg #[.int .u8 2, .bool b, .int .i64 0, .string ⟨#[]⟩, .slice BA 0 bc, .slice LA 0 lc, .slice FA 0 fc]] w fun e w' => e = .returned (.int .i64 (cnt3 R 0)) ∧ Fr no w w' := by
  have HRU := Lib.hid hru
  clear hru
  have r1 : R < 0 → cnt3 R 0 = 34 := fun h => by unfold cnt3; rw [if_pos h]
  have r2 : ¬ R < 0 → 1000 < R ∨ 4000 < 0 → cnt3 R 0 = 33 := fun h h2 => by unfold cnt3; rw [if_neg h, if_pos h2]
  have r3 : ¬ R < 0 → ¬ (1000 < R ∨ 4000 < 0) → cnt3 R 0 = 0 := fun h h2 => by unfold cnt3; rw [if_neg h, if_neg h2]
  have R1 := Lib.hid r1; have R2 := Lib.hid r2; have R3 := Lib.hid r3
  clear r1 r2 r3
  go_enter Tryd.func93, Tryd.ntmps93
  go_wp2_with fail
  all_goals (
    go_loop [3] (fun iv => iv = .int .i64 0) (fun _ => 0)
    case atStart => rfl
    case round =>
      obtain rfl := hrel
      go_wp2_with fail
      refine (HRU.out _ (by (repeat first | exact Fr.refl _ _ | exact Fr.drewN _ _ _ | apply Fr.drew | apply Fr.alloc | apply Fr.setAt | apply Fr.moreN))).mono ?_
      rintro e w7 ⟨rfl, hw⟩
      subst w7
      go_wp2
      all_goals (go_ret; exact ⟨by first | (rw [R1.out (by omega)]; rfl) | (rw [R2.out (by omega) (by omega)]; rfl) | (rw [R3.out (by omega) (by omega)]; rfl), by (repeat first | exact Fr.refl _ _ | exact Fr.drewN _ _ _ | apply Fr.drew | apply Fr.alloc | apply Fr.setAt | apply Fr.moreN)⟩))

set_option maxRecDepth 100000 in
set_option maxHeartbeats 8000000 in
theorem own3_g3 (w : World) (i : Int) {BA LA FA : Option Addr} {bc lc fc : Nat} (R : Int)
    (hru : ∀ W, Fr no w W → Calls Tryd.prog 106 #[.string ⟨#[]⟩] W fun e w' => e = .returned (.int .i64 R) ∧ w' = W) :
    Calls Tryd.prog 93 #[.agg #[.int .u8 3, .bool false, .int .i64 i, .string ⟨#[]⟩, .slice BA 0 bc, .slice LA 0 lc, .slice FA 0 fc]] w fun e w' => e = .returned (.int .i64 (cnt3 R 0)) ∧ Fr no w w' := by
  have HRU := Lib.hid hru
  clear hru
  have r1 : R < 0 → cnt3 R 0 = 34 := fun h => by unfold cnt3; rw [if_pos h]
  have r2 : ¬ R < 0 → 1000 < R ∨ 4000 < 0 → cnt3 R 0 = 33 := fun h h2 => by unfold cnt3; rw [if_neg h, if_pos h2]
  have r3 : ¬ R < 0 → ¬ (1000 < R ∨ 4000 < 0) → cnt3 R 0 = 0 := fun h h2 => by unfold cnt3; rw [if_neg h, if_neg h2]
  have R1 := Lib.hid r1; have R2 := Lib.hid r2; have R3 := Lib.hid r3
  clear r1 r2 r3
  go_enter Tryd.func93, Tryd.ntmps93
  go_wp2_with fail
  all_goals (
    go_loop [3] (fun iv => iv = .int .i64 0) (fun _ => 0)
    case atStart => rfl
    case round =>
      obtain rfl := hrel
      go_wp2_with fail
      refine (HRU.out _ (by (repeat first | exact Fr.refl _ _ | exact Fr.drewN _ _ _ | apply Fr.drew | apply Fr.alloc | apply Fr.setAt | apply Fr.moreN))).mono ?_
      rintro e w7 ⟨rfl, hw⟩
      subst w7
      go_wp2
      all_goals (go_ret; exact ⟨by first | (rw [R1.out (by omega)]; rfl) | (rw [R2.out (by omega) (by omega)]; rfl) | (rw [R3.out (by omega) (by omega)]; rfl), by (repeat first | exact Fr.refl _ _ | exact Fr.drewN _ _ _ | apply Fr.drew | apply Fr.alloc | apply Fr.setAt | apply Fr.moreN)⟩))

set_option maxRecDepth 100000 in
set_option maxHeartbeats 8000000 in
theorem own3_g4 (w : World) (T : ByteArray) {BA LA FA : Option Addr} {bc lc fc : Nat} (R : Int)
    (hru : ∀ W, Fr no w W → Calls Tryd.prog 106 #[.string T] W fun e w' => e = .returned (.int .i64 R) ∧ w' = W) :
    Calls Tryd.prog 93 #[.agg #[.int .u8 4, .bool false, .int .i64 0, .string T, .slice BA 0 bc, .slice LA 0 lc, .slice FA 0 fc]] w fun e w' => e = .returned (.int .i64 (cnt3 R 0)) ∧ Fr no w w' := by
  have HRU := Lib.hid hru
  clear hru
  have r1 : R < 0 → cnt3 R 0 = 34 := fun h => by unfold cnt3; rw [if_pos h]
  have r2 : ¬ R < 0 → 1000 < R ∨ 4000 < 0 → cnt3 R 0 = 33 := fun h h2 => by unfold cnt3; rw [if_neg h, if_pos h2]
  have r3 : ¬ R < 0 → ¬ (1000 < R ∨ 4000 < 0) → cnt3 R 0 = 0 := fun h h2 => by unfold cnt3; rw [if_neg h, if_neg h2]
  have R1 := Lib.hid r1; have R2 := Lib.hid r2; have R3 := Lib.hid r3
  clear r1 r2 r3
  go_enter Tryd.func93, Tryd.ntmps93
  go_wp2_with fail
  all_goals (
    go_loop [3] (fun iv => iv = .int .i64 0) (fun _ => 0)
    case atStart => rfl
    case round =>
      obtain rfl := hrel
      go_wp2_with fail
      refine (HRU.out _ (by (repeat first | exact Fr.refl _ _ | exact Fr.drewN _ _ _ | apply Fr.drew | apply Fr.alloc | apply Fr.setAt | apply Fr.moreN))).mono ?_
      rintro e w7 ⟨rfl, hw⟩
      subst w7
      go_wp2
      all_goals (go_ret; exact ⟨by first | (rw [R1.out (by omega)]; rfl) | (rw [R2.out (by omega) (by omega)]; rfl) | (rw [R3.out (by omega) (by omega)]; rfl), by (repeat first | exact Fr.refl _ _ | exact Fr.drewN _ _ _ | apply Fr.drew | apply Fr.alloc | apply Fr.setAt | apply Fr.moreN)⟩))

set_option maxRecDepth 100000 in
set_option maxHeartbeats 8000000 in
theorem own3_g5 (w : World) {nb : Nat} (hnb : nb ≤ 140737488351232) {BA LA FA : Option Addr} {bc lc fc : Nat} (R : Int)
    (hru : ∀ W, Fr no w W → Calls Tryd.prog 106 #[.string ⟨#[]⟩] W fun e w' => e = .returned (.int .i64 R) ∧ w' = W) :
    Calls Tryd.prog 93 #[.agg #[.int .u8 5, .bool false, .int .i64 0, .string ⟨#[]⟩, .slice BA nb bc, .slice LA 0 lc, .slice FA 0 fc]] w fun e w' => e = .returned (.int .i64 (cnt3 R nb)) ∧ Fr no w w' := by
  have HRU := Lib.hid hru
  clear hru
  have r1 : R < 0 → cnt3 R nb = 34 := fun h => by unfold cnt3; rw [if_pos h]
  have r2 : ¬ R < 0 → 1000 < R ∨ 4000 < nb → cnt3 R nb = 33 := fun h h2 => by unfold cnt3; rw [if_neg h, if_pos h2]
  have r3 : ¬ R < 0 → ¬ (1000 < R ∨ 4000 < nb) → cnt3 R nb = 0 := fun h h2 => by unfold cnt3; rw [if_neg h, if_neg h2]
  have R1 := Lib.hid r1; have R2 := Lib.hid r2; have R3 := Lib.hid r3
  clear r1 r2 r3
  go_enter Tryd.func93, Tryd.ntmps93
  go_wp2_with fail
  all_goals (
    go_loop [3] (fun iv => iv = .int .i64 0) (fun _ => 0)
    case atStart => rfl
    case round =>
      obtain rfl := hrel
      go_wp2_with fail
      refine (HRU.out _ (by (repeat first | exact Fr.refl _ _ | exact Fr.drewN _ _ _ | apply Fr.drew | apply Fr.alloc | apply Fr.setAt | apply Fr.moreN))).mono ?_
      rintro e w7 ⟨rfl, hw⟩
      subst w7
      go_wp2
      all_goals (go_ret; exact ⟨by first | (rw [R1.out (by omega)]; rfl) | (rw [R2.out (by omega) (by omega)]; rfl) | (rw [R3.out (by omega) (by omega)]; rfl), by (repeat first | exact Fr.refl _ _ | exact Fr.drewN _ _ _ | apply Fr.drew | apply Fr.alloc | apply Fr.setAt | apply Fr.moreN)⟩))

set_option maxRecDepth 100000 in
set_option maxHeartbeats 8000000 in
theorem own3_g6 (w : World) {nl : Nat} {BA LA FA : Option Addr} {bc lc fc : Nat} (R : Int)
    (hru : ∀ W, Fr no w W → Calls Tryd.prog 106 #[.string ⟨#[]⟩] W fun e w' => e = .returned (.int .i64 R) ∧ w' = W) :
    Calls Tryd.prog 93 #[.agg #[.int .u8 6, .bool false, .int .i64 0, .string ⟨#[]⟩, .slice BA 0 bc, .slice LA nl lc, .slice FA 0 fc]] w fun e w' => e = .returned (.int .i64 (cnt3 R 0)) ∧ Fr no w w' := by
  have HRU := Lib.hid hru
  clear hru
  have r1 : R < 0 → cnt3 R 0 = 34 := fun h => by unfold cnt3; rw [if_pos h]
  have r2 : ¬ R < 0 → 1000 < R ∨ 4000 < 0 → cnt3 R 0 = 33 := fun h h2 => by unfold cnt3; rw [if_neg h, if_pos h2]
  have r3 : ¬ R < 0 → ¬ (1000 < R ∨ 4000 < 0) → cnt3 R 0 = 0 := fun h h2 => by unfold cnt3; rw [if_neg h, if_neg h2]
  have R1 := Lib.hid r1; have R2 := Lib.hid r2; have R3 := Lib.hid r3
  clear r1 r2 r3
  go_enter Tryd.func93, Tryd.ntmps93
  go_wp2_with fail
  all_goals (
    go_loop [3] (fun iv => iv = .int .i64 0) (fun _ => 0)
    case atStart => rfl
    case round =>
      obtain rfl := hrel
      go_wp2_with fail
      refine (HRU.out _ (by (repeat first | exact Fr.refl _ _ | exact Fr.drewN _ _ _ | apply Fr.drew | apply Fr.alloc | apply Fr.setAt | apply Fr.moreN))).mono ?_
      rintro e w7 ⟨rfl, hw⟩
      subst w7
      go_wp2
      all_goals (go_ret; exact ⟨by first | (rw [R1.out (by omega)]; rfl) | (rw [R2.out (by omega) (by omega)]; rfl) | (rw [R3.out (by omega) (by omega)]; rfl), by (repeat first | exact Fr.refl _ _ | exact Fr.drewN _ _ _ | apply Fr.drew | apply Fr.alloc | apply Fr.setAt | apply Fr.moreN)⟩))
end Go.Proofs.YtgcicljklejmjaaDoor
