import Derived.Test.YtijcleiekafoiaaGreatDoorMw01
import Derived.Test.YtijcleiekafoiaaGreatDoorMb08

/- codicilref03.Name. Printed by mkname3.py. -/
namespace Go.Proofs.YtijcleiekafoiaaGreatDoor
open Go.RowKit Go.Lib
attribute [local go_sem] ba_get

/-- The i-th byte of a name. -/
def okN (l : List UInt8) (i : Nat) : Bool := letterB (l.getD i 0) || (digitB (l.getD i 0) && i != 0)
theorem letters_all {l : List UInt8} (h : ∀ i, i < l.length → okN l i = true) : lettersB l = true := by
  cases l with
  | nil => rfl
  | cons c r =>
    have h0 := h 0 (by simp)
    have hc : letterB c = true := by simpa [okN] using h0
    simp only [lettersB, hc, Bool.true_and, List.all_eq_true]
    intro x hx
    obtain ⟨i, hi, rfl⟩ := List.getElem_of_mem hx
    have := h (i + 1) (by simpa using hi)
    have e : (c :: r).getD (i + 1) 0 = r[i] := by simp [hi]
    rw [okN, e] at this
    simpa using this
theorem letters_not {l : List UInt8} {i : Nat} (hi : i < l.length) (h : okN l i = false) : lettersB l = false := by
  cases l with
  | nil => simp at hi
  | cons c r =>
    cases i with
    | zero =>
      have : letterB c = false := by simpa [okN] using h
      simp [lettersB, this]
    | succ i =>
      have hi2 : i < r.length := by simpa using hi
      have e : (c :: r).getD (i + 1) 0 = r[i] := by simp [hi2]
      rw [okN, e] at h
      have hx : (letterB r[i] || digitB r[i]) = false := by simpa using h
      have : (r.all fun c => letterB c || digitB c) = false := by
        rw [Bool.eq_false_iff]
        intro ha
        rw [List.all_eq_true] at ha
        have := ha _ (List.getElem_mem hi2)
        rw [hx] at this
        cases this
      simp [lettersB, this]
theorem letter_is (c : UInt8) : letterB c = letterR c.toNat := (letterR_byte c).symm
theorem digit_is (c : UInt8) : digitB c = (decide (48 ≤ c.toNat) && decide (c.toNat ≤ 57)) := by
  unfold digitB
  rw [show (decide (48 ≤ c)) = decide (48 ≤ c.toNat) from decide_eq_decide.2 UInt8.le_iff_toNat_le, show (decide (c ≤ 57)) = decide (c.toNat ≤ 57) from decide_eq_decide.2 UInt8.le_iff_toNat_le]

set_option maxRecDepth 100000 in
set_option maxHeartbeats 8000000 in
theorem name3_any (w : World) (l : List UInt8) (hn : l.length ≤ reachBytes) : Calls Tryz.prog 131 #[.string ⟨l.toArray⟩] w fun e w' => e = .returned (.bool (nameV l)) ∧ w' = w := by
  have hru := runes3_any w l hn
  have hn : l.length ≤ 140737488351232 := hn
  have hcl : runeCountL l ≤ l.length := by
    have := runeCount_le ⟨l.toArray⟩
    have h2 : (⟨l.toArray⟩ : ByteArray).size = l.length := by show l.toArray.size = _; simp
    rw [h2] at this
    exact this
  have hne : l ≠ [] → 1 ≤ runeCountL l := fun h => by
    rw [count_eq]
    cases hl : l.length with
    | zero => exact absurd (List.eq_nil_of_length_eq_zero hl) h
    | succ n => simp only [cntD]; rw [if_neg h]; omega
  have HRU := Lib.hid hru
  clear hru
  by_cases hv : validD l = true
  rotate_left
  · have hr : runesV l = -1 := by unfold runesV; rw [if_neg hv]
    have hnv : nameV l = false := by unfold nameV; simp [hv]
    have HNV := Lib.hid hnv; have HR := Lib.hid hr
    clear hr hnv hv hne
    go_enter Tryz.func131, Tryz.ntmps131
    go_wp2_with fail
    refine HRU.out.mono ?_
    rintro e w' ⟨rfl, hw⟩
    subst w'
    rw [HR.out]
    go_wp2
    go_ret
    exact ⟨by rw [HNV.out]; rfl, rfl⟩
  have hr : runesV l = (runeCountL l : Int) := by unfold runesV; rw [if_pos hv]
  by_cases h1 : 1 ≤ runeCountL l
  rotate_left
  · have hl : l = [] := Decidable.byContradiction (fun h => h1 (hne h))
    have hnv : nameV l = false := by unfold nameV; simp [hl]
    have g1 : decide ((runeCountL l : Int) < 1) = true := decide_eq_true (by omega)
    have HNV := Lib.hid hnv; have HR := Lib.hid hr
    clear hr hnv hv hne hl h1
    go_enter Tryz.func131, Tryz.ntmps131
    go_wp2_with fail
    refine HRU.out.mono ?_
    rintro e w' ⟨rfl, hw⟩
    subst w'
    rw [HR.out]
    go_wp2
    go_ret
    exact ⟨by rw [HNV.out]; rfl, rfl⟩
  have g1 : decide ((runeCountL l : Int) < 1) = false := decide_eq_false (by omega)
  by_cases h2 : runeCountL l ≤ 32
  rotate_left
  · have hnv : nameV l = false := by unfold nameV; simp [h2]
    have g2 : decide ((32 : Int) < (runeCountL l : Int)) = true := decide_eq_true (by omega)
    have HNV := Lib.hid hnv; have HR := Lib.hid hr
    clear hr hnv hv hne h1 h2
    go_enter Tryz.func131, Tryz.ntmps131
    go_wp2_with fail
    refine HRU.out.mono ?_
    rintro e w' ⟨rfl, hw⟩
    subst w'
    rw [HR.out]
    go_wp2
    go_ret
    exact ⟨by rw [HNV.out]; rfl, rfl⟩
  have g2 : decide ((32 : Int) < (runeCountL l : Int)) = false := decide_eq_false (by omega)
  have hl : l ≠ [] := fun h => by rw [h, count_nil] at h1; omega
  have hnv : nameV l = lettersB l := by
    have he : l.isEmpty = false := by cases l; exact absurd rfl hl; rfl
    unfold nameV
    rw [hv, decide_eq_true h2, he]
    simp
  have HNV := Lib.hid hnv; have HR := Lib.hid hr
  clear hr hnv hv hne h1 h2 hl
  go_enter Tryz.func131, Tryz.ntmps131
  go_wp2_with fail
  refine HRU.out.mono ?_
  rintro e w' ⟨rfl, hw⟩
  subst w'
  rw [HR.out]
  go_wp2
  go_loop [4] (fun iv => ∃ j : Nat, j ≤ l.length ∧ iv = .int .i64 (j : Int) ∧ ∀ i, i < j → okN l i = true) (fun iv => l.length - (RowKit.intOf iv).toNat)
  case atStart => exact ⟨0, Nat.zero_le _, rfl, fun i h => absurd h (Nat.not_lt_zero i)⟩
  case round =>
    obtain ⟨j, hj, rfl, hall⟩ := hrel
    by_cases hlt : j < l.length
    · obtain ⟨c, hc⟩ : ∃ c, c = l[j] := ⟨_, rfl⟩
      have hgd : l.getD j 0 = c := by rw [hc]; simp [hlt]
      have hix : (⟨l.toArray⟩ : ByteArray)[j]'(by show j < l.toArray.size; simpa using hlt) = c := by rw [hc]; rfl
      have hcl2 := c.toNat_lt
      have HALL := Lib.hid hall; have HGD := Lib.hid hgd
      have hstep : okN l j = true → ∀ i, i < j + 1 → okN l i = true := fun h i hi => by
        by_cases e : i = j
        · subst e; exact h
        · exact HALL.out i (by omega)
      have hok : okN l j = (letterR c.toNat || ((decide (48 ≤ c.toNat) && decide (c.toNat ≤ 57)) && j != 0)) := by unfold okN; rw [hgd, letter_is, digit_is]
      have HST := Lib.hid hstep; have HOK := Lib.hid hok
      have hcl3 : c = l[j] := hc
      clear hall hgd hstep hok
      have hr : c.toNat < 48 ∨ (48 ≤ c.toNat ∧ c.toNat ≤ 57) ∨ (58 ≤ c.toNat ∧ c.toNat ≤ 64) ∨ (65 ≤ c.toNat ∧ c.toNat ≤ 90) ∨ (91 ≤ c.toNat ∧ c.toNat ≤ 94) ∨ c.toNat = 95 ∨ c.toNat = 96 ∨ (97 ≤ c.toNat ∧ c.toNat ≤ 122) ∨ (123 ≤ c.toNat ∧ c.toNat ≤ 127) ∨ 128 ≤ c.toNat := by omega
      clear hcl3 hc
      rcases hr with h | h | h | h | h | h | h | h | h | h
      · skip
        have fa : decide ((97 : Int) ≤ (c.toNat : Int)) = false := by simp; omega
        have fb : decide ((c.toNat : Int) ≤ 122) = true := by simp; omega
        have fc : decide ((65 : Int) ≤ (c.toNat : Int)) = false := by simp; omega
        have fd : decide ((c.toNat : Int) ≤ 90) = true := by simp; omega
        have fe : ((c.toNat : Int) == 95) = false := by simp; omega
        have ff : decide ((128 : Int) ≤ (c.toNat : Int)) = false := by simp; omega
        have fg : decide ((c.toNat : Int) < 48) = true := by simp; omega
        have fh : decide ((57 : Int) < (c.toNat : Int)) = false := by simp; omega
        have hko : okN l j = false := by rw [HOK.out]; unfold letterR; simp; omega
        clear h
        have hln := letters_not hlt hko
        have HLN := Lib.hid (HNV.out.trans hln)
        clear hln hko
        go_wp2
        go_ret
        exact ⟨by rw [HLN.out]; rfl, rfl⟩
      · skip
        have fa : decide ((97 : Int) ≤ (c.toNat : Int)) = false := by simp; omega
        have fb : decide ((c.toNat : Int) ≤ 122) = true := by simp; omega
        have fc : decide ((65 : Int) ≤ (c.toNat : Int)) = false := by simp; omega
        have fd : decide ((c.toNat : Int) ≤ 90) = true := by simp; omega
        have fe : ((c.toNat : Int) == 95) = false := by simp; omega
        have ff : decide ((128 : Int) ≤ (c.toNat : Int)) = false := by simp; omega
        have fg : decide ((c.toNat : Int) < 48) = false := by simp; omega
        have fh : decide ((57 : Int) < (c.toNat : Int)) = false := by simp; omega
        by_cases hj0 : j = 0
        · have gj : ((j : Int) == 0) = true := by rw [hj0]; rfl
          have hko : okN l j = false := by rw [HOK.out, hj0]; unfold letterR; simp; omega
          clear h hj0
          have hln := letters_not hlt hko
          have HLN := Lib.hid (HNV.out.trans hln)
          clear hln hko
          go_wp2
          go_ret
          exact ⟨by rw [HLN.out]; rfl, rfl⟩
        · have gj : ((j : Int) == 0) = false := by rw [beq_eq_false_iff_ne]; omega
          have hko : okN l j = true := by rw [HOK.out]; unfold letterR; simp; omega
          have HST2 := Lib.hid (HST.out hko)
          clear h hj0 hko
          go_wp2
          go_round
          case rel => exact ⟨j + 1, by omega, by go_num, HST2.out⟩
          case measure => simp [RowKit.intOf]; omega
      · skip
        have fa : decide ((97 : Int) ≤ (c.toNat : Int)) = false := by simp; omega
        have fb : decide ((c.toNat : Int) ≤ 122) = true := by simp; omega
        have fc : decide ((65 : Int) ≤ (c.toNat : Int)) = false := by simp; omega
        have fd : decide ((c.toNat : Int) ≤ 90) = true := by simp; omega
        have fe : ((c.toNat : Int) == 95) = false := by simp; omega
        have ff : decide ((128 : Int) ≤ (c.toNat : Int)) = false := by simp; omega
        have fg : decide ((c.toNat : Int) < 48) = false := by simp; omega
        have fh : decide ((57 : Int) < (c.toNat : Int)) = true := by simp; omega
        have hko : okN l j = false := by rw [HOK.out]; unfold letterR; simp; omega
        clear h
        have hln := letters_not hlt hko
        have HLN := Lib.hid (HNV.out.trans hln)
        clear hln hko
        go_wp2
        go_ret
        exact ⟨by rw [HLN.out]; rfl, rfl⟩
      · skip
        have fa : decide ((97 : Int) ≤ (c.toNat : Int)) = false := by simp; omega
        have fb : decide ((c.toNat : Int) ≤ 122) = true := by simp; omega
        have fc : decide ((65 : Int) ≤ (c.toNat : Int)) = true := by simp; omega
        have fd : decide ((c.toNat : Int) ≤ 90) = true := by simp; omega
        have fe : ((c.toNat : Int) == 95) = false := by simp; omega
        have ff : decide ((128 : Int) ≤ (c.toNat : Int)) = false := by simp; omega
        have fg : decide ((c.toNat : Int) < 48) = false := by simp; omega
        have fh : decide ((57 : Int) < (c.toNat : Int)) = true := by simp; omega
        have hko : okN l j = true := by rw [HOK.out]; unfold letterR; simp; omega
        have HST2 := Lib.hid (HST.out hko)
        clear hko h
        go_wp2
        go_round
        case rel => exact ⟨j + 1, by omega, by go_num, HST2.out⟩
        case measure => simp [RowKit.intOf]; omega
      · skip
        have fa : decide ((97 : Int) ≤ (c.toNat : Int)) = false := by simp; omega
        have fb : decide ((c.toNat : Int) ≤ 122) = true := by simp; omega
        have fc : decide ((65 : Int) ≤ (c.toNat : Int)) = true := by simp; omega
        have fd : decide ((c.toNat : Int) ≤ 90) = false := by simp; omega
        have fe : ((c.toNat : Int) == 95) = false := by simp; omega
        have ff : decide ((128 : Int) ≤ (c.toNat : Int)) = false := by simp; omega
        have fg : decide ((c.toNat : Int) < 48) = false := by simp; omega
        have fh : decide ((57 : Int) < (c.toNat : Int)) = true := by simp; omega
        have hko : okN l j = false := by rw [HOK.out]; unfold letterR; simp; omega
        clear h
        have hln := letters_not hlt hko
        have HLN := Lib.hid (HNV.out.trans hln)
        clear hln hko
        go_wp2
        go_ret
        exact ⟨by rw [HLN.out]; rfl, rfl⟩
      · skip
        have fa : decide ((97 : Int) ≤ (c.toNat : Int)) = false := by simp; omega
        have fb : decide ((c.toNat : Int) ≤ 122) = true := by simp; omega
        have fc : decide ((65 : Int) ≤ (c.toNat : Int)) = true := by simp; omega
        have fd : decide ((c.toNat : Int) ≤ 90) = false := by simp; omega
        have fe : ((c.toNat : Int) == 95) = true := by simp; omega
        have ff : decide ((128 : Int) ≤ (c.toNat : Int)) = false := by simp; omega
        have fg : decide ((c.toNat : Int) < 48) = false := by simp; omega
        have fh : decide ((57 : Int) < (c.toNat : Int)) = true := by simp; omega
        have hko : okN l j = true := by rw [HOK.out]; unfold letterR; simp; omega
        have HST2 := Lib.hid (HST.out hko)
        clear hko h
        go_wp2
        go_round
        case rel => exact ⟨j + 1, by omega, by go_num, HST2.out⟩
        case measure => simp [RowKit.intOf]; omega
      · skip
        have fa : decide ((97 : Int) ≤ (c.toNat : Int)) = false := by simp; omega
        have fb : decide ((c.toNat : Int) ≤ 122) = true := by simp; omega
        have fc : decide ((65 : Int) ≤ (c.toNat : Int)) = true := by simp; omega
        have fd : decide ((c.toNat : Int) ≤ 90) = false := by simp; omega
        have fe : ((c.toNat : Int) == 95) = false := by simp; omega
        have ff : decide ((128 : Int) ≤ (c.toNat : Int)) = false := by simp; omega
        have fg : decide ((c.toNat : Int) < 48) = false := by simp; omega
        have fh : decide ((57 : Int) < (c.toNat : Int)) = true := by simp; omega
        have hko : okN l j = false := by rw [HOK.out]; unfold letterR; simp; omega
        clear h
        have hln := letters_not hlt hko
        have HLN := Lib.hid (HNV.out.trans hln)
        clear hln hko
        go_wp2
        go_ret
        exact ⟨by rw [HLN.out]; rfl, rfl⟩
      · skip
        have fa : decide ((97 : Int) ≤ (c.toNat : Int)) = true := by simp; omega
        have fb : decide ((c.toNat : Int) ≤ 122) = true := by simp; omega
        have fc : decide ((65 : Int) ≤ (c.toNat : Int)) = true := by simp; omega
        have fd : decide ((c.toNat : Int) ≤ 90) = false := by simp; omega
        have fe : ((c.toNat : Int) == 95) = false := by simp; omega
        have ff : decide ((128 : Int) ≤ (c.toNat : Int)) = false := by simp; omega
        have fg : decide ((c.toNat : Int) < 48) = false := by simp; omega
        have fh : decide ((57 : Int) < (c.toNat : Int)) = true := by simp; omega
        have hko : okN l j = true := by rw [HOK.out]; unfold letterR; simp; omega
        have HST2 := Lib.hid (HST.out hko)
        clear hko h
        go_wp2
        go_round
        case rel => exact ⟨j + 1, by omega, by go_num, HST2.out⟩
        case measure => simp [RowKit.intOf]; omega
      · skip
        have fa : decide ((97 : Int) ≤ (c.toNat : Int)) = true := by simp; omega
        have fb : decide ((c.toNat : Int) ≤ 122) = false := by simp; omega
        have fc : decide ((65 : Int) ≤ (c.toNat : Int)) = true := by simp; omega
        have fd : decide ((c.toNat : Int) ≤ 90) = false := by simp; omega
        have fe : ((c.toNat : Int) == 95) = false := by simp; omega
        have ff : decide ((128 : Int) ≤ (c.toNat : Int)) = false := by simp; omega
        have fg : decide ((c.toNat : Int) < 48) = false := by simp; omega
        have fh : decide ((57 : Int) < (c.toNat : Int)) = true := by simp; omega
        have hko : okN l j = false := by rw [HOK.out]; unfold letterR; simp; omega
        clear h
        have hln := letters_not hlt hko
        have HLN := Lib.hid (HNV.out.trans hln)
        clear hln hko
        go_wp2
        go_ret
        exact ⟨by rw [HLN.out]; rfl, rfl⟩
      · skip
        have fa : decide ((97 : Int) ≤ (c.toNat : Int)) = true := by simp; omega
        have fb : decide ((c.toNat : Int) ≤ 122) = false := by simp; omega
        have fc : decide ((65 : Int) ≤ (c.toNat : Int)) = true := by simp; omega
        have fd : decide ((c.toNat : Int) ≤ 90) = false := by simp; omega
        have fe : ((c.toNat : Int) == 95) = false := by simp; omega
        have ff : decide ((128 : Int) ≤ (c.toNat : Int)) = true := by simp; omega
        have fg : decide ((c.toNat : Int) < 48) = false := by simp; omega
        have fh : decide ((57 : Int) < (c.toNat : Int)) = true := by simp; omega
        have hko : okN l j = true := by rw [HOK.out]; unfold letterR; simp; omega
        have HST2 := Lib.hid (HST.out hko)
        clear hko h
        go_wp2
        go_round
        case rel => exact ⟨j + 1, by omega, by go_num, HST2.out⟩
        case measure => simp [RowKit.intOf]; omega
    · obtain rfl : j = l.length := by omega
      have hle := letters_all hall
      have HLE := Lib.hid (HNV.out.trans hle)
      clear hle hall
      go_wp2
      go_ret
      exact ⟨by rw [HLE.out]; rfl, rfl⟩
end Go.Proofs.YtijcleiekafoiaaGreatDoor

/- codicilref03.own, kind by kind. (printed by mkown5.py) -/
namespace Go.Proofs.YtijcleiekafoiaaGreatDoor
open Go.RowKit Go.Shelf
open Tr

def cnt3 (R : Int) (nb : Nat) : Nat := if R < 0 then 34 else if 1000 < R ∨ 4000 < nb then 33 else 0

set_option maxRecDepth 100000 in
set_option maxHeartbeats 8000000 in
theorem own3_b1 (w : World) (b : Bool) (i : Int) (t : List UInt8) {BA LA FA : Option Addr} {nb bc nl lc nf fc : Nat}
    (hbad : ¬ (b = false ∧ i = 0 ∧ t = [] ∧ nb = 0 ∧ nl = 0 ∧ nf = 0)) :
    Calls Tryz.prog 118 #[.agg #[.int .u8 1, .bool b, .int .i64 i, .string ⟨t.toArray⟩, .slice BA nb bc, .slice LA nl lc, .slice FA nf fc]] w fun e w' => e = .returned (.int .i64 (30 : Nat)) ∧ Fr no w w' := by
  have HB := Lib.hid hbad
  clear hbad
  go_enter Tryz.func118, Tryz.ntmps118
  go_wp2_with fail
  all_goals first
    | (go_ret; exact ⟨rfl, by (repeat first | exact Fr.refl _ _ | exact Fr.drewN _ _ _ | apply Fr.drew | apply Fr.alloc | apply Fr.setAt | apply Fr.moreN)⟩)
    | (exfalso; apply HB.out; clear HB; simp_all; done)
    | (exfalso; apply HB.out; clear HB; simp_all; omega)

set_option maxRecDepth 100000 in
set_option maxHeartbeats 8000000 in
theorem own3_b2 (w : World) (b : Bool) (i : Int) (t : List UInt8) {BA LA FA : Option Addr} {nb bc nl lc nf fc : Nat}
    (hbad : ¬ (i = 0 ∧ t = [] ∧ nb = 0 ∧ nl = 0 ∧ nf = 0)) :
    Calls Tryz.prog 118 #[.agg #[.int .u8 2, .bool b, .int .i64 i, .string ⟨t.toArray⟩, .slice BA nb bc, .slice LA nl lc, .slice FA nf fc]] w fun e w' => e = .returned (.int .i64 (30 : Nat)) ∧ Fr no w w' := by
  have HB := Lib.hid hbad
  clear hbad
  go_enter Tryz.func118, Tryz.ntmps118
  go_wp2_with fail
  all_goals first
    | (go_ret; exact ⟨rfl, by (repeat first | exact Fr.refl _ _ | exact Fr.drewN _ _ _ | apply Fr.drew | apply Fr.alloc | apply Fr.setAt | apply Fr.moreN)⟩)
    | (exfalso; apply HB.out; clear HB; simp_all; done)
    | (exfalso; apply HB.out; clear HB; simp_all; omega)

set_option maxRecDepth 100000 in
set_option maxHeartbeats 8000000 in
theorem own3_b3 (w : World) (b : Bool) (i : Int) (t : List UInt8) {BA LA FA : Option Addr} {nb bc nl lc nf fc : Nat}
    (hbad : ¬ (b = false ∧ t = [] ∧ nb = 0 ∧ nl = 0 ∧ nf = 0)) :
    Calls Tryz.prog 118 #[.agg #[.int .u8 3, .bool b, .int .i64 i, .string ⟨t.toArray⟩, .slice BA nb bc, .slice LA nl lc, .slice FA nf fc]] w fun e w' => e = .returned (.int .i64 (30 : Nat)) ∧ Fr no w w' := by
  have HB := Lib.hid hbad
  clear hbad
  go_enter Tryz.func118, Tryz.ntmps118
  go_wp2_with fail
  all_goals first
    | (go_ret; exact ⟨rfl, by (repeat first | exact Fr.refl _ _ | exact Fr.drewN _ _ _ | apply Fr.drew | apply Fr.alloc | apply Fr.setAt | apply Fr.moreN)⟩)
    | (exfalso; apply HB.out; clear HB; simp_all; done)
    | (exfalso; apply HB.out; clear HB; simp_all; omega)

set_option maxRecDepth 100000 in
set_option maxHeartbeats 8000000 in
theorem own3_b4 (w : World) (b : Bool) (i : Int) (t : List UInt8) {BA LA FA : Option Addr} {nb bc nl lc nf fc : Nat}
    (hbad : ¬ (b = false ∧ i = 0 ∧ nb = 0 ∧ nl = 0 ∧ nf = 0)) :
    Calls Tryz.prog 118 #[.agg #[.int .u8 4, .bool b, .int .i64 i, .string ⟨t.toArray⟩, .slice BA nb bc, .slice LA nl lc, .slice FA nf fc]] w fun e w' => e = .returned (.int .i64 (30 : Nat)) ∧ Fr no w w' := by
  have HB := Lib.hid hbad
  clear hbad
  go_enter Tryz.func118, Tryz.ntmps118
  go_wp2_with fail
  all_goals first
    | (go_ret; exact ⟨rfl, by (repeat first | exact Fr.refl _ _ | exact Fr.drewN _ _ _ | apply Fr.drew | apply Fr.alloc | apply Fr.setAt | apply Fr.moreN)⟩)
    | (exfalso; apply HB.out; clear HB; simp_all; done)
    | (exfalso; apply HB.out; clear HB; simp_all; omega)

set_option maxRecDepth 100000 in
set_option maxHeartbeats 8000000 in
theorem own3_b5 (w : World) (b : Bool) (i : Int) (t : List UInt8) {BA LA FA : Option Addr} {nb bc nl lc nf fc : Nat}
    (hbad : ¬ (b = false ∧ i = 0 ∧ t = [] ∧ nl = 0 ∧ nf = 0)) :
    Calls Tryz.prog 118 #[.agg #[.int .u8 5, .bool b, .int .i64 i, .string ⟨t.toArray⟩, .slice BA nb bc, .slice LA nl lc, .slice FA nf fc]] w fun e w' => e = .returned (.int .i64 (30 : Nat)) ∧ Fr no w w' := by
  have HB := Lib.hid hbad
  clear hbad
  go_enter Tryz.func118, Tryz.ntmps118
  go_wp2_with fail
  all_goals first
    | (go_ret; exact ⟨rfl, by (repeat first | exact Fr.refl _ _ | exact Fr.drewN _ _ _ | apply Fr.drew | apply Fr.alloc | apply Fr.setAt | apply Fr.moreN)⟩)
    | (exfalso; apply HB.out; clear HB; simp_all; done)
    | (exfalso; apply HB.out; clear HB; simp_all; omega)

set_option maxRecDepth 100000 in
set_option maxHeartbeats 8000000 in
theorem own3_b6 (w : World) (b : Bool) (i : Int) (t : List UInt8) {BA LA FA : Option Addr} {nb bc nl lc nf fc : Nat}
    (hbad : ¬ (b = false ∧ i = 0 ∧ t = [] ∧ nb = 0 ∧ nf = 0)) :
    Calls Tryz.prog 118 #[.agg #[.int .u8 6, .bool b, .int .i64 i, .string ⟨t.toArray⟩, .slice BA nb bc, .slice LA nl lc, .slice FA nf fc]] w fun e w' => e = .returned (.int .i64 (30 : Nat)) ∧ Fr no w w' := by
  have HB := Lib.hid hbad
  clear hbad
  go_enter Tryz.func118, Tryz.ntmps118
  go_wp2_with fail
  all_goals first
    | (go_ret; exact ⟨rfl, by (repeat first | exact Fr.refl _ _ | exact Fr.drewN _ _ _ | apply Fr.drew | apply Fr.alloc | apply Fr.setAt | apply Fr.moreN)⟩)
    | (exfalso; apply HB.out; clear HB; simp_all; done)
    | (exfalso; apply HB.out; clear HB; simp_all; omega)

set_option maxRecDepth 100000 in
set_option maxHeartbeats 8000000 in
theorem own3_b7 (w : World) (b : Bool) (i : Int) (t : List UInt8) {BA LA FA : Option Addr} {nb bc nl lc nf fc : Nat}
    (hbad : ¬ (b = false ∧ i = 0 ∧ t = [] ∧ nb = 0 ∧ nl = 0)) :
    Calls Tryz.prog 118 #[.agg #[.int .u8 7, .bool b, .int .i64 i, .string ⟨t.toArray⟩, .slice BA nb bc, .slice LA nl lc, .slice FA nf fc]] w fun e w' => e = .returned (.int .i64 (30 : Nat)) ∧ Fr no w w' := by
  have HB := Lib.hid hbad
  clear hbad
  go_enter Tryz.func118, Tryz.ntmps118
  go_wp2_with fail
  all_goals first
    | (go_ret; exact ⟨rfl, by (repeat first | exact Fr.refl _ _ | exact Fr.drewN _ _ _ | apply Fr.drew | apply Fr.alloc | apply Fr.setAt | apply Fr.moreN)⟩)
    | (exfalso; apply HB.out; clear HB; simp_all; done)
    | (exfalso; apply HB.out; clear HB; simp_all; omega)

set_option maxRecDepth 100000 in
set_option maxHeartbeats 8000000 in
theorem own3_bo (w : World) (kz : Int) (b : Bool) (i : Int) (t : List UInt8) {BA LA FA : Option Addr} {nb bc nl lc nf fc : Nat}
    (hbad : kz < 1 ∨ 7 < kz) :
    Calls Tryz.prog 118 #[.agg #[.int .u8 kz, .bool b, .int .i64 i, .string ⟨t.toArray⟩, .slice BA nb bc, .slice LA nl lc, .slice FA nf fc]] w fun e w' => e = .returned (.int .i64 (30 : Nat)) ∧ Fr no w w' := by
  rcases hbad with h | h
  · have g1 : decide (kz < 1) = true := decide_eq_true h
    clear h
    go_enter Tryz.func118, Tryz.ntmps118
    go_wp2_with fail
    go_ret
    exact ⟨rfl, by (repeat first | exact Fr.refl _ _ | exact Fr.drewN _ _ _ | apply Fr.drew | apply Fr.alloc | apply Fr.setAt | apply Fr.moreN)⟩
  · have g1 : decide (kz < 1) = false := decide_eq_false (by omega)
    have g2 : decide (7 < kz) = true := decide_eq_true h
    clear h
    go_enter Tryz.func118, Tryz.ntmps118
    go_wp2_with fail
    go_ret
    exact ⟨rfl, by (repeat first | exact Fr.refl _ _ | exact Fr.drewN _ _ _ | apply Fr.drew | apply Fr.alloc | apply Fr.setAt | apply Fr.moreN)⟩

set_option maxRecDepth 100000 in
set_option maxHeartbeats 8000000 in
theorem own3_g1 (w : World) {BA LA FA : Option Addr} {bc lc fc : Nat} (R : Int)
    (hru : ∀ W, Fr no w W → Calls Tryz.prog 132 #[.string ⟨#[]⟩] W fun e w' => e = .returned (.int .i64 R) ∧ w' = W) :
    Calls Tryz.prog 118 #[.agg #[.int .u8 1, .bool false, .int .i64 0, .string ⟨#[]⟩, .slice BA 0 bc, .slice LA 0 lc, .slice FA 0 fc]] w fun e w' => e = .returned (.int .i64 (cnt3 R 0)) ∧ Fr no w w' := by
  have HRU := Lib.hid hru
  clear hru
  have r1 : R < 0 → cnt3 R 0 = 34 := fun h => by unfold cnt3; rw [if_pos h]
  have r2 : ¬ R < 0 → 1000 < R ∨ 4000 < 0 → cnt3 R 0 = 33 := fun h h2 => by unfold cnt3; rw [if_neg h, if_pos h2]
  have r3 : ¬ R < 0 → ¬ (1000 < R ∨ 4000 < 0) → cnt3 R 0 = 0 := fun h h2 => by unfold cnt3; rw [if_neg h, if_neg h2]
  have R1 := Lib.hid r1; have R2 := Lib.hid r2; have R3 := Lib.hid r3
  clear r1 r2 r3
  go_enter Tryz.func118, Tryz.ntmps118
  go_wp2_with fail
  all_goals (
    go_loop [3] (fun iv => iv = .int .i64 0) (fun _ => 0)
    case atStart => rfl
    case round =>
      obtain rfl := hrel
      go_wp2_with fail
      refine (HRU.out _ (by (repeat first | exact Fr.refl _ _ | exact Fr.drewN _ _ _ | apply Fr.drew | apply Fr.alloc | apply Fr.setAt | apply Fr.moreN))).mono ?_
      rintro e w7 ⟨rfl, hw⟩
      subst w7
      go_wp2
      all_goals (go_ret; exact ⟨by first | (rw [R1.out (by omega)]; rfl) | (rw [R2.out (by omega) (by omega)]; rfl) | (rw [R3.out (by omega) (by omega)]; rfl), by (repeat first | exact Fr.refl _ _ | exact Fr.drewN _ _ _ | apply Fr.drew | apply Fr.alloc | apply Fr.setAt | apply Fr.moreN)⟩))

set_option maxRecDepth 100000 in
set_option maxHeartbeats 8000000 in
theorem own3_g2 (w : World) (b : Bool) {BA LA FA : Option Addr} {bc lc fc : Nat} (R : Int)
    (hru : ∀ W, Fr no w W → Calls Tryz.prog 132 #[.string ⟨#[]⟩] W fun e w' => e = .returned (.int .i64 R) ∧ w' = W) :
    Calls Tryz.prog 118 #[.agg #[.int .u8 2, .bool b, .int .i64 0, .string ⟨#[]⟩, .slice BA 0 bc, .slice LA 0 lc, .slice FA 0 fc]] w fun e w' => e = .returned (.int .i64 (cnt3 R 0)) ∧ Fr no w w' := by
  have HRU := Lib.hid hru
  clear hru
  have r1 : R < 0 → cnt3 R 0 = 34 := fun h => by unfold cnt3; rw [if_pos h]
  have r2 : ¬ R < 0 → 1000 < R ∨ 4000 < 0 → cnt3 R 0 = 33 := fun h h2 => by unfold cnt3; rw [if_neg h, if_pos h2]
  have r3 : ¬ R < 0 → ¬ (1000 < R ∨ 4000 < 0) → cnt3 R 0 = 0 := fun h h2 => by unfold cnt3; rw [if_neg h, if_neg h2]
  have R1 := Lib.hid r1; have R2 := Lib.hid r2; have R3 := Lib.hid r3
  clear r1 r2 r3
  go_enter Tryz.func118, Tryz.ntmps118
  go_wp2_with fail
  all_goals (
    go_loop [3] (fun iv => iv = .int .i64 0) (fun _ => 0)
    case atStart => rfl
    case round =>
      obtain rfl := hrel
      go_wp2_with fail
      refine (HRU.out _ (by (repeat first | exact Fr.refl _ _ | exact Fr.drewN _ _ _ | apply Fr.drew | apply Fr.alloc | apply Fr.setAt | apply Fr.moreN))).mono ?_
      rintro e w7 ⟨rfl, hw⟩
      subst w7
      go_wp2
      all_goals (go_ret; exact ⟨by first | (rw [R1.out (by omega)]; rfl) | (rw [R2.out (by omega) (by omega)]; rfl) | (rw [R3.out (by omega) (by omega)]; rfl), by (repeat first | exact Fr.refl _ _ | exact Fr.drewN _ _ _ | apply Fr.drew | apply Fr.alloc | apply Fr.setAt | apply Fr.moreN)⟩))

set_option maxRecDepth 100000 in
set_option maxHeartbeats 8000000 in
theorem own3_g3 (w : World) (i : Int) {BA LA FA : Option Addr} {bc lc fc : Nat} (R : Int)
    (hru : ∀ W, Fr no w W → Calls Tryz.prog 132 #[.string ⟨#[]⟩] W fun e w' => e = .returned (.int .i64 R) ∧ w' = W) :
    Calls Tryz.prog 118 #[.agg #[.int .u8 3, .bool false, .int .i64 i, .string ⟨#[]⟩, .slice BA 0 bc, .slice LA 0 lc, .slice FA 0 fc]] w fun e w' => e = .returned (.int .i64 (cnt3 R 0)) ∧ Fr no w w' := by
  have HRU := Lib.hid hru
  clear hru
  have r1 : R < 0 → cnt3 R 0 = 34 := fun h => by unfold cnt3; rw [if_pos h]
  have r2 : ¬ R < 0 → 1000 < R ∨ 4000 < 0 → cnt3 R 0 = 33 := fun h h2 => by unfold cnt3; rw [if_neg h, if_pos h2]
  have r3 : ¬ R < 0 → ¬ (1000 < R ∨ 4000 < 0) → cnt3 R 0 = 0 := fun h h2 => by unfold cnt3; rw [if_neg h, if_neg h2]
  have R1 := Lib.hid r1; have R2 := Lib.hid r2; have R3 := Lib.hid r3
  clear r1 r2 r3
  go_enter Tryz.func118, Tryz.ntmps118
  go_wp2_with fail
  all_goals (
    go_loop [3] (fun iv => iv = .int .i64 0) (fun _ => 0)
    case atStart => rfl
    case round =>
      obtain rfl := hrel
      go_wp2_with fail
      refine (HRU.out _ (by (repeat first | exact Fr.refl _ _ | exact Fr.drewN _ _ _ | apply Fr.drew | apply Fr.alloc | apply Fr.setAt | apply Fr.moreN))).mono ?_
      rintro e w7 ⟨rfl, hw⟩
      subst w7
      go_wp2
      all_goals (go_ret; exact ⟨by first | (rw [R1.out (by omega)]; rfl) | (rw [R2.out (by omega) (by omega)]; rfl) | (rw [R3.out (by omega) (by omega)]; rfl), by (repeat first | exact Fr.refl _ _ | exact Fr.drewN _ _ _ | apply Fr.drew | apply Fr.alloc | apply Fr.setAt | apply Fr.moreN)⟩))

set_option maxRecDepth 100000 in
set_option maxHeartbeats 8000000 in
theorem own3_g4 (w : World) (T : ByteArray) {BA LA FA : Option Addr} {bc lc fc : Nat} (R : Int)
    (hru : ∀ W, Fr no w W → Calls Tryz.prog 132 #[.string T] W fun e w' => e = .returned (.int .i64 R) ∧ w' = W) :
    Calls Tryz.prog 118 #[.agg #[.int .u8 4, .bool false, .int .i64 0, .string T, .slice BA 0 bc, .slice LA 0 lc, .slice FA 0 fc]] w fun e w' => e = .returned (.int .i64 (cnt3 R 0)) ∧ Fr no w w' := by
  have HRU := Lib.hid hru
  clear hru
  have r1 : R < 0 → cnt3 R 0 = 34 := fun h => by unfold cnt3; rw [if_pos h]
  have r2 : ¬ R < 0 → 1000 < R ∨ 4000 < 0 → cnt3 R 0 = 33 := fun h h2 => by unfold cnt3; rw [if_neg h, if_pos h2]
  have r3 : ¬ R < 0 → ¬ (1000 < R ∨ 4000 < 0) → cnt3 R 0 = 0 := fun h h2 => by unfold cnt3; rw [if_neg h, if_neg h2]
  have R1 := Lib.hid r1; have R2 := Lib.hid r2; have R3 := Lib.hid r3
  clear r1 r2 r3
  go_enter Tryz.func118, Tryz.ntmps118
  go_wp2_with fail
  all_goals (
    go_loop [3] (fun iv => iv = .int .i64 0) (fun _ => 0)
    case atStart => rfl
    case round =>
      obtain rfl := hrel
      go_wp2_with fail
      refine (HRU.out _ (by (repeat first | exact Fr.refl _ _ | exact Fr.drewN _ _ _ | apply Fr.drew | apply Fr.alloc | apply Fr.setAt | apply Fr.moreN))).mono ?_
      rintro e w7 ⟨rfl, hw⟩
      subst w7
      go_wp2
      all_goals (go_ret; exact ⟨by first | (rw [R1.out (by omega)]; rfl) | (rw [R2.out (by omega) (by omega)]; rfl) | (rw [R3.out (by omega) (by omega)]; rfl), by (repeat first | exact Fr.refl _ _ | exact Fr.drewN _ _ _ | apply Fr.drew | apply Fr.alloc | apply Fr.setAt | apply Fr.moreN)⟩))

set_option maxRecDepth 100000 in
set_option maxHeartbeats 8000000 in
theorem own3_g5 (w : World) {nb : Nat} (hnb : nb ≤ 140737488351232) {BA LA FA : Option Addr} {bc lc fc : Nat} (R : Int)
    (hru : ∀ W, Fr no w W → Calls Tryz.prog 132 #[.string ⟨#[]⟩] W fun e w' => e = .returned (.int .i64 R) ∧ w' = W) :
    Calls Tryz.prog 118 #[.agg #[.int .u8 5, .bool false, .int .i64 0, .string ⟨#[]⟩, .slice BA nb bc, .slice LA 0 lc, .slice FA 0 fc]] w fun e w' => e = .returned (.int .i64 (cnt3 R nb)) ∧ Fr no w w' := by
  have HRU := Lib.hid hru
  clear hru
  have r1 : R < 0 → cnt3 R nb = 34 := fun h => by unfold cnt3; rw [if_pos h]
  have r2 : ¬ R < 0 → 1000 < R ∨ 4000 < nb → cnt3 R nb = 33 := fun h h2 => by unfold cnt3; rw [if_neg h, if_pos h2]
  have r3 : ¬ R < 0 → ¬ (1000 < R ∨ 4000 < nb) → cnt3 R nb = 0 := fun h h2 => by unfold cnt3; rw [if_neg h, if_neg h2]
  have R1 := Lib.hid r1; have R2 := Lib.hid r2; have R3 := Lib.hid r3
  clear r1 r2 r3
  go_enter Tryz.func118, Tryz.ntmps118
  go_wp2_with fail
  all_goals (
    go_loop [3] (fun iv => iv = .int .i64 0) (fun _ => 0)
    case atStart => rfl
    case round =>
      obtain rfl := hrel
      go_wp2_with fail
      refine (HRU.out _ (by (repeat first | exact Fr.refl _ _ | exact Fr.drewN _ _ _ | apply Fr.drew | apply Fr.alloc | apply Fr.setAt | apply Fr.moreN))).mono ?_
      rintro e w7 ⟨rfl, hw⟩
      subst w7
      go_wp2
      all_goals (go_ret; exact ⟨by first | (rw [R1.out (by omega)]; rfl) | (rw [R2.out (by omega) (by omega)]; rfl) | (rw [R3.out (by omega) (by omega)]; rfl), by (repeat first | exact Fr.refl _ _ | exact Fr.drewN _ _ _ | apply Fr.drew | apply Fr.alloc | apply Fr.setAt | apply Fr.moreN)⟩))

set_option maxRecDepth 100000 in
set_option maxHeartbeats 8000000 in
theorem own3_g6 (w : World) {nl : Nat} {BA LA FA : Option Addr} {bc lc fc : Nat} (R : Int)
    (hru : ∀ W, Fr no w W → Calls Tryz.prog 132 #[.string ⟨#[]⟩] W fun e w' => e = .returned (.int .i64 R) ∧ w' = W) :
    Calls Tryz.prog 118 #[.agg #[.int .u8 6, .bool false, .int .i64 0, .string ⟨#[]⟩, .slice BA 0 bc, .slice LA nl lc, .slice FA 0 fc]] w fun e w' => e = .returned (.int .i64 (cnt3 R 0)) ∧ Fr no w w' := by
  have HRU := Lib.hid hru
  clear hru
  have r1 : R < 0 → cnt3 R 0 = 34 := fun h => by unfold cnt3; rw [if_pos h]
  have r2 : ¬ R < 0 → 1000 < R ∨ 4000 < 0 → cnt3 R 0 = 33 := fun h h2 => by unfold cnt3; rw [if_neg h, if_pos h2]
  have r3 : ¬ R < 0 → ¬ (1000 < R ∨ 4000 < 0) → cnt3 R 0 = 0 := fun h h2 => by unfold cnt3; rw [if_neg h, if_neg h2]
  have R1 := Lib.hid r1; have R2 := Lib.hid r2; have R3 := Lib.hid r3
  clear r1 r2 r3
  go_enter Tryz.func118, Tryz.ntmps118
  go_wp2_with fail
  all_goals (
    go_loop [3] (fun iv => iv = .int .i64 0) (fun _ => 0)
    case atStart => rfl
    case round =>
      obtain rfl := hrel
      go_wp2_with fail
      refine (HRU.out _ (by (repeat first | exact Fr.refl _ _ | exact Fr.drewN _ _ _ | apply Fr.drew | apply Fr.alloc | apply Fr.setAt | apply Fr.moreN))).mono ?_
      rintro e w7 ⟨rfl, hw⟩
      subst w7
      go_wp2
      all_goals (go_ret; exact ⟨by first | (rw [R1.out (by omega)]; rfl) | (rw [R2.out (by omega) (by omega)]; rfl) | (rw [R3.out (by omega) (by omega)]; rfl), by (repeat first | exact Fr.refl _ _ | exact Fr.drewN _ _ _ | apply Fr.drew | apply Fr.alloc | apply Fr.setAt | apply Fr.moreN)⟩))
end Go.Proofs.YtijcleiekafoiaaGreatDoor

/- codicilref03.own of a document whose shape is right; own3_any. -/
namespace Go.Proofs.YtijcleiekafoiaaGreatDoor
open Go.RowKit Go.Shelf
open Tr

def cnt7 (x : Tr Mm) (R : Int) : Nat := if risesF none x.f = true then cnt3 R 0 else 30

set_option maxRecDepth 100000 in
set_option maxHeartbeats 8000000 in
theorem own3_g7e (w : World) {BA LA FA : Option Addr} {bc lc fc : Nat} (R : Int)
    (hru : ∀ W, Fr no w W → Calls Tryz.prog 132 #[.string ⟨#[]⟩] W fun e w' => e = .returned (.int .i64 R) ∧ w' = W) :
    Calls Tryz.prog 118 #[.agg #[.int .u8 7, .bool false, .int .i64 0, .string ⟨#[]⟩, .slice BA 0 bc, .slice LA 0 lc, .slice FA 0 fc]] w fun e w' => e = .returned (.int .i64 (cnt3 R 0)) ∧ Fr no w w' := by
  have HRU := Lib.hid hru
  clear hru
  have r1 : R < 0 → cnt3 R 0 = 34 := fun h => by unfold cnt3; rw [if_pos h]
  have r2 : ¬ R < 0 → 1000 < R ∨ 4000 < 0 → cnt3 R 0 = 33 := fun h h2 => by unfold cnt3; rw [if_neg h, if_pos h2]
  have r3 : ¬ R < 0 → ¬ (1000 < R ∨ 4000 < 0) → cnt3 R 0 = 0 := fun h h2 => by unfold cnt3; rw [if_neg h, if_neg h2]
  have R1 := Lib.hid r1; have R2 := Lib.hid r2; have R3 := Lib.hid r3
  clear r1 r2 r3
  go_enter Tryz.func118, Tryz.ntmps118
  go_wp2_with fail
  all_goals (
    go_loop [3] (fun iv => iv = .int .i64 0) (fun _ => 0)
    case atStart => rfl
    case round =>
      obtain rfl := hrel
      go_wp2_with fail
      refine (HRU.out _ (by (repeat first | exact Fr.refl _ _ | exact Fr.drewN _ _ _ | apply Fr.drew | apply Fr.alloc | apply Fr.setAt | apply Fr.moreN))).mono ?_
      rintro e w7 ⟨rfl, hw⟩
      subst w7
      go_wp2
      all_goals (go_ret; exact ⟨by first | (rw [R1.out (by omega)]; rfl) | (rw [R2.out (by omega) (by omega)]; rfl) | (rw [R3.out (by omega) (by omega)]; rfl), by (repeat first | exact Fr.refl _ _ | exact Fr.drewN _ _ _ | apply Fr.drew | apply Fr.alloc | apply Fr.setAt | apply Fr.moreN)⟩))

set_option maxRecDepth 100000 in
set_option maxHeartbeats 8000000 in
theorem own3_g7 (w : World) (x : Tr Mm) {BA LA FA : Option Addr} {bc lc fc : Nat} (hfo : Forms x BA bc LA lc FA fc) (hx : Tr.Good w x) (hne : 0 < x.f.length) (R : Int)
    (hru : ∀ W, Fr no w W → Calls Tryz.prog 132 #[.string ⟨#[]⟩] W fun e w' => e = .returned (.int .i64 R) ∧ w' = W) :
    Calls Tryz.prog 118 #[.agg #[.int .u8 7, .bool false, .int .i64 0, .string ⟨#[]⟩, .slice BA 0 bc, .slice LA 0 lc, .slice FA x.f.length fc]] w fun e w' => e = .returned (.int .i64 (cnt7 x R : Int)) ∧ Fr no w w' := by
  have HRU := Lib.hid hru; have HX := Lib.hid hx; have HFO := Lib.hid hfo
  have hnf : x.f.length ≤ 140737488351232 := hx.node.f
  have gz : decide ((0 : Int) < (x.f.length : Int)) = true := decide_eq_true (by omega)
  have HNE := Lib.hid hne
  clear hru hx hfo hne
  have r1 : R < 0 → cnt3 R 0 = 34 := fun h => by unfold cnt3; rw [if_pos h]
  have r2 : ¬ R < 0 → 1000 < R → cnt3 R 0 = 33 := fun h h2 => by unfold cnt3; rw [if_neg h, if_pos (.inl h2)]
  have r3 : ¬ R < 0 → ¬ 1000 < R → cnt3 R 0 = 0 := fun h h2 => by unfold cnt3; rw [if_neg h, if_neg (by omega)]
  have R1 := Lib.hid r1; have R2 := Lib.hid r2; have R3 := Lib.hid r3
  clear r1 r2 r3
  go_enter Tryz.func118, Tryz.ntmps118
  go_wp2_with fail
  all_goals first | (exfalso; have hne2 := HNE.out; omega; done) | skip
  all_goals (
    clear gz
    have hb0 := heap_alloc_new w (.cells #[.int .u8 7, .bool false, .int .i64 0, .string ⟨#[]⟩, .slice BA 0 bc, .slice LA 0 lc, .slice FA x.f.length fc] 27)
    have hF1 : Fr no w (w.alloc (.cells #[.int .u8 7, .bool false, .int .i64 0, .string ⟨#[]⟩, .slice BA 0 bc, .slice LA 0 lc, .slice FA x.f.length fc] 27)) := by (repeat first | exact Fr.refl _ _ | exact Fr.drewN _ _ _ | apply Fr.drew | apply Fr.alloc | apply Fr.setAt | apply Fr.moreN)
    generalize (w.alloc (.cells #[.int .u8 7, .bool false, .int .i64 0, .string ⟨#[]⟩, .slice BA 0 bc, .slice LA 0 lc, .slice FA x.f.length fc] 27)) = w1 at hb0 hF1 ⊢
    have F1 := Lib.hid hF1
    have HB0 := Lib.hid hb0
    clear hb0 hF1
    go_loopw [3] (fun iv wr => ∃ j : Nat, j ≤ x.f.length ∧ iv = .int .i64 j ∧ Fr no w1 wr ∧ (∀ k (h : k < x.f.length), k < j → nameV x.f[k].1 = true) ∧ ∀ k (h : k + 1 < x.f.length), k + 1 < j → cb x.f[k].1 x.f[k + 1].1 < 0) (fun iv _ => x.f.length - (intOf iv).toNat)
    case atStart => exact ⟨0, Nat.zero_le _, rfl, by (repeat first | exact Fr.refl _ _ | exact Fr.drewN _ _ _ | apply Fr.drew | apply Fr.alloc | apply Fr.setAt | apply Fr.moreN), fun k _ h => by omega, fun k _ h => by omega⟩
    case round =>
      obtain ⟨j, hj, rfl, hf, hna, hri⟩ := hrel
      have HF := Lib.hid hf; have HNA := Lib.hid hna; have HRI := Lib.hid hri; clear hf hna hri
      have hb0 := HF.out.heap HB0.out (fun h => h)
      have hbl := (Array.getElem?_eq_some_iff.1 hb0).1
      by_cases hlt : j < x.f.length
      · have hin := (HX.out.kept0 (F1.out.trans HF.out (fun _ _ h => h))).inF; rw [HFO.out.F] at hin
        have HIN := Lib.hid hin; clear hin
        have q6 := cell_of_row wr w.heap.size 6 _ _ (0, 0) hb0
        simp only [List.getElem?_toArray, List.getElem?_cons_succ, List.getElem?_cons_zero] at q6
        clear hb0
        cases hnv : nameV x.f[j].1 with
        | false =>
          obtain ⟨b, o, KB, kb, KL, kl, KF, kf, hA, -, r0, r1, r2, r3, r4, r5, r6, r7, hbl2⟩ := HIN.out.get j hlt
          subst hA
          have HNV := Lib.hid hnv; clear hnv
          go_wp2_with fail
          refine wp_region_ord (List.range 28) (fun i => [Kd.p, Kd.l, Kd.p, Kd.p, Kd.p, Kd.l, Kd.e, Kd.p, Kd.p, Kd.p, Kd.p, Kd.p, Kd.p, Kd.l, Kd.p, Kd.p, Kd.p, Kd.l, Kd.p, Kd.l, Kd.p, Kd.p, Kd.p, Kd.p, Kd.l, Kd.p, Kd.p, Kd.p].getD i .e) (by kernel_rfl) (by kernel_rfl) ?_
          iterate 6
            first | (refine wpX_un rfl rfl ?_; go_simp) | first | refine wpX_pu rfl rfl rfl (by first | exact pu_move rfl | exact pu_assign rfl | exact pu_nilCheck rfl rfl | exact pu_binInt rfl rfl rfl | exact pu_conv rfl rfl (by kernel_rfl) | exact pu_fld rfl (by kernel_rfl) | exact pu_ix rfl rfl rfl (by kernel_rfl) | exact pu_unOp rfl | exact pu_binStr rfl rfl rfl | exact pu_len rfl rfl | exact pu_lens rfl rfl | exact pu_pick rfl | exact pu_slice rfl rfl) (fun K hK => ?_) | refine wpX_rd rfl rfl rfl (rd_load rfl) (fun K hK => ?_) | refine wpX_gr rfl rfl rfl (by first | exact gr_buildSlice rfl | exact gr_box rfl | exact gr_alloc rfl) (fun K hK => ?_) | refine wpX_ex rfl rfl rfl (fun K hK => ?_)
            try go_wp2
          refine wpX_ex rfl rfl rfl (fun K hK => ?_)
          go_wp2_with fail
          refine (name3_any _ x.f[j].1 (HX.out.node.n _ (List.getElem_mem _))).mono ?_
          rintro e w3 ⟨rfl, hw⟩
          subst w3
          rw [HNV.out]
          go_wp2_with fail
          iterate 21
            first | (refine wpX_un rfl rfl ?_; go_simp) | first | refine wpX_pu rfl rfl rfl (by first | exact pu_move rfl | exact pu_assign rfl | exact pu_nilCheck rfl rfl | exact pu_binInt rfl rfl rfl | exact pu_conv rfl rfl (by kernel_rfl) | exact pu_fld rfl (by kernel_rfl) | exact pu_ix rfl rfl rfl (by kernel_rfl) | exact pu_unOp rfl | exact pu_binStr rfl rfl rfl | exact pu_len rfl rfl | exact pu_lens rfl rfl | exact pu_pick rfl | exact pu_slice rfl rfl) (fun K hK => ?_) | refine wpX_rd rfl rfl rfl (rd_load rfl) (fun K hK => ?_) | refine wpX_gr rfl rfl rfl (by first | exact gr_buildSlice rfl | exact gr_box rfl | exact gr_alloc rfl) (fun K hK => ?_) | refine wpX_ex rfl rfl rfl (fun K hK => ?_)
            try go_wp2
          refine wpX_done ?_
          go_wp2_with fail
          go_ret
          refine ⟨?_, F1.out.trans (HF.out.trans (by (repeat first | exact Fr.refl _ _ | exact Fr.drewN _ _ _ | apply Fr.drew | apply Fr.alloc | apply Fr.setAt | apply Fr.moreN)) (fun _ _ h => h)) (fun _ _ h => h)⟩
          have hz : cnt7 x R = 30 := if_neg (fun h => absurd (((rises_iff none x.f).1 h).1 j hlt) (by rw [HNV.out]; exact Bool.noConfusion))
          rw [hz]
          rfl
        | true =>
          have HNV := Lib.hid hnv; clear hnv
          rcases j with _ | m
          · obtain ⟨b, o, KB, kb, KL, kl, KF, kf, hA, -, r0, r1, r2, r3, r4, r5, r6, r7, hbl2⟩ := HIN.out.get 0 hlt
            subst hA
            simp only [Nat.zero_mul, Nat.add_zero] at r0 r1 r2 r3 r4 r5 r6 r7
            go_wp2_with fail
            refine wp_region_ord (List.range 28) (fun i => [Kd.p, Kd.l, Kd.p, Kd.p, Kd.p, Kd.l, Kd.e, Kd.p, Kd.p, Kd.p, Kd.p, Kd.p, Kd.p, Kd.l, Kd.p, Kd.p, Kd.p, Kd.l, Kd.p, Kd.l, Kd.p, Kd.p, Kd.p, Kd.p, Kd.l, Kd.p, Kd.p, Kd.p].getD i .e) (by kernel_rfl) (by kernel_rfl) ?_
            iterate 6
              first | (refine wpX_un rfl rfl ?_; go_simp) | first | refine wpX_pu rfl rfl rfl (by first | exact pu_move rfl | exact pu_assign rfl | exact pu_nilCheck rfl rfl | exact pu_binInt rfl rfl rfl | exact pu_conv rfl rfl (by kernel_rfl) | exact pu_fld rfl (by kernel_rfl) | exact pu_ix rfl rfl rfl (by kernel_rfl) | exact pu_unOp rfl | exact pu_binStr rfl rfl rfl | exact pu_len rfl rfl | exact pu_lens rfl rfl | exact pu_pick rfl | exact pu_slice rfl rfl) (fun K hK => ?_) | refine wpX_rd rfl rfl rfl (rd_load rfl) (fun K hK => ?_) | refine wpX_gr rfl rfl rfl (by first | exact gr_buildSlice rfl | exact gr_box rfl | exact gr_alloc rfl) (fun K hK => ?_) | refine wpX_ex rfl rfl rfl (fun K hK => ?_)
              try go_wp2
            refine wpX_ex rfl rfl rfl (fun K hK => ?_)
            go_wp2_with fail
            refine (name3_any _ x.f[0].1 (HX.out.node.n _ (List.getElem_mem _))).mono ?_
            rintro e w3 ⟨rfl, hw⟩
            subst w3
            rw [HNV.out]
            go_wp2_with fail
            iterate 21
              first | (refine wpX_un rfl rfl ?_; go_simp) | first | refine wpX_pu rfl rfl rfl (by first | exact pu_move rfl | exact pu_assign rfl | exact pu_nilCheck rfl rfl | exact pu_binInt rfl rfl rfl | exact pu_conv rfl rfl (by kernel_rfl) | exact pu_fld rfl (by kernel_rfl) | exact pu_ix rfl rfl rfl (by kernel_rfl) | exact pu_unOp rfl | exact pu_binStr rfl rfl rfl | exact pu_len rfl rfl | exact pu_lens rfl rfl | exact pu_pick rfl | exact pu_slice rfl rfl) (fun K hK => ?_) | refine wpX_rd rfl rfl rfl (rd_load rfl) (fun K hK => ?_) | refine wpX_gr rfl rfl rfl (by first | exact gr_buildSlice rfl | exact gr_box rfl | exact gr_alloc rfl) (fun K hK => ?_) | refine wpX_ex rfl rfl rfl (fun K hK => ?_)
              try go_wp2
            refine wpX_done ?_
            go_wp2
            go_roundw
            case rel => exact ⟨0 + 1, by omega, by first | rfl | go_num, HF.out.trans (by (repeat first | exact Fr.refl _ _ | exact Fr.drewN _ _ _ | apply Fr.drew | apply Fr.alloc | apply Fr.setAt | apply Fr.moreN)) (fun _ _ h => h), fun k hk hlt2 => by
                by_cases h : k < 0
                · exact HNA.out k hk h
                · obtain rfl : k = 0 := by omega
                  exact HNV.out, fun k hk h => by omega⟩
            case measure => simp [intOf]; omega
          · obtain ⟨b, o, KB, kb, KL, kl, KF, kf, hA, -, r0, r1, r2, r3, r4, r5, r6, r7, hbl2⟩ := HIN.out.get (m + 1) hlt
            subst hA
            obtain ⟨b', o', hA2, s0, hsl⟩ := InF.at HIN.out.sl m (by omega)
            simp only [Option.some.injEq, Addr.mk.injEq, and_true] at hA2
            obtain ⟨rfl, rfl⟩ := hA2
            have gg : decide ((0 : Int) < (m : Int) + 1) = true := decide_eq_true (by omega)
            have gg2 : decide (0 < m + 1) = true := by simp
            clear r1 r2 r3 r4 r5 r6 r7
            by_cases hc : cb x.f[m + 1].1 x.f[m].1 ≤ 0
            · have le8 : decide (cb x.f[m + 1].1 x.f[m].1 ≤ 0) = true := decide_eq_true hc
              have lb8 : (Op.bytesLess x.f[m + 1].1 x.f[m].1 || x.f[m + 1].1 == x.f[m].1) = true := by rw [leq_cb]; exact le8
              have HCC := Lib.hid hc; clear hc
              go_wp2_with fail
              refine wp_region_ord (List.range 28) (fun i => [Kd.p, Kd.l, Kd.p, Kd.p, Kd.p, Kd.l, Kd.e, Kd.p, Kd.p, Kd.p, Kd.p, Kd.p, Kd.p, Kd.l, Kd.p, Kd.p, Kd.p, Kd.l, Kd.p, Kd.l, Kd.p, Kd.p, Kd.p, Kd.p, Kd.l, Kd.p, Kd.p, Kd.p].getD i .e) (by kernel_rfl) (by kernel_rfl) ?_
              iterate 6
                first | (refine wpX_un rfl rfl ?_; go_simp) | first | refine wpX_pu rfl rfl rfl (by first | exact pu_move rfl | exact pu_assign rfl | exact pu_nilCheck rfl rfl | exact pu_binInt rfl rfl rfl | exact pu_conv rfl rfl (by kernel_rfl) | exact pu_fld rfl (by kernel_rfl) | exact pu_ix rfl rfl rfl (by kernel_rfl) | exact pu_unOp rfl | exact pu_binStr rfl rfl rfl | exact pu_len rfl rfl | exact pu_lens rfl rfl | exact pu_pick rfl | exact pu_slice rfl rfl) (fun K hK => ?_) | refine wpX_rd rfl rfl rfl (rd_load rfl) (fun K hK => ?_) | refine wpX_gr rfl rfl rfl (by first | exact gr_buildSlice rfl | exact gr_box rfl | exact gr_alloc rfl) (fun K hK => ?_) | refine wpX_ex rfl rfl rfl (fun K hK => ?_)
                try go_wp2
              refine wpX_ex rfl rfl rfl (fun K hK => ?_)
              go_wp2_with fail
              refine (name3_any _ x.f[m + 1].1 (HX.out.node.n _ (List.getElem_mem _))).mono ?_
              rintro e w3 ⟨rfl, hw⟩
              subst w3
              rw [HNV.out]
              go_wp2_with fail
              iterate 21
                first | (refine wpX_un rfl rfl ?_; go_simp) | first | refine wpX_pu rfl rfl rfl (by first | exact pu_move rfl | exact pu_assign rfl | exact pu_nilCheck rfl rfl | exact pu_binInt rfl rfl rfl | exact pu_conv rfl rfl (by kernel_rfl) | exact pu_fld rfl (by kernel_rfl) | exact pu_ix rfl rfl rfl (by kernel_rfl) | exact pu_unOp rfl | exact pu_binStr rfl rfl rfl | exact pu_len rfl rfl | exact pu_lens rfl rfl | exact pu_pick rfl | exact pu_slice rfl rfl) (fun K hK => ?_) | refine wpX_rd rfl rfl rfl (rd_load rfl) (fun K hK => ?_) | refine wpX_gr rfl rfl rfl (by first | exact gr_buildSlice rfl | exact gr_box rfl | exact gr_alloc rfl) (fun K hK => ?_) | refine wpX_ex rfl rfl rfl (fun K hK => ?_)
                try go_wp2
              refine wpX_done ?_
              go_wp2_with fail
              go_ret
              refine ⟨?_, F1.out.trans (HF.out.trans (by (repeat first | exact Fr.refl _ _ | exact Fr.drewN _ _ _ | apply Fr.drew | apply Fr.alloc | apply Fr.setAt | apply Fr.moreN)) (fun _ _ h => h)) (fun _ _ h => h)⟩
              have hz : cnt7 x R = 30 := if_neg (fun h => by
                have h2 := ((rises_iff none x.f).1 h).2.2 m hlt
                have h3 := HCC.out
                rw [cb_swap] at h2
                omega)
              rw [hz]
              rfl
            · have le8 : decide (cb x.f[m + 1].1 x.f[m].1 ≤ 0) = false := decide_eq_false hc
              have lb8 : (Op.bytesLess x.f[m + 1].1 x.f[m].1 || x.f[m + 1].1 == x.f[m].1) = false := by rw [leq_cb]; exact le8
              have HCC := Lib.hid hc; clear hc
              go_wp2_with fail
              refine wp_region_ord (List.range 28) (fun i => [Kd.p, Kd.l, Kd.p, Kd.p, Kd.p, Kd.l, Kd.e, Kd.p, Kd.p, Kd.p, Kd.p, Kd.p, Kd.p, Kd.l, Kd.p, Kd.p, Kd.p, Kd.l, Kd.p, Kd.l, Kd.p, Kd.p, Kd.p, Kd.p, Kd.l, Kd.p, Kd.p, Kd.p].getD i .e) (by kernel_rfl) (by kernel_rfl) ?_
              iterate 6
                first | (refine wpX_un rfl rfl ?_; go_simp) | first | refine wpX_pu rfl rfl rfl (by first | exact pu_move rfl | exact pu_assign rfl | exact pu_nilCheck rfl rfl | exact pu_binInt rfl rfl rfl | exact pu_conv rfl rfl (by kernel_rfl) | exact pu_fld rfl (by kernel_rfl) | exact pu_ix rfl rfl rfl (by kernel_rfl) | exact pu_unOp rfl | exact pu_binStr rfl rfl rfl | exact pu_len rfl rfl | exact pu_lens rfl rfl | exact pu_pick rfl | exact pu_slice rfl rfl) (fun K hK => ?_) | refine wpX_rd rfl rfl rfl (rd_load rfl) (fun K hK => ?_) | refine wpX_gr rfl rfl rfl (by first | exact gr_buildSlice rfl | exact gr_box rfl | exact gr_alloc rfl) (fun K hK => ?_) | refine wpX_ex rfl rfl rfl (fun K hK => ?_)
                try go_wp2
              refine wpX_ex rfl rfl rfl (fun K hK => ?_)
              go_wp2_with fail
              refine (name3_any _ x.f[m + 1].1 (HX.out.node.n _ (List.getElem_mem _))).mono ?_
              rintro e w3 ⟨rfl, hw⟩
              subst w3
              rw [HNV.out]
              go_wp2_with fail
              iterate 21
                first | (refine wpX_un rfl rfl ?_; go_simp) | first | refine wpX_pu rfl rfl rfl (by first | exact pu_move rfl | exact pu_assign rfl | exact pu_nilCheck rfl rfl | exact pu_binInt rfl rfl rfl | exact pu_conv rfl rfl (by kernel_rfl) | exact pu_fld rfl (by kernel_rfl) | exact pu_ix rfl rfl rfl (by kernel_rfl) | exact pu_unOp rfl | exact pu_binStr rfl rfl rfl | exact pu_len rfl rfl | exact pu_lens rfl rfl | exact pu_pick rfl | exact pu_slice rfl rfl) (fun K hK => ?_) | refine wpX_rd rfl rfl rfl (rd_load rfl) (fun K hK => ?_) | refine wpX_gr rfl rfl rfl (by first | exact gr_buildSlice rfl | exact gr_box rfl | exact gr_alloc rfl) (fun K hK => ?_) | refine wpX_ex rfl rfl rfl (fun K hK => ?_)
                try go_wp2
              refine wpX_done ?_
              go_wp2
              go_roundw
              case rel => exact ⟨(m + 1) + 1, by omega, by first | rfl | go_num, HF.out.trans (by (repeat first | exact Fr.refl _ _ | exact Fr.drewN _ _ _ | apply Fr.drew | apply Fr.alloc | apply Fr.setAt | apply Fr.moreN)) (fun _ _ h => h), fun k hk hlt2 => by
                  by_cases h : k < m + 1
                  · exact HNA.out k hk h
                  · obtain rfl : k = m + 1 := by omega
                    exact HNV.out, last_step (hm := hlt) HRI.out (by have h3 := HCC.out; omega)⟩
              case measure => simp [intOf]; omega
      · obtain rfl : j = x.f.length := by omega
        have hri2 : risesF none x.f = true := (rises_iff none x.f).2 ⟨fun k hk => HNA.out k hk hk, (fun q h => by cases h), fun k hk => HRI.out k hk hk⟩
        have q3 := cell_of_row wr w.heap.size 3 _ _ (0, 0) hb0
        have q4 := cell_of_row wr w.heap.size 4 _ _ (0, 0) hb0
        have q6 := cell_of_row wr w.heap.size 6 _ _ (0, 0) hb0
        simp only [List.getElem?_toArray, List.getElem?_cons_succ, List.getElem?_cons_zero] at q3 q4 q6
        have hz : cnt7 x R = cnt3 R 0 := if_pos hri2
        have HZ := Lib.hid hz
        have FX := Lib.hid (F1.out.trans HF.out (fun _ _ h => h))
        clear hri2 hz hlt hj hb0
        go_wp2_with fail
        refine (HRU.out _ FX.out).mono ?_
        rintro e w7 ⟨rfl, hw⟩
        subst w7
        go_wp2
        all_goals (go_ret; exact ⟨by first | (rw [HZ.out, R1.out (by omega)]; rfl) | (rw [HZ.out, R2.out (by omega) (by omega)]; rfl) | (rw [HZ.out, R3.out (by omega) (by omega)]; rfl), FX.out.trans (by (repeat first | exact Fr.refl _ _ | exact Fr.drewN _ _ _ | apply Fr.drew | apply Fr.alloc | apply Fr.setAt | apply Fr.moreN)) (fun _ _ h => h)⟩))

theorem own3_any : Own3 := by
  intro x w hx
  obtain ⟨BA, bc, LA, lc, FA, fc, hf⟩ := hx.node.forms
  have hru : ∀ T : List UInt8, x.t = T → ∀ W, Fr no w W → Calls Tryz.prog 132 #[.string ⟨T.toArray⟩] W fun e w' => e = .returned (.int .i64 (runesV T)) ∧ w' = W := fun T h W _ => by
    subst h
    exact runes3_any W x.t hx.node.t
  have hgood : shapeV x = true → own x = (if risesF none x.f = true then cnt3 (runesV x.t) x.bs.length else 30) := fun h => by
    unfold own cnt3 runesV
    rw [if_neg (by rw [h]; exact Bool.noConfusion)]
    cases risesF none x.f with
    | false => rfl
    | true =>
      cases hv : Lib.validD x.t with
      | false => rfl
      | true =>
        by_cases hP : 1000 < Lib.runeCountL x.t ∨ 4000 < x.bs.length
        · simp only [if_pos hP, Bool.true_eq_false, if_false, if_true]
          rw [if_neg (by omega), if_pos (by omega)]
        · simp only [if_neg hP, Bool.true_eq_false, if_false, if_true]
          rw [if_neg (by omega), if_neg (by omega)]
  have hbad : ¬ shapeV x = true → own x = 30 := fun h => by unfold own; rw [if_pos (by simpa using h)]
  have hnbs : x.bs.length ≤ 140737488351232 := hx.node.bs
  rw [hf.agg]
  by_cases hs : shapeV x = true
  rotate_left
  · rw [hbad hs]
    by_cases hk : x.k.toNat < 1 ∨ 7 < x.k.toNat
    · exact own3_bo w x.k.toNat x.b x.i x.t (by omega)
    have hlz : ∀ {α : Type} {l : List α}, l.length = 0 → l = [] := fun h => List.eq_nil_of_length_eq_zero h
    have e : x.k.toNat = 1 ∨ x.k.toNat = 2 ∨ x.k.toNat = 3 ∨ x.k.toNat = 4 ∨ x.k.toNat = 5 ∨ x.k.toNat = 6 ∨ x.k.toNat = 7 := by omega
    have hkk : ∀ n : UInt8, x.k.toNat = n.toNat → x.k = n := fun n h => UInt8.toNat_inj.1 h
    rcases e with e | e | e | e | e | e | e
    · have hk1 := hkk 1 e
      rw [e]
      exact own3_b1 w x.b x.i x.t (fun ⟨h1, h2, h3, h4, h5, h6⟩ => hs (by unfold shapeV; simp [hk1, h1, h2, h3, hlz h4, hlz h5, hlz h6]))
    · have hk1 := hkk 2 e
      rw [e]
      exact own3_b2 w x.b x.i x.t (fun ⟨h2, h3, h4, h5, h6⟩ => hs (by unfold shapeV; simp [hk1, h2, h3, hlz h4, hlz h5, hlz h6]))
    · have hk1 := hkk 3 e
      rw [e]
      exact own3_b3 w x.b x.i x.t (fun ⟨h1, h3, h4, h5, h6⟩ => hs (by unfold shapeV; simp [hk1, h1, h3, hlz h4, hlz h5, hlz h6]))
    · have hk1 := hkk 4 e
      rw [e]
      exact own3_b4 w x.b x.i x.t (fun ⟨h1, h2, h4, h5, h6⟩ => hs (by unfold shapeV; simp [hk1, h1, h2, hlz h4, hlz h5, hlz h6]))
    · have hk1 := hkk 5 e
      rw [e]
      exact own3_b5 w x.b x.i x.t (fun ⟨h1, h2, h3, h5, h6⟩ => hs (by unfold shapeV; simp [hk1, h1, h2, h3, hlz h5, hlz h6]))
    · have hk1 := hkk 6 e
      rw [e]
      exact own3_b6 w x.b x.i x.t (fun ⟨h1, h2, h3, h4, h6⟩ => hs (by unfold shapeV; simp [hk1, h1, h2, h3, hlz h4, hlz h6]))
    · have hk1 := hkk 7 e
      rw [e]
      exact own3_b7 w x.b x.i x.t (fun ⟨h1, h2, h3, h4, h5⟩ => hs (by unfold shapeV; simp [hk1, h1, h2, h3, hlz h4, hlz h5]))
  · obtain ⟨⟨hk1, hk2⟩, s2, s3, s4, s5, s6, s7⟩ := shape_parts hs
    have h1 := UInt8.le_iff_toNat_le.1 hk1
    have h2 := UInt8.le_iff_toNat_le.1 hk2
    have e : x.k.toNat = 1 ∨ x.k.toNat = 2 ∨ x.k.toNat = 3 ∨ x.k.toNat = 4 ∨ x.k.toNat = 5 ∨ x.k.toNat = 6 ∨ x.k.toNat = 7 := by
      simp at h1 h2; omega
    have hkk : ∀ n : UInt8, x.k.toNat = n.toNat → x.k = n := fun n h => UInt8.toNat_inj.1 h
    have hne : ∀ n m : UInt8, x.k = n → n ≠ m → x.k ≠ m := fun n m h h2 h3 => h2 (h.symm.trans h3)
    have hrn : risesF none ([] : List (List UInt8 × Tr Mm)) = true := rfl
    rw [hgood hs]
    clear hgood hbad hk1 hk2 h1 h2
    rcases e with e | e | e | e | e | e | e
    · have hk := hkk 1 e
      rw [e, s2 (hne 1 2 hk (by decide)), s3 (hne 1 3 hk (by decide)), s5 (hne 1 5 hk (by decide)), s6 (hne 1 6 hk (by decide)), s7 (hne 1 7 hk (by decide)), if_pos hrn, s4 (hne 1 4 hk (by decide))]
      exact own3_g1 w (runesV []) (hru [] (s4 (hne 1 4 hk (by decide))))
    · have hk := hkk 2 e
      rw [e, s3 (hne 2 3 hk (by decide)), s5 (hne 2 5 hk (by decide)), s6 (hne 2 6 hk (by decide)), s7 (hne 2 7 hk (by decide)), if_pos hrn, s4 (hne 2 4 hk (by decide))]
      exact own3_g2 w x.b (runesV []) (hru [] (s4 (hne 2 4 hk (by decide))))
    · have hk := hkk 3 e
      rw [e, s2 (hne 3 2 hk (by decide)), s5 (hne 3 5 hk (by decide)), s6 (hne 3 6 hk (by decide)), s7 (hne 3 7 hk (by decide)), if_pos hrn, s4 (hne 3 4 hk (by decide))]
      exact own3_g3 w x.i (runesV []) (hru [] (s4 (hne 3 4 hk (by decide))))
    · have hk := hkk 4 e
      rw [e, s2 (hne 4 2 hk (by decide)), s3 (hne 4 3 hk (by decide)), s5 (hne 4 5 hk (by decide)), s6 (hne 4 6 hk (by decide)), s7 (hne 4 7 hk (by decide)), if_pos hrn]
      exact own3_g4 w ⟨x.t.toArray⟩ (runesV x.t) (hru x.t rfl)
    · have hk := hkk 5 e
      rw [e, s2 (hne 5 2 hk (by decide)), s3 (hne 5 3 hk (by decide)), s6 (hne 5 6 hk (by decide)), s7 (hne 5 7 hk (by decide)), if_pos hrn, s4 (hne 5 4 hk (by decide))]
      exact own3_g5 w hnbs (runesV []) (hru [] (s4 (hne 5 4 hk (by decide))))
    · have hk := hkk 6 e
      rw [e, s2 (hne 6 2 hk (by decide)), s3 (hne 6 3 hk (by decide)), s5 (hne 6 5 hk (by decide)), s7 (hne 6 7 hk (by decide)), if_pos hrn, s4 (hne 6 4 hk (by decide))]
      exact own3_g6 w (runesV []) (hru [] (s4 (hne 6 4 hk (by decide))))
    · have hk := hkk 7 e
      by_cases hf0 : x.f = []
      · rw [e, s2 (hne 7 2 hk (by decide)), s3 (hne 7 3 hk (by decide)), s5 (hne 7 5 hk (by decide)), s6 (hne 7 6 hk (by decide)), hf0, if_pos hrn, s4 (hne 7 4 hk (by decide))]
        exact own3_g7e w (runesV []) (hru [] (s4 (hne 7 4 hk (by decide))))
      · rw [e, s2 (hne 7 2 hk (by decide)), s3 (hne 7 3 hk (by decide)), s5 (hne 7 5 hk (by decide)), s6 (hne 7 6 hk (by decide)), s4 (hne 7 4 hk (by decide))]
        exact own3_g7 w x hf hx (List.length_pos_iff.2 hf0) (runesV []) (hru [] (s4 (hne 7 4 hk (by decide))))
end Go.Proofs.YtijcleiekafoiaaGreatDoor
