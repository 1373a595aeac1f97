import Derived.Test.YtgcicljklejmjaaDoorMb07
import Derived.Lib.TrimUEq
import Derived.Test.YtgcicljklejmjaaDoorMb16
import Derived.Test.YtgcicljklejmjaaDoorMb10

/- UTF-8 without a program: the rune that bytes begin with, as the document's answer reads it. -/
namespace Go.Proofs.YtgcicljklejmjaaDoor
open Go.RowKit Go.Lib

theorem decodeL_pos {l : List UInt8} (h : l ≠ []) : 1 ≤ (decodeL l).2 := by
  refine decode_width_pos _ 0 ?_
  cases l with
  | nil => exact absurd rfl h
  | cons a l => show 0 < (a :: l).toArray.size; simp

/-- The rune and its width; (0, 0): none. -/
def runeR (l : List UInt8) : Nat × Nat := if l = [] then (0, 0) else if (decodeL l).1 = 65533 ∧ (decodeL l).2 = 1 then (0, 0) else decodeL l
theorem runeR_zero {l : List UInt8} (h : l ≠ []) : (runeR l).2 = 0 ↔ ((decodeL l).1 = 65533 ∧ (decodeL l).2 = 1) := by
  unfold runeR
  rw [if_neg h]
  have := decodeL_pos h
  split
  · rename_i h1; simp [h1]
  · rename_i h1
    constructor
    · intro h2; omega
    · intro h2; exact absurd h2 h1
theorem runeR_width {l : List UInt8} (h : (runeR l).2 ≠ 0) : (runeR l).2 = (decodeL l).2 ∧ l ≠ [] := by
  unfold runeR at h ⊢
  split
  · rename_i h1; rw [if_pos h1] at h; simp at h
  · rename_i h1
    rw [if_neg h1] at h
    split
    · rename_i h2; rw [if_pos h2] at h; simp at h
    · exact ⟨rfl, h1⟩

theorem validGoD_fuel : ∀ (n m : Nat) (l : List UInt8), l.length ≤ n → l.length ≤ m → validGoD n l = validGoD m l
  | 0, m, l, h, _ => by
    have : l = [] := List.eq_nil_of_length_eq_zero (by omega)
    subst this
    cases m <;> simp [validGoD]
  | n + 1, 0, l, _, h => by
    have : l = [] := List.eq_nil_of_length_eq_zero (by omega)
    subst this
    simp [validGoD]
  | n + 1, m + 1, l, h1, h2 => by
    simp only [validGoD]
    by_cases hl : l = []
    · rw [if_pos hl, if_pos hl]
    · rw [if_neg hl, if_neg hl]
      split
      · rfl
      · have := decodeL_pos hl
        exact validGoD_fuel n m _ (by rw [List.length_drop]; omega) (by rw [List.length_drop]; omega)
theorem validD_nil : validD [] = true := rfl
theorem validD_bad {l : List UInt8} (h : l ≠ []) (hr : (runeR l).2 = 0) : validD l = false := by
  unfold validD
  cases hn : l.length with
  | zero => exact absurd (List.eq_nil_of_length_eq_zero hn) h
  | succ n => simp only [validGoD]; rw [if_neg h, if_pos ((runeR_zero h).1 hr)]
theorem validD_step {l : List UInt8} (hr : (runeR l).2 ≠ 0) : validD l = validD (l.drop (runeR l).2) := by
  obtain ⟨hw, h⟩ := runeR_width hr
  have hp := decodeL_pos h
  unfold validD
  cases hn : l.length with
  | zero => exact absurd (List.eq_nil_of_length_eq_zero hn) h
  | succ n =>
    simp only [validGoD]
    rw [if_neg h, if_neg (fun e => hr ((runeR_zero h).2 e)), hw]
    exact validGoD_fuel _ _ _ (by rw [List.length_drop]; omega) (Nat.le_refl _)

/-- How many runes, of a list. -/
def cntD : Nat → List UInt8 → Nat
  | 0, _ => 0
  | f + 1, l => if l = [] then 0 else 1 + cntD f (l.drop (decodeL l).2)
theorem cntD_fuel : ∀ (n m : Nat) (l : List UInt8), l.length ≤ n → l.length ≤ m → cntD n l = cntD m l
  | 0, m, l, h, _ => by
    have : l = [] := List.eq_nil_of_length_eq_zero (by omega)
    subst this
    cases m <;> simp [cntD]
  | n + 1, 0, l, _, h => by
    have : l = [] := List.eq_nil_of_length_eq_zero (by omega)
    subst this
    simp [cntD]
  | n + 1, m + 1, l, h1, h2 => by
    simp only [cntD]
    by_cases hl : l = []
    · rw [if_pos hl, if_pos hl]
    · rw [if_neg hl, if_neg hl]
      have := decodeL_pos hl
      rw [cntD_fuel n m _ (by rw [List.length_drop]; omega) (by rw [List.length_drop]; omega)]
theorem cnt_from (s : ByteArray) : ∀ (fuel pos : Nat), runeCountFrom s fuel pos = cntD fuel (s.data.toList.drop pos)
  | 0, pos => rfl
  | f + 1, pos => by
    simp only [runeCountFrom, cntD]
    have hsz : s.data.toList.length = s.size := Array.length_toList
    by_cases h : pos < s.size
    · rw [if_pos h, if_neg (by intro e; have := congrArg List.length e; rw [List.length_drop] at this; simp only [List.length_nil] at this; omega), cnt_from s f, decodeL_drop, List.drop_drop]
    · rw [if_neg h, if_pos (List.drop_eq_nil_of_le (by omega))]
theorem count_eq (l : List UInt8) : runeCountL l = cntD l.length l := by
  unfold runeCountL runeCount
  rw [cnt_from]
  show cntD (⟨l.toArray⟩ : ByteArray).size l = _
  congr 1
theorem count_nil : runeCountL [] = 0 := by rw [count_eq]; rfl
theorem count_step {l : List UInt8} (hr : (runeR l).2 ≠ 0) : runeCountL l = 1 + runeCountL (l.drop (runeR l).2) := by
  obtain ⟨hw, h⟩ := runeR_width hr
  have hp := decodeL_pos h
  rw [count_eq, count_eq]
  cases hn : l.length with
  | zero => exact absurd (List.eq_nil_of_length_eq_zero hn) h
  | succ n =>
    simp only [cntD]
    rw [if_neg h, hw]
    rw [cntD_fuel n _ _ (by rw [List.length_drop]; omega) (Nat.le_refl _)]
theorem rget_at (l : List UInt8) (k : Nat) : (⟨l.toArray⟩ : ByteArray).get! k = l.getD k 0 := by
  show (l.toArray)[k]! = _
  rw [List.getElem!_toArray]
  simp [List.getElem!_eq_getElem?_getD]
  rfl

/-- What is said of a number that was read. -/
def finR (v least k : Nat) : Nat × Nat := if v < least ∨ Utf8.valid v = false then (0, 0) else (v, k)
/-- A continuation byte. -/
def ctR (d : Nat) : Bool := decide (128 ≤ d) && decide (d < 192)
/-- The rune at the head of n bytes b0, b1, b2, b3 ... -/
def valR (n b0 b1 b2 b3 : Nat) : Nat × Nat :=
  if b0 < 128 then (b0, 1)
  else if 192 ≤ b0 ∧ b0 < 224 then (if n < 2 then (0, 0) else if ctR b1 = false then (0, 0) else finR (64 * (b0 - 192) + b1 - 128) 128 2)
  else if 224 ≤ b0 ∧ b0 < 240 then (if n < 3 then (0, 0) else if ctR b1 = false then (0, 0) else if ctR b2 = false then (0, 0) else finR (64 * (64 * (b0 - 224) + b1 - 128) + b2 - 128) 2048 3)
  else if 240 ≤ b0 ∧ b0 < 248 then (if n < 4 then (0, 0) else if ctR b1 = false then (0, 0) else if ctR b2 = false then (0, 0) else if ctR b3 = false then (0, 0) else finR (64 * (64 * (64 * (b0 - 240) + b1 - 128) + b2 - 128) + b3 - 128) 65536 4)
  else (0, 0)
theorem ct_iff (d : Nat) (_ : d < 256) : (d / 64 == 2) = ctR d := by
  unfold ctR
  rw [Bool.eq_iff_iff]
  simp only [beq_iff_eq, Bool.and_eq_true, decide_eq_true_eq]
  omega
theorem ct_mod {d : Nat} (h : ctR d = true) : d % 64 = d - 128 ∧ 128 ≤ d ∧ d < 192 := by
  unfold ctR at h
  simp only [Bool.and_eq_true, decide_eq_true_eq] at h
  omega

theorem runeR_val {l : List UInt8} (hl : l ≠ []) : runeR l = valR l.length (l.getD 0 0).toNat (l.getD 1 0).toNat (l.getD 2 0).toNat (l.getD 3 0).toNat := by
  have h0 := (l.getD 0 0).toNat_lt; have h1 := (l.getD 1 0).toNat_lt; have h2 := (l.getD 2 0).toNat_lt; have h3 := (l.getD 3 0).toNat_lt
  have hs : (⟨l.toArray⟩ : ByteArray).size = l.length := by show l.toArray.size = _; simp
  unfold runeR
  rw [if_neg hl]
  unfold decodeL Utf8.decode
  simp only [rget_at, hs, Nat.zero_add]
  generalize (l.getD 0 0).toNat = b0 at *
  generalize (l.getD 1 0).toNat = b1 at *
  generalize (l.getD 2 0).toNat = b2 at *
  generalize (l.getD 3 0).toNat = b3 at *
  generalize l.length = n at *
  rw [ct_iff b1 h1, ct_iff b2 h2, ct_iff b3 h3]
  unfold valR
  by_cases c0 : b0 < 128
  · rw [if_pos c0, if_pos c0]
    rw [if_neg (by simp only [not_and]; omega)]
  · rw [if_neg c0, if_neg c0]
    have bad : (if ((Utf8.runeError, 1) : Nat × Nat).1 = 65533 ∧ ((Utf8.runeError, 1) : Nat × Nat).2 = 1 then ((0, 0) : Nat × Nat) else (Utf8.runeError, 1)) = (0, 0) := rfl
    have good : ∀ v k : Nat, 1 < k → (if (v, k).1 = 65533 ∧ (v, k).2 = 1 then ((0, 0) : Nat × Nat) else (v, k)) = (v, k) := fun v k h => if_neg (by simp only [not_and]; omega)
    by_cases c1 : 192 ≤ b0 ∧ b0 < 224
    · rw [if_pos c1]
      have e1 : (b0 / 32 == 6) = true := by rw [beq_iff_eq]; omega
      have e2 : (b0 / 16 == 14) = false := by rw [beq_eq_false_iff_ne]; omega
      have e3 : (b0 / 8 == 30) = false := by rw [beq_eq_false_iff_ne]; omega
      simp only [e1, e2, e3, Bool.true_and, Bool.false_and, Bool.false_eq_true, if_false]
      by_cases n2 : n < 2
      · have d2 : decide (1 < n) = false := decide_eq_false (by omega)
        rw [if_pos n2, d2]
        exact bad
      · have d2 : decide (1 < n) = true := decide_eq_true (by omega)
        rw [if_neg n2, d2, Bool.true_and]
        cases hc : ctR b1 with
        | false => exact bad
        | true =>
          obtain ⟨m1, m2, m3⟩ := ct_mod hc
          have ev : b0 % 32 * 64 + b1 % 64 = 64 * (b0 - 192) + b1 - 128 := by omega
          simp only [if_true, ev, Bool.true_eq_false, if_false]
          have hv : Utf8.valid ((64 * (b0 - 192) + b1 - 128 : Nat) : Int) = true := by unfold Utf8.valid; simp; omega
          unfold finR
          have hV : 64 * (b0 - 192) + b1 - 128 < 65533 := by omega
          clear ev m1 m2 m3 hc d2 n2 e1 e2 e3 c1
          generalize 64 * (b0 - 192) + b1 - 128 = V at *
          by_cases hl2 : V < 128
          · have hi : ¬ V ≥ 128 := by omega
            simp only [hi, if_false, hl2, true_or, if_true]
            exact bad
          · have hi : V ≥ 128 := by omega
            have hno : ¬ (V < 128 ∨ Utf8.valid (V : Int) = false) := by rw [hv]; simp; omega
            rw [if_neg hno]
            simp only [hi, if_true]
            exact good _ 2 (by omega)
    · rw [if_neg c1]
      by_cases c2 : 224 ≤ b0 ∧ b0 < 240
      · rw [if_pos c2]
        have e1 : (b0 / 32 == 6) = false := by rw [beq_eq_false_iff_ne]; omega
        have e2 : (b0 / 16 == 14) = true := by rw [beq_iff_eq]; omega
        have e3 : (b0 / 8 == 30) = false := by rw [beq_eq_false_iff_ne]; omega
        simp only [e1, e2, e3, Bool.true_and, Bool.false_and, Bool.false_eq_true, if_false]
        by_cases n2 : n < 3
        · have d2 : decide (2 < n) = false := decide_eq_false (by omega)
          rw [if_pos n2, d2, Bool.false_and, Bool.and_false]
          exact bad
        · have d1 : decide (1 < n) = true := decide_eq_true (by omega)
          have d2 : decide (2 < n) = true := decide_eq_true (by omega)
          rw [if_neg n2, d1, d2, Bool.true_and, Bool.true_and]
          cases hc : ctR b1 with
          | false => exact bad
          | true =>
            rw [Bool.true_and]
            cases hc2 : ctR b2 with
            | false => simp only [Bool.true_eq_false, if_false, if_true]; exact bad
            | true =>
              obtain ⟨m1, m2, m3⟩ := ct_mod hc
              obtain ⟨p1, p2, p3⟩ := ct_mod hc2
              have ev : b0 % 16 * 4096 + b1 % 64 * 64 + b2 % 64 = 64 * (64 * (b0 - 224) + b1 - 128) + b2 - 128 := by omega
              simp only [if_true, ev, Bool.true_eq_false, if_false]
              unfold finR
              clear ev
              generalize 64 * (64 * (b0 - 224) + b1 - 128) + b2 - 128 = V at *
              cases hv : Utf8.valid (V : Int) with
              | false =>
                have hy : V < 2048 ∨ false = false := .inr rfl
                rw [if_pos hy]
                simp only [Bool.and_false, Bool.false_eq_true, if_false]
                exact bad
              | true =>
                by_cases hl2 : V < 2048
                · have hi : decide (V ≥ 2048) = false := decide_eq_false (by omega)
                  rw [if_pos (show V < 2048 ∨ true = false from .inl hl2)]
                  simp only [hi, Bool.false_and, Bool.false_eq_true, if_false]
                  exact bad
                · have hi : decide (V ≥ 2048) = true := decide_eq_true (by omega)
                  have hno : ¬ (V < 2048 ∨ true = false) := by simp; omega
                  rw [if_neg hno]
                  simp only [hi, Bool.true_and, if_true]
                  exact good _ 3 (by omega)
      · rw [if_neg c2]
        by_cases c3 : 240 ≤ b0 ∧ b0 < 248
        · rw [if_pos c3]
          have e1 : (b0 / 32 == 6) = false := by rw [beq_eq_false_iff_ne]; omega
          have e2 : (b0 / 16 == 14) = false := by rw [beq_eq_false_iff_ne]; omega
          have e3 : (b0 / 8 == 30) = true := by rw [beq_iff_eq]; omega
          simp only [e1, e2, e3, Bool.true_and, Bool.false_and, Bool.false_eq_true, if_false]
          by_cases n2 : n < 4
          · have d2 : decide (3 < n) = false := decide_eq_false (by omega)
            rw [if_pos n2, d2, Bool.false_and, Bool.and_false]
            exact bad
          · have d1 : decide (1 < n) = true := decide_eq_true (by omega)
            have d2 : decide (2 < n) = true := decide_eq_true (by omega)
            have d3 : decide (3 < n) = true := decide_eq_true (by omega)
            rw [if_neg n2, d1, d2, d3, Bool.true_and, Bool.true_and, Bool.true_and]
            cases hc : ctR b1 with
            | false => exact bad
            | true =>
              rw [Bool.true_and]
              cases hc2 : ctR b2 with
              | false => simp only [Bool.true_eq_false, if_false, if_true]; exact bad
              | true =>
                rw [Bool.true_and]
                cases hc3 : ctR b3 with
                | false => simp only [Bool.true_eq_false, if_false, if_true]; exact bad
                | true =>
                  obtain ⟨m1, m2, m3⟩ := ct_mod hc
                  obtain ⟨p1, p2, p3⟩ := ct_mod hc2
                  obtain ⟨q1, q2, q3⟩ := ct_mod hc3
                  have ev : b0 % 8 * 262144 + b1 % 64 * 4096 + b2 % 64 * 64 + b3 % 64 = 64 * (64 * (64 * (b0 - 240) + b1 - 128) + b2 - 128) + b3 - 128 := by omega
                  simp only [if_true, ev, Bool.true_eq_false, if_false]
                  unfold finR
                  clear ev
                  generalize 64 * (64 * (64 * (b0 - 240) + b1 - 128) + b2 - 128) + b3 - 128 = V at *
                  cases hv : Utf8.valid (V : Int) with
                  | false =>
                    have hy : V < 65536 ∨ false = false := .inr rfl
                    rw [if_pos hy]
                    simp only [Bool.and_false, Bool.false_eq_true, if_false]
                    exact bad
                  | true =>
                    by_cases hl2 : V < 65536
                    · have hi : decide (V ≥ 65536) = false := decide_eq_false (by omega)
                      rw [if_pos (show V < 65536 ∨ true = false from .inl hl2)]
                      simp only [hi, Bool.false_and, Bool.false_eq_true, if_false]
                      exact bad
                    · have hi : decide (V ≥ 65536) = true := decide_eq_true (by omega)
                      have hno : ¬ (V < 65536 ∨ true = false) := by simp; omega
                      rw [if_neg hno]
                      simp only [hi, Bool.true_and, if_true]
                      exact good _ 4 (by omega)
        · rw [if_neg c3]
          have e1 : (b0 / 32 == 6) = false := by rw [beq_eq_false_iff_ne]; omega
          have e2 : (b0 / 16 == 14) = false := by rw [beq_eq_false_iff_ne]; omega
          have e3 : (b0 / 8 == 30) = false := by rw [beq_eq_false_iff_ne]; omega
          simp only [e1, e2, e3, Bool.false_and, Bool.false_eq_true, if_false]
          exact bad
theorem runeR_le {l : List UInt8} : (runeR l).2 ≤ l.length := by
  by_cases hl : l = []
  · unfold runeR; rw [if_pos hl]; simp
  · rw [runeR_val hl]
    have hp : 0 < l.length := Nat.pos_of_ne_zero (fun e => hl (List.eq_nil_of_length_eq_zero e))
    unfold valR finR
    repeat' split
    all_goals (simp only; omega)
end Go.Proofs.YtgcicljklejmjaaDoor

/- codicilref03.IsRune, Rune, Runes, Name. -/
namespace Go.Proofs.YtgcicljklejmjaaDoor
open Go.RowKit Go.Lib

theorem isrune_any (w : World) (n : Nat) (_ : n ≤ 1000000000) : Calls Tryd.prog 112 #[.int .i64 (n : Int)] w fun e w' => e = .returned (.bool (Utf8.valid (n : Int))) ∧ w' = w := by
  have hr : n < 55296 ∨ (55296 ≤ n ∧ n ≤ 57343) ∨ (57344 ≤ n ∧ n ≤ 1114111) ∨ 1114112 ≤ n := by omega
  rcases hr with h | h | h | h
  · have hv : Utf8.valid (n : Int) = true := by unfold Utf8.valid; simp; omega
    rw [hv]
    have fa : decide ((0 : Int) ≤ (n : Int)) = true := by simp
    have fb : decide ((n : Int) ≤ 1114111) = true := by simp; omega
    have fc : decide ((n : Int) < 55296) = true := by simp; omega
    clear hv h
    go_enter Tryd.func112, Tryd.ntmps112
    go_wp2
    go_ret
    exact ⟨rfl, rfl⟩
  · have hv : Utf8.valid (n : Int) = false := by unfold Utf8.valid; simp; omega
    rw [hv]
    have fa : decide ((0 : Int) ≤ (n : Int)) = true := by simp
    have fb : decide ((n : Int) ≤ 1114111) = true := by simp; omega
    have fc : decide ((n : Int) < 55296) = false := by simp; omega
    have fd : decide ((57343 : Int) < (n : Int)) = false := by simp; omega
    clear hv h
    go_enter Tryd.func112, Tryd.ntmps112
    go_wp2
    go_ret
    exact ⟨rfl, rfl⟩
  · have hv : Utf8.valid (n : Int) = true := by unfold Utf8.valid; simp; omega
    rw [hv]
    have fa : decide ((0 : Int) ≤ (n : Int)) = true := by simp
    have fb : decide ((n : Int) ≤ 1114111) = true := by simp; omega
    have fc : decide ((n : Int) < 55296) = false := by simp; omega
    have fd : decide ((57343 : Int) < (n : Int)) = true := by simp; omega
    clear hv h
    go_enter Tryd.func112, Tryd.ntmps112
    go_wp2
    go_ret
    exact ⟨rfl, rfl⟩
  · have hv : Utf8.valid (n : Int) = false := by unfold Utf8.valid; simp; omega
    rw [hv]
    have fa : decide ((0 : Int) ≤ (n : Int)) = true := by simp
    have fb : decide ((n : Int) ≤ 1114111) = false := by simp; omega
    clear hv h
    go_enter Tryd.func112, Tryd.ntmps112
    go_wp2
    go_ret
    exact ⟨rfl, rfl⟩

theorem ba_get (l : List UInt8) (j : Nat) (h : j < (⟨l.toArray⟩ : ByteArray).size) : (⟨l.toArray⟩ : ByteArray)[j]'h = l[j]'(by simpa [ByteArray.size] using h) := rfl
theorem wrap_byte (u : UInt8) : wrap64 (u.toNat : Int) = (u.toNat : Int) := by
  have := u.toNat_lt
  exact IntWalk.wrap64_in _ ⟨by omega, by omega⟩
attribute [local go_sem] ba_get wrap_byte List.getElem_cons_zero List.getElem_cons_succ
theorem getD1 (c : UInt8) (r : List UInt8) (k : Nat) (h : k < r.length) : (c :: r).getD (k + 1) 0 = r[k] := by simp [h]

theorem valR1 {n b0 b1 b2 b3 : Nat} (h : b0 < 128) : valR n b0 b1 b2 b3 = (b0, 1) := by unfold valR; rw [if_pos h]
theorem valR2 {n b0 b1 b2 b3 : Nat} (h : 192 ≤ b0 ∧ b0 < 224) : valR n b0 b1 b2 b3 = if n < 2 then (0, 0) else if ctR b1 = false then (0, 0) else finR (64 * (b0 - 192) + b1 - 128) 128 2 := by unfold valR; rw [if_neg (by omega), if_pos h]
theorem valR3 {n b0 b1 b2 b3 : Nat} (h : 224 ≤ b0 ∧ b0 < 240) : valR n b0 b1 b2 b3 = if n < 3 then (0, 0) else if ctR b1 = false then (0, 0) else if ctR b2 = false then (0, 0) else finR (64 * (64 * (b0 - 224) + b1 - 128) + b2 - 128) 2048 3 := by unfold valR; rw [if_neg (by omega), if_neg (by omega), if_pos h]
theorem valR4 {n b0 b1 b2 b3 : Nat} (h : 240 ≤ b0 ∧ b0 < 248) : valR n b0 b1 b2 b3 = if n < 4 then (0, 0) else if ctR b1 = false then (0, 0) else if ctR b2 = false then (0, 0) else if ctR b3 = false then (0, 0) else finR (64 * (64 * (64 * (b0 - 240) + b1 - 128) + b2 - 128) + b3 - 128) 65536 4 := by unfold valR; rw [if_neg (by omega), if_neg (by omega), if_neg (by omega), if_pos h]
theorem valR0 {n b0 b1 b2 b3 : Nat} (h : (128 ≤ b0 ∧ b0 < 192) ∨ 248 ≤ b0) : valR n b0 b1 b2 b3 = (0, 0) := by unfold valR; rw [if_neg (by omega), if_neg (by omega), if_neg (by omega), if_neg (by omega)]

def RuneOut (l : List UInt8) (w : World) (e : Ending) (w' : World) : Prop := e = .returned (.tuple #[.int .i64 ((runeR l).1 : Int), .int .i64 ((runeR l).2 : Int)]) ∧ w' = w


set_option maxRecDepth 200000 in
set_option maxHeartbeats 8000000 in
theorem rune_a (w : World) (c : UInt8) (r : List UInt8) (hn : r.length + 1 ≤ 140737488351232) (hk : c.toNat < 128) : Calls Tryd.prog 111 #[.string ⟨(c :: r).toArray⟩] w fun e w' => RuneOut (c :: r) w e w' := by
  have hr := runeR_val (l := c :: r) (by simp)
  have h0 : (c :: r).getD 0 0 = c := rfl
  rw [h0] at hr
  have hc := c.toNat_lt
  rw [valR1 hk] at hr
  have f1 : decide ((c.toNat : Int) < 128) = true := by simp; omega
  have f2 : decide ((192 : Int) ≤ (c.toNat : Int)) = false := by simp; omega
  have f3 : decide ((c.toNat : Int) < 224) = true := by simp; omega
  have f4 : decide ((224 : Int) ≤ (c.toNat : Int)) = false := by simp; omega
  have f5 : decide ((c.toNat : Int) < 240) = true := by simp; omega
  have f6 : decide ((240 : Int) ≤ (c.toNat : Int)) = false := by simp; omega
  have f7 : decide ((c.toNat : Int) < 248) = true := by simp; omega
  have HR := Lib.hid hr
  clear hr hk h0
  go_enter Tryd.func111, Tryd.ntmps111
  go_wp2
  go_ret2
  exact ⟨by rw [HR.out]; rfl, rfl⟩

set_option maxRecDepth 200000 in
set_option maxHeartbeats 8000000 in
theorem rune_b (w : World) (c : UInt8) (r : List UInt8) (hn : r.length + 1 ≤ 140737488351232) (hk : 128 ≤ c.toNat ∧ c.toNat < 192) : Calls Tryd.prog 111 #[.string ⟨(c :: r).toArray⟩] w fun e w' => RuneOut (c :: r) w e w' := by
  have hr := runeR_val (l := c :: r) (by simp)
  have h0 : (c :: r).getD 0 0 = c := rfl
  rw [h0] at hr
  have hc := c.toNat_lt
  rw [valR0 (.inl hk)] at hr
  have f1 : decide ((c.toNat : Int) < 128) = false := by simp; omega
  have f2 : decide ((192 : Int) ≤ (c.toNat : Int)) = false := by simp; omega
  have f3 : decide ((c.toNat : Int) < 224) = true := by simp; omega
  have f4 : decide ((224 : Int) ≤ (c.toNat : Int)) = false := by simp; omega
  have f5 : decide ((c.toNat : Int) < 240) = true := by simp; omega
  have f6 : decide ((240 : Int) ≤ (c.toNat : Int)) = false := by simp; omega
  have f7 : decide ((c.toNat : Int) < 248) = true := by simp; omega
  have HR := Lib.hid hr
  clear hr hk h0
  go_enter Tryd.func111, Tryd.ntmps111
  go_wp2
  go_ret2
  exact ⟨by rw [HR.out]; rfl, rfl⟩

set_option maxRecDepth 200000 in
set_option maxHeartbeats 8000000 in
theorem rune_c (w : World) (c : UInt8) (r : List UInt8) (hn : r.length + 1 ≤ 140737488351232) (hk : 192 ≤ c.toNat ∧ c.toNat < 224) : Calls Tryd.prog 111 #[.string ⟨(c :: r).toArray⟩] w fun e w' => RuneOut (c :: r) w e w' := by
  have hr := runeR_val (l := c :: r) (by simp)
  have h0 : (c :: r).getD 0 0 = c := rfl
  rw [h0] at hr
  have hc := c.toNat_lt
  have f1 : decide ((c.toNat : Int) < 128) = false := by simp; omega
  have f2 : decide ((192 : Int) ≤ (c.toNat : Int)) = true := by simp; omega
  have f3 : decide ((c.toNat : Int) < 224) = true := by simp; omega
  have f4 : decide ((224 : Int) ≤ (c.toNat : Int)) = false := by simp; omega
  have f5 : decide ((c.toNat : Int) < 240) = true := by simp; omega
  have f6 : decide ((240 : Int) ≤ (c.toNat : Int)) = false := by simp; omega
  have f7 : decide ((c.toNat : Int) < 248) = true := by simp; omega
  rw [valR2 hk] at hr
  simp only [List.length_cons] at hr
  by_cases hlen : r.length + 1 < 2
  · have hv : runeR (c :: r) = (0, 0) := by rw [hr, if_pos hlen]
    have HV := Lib.hid hv
    have hw : IntKind.i64.wrap ((c.toNat : Int) - 192) = (c.toNat : Int) - 192 := IntWalk.i64_in _ ⟨by omega, by omega⟩
    have hl3 : (r.length : Int) + 1 < 2 := by omega
    clear hv hr h0
    go_enter Tryd.func111, Tryd.ntmps111
    go_wp2
    go_ret2
    exact ⟨by rw [HV.out]; rfl, rfl⟩
  · rw [if_neg hlen] at hr
    have hr0 : 0 < r.length := by omega
    have ht0 := r[0].toNat_lt
    rw [show (c :: r).getD 1 0 = r[0] from getD1 c r 0 hr0] at hr
    have hl3 : ¬ (r.length : Int) + 1 < 2 := by omega
    have hw : IntKind.i64.wrap ((c.toNat : Int) - 192) = ((c.toNat - 192 : Nat) : Int) := by
      rw [show ((c.toNat : Int) - 192) = ((c.toNat - 192 : Nat) : Int) by omega]
      exact IntWalk.i64_in _ ⟨by omega, by omega⟩
    clear h0 hlen
    obtain ⟨v0, hv0⟩ : ∃ v0 : Nat, v0 = (c.toNat - 192) := ⟨_, rfl⟩
    obtain ⟨v1, hv1⟩ : ∃ v1 : Nat, v1 = (64 * v0 + r[0].toNat - 128) := ⟨_, rfl⟩
    rw [← hv0] at hw hr
    rw [← hv1] at hr
    have HR := Lib.hid hr
    clear hr
    have HV0 := Lib.hid hv0
    have HV1 := Lib.hid hv1
    have hb0 : v0 < 64 := by omega
    have hb1 : v1 < 8192 := by omega
    clear hv0 hv1
    go_enter Tryd.func111, Tryd.ntmps111
    go_wp2
    go_loop [6, 8] (fun vv iv => (iv = .int .i64 1 ∧ vv = .int .i64 (v0 : Int)) ∨ (iv = .int .i64 2 ∧ vv = .int .i64 (v1 : Int) ∧ ctR r[0].toNat = true)) (fun _ iv => 2 - (RowKit.intOf iv).toNat)
    case atStart => exact .inl ⟨rfl, rfl⟩
    case round =>
      rcases hrel with ⟨rfl, rfl⟩ | ⟨rfl, rfl, c0⟩
      · cases hcd : ctR r[0].toNat with
        | true =>
          obtain ⟨_, p2, p3⟩ := ct_mod hcd
          have dlt : decide ((r[0].toNat : Int) < 128) = false := by simp; omega
          have dge : decide ((192 : Int) ≤ (r[0].toNat : Int)) = false := by simp; omega
          have w1 : IntKind.i64.wrap (64 * (v0 : Int)) = 64 * (v0 : Int) := IntWalk.i64_in _ ⟨by omega, by omega⟩
          have w2 : IntKind.i64.wrap (64 * (v0 : Int) + (r[0].toNat : Int)) = 64 * (v0 : Int) + (r[0].toNat : Int) := IntWalk.i64_in _ ⟨by omega, by omega⟩
          have w3 : IntKind.i64.wrap (64 * (v0 : Int) + (r[0].toNat : Int) - 128) = (v1 : Int) := by
            rw [show (64 * (v0 : Int) + (r[0].toNat : Int) - 128) = (v1 : Int) by have := HV1.out; omega]
            exact IntWalk.i64_in _ ⟨by omega, by omega⟩
          have HC := Lib.hid hcd; have HW3 := Lib.hid w3
          have HE := Lib.hid (by have := HV1.out; omega : (64 : Int) * (v0 : Int) + (r[0].toNat : Int) - 128 = (v1 : Int))
          clear hcd
          go_wp2
          go_round
          case rel => exact .inr (⟨by first | rfl | go_num, by first | rfl | exact congrArg (Value.int IntKind.i64) HE.out, by first | exact HC.out | trivial⟩)
          case measure => simp [RowKit.intOf]
        | false =>
          have hv : runeR (c :: r) = (0, 0) := by
            have h := HR.out
            simp only [hcd, if_true] at h
            exact h
          have HV := Lib.hid hv
          have hd : r[0].toNat < 128 ∨ 192 ≤ r[0].toNat := by
            unfold ctR at hcd
            simp only [Bool.and_eq_false_iff, decide_eq_false_iff_not] at hcd
            omega
          clear hv hcd
          rcases hd with hd | hd
          · have dlt : decide ((r[0].toNat : Int) < 128) = true := by simp; omega
            go_wp2
            go_ret2
            exact ⟨by rw [HV.out]; rfl, rfl⟩
          · have dlt : decide ((r[0].toNat : Int) < 128) = false := by simp; omega
            have dge : decide ((192 : Int) ≤ (r[0].toNat : Int)) = true := by simp; omega
            go_wp2
            go_ret2
            exact ⟨by rw [HV.out]; rfl, rfl⟩
      · skip
        have h := HR.out
        simp only [c0, Bool.true_eq_false, if_false] at h
        unfold finR at h
        have HF := Lib.hid h
        clear h
        by_cases hls : v1 < 128
        · have hv : runeR (c :: r) = (0, 0) := by rw [HF.out, if_pos (.inl hls)]
          have gls : decide ((v1 : Int) < 128) = true := decide_eq_true (by omega)
          have HV := Lib.hid hv
          clear hv hls
          go_wp2
          go_ret2
          exact ⟨by rw [HV.out]; rfl, rfl⟩
        · have hcall := isrune_any w v1 (by omega)
          have gls : decide ((v1 : Int) < 128) = false := decide_eq_false (by omega)
          have hvF : Utf8.valid (v1 : Int) = false → runeR (c :: r) = (0, 0) := fun h => by rw [HF.out, if_pos (.inr h)]
          have hvT : Utf8.valid (v1 : Int) = true → runeR (c :: r) = (v1, 2) := fun h => by rw [HF.out, if_neg (by rw [h]; simp; omega)]
          have HC := Lib.hid hcall; have HVF := Lib.hid hvF; have HVT := Lib.hid hvT
          clear hcall hvF hvT hls hb0 hb1
          go_wp2_with fail
          refine HC.out.mono ?_
          rintro e w' ⟨rfl, rfl⟩
          cases hva : Utf8.valid (v1 : Int) with
          | false =>
            have HV := Lib.hid (HVF.out hva)
            clear hva HVF HVT
            go_wp2
            go_ret2
            exact ⟨by rw [HV.out]; rfl, rfl⟩
          | true =>
            have HV := Lib.hid (HVT.out hva)
            clear hva HVF HVT
            go_wp2
            go_ret2
            exact ⟨by rw [HV.out]; rfl, rfl⟩

set_option maxRecDepth 200000 in
set_option maxHeartbeats 8000000 in
theorem rune_d (w : World) (c : UInt8) (r : List UInt8) (hn : r.length + 1 ≤ 140737488351232) (hk : 224 ≤ c.toNat ∧ c.toNat < 240) : Calls Tryd.prog 111 #[.string ⟨(c :: r).toArray⟩] w fun e w' => RuneOut (c :: r) w e w' := by
  have hr := runeR_val (l := c :: r) (by simp)
  have h0 : (c :: r).getD 0 0 = c := rfl
  rw [h0] at hr
  have hc := c.toNat_lt
  have f1 : decide ((c.toNat : Int) < 128) = false := by simp; omega
  have f2 : decide ((192 : Int) ≤ (c.toNat : Int)) = true := by simp; omega
  have f3 : decide ((c.toNat : Int) < 224) = false := by simp; omega
  have f4 : decide ((224 : Int) ≤ (c.toNat : Int)) = true := by simp; omega
  have f5 : decide ((c.toNat : Int) < 240) = true := by simp; omega
  have f6 : decide ((240 : Int) ≤ (c.toNat : Int)) = false := by simp; omega
  have f7 : decide ((c.toNat : Int) < 248) = true := by simp; omega
  rw [valR3 hk] at hr
  simp only [List.length_cons] at hr
  by_cases hlen : r.length + 1 < 3
  · have hv : runeR (c :: r) = (0, 0) := by rw [hr, if_pos hlen]
    have HV := Lib.hid hv
    have hw : IntKind.i64.wrap ((c.toNat : Int) - 224) = (c.toNat : Int) - 224 := IntWalk.i64_in _ ⟨by omega, by omega⟩
    have hl3 : (r.length : Int) + 1 < 3 := by omega
    clear hv hr h0
    go_enter Tryd.func111, Tryd.ntmps111
    go_wp2
    go_ret2
    exact ⟨by rw [HV.out]; rfl, rfl⟩
  · rw [if_neg hlen] at hr
    have hr0 : 0 < r.length := by omega
    have ht0 := r[0].toNat_lt
    rw [show (c :: r).getD 1 0 = r[0] from getD1 c r 0 hr0] at hr
    have hr1 : 1 < r.length := by omega
    have ht1 := r[1].toNat_lt
    rw [show (c :: r).getD 2 0 = r[1] from getD1 c r 1 hr1] at hr
    have hl3 : ¬ (r.length : Int) + 1 < 3 := by omega
    have hw : IntKind.i64.wrap ((c.toNat : Int) - 224) = ((c.toNat - 224 : Nat) : Int) := by
      rw [show ((c.toNat : Int) - 224) = ((c.toNat - 224 : Nat) : Int) by omega]
      exact IntWalk.i64_in _ ⟨by omega, by omega⟩
    clear h0 hlen
    obtain ⟨v0, hv0⟩ : ∃ v0 : Nat, v0 = (c.toNat - 224) := ⟨_, rfl⟩
    obtain ⟨v1, hv1⟩ : ∃ v1 : Nat, v1 = (64 * v0 + r[0].toNat - 128) := ⟨_, rfl⟩
    obtain ⟨v2, hv2⟩ : ∃ v2 : Nat, v2 = (64 * v1 + r[1].toNat - 128) := ⟨_, rfl⟩
    rw [← hv0] at hw hr
    rw [← hv1] at hr
    rw [← hv2] at hr
    have HR := Lib.hid hr
    clear hr
    have HV0 := Lib.hid hv0
    have HV1 := Lib.hid hv1
    have HV2 := Lib.hid hv2
    have hb0 : v0 < 64 := by omega
    have hb1 : v1 < 8192 := by omega
    have hb2 : v2 < 524288 := by omega
    clear hv0 hv1 hv2
    go_enter Tryd.func111, Tryd.ntmps111
    go_wp2
    go_loop [6, 8] (fun vv iv => (iv = .int .i64 1 ∧ vv = .int .i64 (v0 : Int)) ∨ (iv = .int .i64 2 ∧ vv = .int .i64 (v1 : Int) ∧ ctR r[0].toNat = true) ∨ (iv = .int .i64 3 ∧ vv = .int .i64 (v2 : Int) ∧ ctR r[0].toNat = true ∧ ctR r[1].toNat = true)) (fun _ iv => 3 - (RowKit.intOf iv).toNat)
    case atStart => exact .inl ⟨rfl, rfl⟩
    case round =>
      rcases hrel with ⟨rfl, rfl⟩ | ⟨rfl, rfl, c0⟩ | ⟨rfl, rfl, c0, c1⟩
      · cases hcd : ctR r[0].toNat with
        | true =>
          obtain ⟨_, p2, p3⟩ := ct_mod hcd
          have dlt : decide ((r[0].toNat : Int) < 128) = false := by simp; omega
          have dge : decide ((192 : Int) ≤ (r[0].toNat : Int)) = false := by simp; omega
          have w1 : IntKind.i64.wrap (64 * (v0 : Int)) = 64 * (v0 : Int) := IntWalk.i64_in _ ⟨by omega, by omega⟩
          have w2 : IntKind.i64.wrap (64 * (v0 : Int) + (r[0].toNat : Int)) = 64 * (v0 : Int) + (r[0].toNat : Int) := IntWalk.i64_in _ ⟨by omega, by omega⟩
          have w3 : IntKind.i64.wrap (64 * (v0 : Int) + (r[0].toNat : Int) - 128) = (v1 : Int) := by
            rw [show (64 * (v0 : Int) + (r[0].toNat : Int) - 128) = (v1 : Int) by have := HV1.out; omega]
            exact IntWalk.i64_in _ ⟨by omega, by omega⟩
          have HC := Lib.hid hcd; have HW3 := Lib.hid w3
          have HE := Lib.hid (by have := HV1.out; omega : (64 : Int) * (v0 : Int) + (r[0].toNat : Int) - 128 = (v1 : Int))
          clear hcd
          go_wp2
          go_round
          case rel => exact .inr (.inl (⟨by first | rfl | go_num, by first | rfl | exact congrArg (Value.int IntKind.i64) HE.out, by first | exact HC.out | trivial⟩))
          case measure => simp [RowKit.intOf]
        | false =>
          have hv : runeR (c :: r) = (0, 0) := by
            have h := HR.out
            simp only [hcd, if_true] at h
            exact h
          have HV := Lib.hid hv
          have hd : r[0].toNat < 128 ∨ 192 ≤ r[0].toNat := by
            unfold ctR at hcd
            simp only [Bool.and_eq_false_iff, decide_eq_false_iff_not] at hcd
            omega
          clear hv hcd
          rcases hd with hd | hd
          · have dlt : decide ((r[0].toNat : Int) < 128) = true := by simp; omega
            go_wp2
            go_ret2
            exact ⟨by rw [HV.out]; rfl, rfl⟩
          · have dlt : decide ((r[0].toNat : Int) < 128) = false := by simp; omega
            have dge : decide ((192 : Int) ≤ (r[0].toNat : Int)) = true := by simp; omega
            go_wp2
            go_ret2
            exact ⟨by rw [HV.out]; rfl, rfl⟩
      · cases hcd : ctR r[1].toNat with
        | true =>
          obtain ⟨_, p2, p3⟩ := ct_mod hcd
          have dlt : decide ((r[1].toNat : Int) < 128) = false := by simp; omega
          have dge : decide ((192 : Int) ≤ (r[1].toNat : Int)) = false := by simp; omega
          have w1 : IntKind.i64.wrap (64 * (v1 : Int)) = 64 * (v1 : Int) := IntWalk.i64_in _ ⟨by omega, by omega⟩
          have w2 : IntKind.i64.wrap (64 * (v1 : Int) + (r[1].toNat : Int)) = 64 * (v1 : Int) + (r[1].toNat : Int) := IntWalk.i64_in _ ⟨by omega, by omega⟩
          have w3 : IntKind.i64.wrap (64 * (v1 : Int) + (r[1].toNat : Int) - 128) = (v2 : Int) := by
            rw [show (64 * (v1 : Int) + (r[1].toNat : Int) - 128) = (v2 : Int) by have := HV2.out; omega]
            exact IntWalk.i64_in _ ⟨by omega, by omega⟩
          have HC := Lib.hid hcd; have HW3 := Lib.hid w3
          have HE := Lib.hid (by have := HV2.out; omega : (64 : Int) * (v1 : Int) + (r[1].toNat : Int) - 128 = (v2 : Int))
          clear hcd
          go_wp2
          go_round
          case rel => exact .inr (.inr (⟨by first | rfl | go_num, by first | rfl | exact congrArg (Value.int IntKind.i64) HE.out, by first | exact c0 | trivial, by first | exact HC.out | trivial⟩))
          case measure => simp [RowKit.intOf]
        | false =>
          have hv : runeR (c :: r) = (0, 0) := by
            have h := HR.out
            simp only [c0, hcd, if_true, Bool.true_eq_false, if_false] at h
            exact h
          have HV := Lib.hid hv
          have hd : r[1].toNat < 128 ∨ 192 ≤ r[1].toNat := by
            unfold ctR at hcd
            simp only [Bool.and_eq_false_iff, decide_eq_false_iff_not] at hcd
            omega
          clear hv hcd
          rcases hd with hd | hd
          · have dlt : decide ((r[1].toNat : Int) < 128) = true := by simp; omega
            go_wp2
            go_ret2
            exact ⟨by rw [HV.out]; rfl, rfl⟩
          · have dlt : decide ((r[1].toNat : Int) < 128) = false := by simp; omega
            have dge : decide ((192 : Int) ≤ (r[1].toNat : Int)) = true := by simp; omega
            go_wp2
            go_ret2
            exact ⟨by rw [HV.out]; rfl, rfl⟩
      · skip
        have h := HR.out
        simp only [c0, c1, Bool.true_eq_false, if_false] at h
        unfold finR at h
        have HF := Lib.hid h
        clear h
        by_cases hls : v2 < 2048
        · have hv : runeR (c :: r) = (0, 0) := by rw [HF.out, if_pos (.inl hls)]
          have gls : decide ((v2 : Int) < 2048) = true := decide_eq_true (by omega)
          have HV := Lib.hid hv
          clear hv hls
          go_wp2
          go_ret2
          exact ⟨by rw [HV.out]; rfl, rfl⟩
        · have hcall := isrune_any w v2 (by omega)
          have gls : decide ((v2 : Int) < 2048) = false := decide_eq_false (by omega)
          have hvF : Utf8.valid (v2 : Int) = false → runeR (c :: r) = (0, 0) := fun h => by rw [HF.out, if_pos (.inr h)]
          have hvT : Utf8.valid (v2 : Int) = true → runeR (c :: r) = (v2, 3) := fun h => by rw [HF.out, if_neg (by rw [h]; simp; omega)]
          have HC := Lib.hid hcall; have HVF := Lib.hid hvF; have HVT := Lib.hid hvT
          clear hcall hvF hvT hls hb0 hb1 hb2
          go_wp2_with fail
          refine HC.out.mono ?_
          rintro e w' ⟨rfl, rfl⟩
          cases hva : Utf8.valid (v2 : Int) with
          | false =>
            have HV := Lib.hid (HVF.out hva)
            clear hva HVF HVT
            go_wp2
            go_ret2
            exact ⟨by rw [HV.out]; rfl, rfl⟩
          | true =>
            have HV := Lib.hid (HVT.out hva)
            clear hva HVF HVT
            go_wp2
            go_ret2
            exact ⟨by rw [HV.out]; rfl, rfl⟩

set_option maxRecDepth 200000 in
set_option maxHeartbeats 8000000 in
theorem rune_e (w : World) (c : UInt8) (r : List UInt8) (hn : r.length + 1 ≤ 140737488351232) (hk : 240 ≤ c.toNat ∧ c.toNat < 248) : Calls Tryd.prog 111 #[.string ⟨(c :: r).toArray⟩] w fun e w' => RuneOut (c :: r) w e w' := by
  have hr := runeR_val (l := c :: r) (by simp)
  have h0 : (c :: r).getD 0 0 = c := rfl
  rw [h0] at hr
  have hc := c.toNat_lt
  have f1 : decide ((c.toNat : Int) < 128) = false := by simp; omega
  have f2 : decide ((192 : Int) ≤ (c.toNat : Int)) = true := by simp; omega
  have f3 : decide ((c.toNat : Int) < 224) = false := by simp; omega
  have f4 : decide ((224 : Int) ≤ (c.toNat : Int)) = true := by simp; omega
  have f5 : decide ((c.toNat : Int) < 240) = false := by simp; omega
  have f6 : decide ((240 : Int) ≤ (c.toNat : Int)) = true := by simp; omega
  have f7 : decide ((c.toNat : Int) < 248) = true := by simp; omega
  rw [valR4 hk] at hr
  simp only [List.length_cons] at hr
  by_cases hlen : r.length + 1 < 4
  · have hv : runeR (c :: r) = (0, 0) := by rw [hr, if_pos hlen]
    have HV := Lib.hid hv
    have hw : IntKind.i64.wrap ((c.toNat : Int) - 240) = (c.toNat : Int) - 240 := IntWalk.i64_in _ ⟨by omega, by omega⟩
    have hl3 : (r.length : Int) + 1 < 4 := by omega
    clear hv hr h0
    go_enter Tryd.func111, Tryd.ntmps111
    go_wp2
    go_ret2
    exact ⟨by rw [HV.out]; rfl, rfl⟩
  · rw [if_neg hlen] at hr
    have hr0 : 0 < r.length := by omega
    have ht0 := r[0].toNat_lt
    rw [show (c :: r).getD 1 0 = r[0] from getD1 c r 0 hr0] at hr
    have hr1 : 1 < r.length := by omega
    have ht1 := r[1].toNat_lt
    rw [show (c :: r).getD 2 0 = r[1] from getD1 c r 1 hr1] at hr
    have hr2 : 2 < r.length := by omega
    have ht2 := r[2].toNat_lt
    rw [show (c :: r).getD 3 0 = r[2] from getD1 c r 2 hr2] at hr
    have hl3 : ¬ (r.length : Int) + 1 < 4 := by omega
    have hw : IntKind.i64.wrap ((c.toNat : Int) - 240) = ((c.toNat - 240 : Nat) : Int) := by
      rw [show ((c.toNat : Int) - 240) = ((c.toNat - 240 : Nat) : Int) by omega]
      exact IntWalk.i64_in _ ⟨by omega, by omega⟩
    clear h0 hlen
    obtain ⟨v0, hv0⟩ : ∃ v0 : Nat, v0 = (c.toNat - 240) := ⟨_, rfl⟩
    obtain ⟨v1, hv1⟩ : ∃ v1 : Nat, v1 = (64 * v0 + r[0].toNat - 128) := ⟨_, rfl⟩
    obtain ⟨v2, hv2⟩ : ∃ v2 : Nat, v2 = (64 * v1 + r[1].toNat - 128) := ⟨_, rfl⟩
    obtain ⟨v3, hv3⟩ : ∃ v3 : Nat, v3 = (64 * v2 + r[2].toNat - 128) := ⟨_, rfl⟩
    rw [← hv0] at hw hr
    rw [← hv1] at hr
    rw [← hv2] at hr
    rw [← hv3] at hr
    have HR := Lib.hid hr
    clear hr
    have HV0 := Lib.hid hv0
    have HV1 := Lib.hid hv1
    have HV2 := Lib.hid hv2
    have HV3 := Lib.hid hv3
    have hb0 : v0 < 64 := by omega
    have hb1 : v1 < 8192 := by omega
    have hb2 : v2 < 524288 := by omega
    have hb3 : v3 < 33554432 := by omega
    clear hv0 hv1 hv2 hv3
    go_enter Tryd.func111, Tryd.ntmps111
    go_wp2
    go_loop [6, 8] (fun vv iv => (iv = .int .i64 1 ∧ vv = .int .i64 (v0 : Int)) ∨ (iv = .int .i64 2 ∧ vv = .int .i64 (v1 : Int) ∧ ctR r[0].toNat = true) ∨ (iv = .int .i64 3 ∧ vv = .int .i64 (v2 : Int) ∧ ctR r[0].toNat = true ∧ ctR r[1].toNat = true) ∨ (iv = .int .i64 4 ∧ vv = .int .i64 (v3 : Int) ∧ ctR r[0].toNat = true ∧ ctR r[1].toNat = true ∧ ctR r[2].toNat = true)) (fun _ iv => 4 - (RowKit.intOf iv).toNat)
    case atStart => exact .inl ⟨rfl, rfl⟩
    case round =>
      rcases hrel with ⟨rfl, rfl⟩ | ⟨rfl, rfl, c0⟩ | ⟨rfl, rfl, c0, c1⟩ | ⟨rfl, rfl, c0, c1, c2⟩
      · cases hcd : ctR r[0].toNat with
        | true =>
          obtain ⟨_, p2, p3⟩ := ct_mod hcd
          have dlt : decide ((r[0].toNat : Int) < 128) = false := by simp; omega
          have dge : decide ((192 : Int) ≤ (r[0].toNat : Int)) = false := by simp; omega
          have w1 : IntKind.i64.wrap (64 * (v0 : Int)) = 64 * (v0 : Int) := IntWalk.i64_in _ ⟨by omega, by omega⟩
          have w2 : IntKind.i64.wrap (64 * (v0 : Int) + (r[0].toNat : Int)) = 64 * (v0 : Int) + (r[0].toNat : Int) := IntWalk.i64_in _ ⟨by omega, by omega⟩
          have w3 : IntKind.i64.wrap (64 * (v0 : Int) + (r[0].toNat : Int) - 128) = (v1 : Int) := by
            rw [show (64 * (v0 : Int) + (r[0].toNat : Int) - 128) = (v1 : Int) by have := HV1.out; omega]
            exact IntWalk.i64_in _ ⟨by omega, by omega⟩
          have HC := Lib.hid hcd; have HW3 := Lib.hid w3
          have HE := Lib.hid (by have := HV1.out; omega : (64 : Int) * (v0 : Int) + (r[0].toNat : Int) - 128 = (v1 : Int))
          clear hcd
          go_wp2
          go_round
          case rel => exact .inr (.inl (⟨by first | rfl | go_num, by first | rfl | exact congrArg (Value.int IntKind.i64) HE.out, by first | exact HC.out | trivial⟩))
          case measure => simp [RowKit.intOf]
        | false =>
          have hv : runeR (c :: r) = (0, 0) := by
            have h := HR.out
            simp only [hcd, if_true] at h
            exact h
          have HV := Lib.hid hv
          have hd : r[0].toNat < 128 ∨ 192 ≤ r[0].toNat := by
            unfold ctR at hcd
            simp only [Bool.and_eq_false_iff, decide_eq_false_iff_not] at hcd
            omega
          clear hv hcd
          rcases hd with hd | hd
          · have dlt : decide ((r[0].toNat : Int) < 128) = true := by simp; omega
            go_wp2
            go_ret2
            exact ⟨by rw [HV.out]; rfl, rfl⟩
          · have dlt : decide ((r[0].toNat : Int) < 128) = false := by simp; omega
            have dge : decide ((192 : Int) ≤ (r[0].toNat : Int)) = true := by simp; omega
            go_wp2
            go_ret2
            exact ⟨by rw [HV.out]; rfl, rfl⟩
      · cases hcd : ctR r[1].toNat with
        | true =>
          obtain ⟨_, p2, p3⟩ := ct_mod hcd
          have dlt : decide ((r[1].toNat : Int) < 128) = false := by simp; omega
          have dge : decide ((192 : Int) ≤ (r[1].toNat : Int)) = false := by simp; omega
          have w1 : IntKind.i64.wrap (64 * (v1 : Int)) = 64 * (v1 : Int) := IntWalk.i64_in _ ⟨by omega, by omega⟩
          have w2 : IntKind.i64.wrap (64 * (v1 : Int) + (r[1].toNat : Int)) = 64 * (v1 : Int) + (r[1].toNat : Int) := IntWalk.i64_in _ ⟨by omega, by omega⟩
          have w3 : IntKind.i64.wrap (64 * (v1 : Int) + (r[1].toNat : Int) - 128) = (v2 : Int) := by
            rw [show (64 * (v1 : Int) + (r[1].toNat : Int) - 128) = (v2 : Int) by have := HV2.out; omega]
            exact IntWalk.i64_in _ ⟨by omega, by omega⟩
          have HC := Lib.hid hcd; have HW3 := Lib.hid w3
          have HE := Lib.hid (by have := HV2.out; omega : (64 : Int) * (v1 : Int) + (r[1].toNat : Int) - 128 = (v2 : Int))
          clear hcd
          go_wp2
          go_round
          case rel => exact .inr (.inr (.inl (⟨by first | rfl | go_num, by first | rfl | exact congrArg (Value.int IntKind.i64) HE.out, by first | exact c0 | trivial, by first | exact HC.out | trivial⟩)))
          case measure => simp [RowKit.intOf]
        | false =>
          have hv : runeR (c :: r) = (0, 0) := by
            have h := HR.out
            simp only [c0, hcd, if_true, Bool.true_eq_false, if_false] at h
            exact h
          have HV := Lib.hid hv
          have hd : r[1].toNat < 128 ∨ 192 ≤ r[1].toNat := by
            unfold ctR at hcd
            simp only [Bool.and_eq_false_iff, decide_eq_false_iff_not] at hcd
            omega
          clear hv hcd
          rcases hd with hd | hd
          · have dlt : decide ((r[1].toNat : Int) < 128) = true := by simp; omega
            go_wp2
            go_ret2
            exact ⟨by rw [HV.out]; rfl, rfl⟩
          · have dlt : decide ((r[1].toNat : Int) < 128) = false := by simp; omega
            have dge : decide ((192 : Int) ≤ (r[1].toNat : Int)) = true := by simp; omega
            go_wp2
            go_ret2
            exact ⟨by rw [HV.out]; rfl, rfl⟩
      · cases hcd : ctR r[2].toNat with
        | true =>
          obtain ⟨_, p2, p3⟩ := ct_mod hcd
          have dlt : decide ((r[2].toNat : Int) < 128) = false := by simp; omega
          have dge : decide ((192 : Int) ≤ (r[2].toNat : Int)) = false := by simp; omega
          have w1 : IntKind.i64.wrap (64 * (v2 : Int)) = 64 * (v2 : Int) := IntWalk.i64_in _ ⟨by omega, by omega⟩
          have w2 : IntKind.i64.wrap (64 * (v2 : Int) + (r[2].toNat : Int)) = 64 * (v2 : Int) + (r[2].toNat : Int) := IntWalk.i64_in _ ⟨by omega, by omega⟩
          have w3 : IntKind.i64.wrap (64 * (v2 : Int) + (r[2].toNat : Int) - 128) = (v3 : Int) := by
            rw [show (64 * (v2 : Int) + (r[2].toNat : Int) - 128) = (v3 : Int) by have := HV3.out; omega]
            exact IntWalk.i64_in _ ⟨by omega, by omega⟩
          have HC := Lib.hid hcd; have HW3 := Lib.hid w3
          have HE := Lib.hid (by have := HV3.out; omega : (64 : Int) * (v2 : Int) + (r[2].toNat : Int) - 128 = (v3 : Int))
          clear hcd
          go_wp2
          go_round
          case rel => exact .inr (.inr (.inr (⟨by first | rfl | go_num, by first | rfl | exact congrArg (Value.int IntKind.i64) HE.out, by first | exact c0 | trivial, by first | exact c1 | trivial, by first | exact HC.out | trivial⟩)))
          case measure => simp [RowKit.intOf]
        | false =>
          have hv : runeR (c :: r) = (0, 0) := by
            have h := HR.out
            simp only [c0, c1, hcd, if_true, Bool.true_eq_false, if_false] at h
            exact h
          have HV := Lib.hid hv
          have hd : r[2].toNat < 128 ∨ 192 ≤ r[2].toNat := by
            unfold ctR at hcd
            simp only [Bool.and_eq_false_iff, decide_eq_false_iff_not] at hcd
            omega
          clear hv hcd
          rcases hd with hd | hd
          · have dlt : decide ((r[2].toNat : Int) < 128) = true := by simp; omega
            go_wp2
            go_ret2
            exact ⟨by rw [HV.out]; rfl, rfl⟩
          · have dlt : decide ((r[2].toNat : Int) < 128) = false := by simp; omega
            have dge : decide ((192 : Int) ≤ (r[2].toNat : Int)) = true := by simp; omega
            go_wp2
            go_ret2
            exact ⟨by rw [HV.out]; rfl, rfl⟩
      · skip
        have h := HR.out
        simp only [c0, c1, c2, Bool.true_eq_false, if_false] at h
        unfold finR at h
        have HF := Lib.hid h
        clear h
        by_cases hls : v3 < 65536
        · have hv : runeR (c :: r) = (0, 0) := by rw [HF.out, if_pos (.inl hls)]
          have gls : decide ((v3 : Int) < 65536) = true := decide_eq_true (by omega)
          have HV := Lib.hid hv
          clear hv hls
          go_wp2
          go_ret2
          exact ⟨by rw [HV.out]; rfl, rfl⟩
        · have hcall := isrune_any w v3 (by omega)
          have gls : decide ((v3 : Int) < 65536) = false := decide_eq_false (by omega)
          have hvF : Utf8.valid (v3 : Int) = false → runeR (c :: r) = (0, 0) := fun h => by rw [HF.out, if_pos (.inr h)]
          have hvT : Utf8.valid (v3 : Int) = true → runeR (c :: r) = (v3, 4) := fun h => by rw [HF.out, if_neg (by rw [h]; simp; omega)]
          have HC := Lib.hid hcall; have HVF := Lib.hid hvF; have HVT := Lib.hid hvT
          clear hcall hvF hvT hls hb0 hb1 hb2 hb3
          go_wp2_with fail
          refine HC.out.mono ?_
          rintro e w' ⟨rfl, rfl⟩
          cases hva : Utf8.valid (v3 : Int) with
          | false =>
            have HV := Lib.hid (HVF.out hva)
            clear hva HVF HVT
            go_wp2
            go_ret2
            exact ⟨by rw [HV.out]; rfl, rfl⟩
          | true =>
            have HV := Lib.hid (HVT.out hva)
            clear hva HVF HVT
            go_wp2
            go_ret2
            exact ⟨by rw [HV.out]; rfl, rfl⟩

set_option maxRecDepth 200000 in
set_option maxHeartbeats 8000000 in
theorem rune_f (w : World) (c : UInt8) (r : List UInt8) (hn : r.length + 1 ≤ 140737488351232) (hk : 248 ≤ c.toNat) : Calls Tryd.prog 111 #[.string ⟨(c :: r).toArray⟩] w fun e w' => RuneOut (c :: r) w e w' := by
  have hr := runeR_val (l := c :: r) (by simp)
  have h0 : (c :: r).getD 0 0 = c := rfl
  rw [h0] at hr
  have hc := c.toNat_lt
  rw [valR0 (.inr hk)] at hr
  have f1 : decide ((c.toNat : Int) < 128) = false := by simp; omega
  have f2 : decide ((192 : Int) ≤ (c.toNat : Int)) = true := by simp; omega
  have f3 : decide ((c.toNat : Int) < 224) = false := by simp; omega
  have f4 : decide ((224 : Int) ≤ (c.toNat : Int)) = true := by simp; omega
  have f5 : decide ((c.toNat : Int) < 240) = false := by simp; omega
  have f6 : decide ((240 : Int) ≤ (c.toNat : Int)) = true := by simp; omega
  have f7 : decide ((c.toNat : Int) < 248) = false := by simp; omega
  have HR := Lib.hid hr
  clear hr hk h0
  go_enter Tryd.func111, Tryd.ntmps111
  go_wp2
  go_ret2
  exact ⟨by rw [HR.out]; rfl, rfl⟩

set_option maxRecDepth 100000 in
theorem rune_any (w : World) (l : List UInt8) (hn : l.length ≤ reachBytes) : Calls Tryd.prog 111 #[.string ⟨l.toArray⟩] w fun e w' => RuneOut l w e w' := by
  have hn : l.length ≤ 140737488351232 := hn
  cases l with
  | nil =>
    have hr : runeR [] = (0, 0) := rfl
    have HR := Lib.hid hr; clear hr
    go_enter Tryd.func111, Tryd.ntmps111
    go_wp2
    go_ret2
    exact ⟨by rw [HR.out]; rfl, rfl⟩
  | cons c r =>
    simp only [List.length_cons] at hn
    have hc := c.toNat_lt
    have hcl : c.toNat < 128 ∨ (128 ≤ c.toNat ∧ c.toNat < 192) ∨ (192 ≤ c.toNat ∧ c.toNat < 224) ∨ (224 ≤ c.toNat ∧ c.toNat < 240) ∨ (240 ≤ c.toNat ∧ c.toNat < 248) ∨ 248 ≤ c.toNat := by omega
    rcases hcl with hk | hk | hk | hk | hk | hk
    · exact rune_a w c r hn hk
    · exact rune_b w c r hn hk
    · exact rune_c w c r hn hk
    · exact rune_d w c r hn hk
    · exact rune_e w c r hn hk
    · exact rune_f w c r hn hk
end Go.Proofs.YtgcicljklejmjaaDoor

/- The document's bytes of keys: turned, escaped, keyed. -/
namespace Go.Proofs.YtgcicljklejmjaaDoor
open Go.RowKit Go.Shelf
open Tr

/-- A row of bytes, no older than lo. -/
structure NB (lo : Nat) (w : World) (A : Option Addr) (n c : Nat) (bs : List UInt8) : Prop where
  ow : Ow w 5 1 (.slice A n c) n (bvs bs)
  len : n = bs.length
  new : ∀ k, Value.ownBlock (.slice A n c) = some k → lo ≤ k
theorem NB.nil (lo : Nat) (w : World) : NB lo w none 0 0 [] := ⟨⟨by simp [bvs], .inl ⟨rfl, rfl⟩⟩, rfl, by simp [Value.ownBlock]⟩
theorem NB.kept0 {lo : Nat} {w w1 : World} {A : Option Addr} {n c : Nat} {bs : List UInt8} (h : NB lo w A n c bs) (f : Fr no w w1) : NB lo w1 A n c bs := ⟨h.ow.kept0 f, h.len, h.new⟩
theorem NB.more {lo : Nat} {w1 w2 : World} {A A' : Option Addr} {n N c c' m : Nat} {bs cs : List UInt8} (h : NB lo w1 A n c bs) (hm : m = cs.length) (hN : N = n + m) (ho : Ow w2 5 1 (.slice A' N c') N (bvs bs ++ bvs cs)) (hs : Stays w1 w2 (.slice A n c) (.slice A' N c') n N) (hlo : lo ≤ w1.heap.size) : NB lo w2 A' N c' (bs ++ cs) := by
  refine ⟨by rw [bvs_append]; exact ho, by rw [hN, List.length_append, h.len, hm], fun k hk => ?_⟩
  rcases hs with ⟨A1, c1, h1, h2⟩ | h1
  · simp only [Value.slice.injEq] at h1 h2
    obtain ⟨rfl, -, rfl⟩ := h1
    obtain ⟨rfl, -, rfl⟩ := h2
    refine h.new k ?_
    cases A' with
    | none => simp [Value.ownBlock] at hk
    | some a => exact hk
  · exact Nat.le_trans hlo (h1 k hk).1
theorem NB.fr {lo : Nat} {w w1 w2 : World} {A : Option Addr} {n c : Nat} {bs : List UInt8} (h : NB lo w A n c bs) (f : Fr (fun k => Value.ownBlock (.slice A n c) = some k) w1 w2) : Fr (fun k => lo ≤ k) w1 w2 := f.mono (fun k _ hk => h.new k hk)

/-- Turned, if it falls. -/
def tf (down : Bool) (l : List UInt8) : List UInt8 := if down then turn l else l
theorem tf_len (down : Bool) (l : List UInt8) : (tf down l).length = l.length := by cases down; rfl; exact turn_len l
theorem tf_snoc (down : Bool) (l : List UInt8) (j : Nat) (h : j < l.length) : tf down (l.take (j + 1)) = tf down (l.take j) ++ tf down [l[j]] := by
  rw [List.take_succ_eq_append_getElem h]
  cases down
  · rfl
  · exact List.map_append
set_option maxRecDepth 100000 in
theorem sub255_fin : ∀ y : Fin 256, IntKind.u8.wrap (255 - (y.val : Int)) = ((255 - y.val : Nat) : Int) := by decide
theorem sub255 (c : UInt8) : IntKind.u8.wrap (255 - (c.toNat : Int)) = ((255 - c.toNat : Nat) : Int) := sub255_fin ⟨c.toNat, c.toNat_lt⟩
theorem bvs_not (c : UInt8) : [Value.int .u8 ((255 - c.toNat : Nat) : Int)] = bvs [~~~c] := by
  unfold bvs
  rw [List.map_singleton]
  unfold Bv
  rw [UInt8.toNat_not]
  rfl

set_option maxRecDepth 100000 in
set_option maxHeartbeats 2000000 in
theorem turned4_any (w : World) (X : Value) (b : List UInt8) (down : Bool) (hx : Sl w 1 X b.length (bvs b)) (hl : b.length ≤ 1000000000) :
    Calls Tryd.prog 41 #[X, .bool down] w fun e w' => ∃ A c, e = .returned (.slice A b.length c) ∧ NB w.heap.size w' A b.length c (tf down b) ∧ Fr no w w' := by
  obtain ⟨B, d, rfl, hc1, hc2⟩ := hx.form
  have HX := Lib.hid hx; clear hx hc1 hc2
  go_enter Tryd.func41, Tryd.ntmps41
  go_wp2
  go_loopw [5, 6] (fun ov iv wr => ∃ (j : Nat) (A : Option Addr) (c : Nat), j ≤ b.length ∧ ov = .slice A j c ∧ iv = .int .i64 (j : Int) ∧ NB w.heap.size wr A j c (tf down (b.take j)) ∧ Fr no w wr) (fun _ iv _ => b.length - (intOf iv).toNat)
  case atStart => exact ⟨0, none, 0, Nat.zero_le _, rfl, rfl, by rw [List.take_zero]; cases down <;> exact NB.nil _ _, Fr.refl _ _⟩
  case round =>
    obtain ⟨j, A, c, hj, rfl, rfl, hnb, hfr⟩ := hrel
    have HNB := Lib.hid hnb; have FR := Lib.hid hfr
    clear hnb hfr
    by_cases hlt : j < b.length
    · obtain ⟨g, o, rfl, hcell⟩ := (HX.out.kept0 FR.out).byte j hlt
      have hst := tf_snoc down b j hlt
      have HST := Lib.hid hst; clear hst
      cases down with
      | true =>
        have hs := sub255 b[j]
        go_wp2_with (at_builtin; refine wpList_apo (n := j) (xs := bvs (tf true (b.take j))) (m := 1) (news := [Value.int .u8 ((255 - b[j].toNat : Nat) : Int)]) rfl (.tmp 21) (.tmp 23) 22 rfl tbB (HNB.out.ow.kept0 (by (repeat first | exact Fr.refl _ _ | exact Fr.drewN _ _ _ | apply Fr.drew | apply Fr.alloc | apply Fr.setAt | apply Fr.moreN))) (Sl.built _ _ _) rfl rfl (by rw [bvs_not]; exact bvs_one _) ?ta ?tb ?tc)
        case ta => simp only [maxLen]; omega
        case tb => omega
        case tc =>
          intro A' N c' w7 hN ho7 _ hf7 hs7
          rw [bvs_not] at ho7
          have hnb7 := (HNB.out.kept0 (by (repeat first | exact Fr.refl _ _ | exact Fr.drewN _ _ _ | apply Fr.drew | apply Fr.alloc | apply Fr.setAt | apply Fr.moreN) : Fr no wr _)).more (cs := [~~~b[j]]) rfl hN ho7 hs7 (Nat.le_trans FR.out.size (Fr.size (by (repeat first | exact Fr.refl _ _ | exact Fr.drewN _ _ _ | apply Fr.drew | apply Fr.alloc | apply Fr.setAt | apply Fr.moreN) : Fr no wr _)))
          have hfr7 : Fr no w w7 := (FR.out.trans (by (repeat first | exact Fr.refl _ _ | exact Fr.drewN _ _ _ | apply Fr.drew | apply Fr.alloc | apply Fr.setAt | apply Fr.moreN) : Fr no wr _) (fun _ _ h => h)).trans hf7 (fun k hk h => by have := HNB.out.new k h; omega)
          subst hN
          have h7 : tf true (b.take (j + 1)) = tf true (b.take j) ++ [~~~b[j]] := HST.out
          rw [← h7] at hnb7
          have HN7 := Lib.hid hnb7; have F7 := Lib.hid hfr7
          clear ho7 hf7 hs7 hnb7 hfr7 h7 hs
          go_wp2
          go_roundw
          case rel => exact ⟨j + 1, A', c', hlt, rfl, by first | rfl | go_num, HN7.out, F7.out⟩
          case measure => simp [intOf]; omega
      | false =>
        go_wp2_with (at_builtin; refine wpList_apo (n := j) (xs := bvs (tf false (b.take j))) (m := 1) (news := bvs [b[j]]) rfl (.tmp 21) (.tmp 23) 22 rfl tbB (HNB.out.ow.kept0 (by (repeat first | exact Fr.refl _ _ | exact Fr.drewN _ _ _ | apply Fr.drew | apply Fr.alloc | apply Fr.setAt | apply Fr.moreN))) (Sl.built _ _ _) rfl rfl (bvs_one _) ?fa ?fb ?fc)
        case fa => simp only [maxLen]; omega
        case fb => omega
        case fc =>
          intro A' N c' w7 hN ho7 _ hf7 hs7
          have hnb7 := (HNB.out.kept0 (by (repeat first | exact Fr.refl _ _ | exact Fr.drewN _ _ _ | apply Fr.drew | apply Fr.alloc | apply Fr.setAt | apply Fr.moreN) : Fr no wr _)).more (cs := [b[j]]) rfl hN ho7 hs7 (Nat.le_trans FR.out.size (Fr.size (by (repeat first | exact Fr.refl _ _ | exact Fr.drewN _ _ _ | apply Fr.drew | apply Fr.alloc | apply Fr.setAt | apply Fr.moreN) : Fr no wr _)))
          have hfr7 : Fr no w w7 := (FR.out.trans (by (repeat first | exact Fr.refl _ _ | exact Fr.drewN _ _ _ | apply Fr.drew | apply Fr.alloc | apply Fr.setAt | apply Fr.moreN) : Fr no wr _) (fun _ _ h => h)).trans hf7 (fun k hk h => by have := HNB.out.new k h; omega)
          subst hN
          have h7 : tf false (b.take (j + 1)) = tf false (b.take j) ++ [b[j]] := HST.out
          rw [← h7] at hnb7
          have HN7 := Lib.hid hnb7; have F7 := Lib.hid hfr7
          clear ho7 hf7 hs7 hnb7 hfr7 h7
          go_wp2
          go_roundw
          case rel => exact ⟨j + 1, A', c', hlt, rfl, by first | rfl | go_num, HN7.out, F7.out⟩
          case measure => simp [intOf]; omega
    · obtain rfl : j = b.length := by omega
      have h7 := HNB.out
      rw [List.take_length] at h7
      have HN7 := Lib.hid h7
      clear h7 HNB
      go_wp2
      go_ret
      exact ⟨A, c, rfl, HN7.out, FR.out⟩
end Go.Proofs.YtgcicljklejmjaaDoor
