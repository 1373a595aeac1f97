import Derived.Test.YtijcleiekafoiaaGreatDoorMb06
import Derived.Test.YtijcleiekafoiaaGreatDoorMb05
import Derived.Laws.RangeAny

/- value.letter, value.Name: may a text be a field's name? (printed by mkname.py) -/
namespace Go.Proofs.YtijcleiekafoiaaGreatDoor
open Go.RowKit

def letterR (n : Nat) : Bool := (decide (97 ≤ n) && decide (n ≤ 122)) || (decide (65 ≤ n) && decide (n ≤ 90)) || n == 95 || decide (128 ≤ n)
theorem letterR_byte (c : UInt8) : letterR c.toNat = letterB c := by
  unfold letterR letterB
  have h1 : (decide (97 ≤ c)) = decide (97 ≤ c.toNat) := decide_eq_decide.2 UInt8.le_iff_toNat_le
  have h2 : (decide (c ≤ 122)) = decide (c.toNat ≤ 122) := decide_eq_decide.2 UInt8.le_iff_toNat_le
  have h3 : (decide (65 ≤ c)) = decide (65 ≤ c.toNat) := decide_eq_decide.2 UInt8.le_iff_toNat_le
  have h4 : (decide (c ≤ 90)) = decide (c.toNat ≤ 90) := decide_eq_decide.2 UInt8.le_iff_toNat_le
  have h5 : (decide (128 ≤ c)) = decide (128 ≤ c.toNat) := decide_eq_decide.2 UInt8.le_iff_toNat_le
  have h6 : (c == 95) = (c.toNat == 95) := by
    rw [Bool.eq_iff_iff, beq_iff_eq, beq_iff_eq]
    exact ⟨fun e => by rw [e]; rfl, fun e => UInt8.toNat_inj.1 (by simpa using e)⟩
  rw [h1, h2, h3, h4, h5, h6]

theorem letter_any (w : World) (n : Nat) (_ : n ≤ 2147483647) : Calls Tryz.prog 129 #[.int .i32 n] w fun e w' => e = .returned (.bool (letterR n)) ∧ w' = w := by
  have hr : n < 65 ∨ (65 ≤ n ∧ n ≤ 90) ∨ (91 ≤ n ∧ n ≤ 94) ∨ n = 95 ∨ n = 96 ∨ (97 ≤ n ∧ n ≤ 122) ∨ (123 ≤ n ∧ n ≤ 127) ∨ 128 ≤ n := by omega
  rcases hr with h | h | h | h | h | h | h | h
  · have hv : letterR n = false := by unfold letterR; simp; omega
    have fa : decide ((97 : Int) ≤ (n : Int)) = false := by simp; omega
    have fb : decide ((n : Int) ≤ 122) = true := by simp; omega
    have fc : decide ((65 : Int) ≤ (n : Int)) = false := by simp; omega
    have fd : decide ((n : Int) ≤ 90) = true := by simp; omega
    have fe : ((n : Int) == 95) = false := by simp; omega
    have ff : decide ((128 : Int) ≤ (n : Int)) = false := by simp; omega
    rw [hv]
    clear hv h
    go_enter Tryz.func129, Tryz.ntmps129
    go_wp2
    go_ret
    exact ⟨rfl, rfl⟩
  · have hv : letterR n = true := by unfold letterR; simp; omega
    have fa : decide ((97 : Int) ≤ (n : Int)) = false := by simp; omega
    have fb : decide ((n : Int) ≤ 122) = true := by simp; omega
    have fc : decide ((65 : Int) ≤ (n : Int)) = true := by simp; omega
    have fd : decide ((n : Int) ≤ 90) = true := by simp; omega
    have fe : ((n : Int) == 95) = false := by simp; omega
    have ff : decide ((128 : Int) ≤ (n : Int)) = false := by simp; omega
    rw [hv]
    clear hv h
    go_enter Tryz.func129, Tryz.ntmps129
    go_wp2
    go_ret
    exact ⟨rfl, rfl⟩
  · have hv : letterR n = false := by unfold letterR; simp; omega
    have fa : decide ((97 : Int) ≤ (n : Int)) = false := by simp; omega
    have fb : decide ((n : Int) ≤ 122) = true := by simp; omega
    have fc : decide ((65 : Int) ≤ (n : Int)) = true := by simp; omega
    have fd : decide ((n : Int) ≤ 90) = false := by simp; omega
    have fe : ((n : Int) == 95) = false := by simp; omega
    have ff : decide ((128 : Int) ≤ (n : Int)) = false := by simp; omega
    rw [hv]
    clear hv h
    go_enter Tryz.func129, Tryz.ntmps129
    go_wp2
    go_ret
    exact ⟨rfl, rfl⟩
  · have hv : letterR n = true := by unfold letterR; simp; omega
    have fa : decide ((97 : Int) ≤ (n : Int)) = false := by simp; omega
    have fb : decide ((n : Int) ≤ 122) = true := by simp; omega
    have fc : decide ((65 : Int) ≤ (n : Int)) = true := by simp; omega
    have fd : decide ((n : Int) ≤ 90) = false := by simp; omega
    have fe : ((n : Int) == 95) = true := by simp; omega
    have ff : decide ((128 : Int) ≤ (n : Int)) = false := by simp; omega
    rw [hv]
    clear hv h
    go_enter Tryz.func129, Tryz.ntmps129
    go_wp2
    go_ret
    exact ⟨rfl, rfl⟩
  · have hv : letterR n = false := by unfold letterR; simp; omega
    have fa : decide ((97 : Int) ≤ (n : Int)) = false := by simp; omega
    have fb : decide ((n : Int) ≤ 122) = true := by simp; omega
    have fc : decide ((65 : Int) ≤ (n : Int)) = true := by simp; omega
    have fd : decide ((n : Int) ≤ 90) = false := by simp; omega
    have fe : ((n : Int) == 95) = false := by simp; omega
    have ff : decide ((128 : Int) ≤ (n : Int)) = false := by simp; omega
    rw [hv]
    clear hv h
    go_enter Tryz.func129, Tryz.ntmps129
    go_wp2
    go_ret
    exact ⟨rfl, rfl⟩
  · have hv : letterR n = true := by unfold letterR; simp; omega
    have fa : decide ((97 : Int) ≤ (n : Int)) = true := by simp; omega
    have fb : decide ((n : Int) ≤ 122) = true := by simp; omega
    have fc : decide ((65 : Int) ≤ (n : Int)) = true := by simp; omega
    have fd : decide ((n : Int) ≤ 90) = false := by simp; omega
    have fe : ((n : Int) == 95) = false := by simp; omega
    have ff : decide ((128 : Int) ≤ (n : Int)) = false := by simp; omega
    rw [hv]
    clear hv h
    go_enter Tryz.func129, Tryz.ntmps129
    go_wp2
    go_ret
    exact ⟨rfl, rfl⟩
  · have hv : letterR n = false := by unfold letterR; simp; omega
    have fa : decide ((97 : Int) ≤ (n : Int)) = true := by simp; omega
    have fb : decide ((n : Int) ≤ 122) = false := by simp; omega
    have fc : decide ((65 : Int) ≤ (n : Int)) = true := by simp; omega
    have fd : decide ((n : Int) ≤ 90) = false := by simp; omega
    have fe : ((n : Int) == 95) = false := by simp; omega
    have ff : decide ((128 : Int) ≤ (n : Int)) = false := by simp; omega
    rw [hv]
    clear hv h
    go_enter Tryz.func129, Tryz.ntmps129
    go_wp2
    go_ret
    exact ⟨rfl, rfl⟩
  · have hv : letterR n = true := by unfold letterR; simp; omega
    have fa : decide ((97 : Int) ≤ (n : Int)) = true := by simp; omega
    have fb : decide ((n : Int) ≤ 122) = false := by simp; omega
    have fc : decide ((65 : Int) ≤ (n : Int)) = true := by simp; omega
    have fd : decide ((n : Int) ≤ 90) = false := by simp; omega
    have fe : ((n : Int) == 95) = false := by simp; omega
    have ff : decide ((128 : Int) ≤ (n : Int)) = true := by simp; omega
    rw [hv]
    clear hv h
    go_enter Tryz.func129, Tryz.ntmps129
    go_wp2
    go_ret
    exact ⟨rfl, rfl⟩

/-- A rune that begins with a byte from 128 on: no letter of its own, and its bytes all from 128 on. -/
theorem decode_high (s : ByteArray) (pos : Nat) (h : pos < s.size) (hb : 128 ≤ (s.get! pos).toNat) :
    128 ≤ (Utf8.decode s pos).1 ∧ pos + (Utf8.decode s pos).2 ≤ s.size ∧ ∀ k, k < (Utf8.decode s pos).2 → 128 ≤ (s.get! (pos + k)).toNat := by
  have h0 := (s.get! (pos + 0)).toNat_lt; have h1 := (s.get! (pos + 1)).toNat_lt; have h2 := (s.get! (pos + 2)).toNat_lt; have h3 := (s.get! (pos + 3)).toNat_lt
  have hb0 : 128 ≤ (s.get! (pos + 0)).toNat := hb
  simp only [Utf8.decode]
  repeat' split
  all_goals simp only [Utf8.runeError, Bool.and_eq_true, decide_eq_true_eq, beq_iff_eq, ge_iff_le] at *
  all_goals refine ⟨by omega, by omega, fun k hk => ?_⟩
  all_goals rcases k with _ | _ | _ | _ | k
  all_goals first | exact hb0 | omega | (simp only [Nat.zero_add, Nat.reduceAdd] at *; omega)

/-- May a byte stand there? -/
def okB (k : Nat) (c : UInt8) : Bool := letterB c || (decide (k ≠ 0) && digitB c)
theorem letters_iff (l : List UInt8) : lettersB l = true ↔ ∀ k (h : k < l.length), okB k l[k] = true := by
  cases l with
  | nil => simp [lettersB]
  | cons c r =>
    unfold lettersB
    rw [Bool.and_eq_true, List.all_eq_true]
    constructor
    · rintro ⟨h1, h2⟩ k hk
      cases k with
      | zero => simp [okB, h1]
      | succ k =>
        have hk2 : k < r.length := by simpa using hk
        have := h2 r[k] (List.getElem_mem _)
        simp only [List.getElem_cons_succ, okB]
        simpa using this
    · intro h
      refine ⟨?_, fun x hx => ?_⟩
      · have := h 0 (by simp)
        simp only [List.getElem_cons_zero, okB] at this
        simpa using this
      · obtain ⟨k, hk, rfl⟩ := List.getElem_of_mem hx
        have := h (k + 1) (by simp; omega)
        simp only [List.getElem_cons_succ, okB] at this
        simpa using this
theorem digit_facts (r : Nat) : (48 ≤ r ∧ r ≤ 57) ∨ r < 48 ∨ 57 < r := by omega
theorem digitB_iff (c : UInt8) : digitB c = true ↔ 48 ≤ c.toNat ∧ c.toNat ≤ 57 := by
  unfold digitB
  rw [Bool.and_eq_true, decide_eq_true_eq, decide_eq_true_eq, UInt8.le_iff_toNat_le, UInt8.le_iff_toNat_le]
  exact Iff.rfl
theorem get_at (l : List UInt8) (k : Nat) (h : k < l.length) : (ByteArray.mk l.toArray).get! k = l[k] := by
  show l.toArray[k]! = l[k]
  simp [h]
/-- A rune and its bytes: both may stand there, or neither. -/
theorem rune_ok (l : List UInt8) (pos : Nat) (h : pos < l.length) :
    pos + (Utf8.decode ⟨l.toArray⟩ pos).2 ≤ l.length ∧ 1 ≤ (Utf8.decode ⟨l.toArray⟩ pos).2 ∧
    ((letterR (Utf8.decode ⟨l.toArray⟩ pos).1 = true ∨ (pos ≠ 0 ∧ 48 ≤ (Utf8.decode ⟨l.toArray⟩ pos).1 ∧ (Utf8.decode ⟨l.toArray⟩ pos).1 ≤ 57)) ↔
      ∀ k (hk : k < l.length), pos ≤ k → k < pos + (Utf8.decode ⟨l.toArray⟩ pos).2 → okB k l[k] = true) := by
  have hs : pos < (ByteArray.mk l.toArray).size := h
  by_cases ha : l[pos].toNat < 128
  · have e2 : (ByteArray.mk l.toArray)[pos]'hs = l[pos] := by
      show l.toArray[pos] = l[pos]
      simp
    have e := decode_ascii ⟨l.toArray⟩ pos hs (by rw [e2]; exact ha)
    rw [e2] at e
    rw [e]
    refine ⟨by simp; omega, Nat.le_refl _, ?_⟩
    simp only
    rw [letterR_byte]
    constructor
    · intro h2 k hk h3 h4
      obtain rfl : k = pos := by omega
      unfold okB
      rw [Bool.or_eq_true, Bool.and_eq_true, decide_eq_true_eq, digitB_iff]
      exact h2
    · intro h2
      have := h2 pos h (Nat.le_refl _) (by omega)
      unfold okB at this
      rw [Bool.or_eq_true, Bool.and_eq_true, decide_eq_true_eq, digitB_iff] at this
      exact this
  · obtain ⟨h1, h2, h3⟩ := decode_high ⟨l.toArray⟩ pos hs (by rw [get_at l pos h]; omega)
    refine ⟨h2, Lib.decode_width_pos _ _ hs, ?_⟩
    have hl : letterR (Utf8.decode ⟨l.toArray⟩ pos).1 = true := by unfold letterR; simp; omega
    constructor
    · intro _ k hk h4 h5
      have := h3 (k - pos) (by omega)
      rw [show pos + (k - pos) = k by omega, get_at l k hk] at this
      unfold okB
      rw [Bool.or_eq_true]
      left
      rw [← letterR_byte]
      unfold letterR; simp; omega
    · intro _; exact .inl hl

theorem next_any (P : Program) (w : World) (l : List UInt8) (pos r wd : Nat) (ty : TypeId) (h : pos < l.length) (hd : Utf8.decode ⟨l.toArray⟩ pos = (r, wd)) :
    (Instr.next (.pointer (some ⟨w.heap.size, 0, none⟩)) true ty).run P (w.iter ⟨l.toArray⟩ pos) = .ok (.tuple #[.bool true, .int .i64 pos, .int .i32 r]) (w.iter ⟨l.toArray⟩ (pos + wd)) := by
  have := run_next_any (P := P) w ⟨l.toArray⟩ pos ty h
  rw [hd] at this
  exact this

theorem name_bad {l : List UInt8} {pos r wd : Nat} (h : (letterR r = true ∨ (pos ≠ 0 ∧ 48 ≤ r ∧ r ≤ 57)) ↔ ∀ k (hk : k < l.length), pos ≤ k → k < pos + wd → okB k l[k] = true) (hn : ¬ (letterR r = true ∨ (pos ≠ 0 ∧ 48 ≤ r ∧ r ≤ 57))) : nameV l = false := by
  have : lettersB l = false := by
    cases hb : lettersB l with
    | false => rfl
    | true => exact absurd (h.2 fun k hk _ _ => (letters_iff l).1 hb k hk) hn
  unfold nameV
  rw [this, Bool.and_false]; rfl

set_option maxRecDepth 100000 in
set_option maxHeartbeats 2000000 in
theorem name_any (w : World) (l : List UInt8) (hl : l.length ≤ reachBytes) (hT : Tabs w) :
    Calls Tryz.prog 112 #[.string ⟨l.toArray⟩] w fun e w' => e = .returned (.bool (nameV l)) ∧ Fr no w w' := by
  have hlen : l.length ≤ 140737488351232 := hl
  have HL := Lib.hid hl; have HT := Lib.hid hT; clear hl hT
  go_enter Tryz.func112, Tryz.ntmps112
  go_wp2_with fail
  refine (valid_any w l HL.out HT.out).mono ?_
  rintro e w1 ⟨rfl, f1⟩
  have F1 := Lib.hid f1; clear f1
  cases hv : Lib.validD l with
  | false =>
    have HV := Lib.hid hv; clear hv
    go_wp2
    go_ret
    have : nameV l = false := by unfold nameV; rw [HV.out]; rfl
    rw [this]
    exact ⟨rfl, F1.out⟩
  | true =>
    have HV := Lib.hid hv; clear hv
    go_wp2_with fail
    refine (runes_any w1 l HL.out).mono ?_
    rintro e w2 ⟨rfl, f2⟩
    have F2 := Lib.hid (F1.out.trans f2 (fun _ _ h => h)); clear f2
    by_cases hc : 32 < Lib.runeCountL l
    · have hc1 : decide ((32 : Int) < (Lib.runeCountL l : Int)) = true := by simp; omega
      have HC := Lib.hid hc; clear hc
      go_wp2
      go_ret
      have : nameV l = false := by unfold nameV; have := HC.out; rw [show decide (Lib.runeCountL l ≤ 32) = false from decide_eq_false (by omega), Bool.and_false]; rfl
      rw [this]
      exact ⟨rfl, F2.out⟩
    · have hc1 : decide ((32 : Int) < (Lib.runeCountL l : Int)) = false := by simp; omega
      have HC := Lib.hid hc; clear hc
      go_wp2
      clear hc1
      go_loopw [2] (fun r wr => r = .bool false ∧ ∃ pos : Nat, wr = w2.iter ⟨l.toArray⟩ pos ∧ pos ≤ l.length ∧ ∀ k (h : k < l.length), k < pos → okB k l[k] = true) (fun _ wr => l.length - wr.iterPos w2.heap.size)
      case atStart => exact ⟨rfl, 0, rfl, Nat.zero_le _, fun k _ h => by omega⟩
      case round =>
        obtain ⟨rfl, pos, rfl, hpl, hok⟩ := hrel
        by_cases hp : pos < l.length
        · obtain ⟨r1, r2, r3⟩ := rune_ok l pos hp
          have hle := decode_le ⟨l.toArray⟩ pos
          obtain ⟨r, wd, hd⟩ : ∃ r wd, Utf8.decode ⟨l.toArray⟩ pos = (r, wd) := ⟨_, _, rfl⟩
          have hnx := fun ty => next_any Tryz.prog w2 l pos r wd ty hp hd
          rw [hd] at r1 r2 r3 hle
          simp only at r1 r2 r3 hle
          have HR3 := Lib.hid r3; have HOK := Lib.hid hok; clear r3 hok hd
          cases hlr : letterR r with
          | true =>
            have HLR := Lib.hid hlr; clear hlr
            go_wp2_with fail
            refine (letter_any _ r hle).mono ?_
            rintro e w3 ⟨rfl, rfl⟩
            rw [HLR.out]
            clear hnx
            go_wp2
            go_roundw
            case rel => exact ⟨rfl, pos + wd, rfl, r1, fun k hk hlt => by
                by_cases h : k < pos
                · exact HOK.out k hk h
                · exact HR3.out.1 (.inl HLR.out) k hk (by omega) hlt⟩
            case measure => simp; omega
          | false =>
            have HLR := Lib.hid hlr; clear hlr
            by_cases h0 : pos = 0
            · have g0 : ((pos : Int) == 0) = true := by simp; omega
              have H0 := Lib.hid h0; clear h0
              go_wp2_with fail
              refine (letter_any _ r hle).mono ?_
              rintro e w3 ⟨rfl, rfl⟩
              rw [HLR.out]
              clear hnx
              go_wp2
              go_ret
              have : nameV l = false := name_bad HR3.out (fun h => h.elim (fun h => by rw [HLR.out] at h; cases h) (fun h => h.1 H0.out))
              rw [this]
              exact ⟨rfl, F2.out.trans ((Fr.refl no w2).alloc _) (fun _ _ h => h)⟩
            · have g0 : ((pos : Int) == 0) = false := by simp; omega
              have H0 := Lib.hid h0; clear h0
              by_cases h1 : r < 48
              · have g1 : decide ((r : Int) < 48) = true := by simp; omega
                have H1 := Lib.hid h1; clear h1
                go_wp2_with fail
                refine (letter_any _ r hle).mono ?_
                rintro e w3 ⟨rfl, rfl⟩
                rw [HLR.out]
                clear hnx
                go_wp2
                go_ret
                have : nameV l = false := name_bad HR3.out (fun h => h.elim (fun h => by rw [HLR.out] at h; cases h) (fun h => by have := H1.out; omega))
                rw [this]
                exact ⟨rfl, F2.out.trans ((Fr.refl no w2).alloc _) (fun _ _ h => h)⟩
              · have g1 : decide ((r : Int) < 48) = false := by simp; omega
                have H1 := Lib.hid h1; clear h1
                by_cases h2 : 57 < r
                · have g2 : decide ((57 : Int) < (r : Int)) = true := by simp; omega
                  have H2 := Lib.hid h2; clear h2
                  go_wp2_with fail
                  refine (letter_any _ r hle).mono ?_
                  rintro e w3 ⟨rfl, rfl⟩
                  rw [HLR.out]
                  clear hnx
                  go_wp2
                  go_ret
                  have : nameV l = false := name_bad HR3.out (fun h => h.elim (fun h => by rw [HLR.out] at h; cases h) (fun h => by have := H2.out; omega))
                  rw [this]
                  exact ⟨rfl, F2.out.trans ((Fr.refl no w2).alloc _) (fun _ _ h => h)⟩
                · have g2 : decide ((57 : Int) < (r : Int)) = false := by simp; omega
                  have H2 := Lib.hid h2; clear h2
                  go_wp2_with fail
                  refine (letter_any _ r hle).mono ?_
                  rintro e w3 ⟨rfl, rfl⟩
                  rw [HLR.out]
                  clear hnx
                  go_wp2
                  go_roundw
                  case rel => exact ⟨rfl, pos + wd, rfl, r1, fun k hk hlt => by
                      by_cases h : k < pos
                      · exact HOK.out k hk h
                      · exact HR3.out.1 (.inr ⟨H0.out, by have := H1.out; omega, by have := H2.out; omega⟩) k hk (by omega) hlt⟩
                  case measure => simp; omega
        · obtain rfl : pos = l.length := by omega
          have hnx : ∀ ty, (Instr.next (.pointer (some ⟨w2.heap.size, 0, none⟩)) true ty).run Tryz.prog (w2.iter ⟨l.toArray⟩ l.length) = _ := fun ty => run_next_end w2 ⟨l.toArray⟩ l.length ty hp
          have HOK := Lib.hid hok; clear hok
          have hlet : lettersB l = true := (letters_iff l).2 fun k hk => HOK.out k hk hk
          have HLET := Lib.hid hlet; clear hlet
          go_wp2
          go_ret
          have : nameV l = !l.isEmpty := by
            unfold nameV
            have := HC.out
            rw [HV.out, HLET.out, show decide (Lib.runeCountL l ≤ 32) = true from decide_eq_true (by omega)]
            rfl
          rw [this]
          exact ⟨rfl, F2.out.trans ((Fr.refl no w2).alloc _) (fun _ _ h => h)⟩
end Go.Proofs.YtijcleiekafoiaaGreatDoor

/- value.bare, value.own: what is wrong with a value by itself. (printed by mkown4.py) -/
namespace Go.Proofs.YtijcleiekafoiaaGreatDoor
open Go.RowKit
open Tr

def bareAgg (x : Tr Mm) : Value := .agg #[.int .u8 x.k.toNat, .bool (x.k == 2 && x.b), .int .i64 (if x.k = 3 then x.i else 0), .string ⟨(if x.k = 4 then x.t else []).toArray⟩, .slice none 0 0, .slice none 0 0, .slice none 0 0]
theorem heap3 (w : World) (o1 o2 o3 : Obj) : (((w.alloc o1).alloc o2).alloc o3).heap[w.heap.size + 1]? = some o2 := by
  have h := heap_alloc_new (w.alloc o1) o2
  rw [World.size_alloc] at h
  exact ((Fr.refl no _).alloc o3).heap h (fun h => h)
theorem kk (k c : UInt8) : ((k.toNat : Int) == (c.toNat : Int)) = (k == c) := by
  rw [Bool.eq_iff_iff, beq_iff_eq, beq_iff_eq]
  exact ⟨fun e => UInt8.toNat_inj.1 (by omega), fun e => by rw [e]⟩

set_option maxRecDepth 100000 in
set_option maxHeartbeats 2000000 in
theorem bare_any (w : World) (x : Tr Mm) (hx : Tr.Good w x) : Calls Tryz.prog 111 #[x.agg] w fun e w' => e = .returned (bareAgg x) ∧ Fr no w w' := by
  obtain ⟨BA, bc, LA, lc, FA, fc, hf⟩ := hx.node.forms
  rw [hf.agg]
  clear hf hx
  have k2 : ((x.k.toNat : Int) == 2) = (x.k == 2) := kk x.k 2
  have k3 : ((x.k.toNat : Int) == 3) = (x.k == 3) := kk x.k 3
  have k4 : ((x.k.toNat : Int) == 4) = (x.k == 4) := kk x.k 4
  unfold bareAgg
  rcases (show x.k = 2 ∨ x.k = 3 ∨ x.k = 4 ∨ (x.k ≠ 2 ∧ x.k ≠ 3 ∧ x.k ≠ 4) by
    by_cases h2 : x.k = 2
    · exact .inl h2
    · by_cases h3 : x.k = 3
      · exact .inr (.inl h3)
      · by_cases h4 : x.k = 4
        · exact .inr (.inr (.inl h4))
        · exact .inr (.inr (.inr ⟨h2, h3, h4⟩))) with h | h | h | ⟨h2, h3, h4⟩
  · rw [h] at k2 k3 k4 ⊢
    rw [show ((2 : UInt8) == 2) = true from rfl] at k2
    rw [show ((2 : UInt8) == 3) = false from rfl] at k3
    rw [show ((2 : UInt8) == 4) = false from rfl] at k4
    clear h
    go_enter Tryz.func111, Tryz.ntmps111
    go_wp2
    refine bodyPost_ret (results_cell_row (P := Tryz.prog) rfl _ _ (w.heap.size + 1) 27 _ (0, 0) _ rfl (heap3 _ _ _ _) Tryz.underlying27 rfl (by kernel_rfl)) rfl ?_
    exact ⟨rfl, by (repeat first | exact Fr.refl _ _ | exact Fr.drewN _ _ _ | apply Fr.drew | apply Fr.alloc | apply Fr.setAt | apply Fr.moreN)⟩
  · rw [h] at k2 k3 k4 ⊢
    rw [show ((3 : UInt8) == 2) = false from rfl] at k2
    rw [show ((3 : UInt8) == 3) = true from rfl] at k3
    rw [show ((3 : UInt8) == 4) = false from rfl] at k4
    clear h
    go_enter Tryz.func111, Tryz.ntmps111
    go_wp2
    refine bodyPost_ret (results_cell_row (P := Tryz.prog) rfl _ _ (w.heap.size + 1) 27 _ (0, 0) _ rfl (heap3 _ _ _ _) Tryz.underlying27 rfl (by kernel_rfl)) rfl ?_
    exact ⟨rfl, by (repeat first | exact Fr.refl _ _ | exact Fr.drewN _ _ _ | apply Fr.drew | apply Fr.alloc | apply Fr.setAt | apply Fr.moreN)⟩
  · rw [h] at k2 k3 k4 ⊢
    rw [show ((4 : UInt8) == 2) = false from rfl] at k2
    rw [show ((4 : UInt8) == 3) = false from rfl] at k3
    rw [show ((4 : UInt8) == 4) = true from rfl] at k4
    clear h
    go_enter Tryz.func111, Tryz.ntmps111
    go_wp2
    refine bodyPost_ret (results_cell_row (P := Tryz.prog) rfl _ _ (w.heap.size + 1) 27 _ (0, 0) _ rfl (heap3 _ _ _ _) Tryz.underlying27 rfl (by kernel_rfl)) rfl ?_
    exact ⟨rfl, by (repeat first | exact Fr.refl _ _ | exact Fr.drewN _ _ _ | apply Fr.drew | apply Fr.alloc | apply Fr.setAt | apply Fr.moreN)⟩
  · rw [beq_eq_false_iff_ne.2 h2] at k2 ⊢
    rw [beq_eq_false_iff_ne.2 h3] at k3
    rw [beq_eq_false_iff_ne.2 h4] at k4
    rw [if_neg h3, if_neg h4]
    clear h2 h3 h4
    go_enter Tryz.func111, Tryz.ntmps111
    go_wp2
    refine bodyPost_ret (results_cell_row (P := Tryz.prog) rfl _ _ (w.heap.size + 1) 27 _ (0, 0) _ rfl (heap3 _ _ _ _) Tryz.underlying27 rfl (by kernel_rfl)) rfl ?_
    exact ⟨rfl, by (repeat first | exact Fr.refl _ _ | exact Fr.drewN _ _ _ | apply Fr.drew | apply Fr.alloc | apply Fr.setAt | apply Fr.moreN)⟩

set_option maxRecDepth 100000 in
set_option maxHeartbeats 8000000 in
theorem own_bad (w : World) (x : Tr Mm) {BA LA FA : Option Addr} {bc lc fc : Nat} (b' : Bool) (i' : Int) (t' : List UInt8)
    (hba : ∀ W, Fr no w W → Calls Tryz.prog 111 #[.agg #[.int .u8 x.k.toNat, .bool x.b, .int .i64 x.i, .string ⟨x.t.toArray⟩, .slice BA x.bs.length bc, .slice LA x.l.length lc, .slice FA x.f.length fc]] W fun e w' => e = .returned (.agg #[.int .u8 x.k.toNat, .bool b', .int .i64 i', .string ⟨t'.toArray⟩, .slice none 0 0, .slice none 0 0, .slice none 0 0]) ∧ Fr no W w')
    (B1 B2 B3 P5 K5 P6 K6 P7 K7 D1 D2 : Bool) (e1 : (x.b == b') = B1) (e2 : (x.i == i') = B2) (e3 : (x.t == t') = B3) (p5 : ((x.bs.length : Int) == 0) = P5) (k5 : ((x.k.toNat : Int) == 5) = K5) (p6 : ((x.l.length : Int) == 0) = P6) (k6 : ((x.k.toNat : Int) == 6) = K6)
    (p7 : ((x.f.length : Int) == 0) = P7) (k7 : ((x.k.toNat : Int) == 7) = K7) (d1 : decide ((x.k.toNat : Int) < 1) = D1) (d2 : decide (7 < (x.k.toNat : Int)) = D2)
    (hbad : (!D1 && !D2 && B1 && B2 && B3 && (P5 || K5) && (P6 || K6) && (P7 || K7)) = false) :
    Calls Tryz.prog 71 #[.agg #[.int .u8 x.k.toNat, .bool x.b, .int .i64 x.i, .string ⟨x.t.toArray⟩, .slice BA x.bs.length bc, .slice LA x.l.length lc, .slice FA x.f.length fc]] w fun e w' => e = .returned (.int .u16 30) ∧ Fr no w w' := by
  have HBA := Lib.hid hba
  clear hba
  generalize (x.k.toNat : Int) = kz at *
  go_enter Tryz.func71, Tryz.ntmps71
  go_wp2_with fail
  refine (HBA.out _ (by (repeat first | exact Fr.refl _ _ | exact Fr.drewN _ _ _ | apply Fr.drew | apply Fr.alloc | apply Fr.setAt | apply Fr.moreN))).mono ?_
  rintro e w1 ⟨rfl, f1⟩
  have F1 := Lib.hid (Fr.trans (by (repeat first | exact Fr.refl _ _ | exact Fr.drewN _ _ _ | apply Fr.drew | apply Fr.alloc | apply Fr.setAt | apply Fr.moreN) : Fr no w _) f1 (fun _ _ h => h))
  have F2 := Lib.hid (F1.out.alloc (.cells #[.int .u8 kz, .bool b', .int .i64 i', .string ⟨t'.toArray⟩, .slice none 0 0, .slice none 0 0, .slice none 0 0] 27))
  have hb0 := f1.heap (heap_alloc_new w _) (fun h => h)
  have hbl := (Array.getElem?_eq_some_iff.1 hb0).1
  have q0 := cell_of_row w1 w.heap.size 0 _ _ (0, 0) hb0
  have q1 := cell_of_row w1 w.heap.size 1 _ _ (0, 0) hb0
  have q2 := cell_of_row w1 w.heap.size 2 _ _ (0, 0) hb0
  have q3 := cell_of_row w1 w.heap.size 3 _ _ (0, 0) hb0
  have q4 := cell_of_row w1 w.heap.size 4 _ _ (0, 0) hb0
  have q5 := cell_of_row w1 w.heap.size 5 _ _ (0, 0) hb0
  have q6 := cell_of_row w1 w.heap.size 6 _ _ (0, 0) hb0
  simp only [List.getElem?_toArray, List.getElem?_cons_succ, List.getElem?_cons_zero] at q0 q1 q2 q3 q4 q5 q6
  have HBAD := Lib.hid hbad
  clear f1 hb0 hbad
  go_wp2_with fail
  all_goals first
    | (exfalso; have h := HBAD.out; simp at h; done)
    | (refine bodyPost_ret (results_tmp rfl _ _ _) rfl ?_; exact ⟨rfl, F2.out⟩)
    | (exfalso; have h := HBAD.out; clear q0 q1 q2 q3 q4 q5 q6 HBAD F1 F2 HBA hbl; simp_all; done)
end Go.Proofs.YtijcleiekafoiaaGreatDoor
