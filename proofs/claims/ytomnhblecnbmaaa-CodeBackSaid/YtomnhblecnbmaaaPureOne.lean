/- Plain laws: a number has one form; of two numbers the greater one is never shorter. -/
import Derived.Test.YtomnhblecnbmaaaCodeU
namespace Go.Proofs.Ytomnhblecnbmaaa

theorem vl_vi : ∀ (l : List UInt8) (i v : Nat), i ≤ 9 → (vl i v l).2.2 = 0 → ∃ y m, (vl i v l).1 = v + y * 2 ^ (7 * i) ∧ (vl i v l).2.1 = i + m ∧ 1 ≤ m ∧ m ≤ l.length ∧ vi y = l.take m ∧ (0 < i → 0 < y)
  | [], i, v, _, h => by simp [vl] at h
  | c :: r, i, v, hi, h => by
    have hc := c.toNat_lt
    unfold vl at h ⊢
    split at h
    · simp at h
    · rename_i h1
      rw [if_neg h1] at *
      split at h
      · rename_i h2
        rw [if_pos h2] at *
        refine ⟨c.toNat, 1, ?_, rfl, by omega, by simp, ?_, fun hp => ?_⟩
        · simp only []
          rw [Nat.mod_eq_of_lt h2]
        · rw [vi, dif_pos h2]
          simp
        · by_cases e : c.toNat = 0
          · exact absurd (Or.inr ⟨hp, e⟩) h1
          · omega
      · rename_i h2
        rw [if_neg h2] at *
        have h9 : ¬ i = 9 := fun e => h1 (Or.inl ⟨e, by omega⟩)
        obtain ⟨y, m, e1, e2, hm1, hm2, e3, hy⟩ := vl_vi r (i + 1) _ (by omega) h
        have hy := hy (by omega)
        refine ⟨c.toNat % 128 + 128 * y, m + 1, ?_, by rw [e2]; omega, by omega, by simp; omega, ?_, fun _ => by omega⟩
        · rw [e1]
          have e : 2 ^ (7 * (i + 1)) = 128 * 2 ^ (7 * i) := by rw [Nat.mul_add, Nat.pow_add]; omega
          rw [e, Nat.add_mul, Nat.add_assoc]
          congr 2
          rw [← Nat.mul_assoc, Nat.mul_comm y 128]
        · rw [vi, dif_neg (by omega)]
          have a1 : (c.toNat % 128 + 128 * y) % 128 + 128 = c.toNat := by omega
          have a2 : (c.toNat % 128 + 128 * y) / 128 = y := by omega
          rw [a1, a2, e3]
          simp

theorem one_form (l : List UInt8) (h : (vl 0 0 l).2.2 = 0) : vi (vl 0 0 l).1 = l.take (vl 0 0 l).2.1 ∧ 1 ≤ (vl 0 0 l).2.1 ∧ (vl 0 0 l).2.1 ≤ l.length := by
  obtain ⟨y, m, e1, e2, h1, h2, e3, _⟩ := vl_vi l 0 0 (by omega) h
  simp at e1 e2
  rw [e1, e2]
  exact ⟨e3, h1, h2⟩

theorem vi_mono : ∀ (n a b : Nat), b ≤ n → a ≤ b → (vi a).length ≤ (vi b).length := by
  intro n
  induction n using Nat.strongRecOn with
  | _ n ih =>
    intro a b hb hab
    conv => lhs; rw [vi]
    conv => rhs; rw [vi]
    by_cases h1 : a < 128
    · rw [dif_pos h1]
      split
      · simp
      · simp
    · rw [dif_neg h1, dif_neg (by omega)]
      have := ih (n / 128) (by omega) (a / 128) (b / 128) (by omega) (by omega)
      simp; omega

theorem var_case (l : List UInt8) : ((RS.var l ⟨0, 0, 0⟩).2.e = 0 ∧ 1 ≤ (RS.var l ⟨0, 0, 0⟩).2.pos ∧ (RS.var l ⟨0, 0, 0⟩).2.pos ≤ l.length ∧ vi (RS.var l ⟨0, 0, 0⟩).1 = l.take (RS.var l ⟨0, 0, 0⟩).2.pos) ∨
    ((RS.var l ⟨0, 0, 0⟩).2.e ≠ 0 ∧ (RS.var l ⟨0, 0, 0⟩).2.pos = 0 ∧ (RS.var l ⟨0, 0, 0⟩).1 = 0) := by
  unfold RS.var
  simp only [ne_eq, not_true, if_false, List.drop_zero, Nat.zero_add]
  by_cases h : (vl 0 0 l).2.2 = 0
  · rw [if_neg (by simp [h])]
    obtain ⟨h1, h2, h3⟩ := one_form l h
    exact .inl ⟨rfl, h2, h3, h1⟩
  · rw [if_pos h]
    exact .inr ⟨by simp [RS.fail, h], by simp [RS.fail], rfl⟩
end Go.Proofs.Ytomnhblecnbmaaa
