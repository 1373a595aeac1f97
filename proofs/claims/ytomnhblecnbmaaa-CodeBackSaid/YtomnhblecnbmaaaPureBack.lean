/- Plain laws: what is written is read. -/
import Derived.Test.YtomnhblecnbmaaaPureOne
import Derived.Test.YtomnhblecnbmaaaPuts
namespace Go.Proofs.Ytomnhblecnbmaaa

theorem be_fx (v : Nat) : ∀ n, be (fx v n) = v % 256 ^ n
  | 0 => by simp [fx, be, Nat.mod_one]
  | n + 1 => by
    have key : ∀ (l : List UInt8) (z : Nat), l.foldl (fun v c => v * 256 + c.toNat) z = z * 256 ^ l.length + l.foldl (fun v c => v * 256 + c.toNat) 0 := by
      intro l
      induction l with
      | nil => intro z; simp
      | cons c l ih =>
        intro z
        simp only [List.foldl_cons, List.length_cons]
        rw [ih, ih (0 * 256 + c.toNat), Nat.pow_succ]
        simp only [Nat.zero_mul, Nat.zero_add, Nat.add_mul]
        rw [Nat.mul_assoc, Nat.mul_comm 256, ← Nat.mul_assoc, Nat.add_assoc]
    have h := be_fx v n
    unfold be at h ⊢
    simp only [fx, List.foldl_cons]
    rw [key, h, fx_length]
    simp only [Nat.zero_mul, Nat.zero_add, UInt8.toNat_ofNat']
    have e : 2 ^ (8 * n) = 256 ^ n := by rw [Nat.pow_mul]
    rw [e, Nat.pow_succ 256 n, Nat.mod_mul, show (2 : Nat) ^ 8 = 256 from rfl, Nat.mul_comm, Nat.add_comm]

theorem take_at {l pre m rest : List UInt8} {wh : Nat} (h : l = pre ++ m ++ rest) : RS.take l (m.length : Int) ⟨pre.length, 0, wh⟩ = (m, ⟨(pre ++ m).length, 0, wh⟩) := by
  subst h
  unfold RS.take
  rw [if_neg (by simp), if_neg (by omega), if_neg (by simp; omega)]
  simp

/-- The bytes of a number are read as that number. -/
theorem vl_at : ∀ (n y i v : Nat) (r : List UInt8), y ≤ n → i ≤ 9 → y * 2 ^ (7 * i) < 2 ^ 64 → (0 < i → 0 < y) → vl i v (vi y ++ r) = (v + y * 2 ^ (7 * i), i + (vi y).length, 0) := by
  intro n
  induction n using Nat.strongRecOn with
  | _ n ih =>
    intro y i v r hyn hi hy h0
    have h9 : i = 9 → y = 1 := fun e => by
      subst e
      have := h0 (by omega)
      simp only [Nat.reduceMul, Nat.reducePow] at hy
      omega
    rw [vi]
    split
    · rename_i h1
      simp only [List.cons_append, List.nil_append, List.length_cons, List.length_nil]
      unfold vl
      have e : (UInt8.ofNat y).toNat = y := by simp; omega
      rw [e, if_neg (by rintro (⟨a, b⟩ | ⟨a, b⟩); exact b (h9 a); have := h0 a; omega), if_pos h1, Nat.mod_eq_of_lt h1]
    · rename_i h1
      have hi9 : i ≠ 9 := fun e => by have := h9 e; omega
      simp only [List.cons_append, List.length_cons]
      unfold vl
      have e : (UInt8.ofNat (y % 128 + 128)).toNat = y % 128 + 128 := by simp; omega
      have e2 : 2 ^ (7 * (i + 1)) = 128 * 2 ^ (7 * i) := by rw [Nat.mul_add, Nat.pow_add]; omega
      have e3 : y / 128 * (128 * 2 ^ (7 * i)) + y % 128 * 2 ^ (7 * i) = y * 2 ^ (7 * i) := by
        rw [← Nat.mul_assoc, ← Nat.add_mul, Nat.div_add_mod']
      rw [e, if_neg (by rintro (⟨a, b⟩ | ⟨a, b⟩); exact hi9 a; omega), if_neg (by omega), ih (y / 128) (by omega) (y / 128) (i + 1) _ r (Nat.le_refl _) (by omega) (by rw [e2]; omega) (fun _ => by omega)]
      rw [show (y % 128 + 128) % 128 = y % 128 by omega, e2]
      congr 1
      · omega
      · congr 1; omega

theorem var_at {l pre rest : List UInt8} {y wh : Nat} (hy : y < 18446744073709551616) (h : l = pre ++ vi y ++ rest) : RS.var l ⟨pre.length, 0, wh⟩ = (y, ⟨(pre ++ vi y).length, 0, wh⟩) := by
  subst h
  unfold RS.var
  have e : (pre ++ vi y ++ rest).drop pre.length = vi y ++ rest := by rw [List.append_assoc]; simp
  have h1 := vl_at y y 0 0 rest (Nat.le_refl _) (by omega) (by simpa using hy) (by omega)
  rw [if_neg (by simp)]
  simp only [e, h1]
  simp

theorem uz_zz (x : Int) (h : -9223372036854775808 ≤ x) (h2 : x ≤ 9223372036854775807) : uz (zz x) = x := by
  unfold uz zz
  split <;> split <;> omega

theorem zz_lt (x : Int) (h : -9223372036854775808 ≤ x) (h2 : x ≤ 9223372036854775807) : zz x < 18446744073709551616 := by
  unfold zz; split <;> omega

theorem text_at {l pre m rest : List UInt8} {wh : Nat} (hm : m.length < 18446744073709551616) (h : l = pre ++ (vi m.length ++ m) ++ rest) : RS.text l ⟨pre.length, 0, wh⟩ = (m, ⟨(pre ++ (vi m.length ++ m)).length, 0, wh⟩) := by
  unfold RS.text
  have h1 := var_at (l := l) (pre := pre) (rest := m ++ rest) (y := m.length) (wh := wh) hm (by rw [h]; simp)
  rw [h1]
  have h2 := take_at (l := l) (pre := pre ++ vi m.length) (m := m) (rest := rest) (wh := wh) (by rw [h]; simp)
  simp only
  rw [if_neg (by rw [h]; simp; omega), h2]
  simp
end Go.Proofs.Ytomnhblecnbmaaa
