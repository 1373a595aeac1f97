/- The reader's fixed numbers, signed numbers, texts, bytes, and its end. -/
import Derived.Test.YtomnhblecnbmaaaCodeZ
namespace Go.Proofs.Ytomnhblecnbmaaa
open Go.RowKit

/-- Bytes as a number, the highest first. -/
def be (l : List UInt8) : Nat := l.foldl (fun v c => v * 256 + c.toNat) 0

theorem be_snoc (l : List UInt8) (c : UInt8) : be (l ++ [c]) = be l * 256 + c.toNat := by simp [be, List.foldl_append]
theorem be_lt (l : List UInt8) : be l < 256 ^ l.length := by
  have key : ∀ (n : Nat) (l : List UInt8), l.length = n → be l < 256 ^ n := by
    intro n
    induction n with
    | zero => intro l h; rw [List.eq_nil_of_length_eq_zero h]; simp [be]
    | succ n ih =>
      intro l h
      obtain ⟨m, c, rfl⟩ : ∃ m c, l = m ++ [c] := ⟨l.dropLast, l.getLast (by intro e; subst e; simp at h), (List.dropLast_concat_getLast _).symm⟩
      have := ih m (by simp at h; omega)
      have := c.toNat_lt
      rw [be_snoc, Nat.pow_succ]; omega
  exact key _ _ rfl

theorem take_len (l : List UInt8) (n : Int) (s : RS) : (s.take l n).1.length ≤ n.toNat := by
  unfold RS.take
  split
  · simp
  · split
    · simp
    · split
      · simp
      · simp; omega

set_option maxRecDepth 100000 in
set_option maxHeartbeats 400000 in
theorem whole_any (p : Nat) (w : World) (sv : Value) (l : List UInt8) (s : RS) (n : Int) (hn0 : 0 ≤ n) (hn8 : n ≤ 8) (hw : Rr w p sv l s) :
    Calls Try.prog 78 #[.int .i64 n, .func (.func 79) #[.pointer (some ⟨p, 0, none⟩)] #[]] w fun e w' => e = .returned (.int .u64 (be (s.take l n).1 : Int)) ∧ Rr w' p sv l (s.take l n).2 ∧ Fr (At p) w w' := by
  go_enter Try.func78, Try.ntmps78
  go_wp2_with fail
  refine (take_any p _ sv l s n (by omega) hw).mono ?_
  rintro e w1 ⟨v, rfl, hv, _, hr, hf⟩
  obtain ⟨A, c, rfl, hc1, hc2⟩ := hv.form
  have hbl : (s.take l n).1.length ≤ 8 := by have := take_len l n s; omega
  have HR := Lib.hid hr; have HF := Lib.hid hf; have HV := Lib.hid hv
  clear hr hf hv
  obtain ⟨bs, hbs⟩ : ∃ bs, bs = (s.take l n).1 := ⟨_, rfl⟩
  obtain ⟨s', hs'⟩ : ∃ s', s' = (s.take l n).2 := ⟨_, rfl⟩
  rw [← hbs] at hbl HV hc1 ⊢
  rw [← hs'] at HR
  have HB := Lib.hid hbs; have HS := Lib.hid hs'; clear hbs hs'
  go_wp2
  go_loop [4, 11] (fun v i => ∃ k : Nat, k ≤ bs.length ∧ i = .int .i64 k ∧ v = .int .u64 (be (bs.take k))) (fun _ i => bs.length - (intOf i).toNat)
  case atStart => exact ⟨0, Nat.zero_le _, rfl, rfl⟩
  case round =>
    obtain ⟨k, hk, rfl, rfl⟩ := hrel
    by_cases hlt : k < bs.length
    · obtain ⟨b, o, rfl, hc⟩ := HV.out.byte k hlt
      have hsn : bs.take (k + 1) = bs.take k ++ [bs[k]] := by rw [List.take_succ_eq_append_getElem hlt]
      have HSN := Lib.hid hsn; clear hsn
      obtain ⟨y, hy⟩ : ∃ y : UInt8, y = bs[k] := ⟨_, rfl⟩
      rw [← hy] at hc HSN
      clear hy
      have hbe := be_lt (bs.take k)
      rw [List.length_take, Nat.min_eq_left hk] at hbe
      have hbe2 : be (bs.take k) < 72057594037927936 := by
        have : 256 ^ k ≤ 256 ^ 7 := Nat.pow_le_pow_right (by omega) (by omega)
        omega
      have HBF := Lib.hid (eight (be (bs.take k)) y.toNat hbe2 y.toNat_lt)
      clear hbe hbe2
      go_wp2
      go_round
      case rel =>
        refine ⟨k + 1, by omega, by go_num, ?_⟩
        rw [HSN.out, be_snoc]
        rw [wrap_u64_id (y.toNat : Int) (by omega) (by have := y.toNat_lt; omega), HBF.out]
      case measure => simp [intOf]; omega
    · go_wp2
      go_ret
      refine ⟨?_, HS.out ▸ HR.out, HF.out⟩
      rw [← HB.out, List.take_of_length_le (by omega)]
      rfl

set_option maxHeartbeats 400000 in
theorem ru8_any (p : Nat) (w : World) (sv : Value) (l : List UInt8) (s : RS) (hw : Rr w p sv l s) :
    Calls Try.prog 28 #[.pointer (some ⟨p, 0, none⟩)] w fun e w' => e = .returned (.int .u8 (be (s.take l 1).1 : Int)) ∧ Rr w' p sv l (s.take l 1).2 ∧ Fr (At p) w w' := by
  have hb := be_lt (s.take l 1).1
  have hl := take_len l 1 s
  have h2 : 256 ^ (s.take l 1).1.length ≤ 256 ^ 1 := Nat.pow_le_pow_right (by omega) hl
  have h3 : (be (s.take l 1).1 : Int) < 256 := by simp only [Nat.reducePow] at h2; omega
  clear hb hl h2
  go_enter Try.func28, Try.ntmps28
  go_wp2_with fail
  refine (whole_any p _ sv l s 1 (by omega) (by omega) hw).mono ?_
  rintro e w1 ⟨rfl, hr, hf⟩
  have HR := Lib.hid hr; have HF := Lib.hid hf
  clear hr hf
  go_wp2
  go_ret
  exact ⟨rfl, HR.out, HF.out⟩

set_option maxHeartbeats 400000 in
theorem ru16_any (p : Nat) (w : World) (sv : Value) (l : List UInt8) (s : RS) (hw : Rr w p sv l s) :
    Calls Try.prog 29 #[.pointer (some ⟨p, 0, none⟩)] w fun e w' => e = .returned (.int .u16 (be (s.take l 2).1 : Int)) ∧ Rr w' p sv l (s.take l 2).2 ∧ Fr (At p) w w' := by
  have hb := be_lt (s.take l 2).1
  have hl := take_len l 2 s
  have h2 : 256 ^ (s.take l 2).1.length ≤ 256 ^ 2 := Nat.pow_le_pow_right (by omega) hl
  have h3 : (be (s.take l 2).1 : Int) < 65536 := by simp only [Nat.reducePow] at h2; omega
  clear hb hl h2
  go_enter Try.func29, Try.ntmps29
  go_wp2_with fail
  refine (whole_any p _ sv l s 2 (by omega) (by omega) hw).mono ?_
  rintro e w1 ⟨rfl, hr, hf⟩
  have HR := Lib.hid hr; have HF := Lib.hid hf
  clear hr hf
  go_wp2
  go_ret
  exact ⟨rfl, HR.out, HF.out⟩

set_option maxHeartbeats 400000 in
theorem ru32_any (p : Nat) (w : World) (sv : Value) (l : List UInt8) (s : RS) (hw : Rr w p sv l s) :
    Calls Try.prog 30 #[.pointer (some ⟨p, 0, none⟩)] w fun e w' => e = .returned (.int .u32 (be (s.take l 4).1 : Int)) ∧ Rr w' p sv l (s.take l 4).2 ∧ Fr (At p) w w' := by
  have hb := be_lt (s.take l 4).1
  have hl := take_len l 4 s
  have h2 : 256 ^ (s.take l 4).1.length ≤ 256 ^ 4 := Nat.pow_le_pow_right (by omega) hl
  have h3 : (be (s.take l 4).1 : Int) < 4294967296 := by simp only [Nat.reducePow] at h2; omega
  clear hb hl h2
  go_enter Try.func30, Try.ntmps30
  go_wp2_with fail
  refine (whole_any p _ sv l s 4 (by omega) (by omega) hw).mono ?_
  rintro e w1 ⟨rfl, hr, hf⟩
  have HR := Lib.hid hr; have HF := Lib.hid hf
  clear hr hf
  go_wp2
  go_ret
  exact ⟨rfl, HR.out, HF.out⟩

set_option maxHeartbeats 400000 in
theorem ru64_any (p : Nat) (w : World) (sv : Value) (l : List UInt8) (s : RS) (hw : Rr w p sv l s) :
    Calls Try.prog 31 #[.pointer (some ⟨p, 0, none⟩)] w fun e w' => e = .returned (.int .u64 (be (s.take l 8).1 : Int)) ∧ Rr w' p sv l (s.take l 8).2 ∧ Fr (At p) w w' := by
  go_enter Try.func31, Try.ntmps31
  go_wp2_with fail
  refine (whole_any p _ sv l s 8 (by omega) (by omega) hw).mono ?_
  rintro e w1 ⟨rfl, hr, hf⟩
  have HR := Lib.hid hr; have HF := Lib.hid hf
  clear hr hf
  go_wp2
  go_ret
  exact ⟨rfl, HR.out, HF.out⟩

set_option maxHeartbeats 400000 in
theorem rraw_any (p : Nat) (w : World) (sv : Value) (l : List UInt8) (s : RS) (n : Int) (hn : -9223372036854775808 ≤ n) (hw : Rr w p sv l s) :
    Calls Try.prog 33 #[.pointer (some ⟨p, 0, none⟩), .int .i64 n] w fun e w' => ∃ A, e = .returned (.slice A (s.take l n).1.length (s.take l n).1.length) ∧ Ow w' 5 1 (.slice A (s.take l n).1.length (s.take l n).1.length) (s.take l n).1.length (bvs (s.take l n).1) ∧ (∀ k, Value.ownBlock (.slice A (s.take l n).1.length (s.take l n).1.length) = some k → w.heap.size ≤ k) ∧ Rr w' p sv l (s.take l n).2 ∧ Fr (At p) w w' := by
  have hbl : (s.take l n).1.length ≤ 1000000000 := by
    have := hw.2.2.2.2.1
    unfold RS.take
    split
    · simp
    · split
      · simp
      · split
        · simp
        · simp; omega
  go_enter Try.func33, Try.ntmps33
  go_wp2_with fail
  refine (take_any p _ sv l s n hn hw).mono ?_
  rintro e w1 ⟨v, rfl, hv, hvo, hr, hf⟩
  obtain ⟨A, c, rfl, hc1, hc2⟩ := hv.form
  have HR := Lib.hid hr; have HF := Lib.hid hf; have HV := Lib.hid hv
  have HPS := Lib.hid (four_cells hw.1).2.2.2.2.2
  clear hr hf hv hvo hn hw
  go_wp2_with fail
  refine (clone_any _ _ _ HV.out hbl).mono ?_
  rintro e w2 ⟨A1, c1, rfl, ho, hfresh, hf2⟩
  obtain ⟨A2, c2, h1, h2, h3⟩ := (Sl.of_own ho).form
  cases h1
  have HO := Lib.hid ho; have HFR := Lib.hid hfresh; have HF2 := Lib.hid hf2; clear ho hfresh hf2 h3
  go_wp2_with fail
  refine (clip_any _ _ _ _ h2).mono ?_
  rintro e w3 ⟨rfl, rfl⟩
  go_wp2
  go_ret
  have hsize := HF.out.size
  have hps : p < w.heap.size := HPS.out
  refine ⟨A1, rfl, (Ow.of_own HO.out).clip, fun k hk => ?_, HR.out.kept HF2.out (fun h => h) (fun _ _ h => h), HF.out.trans HF2.out (fun _ _ h => h.elim)⟩
  have := HFR.out k (by cases A1 <;> exact hk)
  omega

/-- Was all read? -/
def RS.last (l : List UInt8) (s : RS) : Nat := if s.e = 0 ∧ s.pos < l.length then 21 else s.e

set_option maxHeartbeats 400000 in
theorem end_any (p : Nat) (w : World) (sv : Value) (l : List UInt8) (s : RS) (hw : Rr w p sv l s) :
    Calls Try.prog 26 #[.pointer (some ⟨p, 0, none⟩)] w fun e w' => e = .returned (.int .u16 (s.last l : Int)) ∧ ∃ n, w' = w.drewN n := by
  obtain ⟨c0, c1, c2, c3, hf, hps⟩ := four_cells hw.1
  obtain ⟨A, c, rfl, hl1, hl2⟩ := hw.2.1.form
  obtain ⟨_, _, _, hp, hl, _⟩ := hw
  by_cases he : s.e = 0
  · have hb : ((s.e : Int) == 0) = true := by simp [he]
    have HE := Lib.hid he; clear he
    by_cases hlt : s.pos < l.length
    · have hd : decide ((s.pos : Int) < (l.length : Int)) = true := by simp; omega
      go_enter Try.func26, Try.ntmps26
      go_wp2
      go_quiet (fail)
      go_wp2
      go_ret
      refine ⟨?_, _, rfl⟩
      rw [RS.last, if_pos ⟨HE.out, hlt⟩]; rfl
    · have hd : decide ((s.pos : Int) < (l.length : Int)) = false := by simp; omega
      go_enter Try.func26, Try.ntmps26
      go_wp2
      go_quiet (fail)
      go_wp2
      go_ret
      refine ⟨?_, _, rfl⟩
      rw [RS.last, if_neg (by omega)]; rfl
  · have hb : ((s.e : Int) == 0) = false := by simp [he]
    have HE := Lib.hid he; clear he
    go_enter Try.func26, Try.ntmps26
    go_wp2
    go_quiet (fail)
    go_wp2
    go_ret
    refine ⟨?_, _, rfl⟩
    rw [RS.last, if_neg (fun h => HE.out h.1)]; rfl

theorem vl_64 : ∀ (l : List UInt8) (i v : Nat), i ≤ 9 → v < 2 ^ (7 * i) → (vl i v l).1 < 18446744073709551616
  | [], i, v, _, _ => by simp [vl]
  | c :: r, i, v, hi, hv => by
    unfold vl
    split
    · simp
    · rename_i h1
      have h9 : i = 9 → c.toNat = 1 := fun h => by
        by_cases e : c.toNat = 1
        · exact e
        · exact absurd (Or.inl ⟨h, e⟩) h1
      have hs := (seven v c.toNat i hi hv c.toNat_lt h9).2
      have hp : 2 ^ (7 * i) ≤ 2 ^ 63 := Nat.pow_le_pow_right (by omega) (by omega)
      split
      · by_cases e : i = 9
        · subst e
          rw [h9 rfl]
          simp only [Nat.reduceMul, Nat.reducePow, Nat.reduceMod, Nat.one_mul] at hv ⊢
          omega
        · have hp2 : 2 ^ (7 * i) ≤ 2 ^ 56 := Nat.pow_le_pow_right (by omega) (by omega)
          have h3 : c.toNat % 128 * 2 ^ (7 * i) ≤ 127 * 2 ^ 56 := Nat.mul_le_mul (by omega) hp2
          simp only []
          omega
      · rename_i h2
        have e : ¬ i = 9 := fun h => by have := h9 h; omega
        refine vl_64 r (i + 1) _ (by omega) ?_
        have e2 : 2 ^ (7 * (i + 1)) = 128 * 2 ^ (7 * i) := by rw [Nat.mul_add, Nat.pow_add]; omega
        have h3 : c.toNat % 128 * 2 ^ (7 * i) ≤ 127 * 2 ^ (7 * i) := Nat.mul_le_mul_right _ (by omega)
        omega

theorem var_64 (l : List UInt8) (s : RS) : (s.var l).1 < 18446744073709551616 := by
  unfold RS.var
  split
  · simp
  · split
    · simp
    · exact vl_64 _ 0 0 (by omega) (by simp)

/-- A number of either sign, back. -/
def uz (x : Nat) : Int := if x % 2 = 0 then ((x / 2 : Nat) : Int) else -((x / 2 : Nat) : Int) - 1

set_option maxHeartbeats 400000 in
theorem rsigned_any (p : Nat) (w : World) (sv : Value) (l : List UInt8) (s : RS) (hw : Rr w p sv l s) :
    Calls Try.prog 32 #[.pointer (some ⟨p, 0, none⟩)] w fun e w' => e = .returned (.int .i64 (uz (s.var l).1)) ∧ Rr w' p sv l (s.var l).2 ∧ Fr (At p) w w' := by
  go_enter Try.func32, Try.ntmps32
  go_wp2_with fail
  refine (rvar_any p _ sv l s hw).mono ?_
  rintro e w1 ⟨rfl, hr, hf⟩
  have HR := Lib.hid hr; have HF := Lib.hid hf
  clear hr hf
  go_wp2
  go_ret
  refine ⟨?_, HR.out, HF.out⟩
  rw [unzig _ (var_64 l s)]
  rfl

theorem Rr.setPos {w : World} {p : Nat} {sv : Value} {l : List UInt8} {s : RS} (h : Rr w p sv l s) (q : Nat) (hq : q ≤ l.length) : Rr (w.setCell ⟨p, 1, none⟩ (.int .i64 (q : Int))) p sv l ⟨q, s.e, s.wh⟩ := by
  refine h.of ((Fr.refl (At p) w).setAt _ _) hq h.2.2.2.2.2 ?_
  rw [hp_same h.1]
  simp

/-- A text. -/
def RS.text (l : List UInt8) (s : RS) : List UInt8 × RS :=
  if (s.var l).1 > l.length - (s.var l).2.pos then ([], (RS.mk s.pos (s.var l).2.e (s.var l).2.wh).fail 20)
  else (s.var l).2.take l (s.var l).1

set_option maxRecDepth 100000 in
set_option maxHeartbeats 400000 in
theorem rtext_any (p : Nat) (w : World) (sv : Value) (l : List UInt8) (s : RS) (hw : Rr w p sv l s) :
    Calls Try.prog 34 #[.pointer (some ⟨p, 0, none⟩)] w fun e w' => e = .returned (.string ⟨(s.text l).1.toArray⟩) ∧ Rr w' p sv l (s.text l).2 ∧ Fr (At p) w w' := by
  obtain ⟨c0, c1, c2, c3, hf, hps⟩ := four_cells hw.1
  have HP0 := Lib.hid hw.2.2.2.1
  go_enter Try.func34, Try.ntmps34
  go_wp2_with fail
  refine (rvar_any p _ sv l s hw).mono ?_
  rintro e w1 ⟨rfl, hr, hf1⟩
  clear c0 c1 c2 c3 hf hw
  obtain ⟨c0, c1, c2, c3, hf, hps1⟩ := four_cells hr.1
  obtain ⟨A, c, rfl, hl1, hl2⟩ := hr.2.1.form
  have hp := hr.2.2.2.1
  have hl := hr.2.2.2.2.1
  obtain ⟨x, hx⟩ : ∃ x, x = (s.var l).1 := ⟨_, rfl⟩
  obtain ⟨s1, hs1⟩ : ∃ s1, s1 = (s.var l).2 := ⟨_, rfl⟩
  rw [← hx]
  rw [← hs1] at hr c1 c2 c3 hp
  have HR := Lib.hid hr; have HF := Lib.hid hf1; have HX := Lib.hid hx; have HS := Lib.hid hs1
  clear hr hf1 hx hs1
  by_cases hgt : l.length - s1.pos < x
  · go_wp2
    go_quiet (fail)
    have HR2 := Lib.hid ((HR.out.drewN nq).setPos s.pos HP0.out)
    go_wp2_with (go_at_call 40; refine (fail_any p _ _ l _ 20 (by omega) HR2.out).mono ?_; rintro e w' ⟨rfl, hr, hf⟩)
    go_ret
    have e : s.text l = ([], (RS.mk s.pos s1.e s1.wh).fail 20) := by
      unfold RS.text
      rw [← HX.out, ← HS.out, if_pos (by omega)]
    rw [e]
    exact ⟨rfl, hr, HF.out.trans ((Fr.drewN (At p) w1 nq).setAt 1 (.int .i64 (s.pos : Int)) |>.trans hf (fun _ _ h => h)) (fun _ _ h => h)⟩
  · have hxl : x ≤ l.length := by omega
    go_wp2
    go_quiet (fail)
    go_wp2_with fail
    refine (take_any p _ _ l s1 x (by omega) (HR.out.drewN nq)).mono ?_
    rintro e w2 ⟨v, rfl, hv, _, hr, hf2⟩
    obtain ⟨A2, c2, rfl, h1, h2⟩ := hv.form
    have hstr := run_str (P := Try.prog) w2 (src := 22) (dst := 9) (e := 5) (by kernel_rfl) (by kernel_rfl) (by kernel_rfl) hv
    have HR2 := Lib.hid hr; have HF2 := Lib.hid hf2
    clear hr hf2 hv
    go_wp2
    go_ret
    have e : s.text l = s1.take l x := by
      unfold RS.text
      rw [← HX.out, ← HS.out, if_neg (by omega)]
    rw [e]
    exact ⟨rfl, HR2.out, HF.out.trans ((Fr.drewN (At p) w1 nq).trans HF2.out (fun _ _ h => h)) (fun _ _ h => h)⟩
end Go.Proofs.Ytomnhblecnbmaaa
