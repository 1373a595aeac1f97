/- The document's reader: its numbers, its texts, its end. -/
import Derived.Test.YtomnhblecnbmaaaRefR
namespace Go.Proofs.Ytomnhblecnbmaaa
open Go.RowKit

set_option maxRecDepth 100000 in
set_option maxHeartbeats 1000000 in
theorem xvar_any (p : Nat) (w : World) (sv : Value) (l : List UInt8) (s : RS) (hw : Rx w p sv l s) :
    Calls Try.prog 74 #[.pointer (some ⟨p, 0, none⟩)] w fun e w' => e = .returned (.int .u64 ((s.var l).1 : Int)) ∧ Rx w' p sv l (s.var l).2 ∧ Fr (At p) w w' := by
  obtain ⟨c0, c1, c2, c3, hf, hps⟩ := four_cells hw.1
  have HW := Lib.hid hw
  by_cases he : s.e = 0
  · have hb : ((s.e : Int) != 0) = false := by simp [he]
    have HE := Lib.hid he; clear he
    obtain ⟨A, c, rfl, hl1, hl2⟩ := hw.2.1.form
    obtain ⟨_, _, _, hp, hl, _⟩ := hw
    obtain ⟨x, n, er, hr⟩ : ∃ x n er, vl 0 0 (l.drop s.pos) = (x, n, er) := ⟨_, _, _, rfl⟩
    have hcall : ∀ (w' : World) (X : Value), Sl w' 1 X (l.drop s.pos).length (bvs (l.drop s.pos)) → Calls Try.prog 82 #[X] w' fun e w'' => e = .returned (.tuple #[.int .u64 (x : Int), .int .i64 (n : Int), .int .i64 (er : Int)]) ∧ w'' = w' := by
      intro w' X hX
      have h := xvarint_reads w' X (l.drop s.pos) hX (by simp; omega)
      rw [hr] at h
      exact h
    have hn := vl_ok (l.drop s.pos) 0 0
    have he16 := vl_e (l.drop s.pos) 0 0
    rw [hr] at hn he16
    simp only [List.length_drop] at hn hcall
    have HR := Lib.hid hr; have HN := Lib.hid hn; clear hr hn
    have HC := Lib.hid hcall; clear hcall
    by_cases hcp : c = s.pos
    all_goals
      have hs := HW.out.2.1
      first
        | (have ht := Sl.tail0 (n := l.length) (lo := s.pos) (hcp ▸ hs) hp)
        | (have ht := Sl.tail1 (n := l.length) (lo := s.pos) hs hp)
      rw [bvs_drop] at ht
      have HT := Lib.hid ht.1; clear ht hs
      by_cases hr0 : er = 0
      all_goals
        first
          | (have hb2 : ((er : Int) != 0) = false := by simp [hr0])
          | (have hb2 : ((er : Int) != 0) = true := by simp [hr0])
        have HR0 := Lib.hid hr0; clear hr0
        go_enter Try.func74, Try.ntmps74
        go_wp2
        go_quiet ((go_at_call 82; exact Calls.quiet_of_same (HC.out _ _ (HT.out.kept0 (Fr.drewN _ _ _)))))
        first
          | (have hn := HN.out HR0.out
             have hn2 : s.pos + n ≤ l.length := by omega
             clear hn
             go_wp2
             go_ret
             have e : s.var l = (x, ⟨s.pos + n, s.e, s.wh⟩) := by
               unfold RS.var
               rw [HR.out, if_neg (by simp [HE.out]), if_neg (by simp [HR0.out])]
             rw [e]
             refine ⟨rfl, HW.out.of (by (repeat first | exact Fr.refl _ _ | exact Fr.drewN _ _ _ | apply Fr.drew | apply Fr.alloc | apply Fr.setAt | apply Fr.moreN)) hn2 HW.out.2.2.2.2.2 ?_, by (repeat first | exact Fr.refl _ _ | exact Fr.drewN _ _ _ | apply Fr.drew | apply Fr.alloc | apply Fr.setAt | apply Fr.moreN)⟩
             rw [hp_same (HW.out.drewN _).1]
             simp; done)
          | (go_wp2_with (go_at_call 83; refine (xfail_any p _ _ l s er he16 (HW.out.drewN nq)).mono ?_; rintro e w' ⟨rfl, hr, hf⟩)
             go_ret
             have e : s.var l = (0, s.fail er) := by
               unfold RS.var
               rw [HR.out, if_neg (by simp [HE.out]), if_pos HR0.out]
             rw [e]
             exact ⟨rfl, hr, (Fr.drewN (At p) w nq).trans hf (fun _ _ h => h)⟩)
  · have hb : ((s.e : Int) != 0) = true := by simp [he]
    have e : s.var l = (0, s) := by simp [RS.var, he]
    rw [e]
    have HE := Lib.hid he; clear he hw
    go_enter Try.func74, Try.ntmps74
    go_wp2
    go_ret
    exact ⟨rfl, HW.out, Fr.refl _ _⟩

set_option maxRecDepth 100000 in
set_option maxHeartbeats 400000 in
theorem xfixed_any (p : Nat) (w : World) (sv : Value) (l : List UInt8) (s : RS) (n : Int) (hn0 : 0 ≤ n) (hn8 : n ≤ 8) (hw : Rx w p sv l s) :
    Calls Try.prog 73 #[.pointer (some ⟨p, 0, none⟩), .int .i64 n] w fun e w' => e = .returned (.int .u64 (be (s.take l n).1 : Int)) ∧ Rx w' p sv l (s.take l n).2 ∧ Fr (At p) w w' := by
  go_enter Try.func73, Try.ntmps73
  go_wp2_with fail
  refine (xraw_any p _ sv l s n (by omega) hw).mono ?_
  rintro e w1 ⟨A, c, rfl, hv, _, hr, hf⟩
  have hbl : (s.take l n).1.length ≤ 8 := by have := take_len l n s; omega
  have HR := Lib.hid hr; have HF := Lib.hid hf; have HV := Lib.hid hv
  clear hr hf hv
  obtain ⟨bs, hbs⟩ : ∃ bs, bs = (s.take l n).1 := ⟨_, rfl⟩
  obtain ⟨s', hs'⟩ : ∃ s', s' = (s.take l n).2 := ⟨_, rfl⟩
  rw [← hbs] at hbl HV ⊢
  rw [← hs'] at HR
  have HB := Lib.hid hbs; have HS := Lib.hid hs'; clear hbs hs'
  go_wp2
  go_loop [5, 7] (fun v i => ∃ k : Nat, k ≤ bs.length ∧ i = .int .i64 k ∧ v = .int .u64 (be (bs.take k))) (fun _ i => bs.length - (intOf i).toNat)
  case atStart => exact ⟨0, Nat.zero_le _, rfl, rfl⟩
  case round =>
    obtain ⟨k, hk, rfl, rfl⟩ := hrel
    by_cases hlt : k < bs.length
    · obtain ⟨b, o, rfl, hc⟩ := HV.out.byte k hlt
      have hsn : bs.take (k + 1) = bs.take k ++ [bs[k]] := by rw [List.take_succ_eq_append_getElem hlt]
      have HSN := Lib.hid hsn; clear hsn
      obtain ⟨y, hy⟩ : ∃ y : UInt8, y = bs[k] := ⟨_, rfl⟩
      rw [← hy] at hc HSN
      clear hy
      have hbe := be_lt (bs.take k)
      rw [List.length_take, Nat.min_eq_left hk] at hbe
      have hbe2 : be (bs.take k) < 72057594037927936 := by
        have : 256 ^ k ≤ 256 ^ 7 := Nat.pow_le_pow_right (by omega) (by omega)
        omega
      have HBF := Lib.hid (eight (be (bs.take k)) y.toNat hbe2 y.toNat_lt)
      clear hbe hbe2
      go_wp2
      go_round
      case rel =>
        refine ⟨k + 1, by omega, by go_num, ?_⟩
        rw [HSN.out, be_snoc]
        rw [wrap_u64_id (y.toNat : Int) (by omega) (by have := y.toNat_lt; omega), HBF.out]
      case measure => simp [intOf]; omega
    · go_wp2
      go_ret
      refine ⟨?_, HS.out ▸ HR.out, HF.out⟩
      rw [← HB.out, List.take_of_length_le (by omega)]
      rfl

theorem zag_even (x : Nat) (h : x % 2 = 0) : uz x = ((x / 2 : Nat) : Int) := by unfold uz; rw [if_pos h]
theorem zag_odd (x : Nat) (h : x % 2 = 1) : uz x = -((x / 2 : Nat) : Int) - 1 := by unfold uz; rw [if_neg (by omega)]

set_option maxHeartbeats 400000 in
theorem zagzig_ref (w : World) (x : Nat) (hx : lt64 x) :
    Calls Try.prog 84 #[.int .u64 x] w fun e w' => e = .returned (.int .i64 (uz x)) ∧ w' = w := by
  have h63 : ((x / 2 : Nat) : Int) ≤ 9223372036854775807 := by have := hx.out; omega
  have ew : wrap64 (IntKind.u64.wrap ((x : Int) / 2)) = ((x / 2 : Nat) : Int) := by rw [wrap_u64_id _ (by omega) (by have := hx.out; omega), show (x : Int) / 2 = ((x / 2 : Nat) : Int) by omega]; unfold wrap64; omega
  have ew2 : wrap64 (wrap64 (-((x / 2 : Nat) : Int)) - 1) = -((x / 2 : Nat) : Int) - 1 := by unfold wrap64; omega
  have HW := Lib.hid ew; have HW2 := Lib.hid ew2; clear ew ew2 h63 hx
  by_cases h : x % 2 = 1
  · have hb : (((x : Int) % 2) == 1) = true := by rw [beq_iff_eq]; omega
    have HE := Lib.hid (zag_odd x h); clear h
    go_enter Try.func84, Try.ntmps84
    go_wp2
    go_ret
    refine ⟨?_, rfl⟩
    rw [HE.out, ← HW2.out, HW.out]; rfl
  · have hb : (((x : Int) % 2) == 1) = false := by rw [beq_eq_false_iff_ne]; omega
    have HE := Lib.hid (zag_even x (by omega)); clear h
    go_enter Try.func84, Try.ntmps84
    go_wp2
    go_ret
    refine ⟨?_, rfl⟩
    rw [HE.out, HW.out]; rfl

set_option maxHeartbeats 400000 in
theorem xsigned_any (p : Nat) (w : World) (sv : Value) (l : List UInt8) (s : RS) (hw : Rx w p sv l s) :
    Calls Try.prog 75 #[.pointer (some ⟨p, 0, none⟩)] w fun e w' => e = .returned (.int .i64 (uz (s.var l).1)) ∧ Rx w' p sv l (s.var l).2 ∧ Fr (At p) w w' := by
  go_enter Try.func75, Try.ntmps75
  go_wp2_with fail
  refine (xvar_any p _ sv l s hw).mono ?_
  rintro e w1 ⟨rfl, hr, hf⟩
  have HR := Lib.hid hr; have HF := Lib.hid hf
  clear hr hf
  go_wp2_with fail
  refine (zagzig_ref _ _ ⟨by have := var_64 l s; omega⟩).mono ?_
  rintro e w2 ⟨rfl, rfl⟩
  go_wp2
  go_ret
  exact ⟨rfl, HR.out, HF.out⟩

theorem text_err (l : List UInt8) (s : RS) (h : (s.var l).2.e ≠ 0) : s.text l = ([], (s.var l).2) := by
  have h0 : (s.var l).1 = 0 := by
    unfold RS.var at h ⊢
    split
    · rfl
    · split
      · rfl
      · rename_i h1 h2
        rw [if_neg h1, if_neg h2] at h
        simp at h1
        exact absurd h1 h
  unfold RS.text
  rw [h0, if_neg (by omega)]
  unfold RS.take
  rw [if_pos h]

set_option maxRecDepth 100000 in
set_option maxHeartbeats 400000 in
theorem xtext_any (p : Nat) (w : World) (sv : Value) (l : List UInt8) (s : RS) (hw : Rx w p sv l s) :
    Calls Try.prog 77 #[.pointer (some ⟨p, 0, none⟩)] w fun e w' => e = .returned (.string ⟨(s.text l).1.toArray⟩) ∧ Rx w' p sv l (s.text l).2 ∧ Fr (At p) w w' := by
  obtain ⟨c0, c1, c2, c3, hf, hps⟩ := four_cells hw.1
  have HP0 := Lib.hid hw.2.2.2.1
  go_enter Try.func77, Try.ntmps77
  go_wp2_with fail
  refine (xvar_any p _ sv l s hw).mono ?_
  rintro e w1 ⟨rfl, hr, hf1⟩
  clear c0 c1 c2 c3 hf hw
  obtain ⟨c0, c1, c2, c3, hf, hps1⟩ := four_cells hr.1
  obtain ⟨A, c, rfl, hl1, hl2⟩ := hr.2.1.form
  have hp := hr.2.2.2.1
  have hl := hr.2.2.2.2.1
  have HTE := Lib.hid (text_err l s)
  obtain ⟨x, hx⟩ : ∃ x, x = (s.var l).1 := ⟨_, rfl⟩
  obtain ⟨s1, hs1⟩ : ∃ s1, s1 = (s.var l).2 := ⟨_, rfl⟩
  rw [← hx]
  rw [← hs1] at hr c1 c2 c3 hp HTE
  have HR := Lib.hid hr; have HF := Lib.hid hf1; have HX := Lib.hid hx; have HS := Lib.hid hs1
  clear hr hf1 hx hs1
  by_cases he : s1.e = 0
  · have hb : ((s1.e : Int) != 0) = false := by simp [he]
    have HE := Lib.hid he; clear he
    by_cases hgt : l.length - s1.pos < x
    · go_wp2
      go_quiet (fail)
      have HR2 := Lib.hid ((HR.out.drewN nq).setPos s.pos HP0.out)
      go_wp2_with fail
      refine (xfail_any p _ _ l _ 20 (by omega) HR2.out).mono ?_
      rintro e w' ⟨rfl, hr, hf⟩
      go_wp2
      go_ret
      have e : s.text l = ([], (RS.mk s.pos s1.e s1.wh).fail 20) := by
        unfold RS.text
        rw [← HX.out, ← HS.out, if_pos (by omega)]
      rw [e]
      exact ⟨rfl, hr, HF.out.trans ((Fr.drewN (At p) w1 nq).setAt 1 (.int .i64 (s.pos : Int)) |>.trans hf (fun _ _ h => h)) (fun _ _ h => h)⟩
    · have hxl : x ≤ l.length := by omega
      go_wp2
      go_quiet (fail)
      go_wp2_with fail
      refine (xraw_any p _ _ l s1 x (by omega) (HR.out.drewN nq)).mono ?_
      rintro e w2 ⟨A2, c2, rfl, hv, _, hr, hf2⟩
      have hstr := run_str (P := Try.prog) w2 (src := 22) (dst := 9) (e := 5) (by kernel_rfl) (by kernel_rfl) (by kernel_rfl) hv
      have HR2 := Lib.hid hr; have HF2 := Lib.hid hf2
      clear hr hf2 hv
      go_wp2
      go_ret
      have e : s.text l = s1.take l x := by
        unfold RS.text
        rw [← HX.out, ← HS.out, if_neg (by omega)]
      rw [e]
      exact ⟨rfl, HR2.out, HF.out.trans ((Fr.drewN (At p) w1 nq).trans HF2.out (fun _ _ h => h)) (fun _ _ h => h)⟩
  · have hb : ((s1.e : Int) != 0) = true := by simp [he]
    have HE := Lib.hid he; clear he
    go_wp2
    go_ret
    rw [HTE.out HE.out]
    exact ⟨rfl, HR.out, HF.out⟩

set_option maxHeartbeats 400000 in
theorem xend_any (p : Nat) (w : World) (sv : Value) (l : List UInt8) (s : RS) (hw : Rx w p sv l s) :
    Calls Try.prog 27 #[.pointer (some ⟨p, 0, none⟩)] w fun e w' => e = .returned (.int .i64 (s.last l : Int)) ∧ ∃ n, w' = w.drewN n := by
  obtain ⟨c0, c1, c2, c3, hf, hps⟩ := four_cells hw.1
  obtain ⟨A, c, rfl, hl1, hl2⟩ := hw.2.1.form
  obtain ⟨_, _, _, hp, hl, _⟩ := hw
  by_cases he : s.e = 0
  · have hb : ((s.e : Int) != 0) = false := by simp [he]
    have HE := Lib.hid he; clear he
    by_cases hlt : s.pos < l.length
    · have hd : decide ((s.pos : Int) < (l.length : Int)) = true := by simp; omega
      go_enter Try.func27, Try.ntmps27
      go_wp2
      go_quiet (fail)
      go_wp2
      go_ret
      refine ⟨?_, _, rfl⟩
      rw [RS.last, if_pos ⟨HE.out, hlt⟩]; rfl
    · have hd : decide ((s.pos : Int) < (l.length : Int)) = false := by simp; omega
      go_enter Try.func27, Try.ntmps27
      go_wp2
      go_quiet (fail)
      go_wp2
      go_ret
      refine ⟨?_, _, rfl⟩
      rw [RS.last, if_neg (by omega), HE.out]; rfl
  · have hb : ((s.e : Int) != 0) = true := by simp [he]
    have HE := Lib.hid he; clear he
    go_enter Try.func27, Try.ntmps27
    go_wp2
    go_ret
    refine ⟨?_, 0, rfl⟩
    rw [RS.last, if_neg (fun h => HE.out h.1)]; rfl
end Go.Proofs.Ytomnhblecnbmaaa
