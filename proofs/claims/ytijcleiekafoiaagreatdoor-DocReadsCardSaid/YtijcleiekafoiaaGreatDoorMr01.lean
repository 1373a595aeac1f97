import Derived.Test.YtijcleiekafoiaaGreatDoorMb03

/- The document's reader (codicilref02): it reads as the reader of package code does. -/
namespace Go.Proofs.YtijcleiekafoiaaGreatDoor
open Go.RowKit

/-- The document's reader at block p. -/
def Rx (w : World) (p : Nat) (sv : Value) (l : List UInt8) (s : RS) : Prop :=
  w.heap[p]? = some (.cells #[sv, .int .i64 (s.pos : Int), .int .i64 (s.e : Int), .int .i64 (s.wh : Int)] 120 (0, 0)) ∧ Sl w 1 sv l.length (bvs l) ∧ sv.ownBlock ≠ some p ∧ s.pos ≤ l.length ∧ l.length ≤ 140737488351232 ∧ s.e < 65536

theorem Rx.of {w w1 : World} {p : Nat} {sv : Value} {l : List UInt8} {s s' : RS} (h : Rx w p sv l s) (f : Fr (At p) w w1) (hp : s'.pos ≤ l.length) (he : s'.e < 65536)
    (hb : w1.heap[p]? = some (.cells #[sv, .int .i64 (s'.pos : Int), .int .i64 (s'.e : Int), .int .i64 (s'.wh : Int)] 120 (0, 0))) : Rx w1 p sv l s' :=
  ⟨hb, h.2.1.kept f (fun k hk e => h.2.2.1 (by rw [hk, e])), h.2.2.1, hp, h.2.2.2.2.1, he⟩

theorem Rx.kept {w w1 : World} {p : Nat} {sv : Value} {l : List UInt8} {s : RS} {S : Nat → Prop} (h : Rx w p sv l s) (f : Fr S w w1) (h1 : ¬ S p) (h2 : ∀ k, sv.ownBlock = some k → ¬ S k) : Rx w1 p sv l s :=
  ⟨f.heap h.1 h1, h.2.1.kept f h2, h.2.2⟩

theorem Rx.drewN {w : World} {p : Nat} {sv : Value} {l : List UInt8} {s : RS} (h : Rx w p sv l s) (n : Nat) : Rx (w.drewN n) p sv l s :=
  h.of (Fr.drewN _ _ _) h.2.2.2.1 h.2.2.2.2.2 h.1

theorem Rx.setPos {w : World} {p : Nat} {sv : Value} {l : List UInt8} {s : RS} (h : Rx w p sv l s) (q : Nat) (hq : q ≤ l.length) : Rx (w.setCell ⟨p, 1, none⟩ (.int .i64 (q : Int))) p sv l ⟨q, s.e, s.wh⟩ := by
  refine h.of ((Fr.refl (At p) w).setAt _ _) hq h.2.2.2.2.2 ?_
  rw [hp_same h.1]
  simp

set_option maxHeartbeats 400000 in
theorem xfail_any (p : Nat) (w : World) (sv : Value) (l : List UInt8) (s : RS) (k : Nat) (hk : k < 65536) (hw : Rx w p sv l s) :
    Calls Tryz.prog 124 #[.pointer (some ⟨p, 0, none⟩), .int .i64 k, .int .i64 s.pos] w fun e w' => e = .returned (.tuple #[]) ∧ Rx w' p sv l (s.fail k) ∧ Fr (At p) w w' := by
  obtain ⟨c0, c1, c2, c3, hf, hps⟩ := four_cells hw.1
  have HW := Lib.hid hw; clear hw
  by_cases he : s.e = 0
  · have hb : ((s.e : Int) == 0) = true := by simp [he]
    have HE := Lib.hid he; clear he
    go_enter Tryz.func124, Tryz.ntmps124
    go_wp2
    go_end0
    refine ⟨rfl, ?_, ((Fr.refl (At p) w).setAt _ _).setAt _ _⟩
    have e : s.fail k = ⟨s.pos, k, s.pos⟩ := by simp [RS.fail, HE.out]
    rw [e]
    refine HW.out.of (((Fr.refl (At p) w).setAt _ _).setAt _ _) HW.out.2.2.2.1 hk ?_
    rw [hp_same (hp_same HW.out.1 _ _)]
    simp
  · have hb : ((s.e : Int) == 0) = false := by simp [he]
    have HE := Lib.hid he; clear he
    go_enter Tryz.func124, Tryz.ntmps124
    go_wp2
    go_end0
    have e : s.fail k = s := by simp [RS.fail, HE.out]
    rw [e]
    exact ⟨rfl, HW.out, Fr.refl _ _⟩

set_option maxRecDepth 100000 in
set_option maxHeartbeats 1000000 in
theorem xraw_any (p : Nat) (w : World) (sv : Value) (l : List UInt8) (s : RS) (n : Int) (hn1 : -9223372036854775808 ≤ n) (hw : Rx w p sv l s) :
    Calls Tryz.prog 99 #[.pointer (some ⟨p, 0, none⟩), .int .i64 n] w fun e w' => ∃ A c, e = .returned (.slice A (s.take l n).1.length c) ∧ Sl w' 1 (.slice A (s.take l n).1.length c) (s.take l n).1.length (bvs (s.take l n).1) ∧ (∀ k, (Value.slice A (s.take l n).1.length c).ownBlock = some k → w.heap.size ≤ k) ∧ Rx w' p sv l (s.take l n).2 ∧ Fr (At p) w w' := by
  obtain ⟨c0, c1, c2, c3, hf, hps⟩ := four_cells hw.1
  have HW := Lib.hid hw
  by_cases he : s.e = 0
  · have hb : ((s.e : Int) != 0) = false := by simp [he]
    have HE := Lib.hid he; clear he
    by_cases hn : n < 0
    · have e : s.take l n = ([], s.fail 1) := by simp [RS.take, HE.out, hn]
      rw [e]
      clear hn1 hw
      go_enter Tryz.func99, Tryz.ntmps99
      go_wp2_with fail
      refine (xfail_any p _ sv l s 1 (by omega) HW.out).mono ?_
      rintro e w' ⟨rfl, hr, hf⟩
      go_wp2
      go_ret
      exact ⟨none, 0, rfl, Sl.nil _ _, by simp [Value.ownBlock], hr, hf⟩
    · obtain ⟨A, c, rfl, hl1, hl2⟩ := hw.2.1.form
      obtain ⟨_, _, _, hp, hl, _⟩ := hw
      by_cases hm : (l.length : Int) - s.pos < n
      · have e : s.take l n = ([], s.fail 20) := by simp [RS.take, HE.out, hn, hm]
        rw [e]
        clear hn1
        go_enter Tryz.func99, Tryz.ntmps99
        go_wp2
        go_quiet (fail)
        go_wp2_with fail
        refine (xfail_any p _ _ l s 20 (by omega) (HW.out.drewN nq)).mono ?_
        rintro e w' ⟨rfl, hr, hf⟩
        go_wp2
        go_ret
        exact ⟨none, 0, rfl, Sl.nil _ _, by simp [Value.ownBlock], hr, (Fr.drewN (At p) w nq).trans hf (fun _ _ h => h)⟩
      · obtain ⟨m, rfl⟩ := Int.eq_ofNat_of_zero_le (show 0 ≤ n by omega)
        have hm2 : s.pos + m ≤ l.length := by omega
        have e : s.take l m = ((l.drop s.pos).take m, ⟨s.pos + m, s.e, s.wh⟩) := by simp only [RS.take, HE.out, ne_eq, not_true, if_false, hn, hm, Int.toNat_natCast]
        rw [e]
        clear hn1 hm hn e
        have hlen : ((l.drop s.pos).take m).length = m := by simp; omega
        have HLEN := Lib.hid hlen; clear hlen
        by_cases hcp : c = s.pos
        all_goals
          have hs := HW.out.2.1
          first
            | (have ht := Sl.cut0 (n := l.length) (lo := s.pos) (m := m) (hcp ▸ hs) hm2)
            | (have ht := Sl.cut1 (n := l.length) (lo := s.pos) (m := m) hs hm2)
          rw [bvs_cut] at ht
          have HT := Lib.hid ht.1; clear ht hs
          have hi0 : (0 : Int) ≤ (s.pos : Int) + (m : Int) := by omega
          have hi1 : (s.pos : Int) + (m : Int) ≤ (c : Int) := by omega
          have hi2 : (s.pos : Int) ≤ (s.pos : Int) + (m : Int) := by omega
          try (have hi3 : (s.pos : Int) + (m : Int) ≤ (s.pos : Int) := by omega)
          go_enter Tryz.func99, Tryz.ntmps99
          go_wp2
          go_quiet (fail)
          go_wp2
          refine wp_region_ord (List.range 18) (fun i => [Kd.p, Kd.p, Kd.p, Kd.p, Kd.l, Kd.p, Kd.p, Kd.p, Kd.l, Kd.p, Kd.p, Kd.p, Kd.l, Kd.p, Kd.p, Kd.p, Kd.e, Kd.e].getD i .e) (by kernel_rfl) (by kernel_rfl) ?_
          iterate 16
            first | refine wpX_pu rfl rfl rfl (by first | exact pu_move rfl | exact pu_assign rfl | exact pu_nilCheck rfl rfl | exact pu_binInt rfl rfl rfl | exact pu_conv rfl rfl (by kernel_rfl) | exact pu_fld rfl (by kernel_rfl) | exact pu_ix rfl rfl rfl (by kernel_rfl) | exact pu_unOp rfl | exact pu_binStr rfl rfl rfl | exact pu_len rfl rfl | exact pu_lens rfl rfl | exact pu_pick rfl | exact pu_slice rfl rfl) (fun K hK => ?_) | refine wpX_rd rfl rfl rfl (rd_load rfl) (fun K hK => ?_) | refine wpX_gr rfl rfl rfl (by first | exact gr_buildSlice rfl | exact gr_box rfl | exact gr_alloc rfl) (fun K hK => ?_) | refine wpX_ex rfl rfl rfl (fun K hK => ?_)
            try go_wp2
          refine wpX_ex rfl rfl rfl (fun K hK => ?_)
          refine wp_apx (w0 := w) (v := .slice none 0 0) (n := 0) (xs := []) (.tmp 37) (.tmp 52) 23 rfl tbB ⟨rfl, .inl ⟨rfl, rfl⟩⟩ ?fr (m := m) (news := bvs ((l.drop s.pos).take m)) ?hx rfl rfl (bvs_one _) ?b1 ?b2 ?go
          case fr => (repeat first | exact Fr.refl _ _ | exact Fr.drewN _ _ _ | apply Fr.drew | apply Fr.alloc | apply Fr.setAt | apply Fr.moreN)
          case hx => first | exact HT.out.kept0 (by (repeat first | exact Fr.refl _ _ | exact Fr.drewN _ _ _ | apply Fr.drew | apply Fr.alloc | apply Fr.setAt | apply Fr.moreN)) | (unfold Act.eval; simp; obtain rfl : m = 0 := (by omega); simpa using HT.out.kept0 (Fr.drewN no w (nq + 1)))
          case b1 => simp only [maxLen]; omega
          case b2 => omega
          case go =>
            intro A' N c' w2 ho hf2 hmv
            obtain rfl : N = m := by have := ho.1; rw [List.nil_append, bvs_length, HLEN.out] at this; omega
            have HO := Lib.hid ho; have HF := Lib.hid hf2; have HM := Lib.hid hmv; clear ho hf2 hmv
            go_simp
            refine hK _ _ ?_
            clear hK K
            refine wpX_ex rfl rfl rfl (fun K hK => ?_)
            go_simp
            refine hK _ _ ?_
            clear hK K
            refine wpX_done ?_
            have fr : Fr no w w2 := (Fr.drewN no w (nq + 1)).trans HF.out (fun k hk h => by simp [Value.ownBlock] at h)
            obtain ⟨c0', c1', c2', c3', hf', hps'⟩ := four_cells (HW.out.kept fr (fun h => h) (fun _ _ h => h)).1
            go_wp2
            go_ret
            have hnew : ∀ k, (Value.slice A' N c').ownBlock = some k → w.heap.size ≤ k := fun k hk => by
              rcases HM.out with h | h
              · rw [h] at hk; simp [Value.ownBlock] at hk
              · exact (h k hk).1
            rw [HLEN.out]
            refine ⟨A', c', rfl, ?_, hnew, ?_, (fr.mono (fun _ _ h => h.elim)).setAt _ _⟩
            · exact (Sl.of_own HO.out).kept (S := At p) ((Fr.refl (At p) w2).setAt _ _) (fun k hk e => by have := hnew k hk; have : k = p := e; omega)
            · refine (HW.out.kept fr (fun h => h) (fun _ _ h => h)).of ((Fr.refl (At p) w2).setAt _ _) (by simpa using hm2) HW.out.2.2.2.2.2 ?_
              rw [hp_same (HW.out.kept fr (fun h => h) (fun _ _ h => h)).1]
              simp
  · have hb : ((s.e : Int) != 0) = true := by simp [he]
    have e : s.take l n = ([], s) := by simp [RS.take, he]
    rw [e]
    have HE := Lib.hid he; clear he hw hn1
    go_enter Tryz.func99, Tryz.ntmps99
    go_wp2
    go_ret
    exact ⟨none, 0, rfl, Sl.nil _ _, by simp [Value.ownBlock], HW.out, Fr.refl _ _⟩

def Num4 (x : Nat × Nat × Nat) : Ending := .returned (.tuple #[.int .u64 (x.1 : Int), .int .i64 (x.2.1 : Int), .int .i64 (x.2.2 : Int)])

set_option maxRecDepth 100000 in
set_option maxHeartbeats 1000000 in
theorem xvarint_reads (w : World) (x : Value) (l : List UInt8) (hx : Sl w 1 x l.length (bvs l)) (hl : l.length ≤ 140737488351232) :
    Calls Tryz.prog 126 #[x] w fun e w' => e = Num4 (vl 0 0 l) ∧ w' = w := by
  obtain ⟨A, c, rfl, hl1, hl2⟩ := hx.form
  have HX := Lib.hid hx; clear hx
  go_enter Tryz.func126, Tryz.ntmps126
  go_wp2
  go_loop [5, 6] (fun v i => ∃ k a : Nat, k ≤ l.length ∧ k ≤ 9 ∧ a < 2 ^ (7 * k) ∧ i = .int .i64 k ∧ v = .int .u64 a ∧ vl k a (l.drop k) = vl 0 0 l) (fun _ i => l.length + 1 - (intOf i).toNat)
  case atStart => exact ⟨0, 0, by omega, by omega, by simp, rfl, rfl, rfl⟩
  case round =>
    obtain ⟨k, a, hk, hk9, ha, rfl, rfl, hv⟩ := hrel
    have HV := Lib.hid hv; have HA := Lib.hid ha; clear hv ha
    by_cases hlt : k < l.length
    · obtain ⟨b, o, rfl, hc⟩ := HX.out.byte k hlt
      have hd : l.drop k = l[k] :: l.drop (k + 1) := List.drop_eq_getElem_cons hlt
      have HD := Lib.hid hd; clear hd
      obtain ⟨y, hy⟩ : ∃ y : UInt8, y = l[k] := ⟨_, rfl⟩
      rw [← hy] at hc HD
      clear hy
      have hy2 : (y.toNat : Int) < 256 := by have := y.toNat_lt; omega
      have k0 : (0 : Int) ≤ (k : Int) := by omega
      have hvl : vl 0 0 l = if (k = 9 ∧ y.toNat ≠ 1) ∨ (0 < k ∧ y.toNat = 0) then (0, 0, 21) else if y.toNat < 128 then (a + y.toNat % 128 * 2 ^ (7 * k), k + 1, 0) else vl (k + 1) (a + y.toNat % 128 * 2 ^ (7 * k)) (l.drop (k + 1)) := by
        rw [← HV.out, HD.out]; rfl
      have HL := Lib.hid hvl; clear hvl
      by_cases h9 : k = 9
      · subst h9
        by_cases h1 : y.toNat = 1
        · have hb : ((y.toNat : Int) != 1) = false := by simp [h1]
          have hb2 : ((y.toNat : Int) == 0) = false := by simp [h1]
          have hb3 : (y.toNat : Int) < 128 := by omega
          have H1 := Lib.hid h1; clear h1
          go_wp2
          have hfin : vl 0 0 l = (a + y.toNat % 128 * 2 ^ (7 * 9), 10, 0) := by
            have h1 := H1.out
            rw [HL.out, if_neg (by omega), if_pos (by omega)]
          have hs := (seven a y.toNat 9 (by omega) HA.out (by omega) (fun _ => H1.out)).1
          have e63 : (2 : Int) ^ (7 * 9) = 9223372036854775808 := by decide
          rw [e63] at hs
          rw [hs, hfin]
          go_ret3
          exact ⟨rfl, rfl⟩
        · have hb : ((y.toNat : Int) != 1) = true := by simp; omega
          have H1 := Lib.hid h1; clear h1
          go_wp2
          have hfin : vl 0 0 l = (0, 0, 21) := by rw [HL.out, if_pos (.inl ⟨by trivial, H1.out⟩)]
          rw [hfin]
          go_ret3
          exact ⟨rfl, rfl⟩
      · have hb9 : ((k : Int) == 9) = false := by simp; omega
        by_cases hz : k = 0
        · subst hz
          have hc' : w.cell? ⟨b, o, none⟩ = some (.int .u8 (y.toNat : Int)) := hc
          have hnil : ¬ (l = []) := fun h => by rw [h] at hlt; simp at hlt
          clear hc
          by_cases h128 : (y.toNat : Int) < 128
          · go_wp2
            have hfin : vl 0 0 l = (a + y.toNat % 128 * 2 ^ (7 * 0), 1, 0) := by rw [HL.out, if_neg (by omega), if_pos (by omega)]
            have hs := (seven a y.toNat 0 (by omega) HA.out (by omega) (fun h => by omega)).1
            have e0 : (2 : Int) ^ (7 * 0) = 1 := by decide
            rw [e0, Int.mul_one] at hs
            rw [hs, hfin]
            go_ret3
            exact ⟨rfl, rfl⟩
          · go_wp2
            have hs := (seven a y.toNat 0 (by omega) HA.out (by omega) (fun h => by omega)).1
            have e0 : (2 : Int) ^ (7 * 0) = 1 := by decide
            rw [e0, Int.mul_one] at hs
            go_round
            case rel =>
              refine ⟨1, a + y.toNat % 128 * 2 ^ (7 * 0), by omega, by omega, ?_, by go_num, by rw [hs], ?_⟩
              · have := HA.out
                omega
              · conv => rhs; rw [HL.out, if_neg (by omega), if_neg (by omega)]
            case measure => simp [intOf]
        · have hbk : decide ((0 : Int) < (k : Int)) = true := by simp; omega
          by_cases h0 : y.toNat = 0
          · have hb2 : ((y.toNat : Int) == 0) = true := by simp [h0]
            have H1 := Lib.hid h0; clear h0
            go_wp2
            have hfin : vl 0 0 l = (0, 0, 21) := by rw [HL.out, if_pos (.inr ⟨by omega, H1.out⟩)]
            rw [hfin]
            go_ret3
            exact ⟨rfl, rfl⟩
          · have hb2 : ((y.toNat : Int) == 0) = false := by simp; omega
            have H1 := Lib.hid h0; clear h0
            by_cases h128 : (y.toNat : Int) < 128
            · go_wp2
              have hfin : vl 0 0 l = (a + y.toNat % 128 * 2 ^ (7 * k), k + 1, 0) := by
                have h1 := H1.out
                rw [HL.out, if_neg (by omega), if_pos (by omega)]
              have hs := (seven a y.toNat k (by omega) HA.out (by omega) (fun h => by omega)).1
              rw [hs, hfin]
              go_ret3
              exact ⟨rfl, rfl⟩
            · have h8 : k ≤ 8 := by omega
              go_wp2
              have hs := seven a y.toNat k (by omega) HA.out (by omega) (fun h => by omega)
              go_round
              case rel =>
                refine ⟨k + 1, a + y.toNat % 128 * 2 ^ (7 * k), by omega, by omega, ?_, by go_num, by rw [hs.1], ?_⟩
                · have := HA.out
                  have e : 2 ^ (7 * (k + 1)) = 128 * 2 ^ (7 * k) := by rw [Nat.mul_add, Nat.pow_add]; omega
                  have : y.toNat % 128 * 2 ^ (7 * k) ≤ 127 * 2 ^ (7 * k) := Nat.mul_le_mul_right _ (by omega)
                  omega
                · have h1 := H1.out
                  conv => rhs; rw [HL.out, if_neg (by omega), if_neg (by omega)]
              case measure => simp [intOf]; omega
    · go_wp2
      have hfin : vl 0 0 l = (0, 0, 20) := by rw [← HV.out, List.drop_of_length_le (by omega)]; rfl
      rw [hfin]
      go_ret3
      exact ⟨rfl, rfl⟩
end Go.Proofs.YtijcleiekafoiaaGreatDoor

/- The document's reader: its numbers, its texts, its end. -/
namespace Go.Proofs.YtijcleiekafoiaaGreatDoor
open Go.RowKit

set_option maxRecDepth 100000 in
set_option maxHeartbeats 1000000 in
theorem xvar_any (p : Nat) (w : World) (sv : Value) (l : List UInt8) (s : RS) (hw : Rx w p sv l s) :
    Calls Tryz.prog 102 #[.pointer (some ⟨p, 0, none⟩)] w fun e w' => e = .returned (.int .u64 ((s.var l).1 : Int)) ∧ Rx w' p sv l (s.var l).2 ∧ Fr (At p) w w' := by
  obtain ⟨c0, c1, c2, c3, hf, hps⟩ := four_cells hw.1
  have HW := Lib.hid hw
  by_cases he : s.e = 0
  · have hb : ((s.e : Int) != 0) = false := by simp [he]
    have HE := Lib.hid he; clear he
    obtain ⟨A, c, rfl, hl1, hl2⟩ := hw.2.1.form
    obtain ⟨_, _, _, hp, hl, _⟩ := hw
    obtain ⟨x, n, er, hr⟩ : ∃ x n er, vl 0 0 (l.drop s.pos) = (x, n, er) := ⟨_, _, _, rfl⟩
    have hcall : ∀ (w' : World) (X : Value), Sl w' 1 X (l.drop s.pos).length (bvs (l.drop s.pos)) → Calls Tryz.prog 126 #[X] w' fun e w'' => e = .returned (.tuple #[.int .u64 (x : Int), .int .i64 (n : Int), .int .i64 (er : Int)]) ∧ w'' = w' := by
      intro w' X hX
      have h := xvarint_reads w' X (l.drop s.pos) hX (by simp; omega)
      rw [hr] at h
      exact h
    have hn := vl_ok (l.drop s.pos) 0 0
    have he16 := vl_e (l.drop s.pos) 0 0
    rw [hr] at hn he16
    simp only [List.length_drop] at hn hcall
    have HR := Lib.hid hr; have HN := Lib.hid hn; clear hr hn
    have HC := Lib.hid hcall; clear hcall
    by_cases hcp : c = s.pos
    all_goals
      have hs := HW.out.2.1
      first
        | (have ht := Sl.tail0 (n := l.length) (lo := s.pos) (hcp ▸ hs) hp)
        | (have ht := Sl.tail1 (n := l.length) (lo := s.pos) hs hp)
      rw [bvs_drop] at ht
      have HT := Lib.hid ht.1; clear ht hs
      by_cases hr0 : er = 0
      all_goals
        first
          | (have hb2 : ((er : Int) != 0) = false := by simp [hr0])
          | (have hb2 : ((er : Int) != 0) = true := by simp [hr0])
        have HR0 := Lib.hid hr0; clear hr0
        go_enter Tryz.func102, Tryz.ntmps102
        go_wp2
        go_quiet ((go_at_call 126; exact Calls.quiet_of_same (HC.out _ _ (HT.out.kept0 (Fr.drewN _ _ _)))))
        first
          | (have hn := HN.out HR0.out
             have hn2 : s.pos + n ≤ l.length := by omega
             clear hn
             go_wp2
             go_ret
             have e : s.var l = (x, ⟨s.pos + n, s.e, s.wh⟩) := by
               unfold RS.var
               rw [HR.out, if_neg (by simp [HE.out]), if_neg (by simp [HR0.out])]
             rw [e]
             refine ⟨rfl, HW.out.of (by (repeat first | exact Fr.refl _ _ | exact Fr.drewN _ _ _ | apply Fr.drew | apply Fr.alloc | apply Fr.setAt | apply Fr.moreN)) hn2 HW.out.2.2.2.2.2 ?_, by (repeat first | exact Fr.refl _ _ | exact Fr.drewN _ _ _ | apply Fr.drew | apply Fr.alloc | apply Fr.setAt | apply Fr.moreN)⟩
             rw [hp_same (HW.out.drewN _).1]
             simp; done)
          | (go_wp2_with (go_at_call 124; refine (xfail_any p _ _ l s er he16 (HW.out.drewN nq)).mono ?_; rintro e w' ⟨rfl, hr, hf⟩)
             go_ret
             have e : s.var l = (0, s.fail er) := by
               unfold RS.var
               rw [HR.out, if_neg (by simp [HE.out]), if_pos HR0.out]
             rw [e]
             exact ⟨rfl, hr, (Fr.drewN (At p) w nq).trans hf (fun _ _ h => h)⟩)
  · have hb : ((s.e : Int) != 0) = true := by simp [he]
    have e : s.var l = (0, s) := by simp [RS.var, he]
    rw [e]
    have HE := Lib.hid he; clear he hw
    go_enter Tryz.func102, Tryz.ntmps102
    go_wp2
    go_ret
    exact ⟨rfl, HW.out, Fr.refl _ _⟩

set_option maxRecDepth 100000 in
set_option maxHeartbeats 400000 in
theorem xfixed_any (p : Nat) (w : World) (sv : Value) (l : List UInt8) (s : RS) (n : Int) (hn0 : 0 ≤ n) (hn8 : n ≤ 8) (hw : Rx w p sv l s) :
    Calls Tryz.prog 98 #[.pointer (some ⟨p, 0, none⟩), .int .i64 n] w fun e w' => e = .returned (.int .u64 (ube (s.take l n).1 : Int)) ∧ Rx w' p sv l (s.take l n).2 ∧ Fr (At p) w w' := by
  go_enter Tryz.func98, Tryz.ntmps98
  go_wp2_with fail
  refine (xraw_any p _ sv l s n (by omega) hw).mono ?_
  rintro e w1 ⟨A, c, rfl, hv, _, hr, hf⟩
  have hbl : (s.take l n).1.length ≤ 8 := by have := take_len l n s; omega
  have HR := Lib.hid hr; have HF := Lib.hid hf; have HV := Lib.hid hv
  clear hr hf hv
  obtain ⟨bs, hbs⟩ : ∃ bs, bs = (s.take l n).1 := ⟨_, rfl⟩
  obtain ⟨s', hs'⟩ : ∃ s', s' = (s.take l n).2 := ⟨_, rfl⟩
  rw [← hbs] at hbl HV ⊢
  rw [← hs'] at HR
  have HB := Lib.hid hbs; have HS := Lib.hid hs'; clear hbs hs'
  go_wp2
  go_loop [5, 7] (fun v i => ∃ k : Nat, k ≤ bs.length ∧ i = .int .i64 k ∧ v = .int .u64 (ube (bs.take k))) (fun _ i => bs.length - (intOf i).toNat)
  case atStart => exact ⟨0, Nat.zero_le _, rfl, rfl⟩
  case round =>
    obtain ⟨k, hk, rfl, rfl⟩ := hrel
    by_cases hlt : k < bs.length
    · obtain ⟨b, o, rfl, hc⟩ := HV.out.byte k hlt
      have hsn : bs.take (k + 1) = bs.take k ++ [bs[k]] := by rw [List.take_succ_eq_append_getElem hlt]
      have HSN := Lib.hid hsn; clear hsn
      obtain ⟨y, hy⟩ : ∃ y : UInt8, y = bs[k] := ⟨_, rfl⟩
      rw [← hy] at hc HSN
      clear hy
      have hbe := be_lt (bs.take k)
      rw [List.length_take, Nat.min_eq_left hk] at hbe
      have hbe2 : ube (bs.take k) < 72057594037927936 := by
        have : 256 ^ k ≤ 256 ^ 7 := Nat.pow_le_pow_right (by omega) (by omega)
        omega
      have HBF := Lib.hid (eight (ube (bs.take k)) y.toNat hbe2 y.toNat_lt)
      clear hbe hbe2
      go_wp2
      go_round
      case rel =>
        refine ⟨k + 1, by omega, by go_num, ?_⟩
        rw [HSN.out, be_snoc]
        rw [wrap_u64_id (y.toNat : Int) (by omega) (by have := y.toNat_lt; omega), HBF.out]
      case measure => simp [intOf]; omega
    · go_wp2
      go_ret
      refine ⟨?_, HS.out ▸ HR.out, HF.out⟩
      rw [← HB.out, List.take_of_length_le (by omega)]
      rfl

theorem zag_even (x : Nat) (h : x % 2 = 0) : uz x = ((x / 2 : Nat) : Int) := by unfold uz; rw [if_pos h]
theorem zag_odd (x : Nat) (h : x % 2 = 1) : uz x = -((x / 2 : Nat) : Int) - 1 := by unfold uz; rw [if_neg (by omega)]

set_option maxHeartbeats 400000 in
theorem zagzig_ref (w : World) (x : Nat) (hx : lt64 x) :
    Calls Tryz.prog 125 #[.int .u64 x] w fun e w' => e = .returned (.int .i64 (uz x)) ∧ w' = w := by
  have h63 : ((x / 2 : Nat) : Int) ≤ 9223372036854775807 := by have := hx.out; omega
  have ew : wrap64 (IntKind.u64.wrap ((x : Int) / 2)) = ((x / 2 : Nat) : Int) := by rw [wrap_u64_id _ (by omega) (by have := hx.out; omega), show (x : Int) / 2 = ((x / 2 : Nat) : Int) by omega]; unfold wrap64; omega
  have ew2 : wrap64 (wrap64 (-((x / 2 : Nat) : Int)) - 1) = -((x / 2 : Nat) : Int) - 1 := by unfold wrap64; omega
  have HW := Lib.hid ew; have HW2 := Lib.hid ew2; clear ew ew2 h63 hx
  by_cases h : x % 2 = 1
  · have hb : (((x : Int) % 2) == 1) = true := by rw [beq_iff_eq]; omega
    have HE := Lib.hid (zag_odd x h); clear h
    go_enter Tryz.func125, Tryz.ntmps125
    go_wp2
    go_ret
    refine ⟨?_, rfl⟩
    rw [HE.out, ← HW2.out, HW.out]; rfl
  · have hb : (((x : Int) % 2) == 1) = false := by rw [beq_eq_false_iff_ne]; omega
    have HE := Lib.hid (zag_even x (by omega)); clear h
    go_enter Tryz.func125, Tryz.ntmps125
    go_wp2
    go_ret
    refine ⟨?_, rfl⟩
    rw [HE.out, HW.out]; rfl

set_option maxHeartbeats 400000 in
theorem xsigned_any (p : Nat) (w : World) (sv : Value) (l : List UInt8) (s : RS) (hw : Rx w p sv l s) :
    Calls Tryz.prog 100 #[.pointer (some ⟨p, 0, none⟩)] w fun e w' => e = .returned (.int .i64 (uz (s.var l).1)) ∧ Rx w' p sv l (s.var l).2 ∧ Fr (At p) w w' := by
  go_enter Tryz.func100, Tryz.ntmps100
  go_wp2_with fail
  refine (xvar_any p _ sv l s hw).mono ?_
  rintro e w1 ⟨rfl, hr, hf⟩
  have HR := Lib.hid hr; have HF := Lib.hid hf
  clear hr hf
  go_wp2_with fail
  refine (zagzig_ref _ _ ⟨by have := var_64 l s; omega⟩).mono ?_
  rintro e w2 ⟨rfl, rfl⟩
  go_wp2
  go_ret
  exact ⟨rfl, HR.out, HF.out⟩

theorem text_err (l : List UInt8) (s : RS) (h : (s.var l).2.e ≠ 0) : s.text l = ([], (s.var l).2) := by
  have h0 : (s.var l).1 = 0 := by
    unfold RS.var at h ⊢
    split
    · rfl
    · split
      · rfl
      · rename_i h1 h2
        rw [if_neg h1, if_neg h2] at h
        simp at h1
        exact absurd h1 h
  unfold RS.text
  rw [h0, if_neg (by omega)]
  unfold RS.take
  rw [if_pos h]

set_option maxRecDepth 100000 in
set_option maxHeartbeats 400000 in
theorem xtext_any (p : Nat) (w : World) (sv : Value) (l : List UInt8) (s : RS) (hw : Rx w p sv l s) :
    Calls Tryz.prog 101 #[.pointer (some ⟨p, 0, none⟩)] w fun e w' => e = .returned (.string ⟨(s.text l).1.toArray⟩) ∧ Rx w' p sv l (s.text l).2 ∧ Fr (At p) w w' := by
  obtain ⟨c0, c1, c2, c3, hf, hps⟩ := four_cells hw.1
  have HP0 := Lib.hid hw.2.2.2.1
  go_enter Tryz.func101, Tryz.ntmps101
  go_wp2_with fail
  refine (xvar_any p _ sv l s hw).mono ?_
  rintro e w1 ⟨rfl, hr, hf1⟩
  clear c0 c1 c2 c3 hf hw
  obtain ⟨c0, c1, c2, c3, hf, hps1⟩ := four_cells hr.1
  obtain ⟨A, c, rfl, hl1, hl2⟩ := hr.2.1.form
  have hp := hr.2.2.2.1
  have hl := hr.2.2.2.2.1
  have HTE := Lib.hid (text_err l s)
  obtain ⟨x, hx⟩ : ∃ x, x = (s.var l).1 := ⟨_, rfl⟩
  obtain ⟨s1, hs1⟩ : ∃ s1, s1 = (s.var l).2 := ⟨_, rfl⟩
  rw [← hx]
  rw [← hs1] at hr c1 c2 c3 hp HTE
  have HR := Lib.hid hr; have HF := Lib.hid hf1; have HX := Lib.hid hx; have HS := Lib.hid hs1
  clear hr hf1 hx hs1
  by_cases he : s1.e = 0
  · have hb : ((s1.e : Int) != 0) = false := by simp [he]
    have HE := Lib.hid he; clear he
    by_cases hgt : l.length - s1.pos < x
    · go_wp2
      go_quiet (fail)
      have HR2 := Lib.hid ((HR.out.drewN nq).setPos s.pos HP0.out)
      go_wp2_with fail
      refine (xfail_any p _ _ l _ 20 (by omega) HR2.out).mono ?_
      rintro e w' ⟨rfl, hr, hf⟩
      go_wp2
      go_ret
      have e : s.text l = ([], (RS.mk s.pos s1.e s1.wh).fail 20) := by
        unfold RS.text
        rw [← HX.out, ← HS.out, if_pos (by omega)]
      rw [e]
      exact ⟨rfl, hr, HF.out.trans ((Fr.drewN (At p) w1 nq).setAt 1 (.int .i64 (s.pos : Int)) |>.trans hf (fun _ _ h => h)) (fun _ _ h => h)⟩
    · have hxl : x ≤ l.length := by omega
      go_wp2
      go_quiet (fail)
      go_wp2_with fail
      refine (xraw_any p _ _ l s1 x (by omega) (HR.out.drewN nq)).mono ?_
      rintro e w2 ⟨A2, c2, rfl, hv, _, hr, hf2⟩
      have hstr := run_str (P := Tryz.prog) w2 (src := 23) (dst := 9) (e := 5) (by kernel_rfl) (by kernel_rfl) (by kernel_rfl) hv
      have HR2 := Lib.hid hr; have HF2 := Lib.hid hf2
      clear hr hf2 hv
      go_wp2
      go_ret
      have e : s.text l = s1.take l x := by
        unfold RS.text
        rw [← HX.out, ← HS.out, if_neg (by omega)]
      rw [e]
      exact ⟨rfl, HR2.out, HF.out.trans ((Fr.drewN (At p) w1 nq).trans HF2.out (fun _ _ h => h)) (fun _ _ h => h)⟩
  · have hb : ((s1.e : Int) != 0) = true := by simp [he]
    have HE := Lib.hid he; clear he
    go_wp2
    go_ret
    rw [HTE.out HE.out]
    exact ⟨rfl, HR.out, HF.out⟩

set_option maxHeartbeats 400000 in
theorem xend_any (p : Nat) (w : World) (sv : Value) (l : List UInt8) (s : RS) (hw : Rx w p sv l s) :
    Calls Tryz.prog 63 #[.pointer (some ⟨p, 0, none⟩)] w fun e w' => e = .returned (.int .i64 (s.last l : Int)) ∧ ∃ n, w' = w.drewN n := by
  obtain ⟨c0, c1, c2, c3, hf, hps⟩ := four_cells hw.1
  obtain ⟨A, c, rfl, hl1, hl2⟩ := hw.2.1.form
  obtain ⟨_, _, _, hp, hl, _⟩ := hw
  by_cases he : s.e = 0
  · have hb : ((s.e : Int) != 0) = false := by simp [he]
    have HE := Lib.hid he; clear he
    by_cases hlt : s.pos < l.length
    · have hd : decide ((s.pos : Int) < (l.length : Int)) = true := by simp; omega
      go_enter Tryz.func63, Tryz.ntmps63
      go_wp2
      go_quiet (fail)
      go_wp2
      go_ret
      refine ⟨?_, _, rfl⟩
      rw [RS.last, if_pos ⟨HE.out, hlt⟩]; rfl
    · have hd : decide ((s.pos : Int) < (l.length : Int)) = false := by simp; omega
      go_enter Tryz.func63, Tryz.ntmps63
      go_wp2
      go_quiet (fail)
      go_wp2
      go_ret
      refine ⟨?_, _, rfl⟩
      rw [RS.last, if_neg (by omega), HE.out]; rfl
  · have hb : ((s.e : Int) != 0) = true := by simp [he]
    have HE := Lib.hid he; clear he
    go_enter Tryz.func63, Tryz.ntmps63
    go_wp2
    go_ret
    refine ⟨?_, 0, rfl⟩
    rw [RS.last, if_neg (fun h => HE.out h.1)]; rfl
end Go.Proofs.YtijcleiekafoiaaGreatDoor
