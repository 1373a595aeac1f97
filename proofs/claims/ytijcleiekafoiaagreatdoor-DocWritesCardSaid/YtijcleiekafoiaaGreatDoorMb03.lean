import Derived.Test.YtijcleiekafoiaaGreatDoorMb02
import Derived.Deep.QuietTactic
import Derived.BigQuiet
import Derived.WalkSpells
import Derived.Lib.Bytealg

/- The reader of package code: what each call of it reads. Conditions: the bytes lie in a block other than the reader's. -/
namespace Go.Proofs.YtijcleiekafoiaaGreatDoor
open Go.RowKit

/-- A reader's place, its error, and where that was met. -/
structure RS where
  pos : Nat
  e : Nat
  wh : Nat

def RS.fail (s : RS) (k : Nat) : RS := if s.e = 0 then ⟨s.pos, k, s.pos⟩ else s

/-- The next n bytes. -/
def RS.take (l : List UInt8) (n : Int) (s : RS) : List UInt8 × RS :=
  if s.e ≠ 0 then ([], s) else if n < 0 then ([], s.fail 1) else if n > (l.length : Int) - s.pos then ([], s.fail 20)
  else ((l.drop s.pos).take n.toNat, ⟨s.pos + n.toNat, s.e, s.wh⟩)

def Rr (w : World) (p : Nat) (sv : Value) (l : List UInt8) (s : RS) : Prop :=
  w.heap[p]? = some (.cells #[sv, .int .i64 (s.pos : Int), .int .u16 (s.e : Int), .int .i64 (s.wh : Int)] 182 (0, 0)) ∧ Sl w 1 sv l.length (bvs l) ∧ sv.ownBlock ≠ some p ∧ s.pos ≤ l.length ∧ l.length ≤ 140737488351232 ∧ s.e < 65536

theorem Rr.of {w w1 : World} {p : Nat} {sv : Value} {l : List UInt8} {s s' : RS} (h : Rr w p sv l s) (f : Fr (At p) w w1) (hp : s'.pos ≤ l.length) (he : s'.e < 65536)
    (hb : w1.heap[p]? = some (.cells #[sv, .int .i64 (s'.pos : Int), .int .u16 (s'.e : Int), .int .i64 (s'.wh : Int)] 182 (0, 0))) : Rr w1 p sv l s' :=
  ⟨hb, h.2.1.kept f (fun k hk e => h.2.2.1 (by rw [hk, e])), h.2.2.1, hp, h.2.2.2.2.1, he⟩

theorem Rr.kept {w w1 : World} {p : Nat} {sv : Value} {l : List UInt8} {s : RS} {S : Nat → Prop} (h : Rr w p sv l s) (f : Fr S w w1) (h1 : ¬ S p) (h2 : ∀ k, sv.ownBlock = some k → ¬ S k) : Rr w1 p sv l s :=
  ⟨f.heap h.1 h1, h.2.1.kept f h2, h.2.2⟩

set_option maxHeartbeats 400000 in
theorem fail_any (p : Nat) (w : World) (sv : Value) (l : List UInt8) (s : RS) (k : Nat) (hk : k < 65536) (hw : Rr w p sv l s) :
    Calls Tryz.prog 122 #[.pointer (some ⟨p, 0, none⟩), .int .u16 k] w fun e w' => e = .returned (.tuple #[]) ∧ Rr w' p sv l (s.fail k) ∧ Fr (At p) w w' := by
  obtain ⟨c0, c1, c2, c3, hf, hps⟩ := four_cells hw.1
  have HW := Lib.hid hw; clear hw
  by_cases he : s.e = 0
  · have hb : ((s.e : Int) == 0) = true := by simp [he]
    have HE := Lib.hid he; clear he
    go_enter Tryz.func122, Tryz.ntmps122
    go_wp2
    go_end0
    refine ⟨rfl, ?_, ((Fr.refl (At p) w).setAt _ _).setAt _ _⟩
    have e : s.fail k = ⟨s.pos, k, s.pos⟩ := by simp [RS.fail, HE.out]
    rw [e]
    refine HW.out.of (((Fr.refl (At p) w).setAt _ _).setAt _ _) HW.out.2.2.2.1 hk ?_
    rw [hp_same (hp_same HW.out.1 _ _)]
    simp
  · have hb : ((s.e : Int) == 0) = false := by simp [he]
    have HE := Lib.hid he; clear he
    go_enter Tryz.func122, Tryz.ntmps122
    go_wp2
    go_end0
    have e : s.fail k = s := by simp [RS.fail, HE.out]
    rw [e]
    exact ⟨rfl, HW.out, Fr.refl _ _⟩

theorem Rr.drewN {w : World} {p : Nat} {sv : Value} {l : List UInt8} {s : RS} (h : Rr w p sv l s) (n : Nat) : Rr (w.drewN n) p sv l s :=
  h.of (Fr.drewN _ _ _) h.2.2.2.1 h.2.2.2.2.2 h.1

set_option maxHeartbeats 400000 in
theorem err_any (p : Nat) (w : World) (sv : Value) (l : List UInt8) (s : RS) (hw : Rr w p sv l s) :
    Calls Tryz.prog 121 #[.pointer (some ⟨p, 0, none⟩)] w fun e w' => e = .returned (.tuple #[.int .u16 s.e, .int .i64 s.wh]) ∧ ∃ n, w' = w.drewN n := by
  obtain ⟨c0, c1, c2, c3, hf, hps⟩ := four_cells hw.1
  go_enter Tryz.func121, Tryz.ntmps121
  go_wp2
  go_quiet (fail)
  go_wp2
  go_ret2
  exact ⟨rfl, _, rfl⟩

set_option maxHeartbeats 400000 in
theorem take_any (p : Nat) (w : World) (sv : Value) (l : List UInt8) (s : RS) (n : Int) (hn1 : -9223372036854775808 ≤ n) (hw : Rr w p sv l s) :
    Calls Tryz.prog 120 #[.pointer (some ⟨p, 0, none⟩), .int .i64 n] w fun e w' => ∃ v, e = .returned v ∧ Sl w' 1 v (s.take l n).1.length (bvs (s.take l n).1) ∧ (v = .slice none 0 0 ∨ v.ownBlock = sv.ownBlock) ∧ Rr w' p sv l (s.take l n).2 ∧ Fr (At p) w w' := by
  obtain ⟨c0, c1, c2, c3, hf, hps⟩ := four_cells hw.1
  have HW := Lib.hid hw
  by_cases he : s.e = 0
  · have hb : ((s.e : Int) != 0) = false := by simp [he]
    have HE := Lib.hid he; clear he
    by_cases hn : n < 0
    · have e : s.take l n = ([], s.fail 1) := by simp [RS.take, HE.out, hn]
      rw [e]
      clear hn1 hw
      go_enter Tryz.func120, Tryz.ntmps120
      go_wp2_with (go_at_call 122; refine (fail_any p _ sv l s 1 (by omega) HW.out).mono ?_; rintro e w' ⟨rfl, hr, hf⟩)
      go_ret
      exact ⟨_, rfl, Sl.nil _ _, .inl rfl, hr, hf⟩
    · obtain ⟨A, c, rfl, hl1, hl2⟩ := hw.2.1.form
      obtain ⟨_, _, _, hp, hl, _⟩ := hw
      by_cases hm : (l.length : Int) - s.pos < n
      · have e : s.take l n = ([], s.fail 20) := by simp [RS.take, HE.out, hn, hm]
        rw [e]
        clear hn1
        go_enter Tryz.func120, Tryz.ntmps120
        go_wp2
        go_quiet (fail)
        go_wp2_with (go_at_call 122; refine (fail_any p _ _ l s 20 (by omega) (HW.out.drewN nq)).mono ?_; rintro e w' ⟨rfl, hr, hf⟩)
        go_ret
        exact ⟨_, rfl, Sl.nil _ _, .inl rfl, hr, (Fr.drewN (At p) w nq).trans hf (fun _ _ h => h)⟩
      · obtain ⟨m, rfl⟩ := Int.eq_ofNat_of_zero_le (show 0 ≤ n by omega)
        have hm2 : s.pos + m ≤ l.length := by omega
        have e : s.take l m = ((l.drop s.pos).take m, ⟨s.pos + m, s.e, s.wh⟩) := by simp only [RS.take, HE.out, ne_eq, not_true, if_false, hn, hm, Int.toNat_natCast]
        rw [e]
        clear hn1 hm hn e
        by_cases hcp : c = s.pos
        all_goals
         go_enter Tryz.func120, Tryz.ntmps120
         go_wp2
         go_quiet (fail)
         go_wp2
         go_quiet (fail)
         go_wp2
         go_ret
        all_goals
         have hs := HW.out.2.1
         first
          | (obtain ⟨q1, q2⟩ := Sl.cut0 (lo := s.pos) (m := m) (hcp ▸ hs) hm2; have q3 := q2.trans (show _ = (Value.slice A l.length c).ownBlock from by cases A <;> rfl); refine ⟨_, rfl, ?_, .inr q3, ?_, ?_⟩)
          | (obtain ⟨q1, q2⟩ := Sl.cut1 (lo := s.pos) (m := m) hs hm2; have q3 := q2; refine ⟨_, rfl, ?_, .inr q3, ?_, ?_⟩)
         · rw [bvs_cut] at q1
           rw [show ((l.drop s.pos).take m).length = m from by simp; omega]
           exact q1.kept (S := At p) (by (repeat first | exact Fr.refl _ _ | exact Fr.drewN _ _ _ | apply Fr.drew | apply Fr.alloc | apply Fr.setAt | apply Fr.moreN)) (fun k hk e => HW.out.2.2.1 ((q3.symm.trans hk).trans (congrArg some e)))
         · refine HW.out.of (by (repeat first | exact Fr.refl _ _ | exact Fr.drewN _ _ _ | apply Fr.drew | apply Fr.alloc | apply Fr.setAt | apply Fr.moreN)) hm2 HW.out.2.2.2.2.2 ?_
           rw [hp_same (HW.out.drewN _).1]
           simp
         · (repeat first | exact Fr.refl _ _ | exact Fr.drewN _ _ _ | apply Fr.drew | apply Fr.alloc | apply Fr.setAt | apply Fr.moreN)
  · have hb : ((s.e : Int) != 0) = true := by simp [he]
    have e : s.take l n = ([], s) := by simp [RS.take, he]
    rw [e]
    have HE := Lib.hid he; clear he hw hn1
    go_enter Tryz.func120, Tryz.ntmps120
    go_wp2
    go_ret
    exact ⟨_, rfl, Sl.nil _ _, .inl rfl, HW.out, Fr.refl _ _⟩
end Go.Proofs.YtijcleiekafoiaaGreatDoor

/- A number of seven bits a byte, read. -/
namespace Go.Proofs.YtijcleiekafoiaaGreatDoor
open Go.RowKit

def vl : Nat → Nat → List UInt8 → Nat × Nat × Nat
  | _, _, [] => (0, 0, 20)
  | i, v, c :: r => if (i = 9 ∧ c.toNat ≠ 1) ∨ (0 < i ∧ c.toNat = 0) then (0, 0, 21) else if c.toNat < 128 then (v + c.toNat % 128 * 2 ^ (7 * i), i + 1, 0) else vl (i + 1) (v + c.toNat % 128 * 2 ^ (7 * i)) r

def Num3 (x : Nat × Nat × Nat) : Ending := .returned (.tuple #[.int .u64 (x.1 : Int), .int .i64 (x.2.1 : Int), .int .u16 (x.2.2 : Int)])

set_option maxRecDepth 100000 in
set_option maxHeartbeats 400000 in
theorem varint_reads (w : World) (x : Value) (l : List UInt8) (hx : Sl w 1 x l.length (bvs l)) (hl : l.length ≤ 140737488351232) :
    Calls Tryz.prog 123 #[x] w fun e w' => e = Num3 (vl 0 0 l) ∧ w' = w := by
  obtain ⟨A, c, rfl, hl1, hl2⟩ := hx.form
  have HX := Lib.hid hx; clear hx
  go_enter Tryz.func123, Tryz.ntmps123
  go_wp2
  go_step3
  go_wp2
  go_step3
  go_wp2
  go_loop [2, 4, 9] (fun v e i => ∃ k a : Nat, k ≤ l.length ∧ k ≤ 9 ∧ a < 2 ^ (7 * k) ∧ i = .int .i64 k ∧ v = .int .u64 a ∧ e = .int .u16 20 ∧ vl k a (l.drop k) = vl 0 0 l) (fun _ _ i => l.length - (intOf i).toNat)
  case atStart => exact ⟨0, 0, by omega, by omega, by simp, rfl, rfl, rfl, rfl⟩
  case round =>
    obtain ⟨k, a, hk, hk9, ha, rfl, rfl, rfl, hv⟩ := hrel
    have HV := Lib.hid hv; have HA := Lib.hid ha; clear hv ha
    by_cases hlt : k < l.length
    · obtain ⟨b, o, rfl, hc⟩ := HX.out.byte k hlt
      have hd : l.drop k = l[k] :: l.drop (k + 1) := List.drop_eq_getElem_cons hlt
      have HD := Lib.hid hd; clear hd
      obtain ⟨y, hy⟩ : ∃ y : UInt8, y = l[k] := ⟨_, rfl⟩
      rw [← hy] at hc HD
      clear hy
      have hy2 : (y.toNat : Int) < 256 := by have := y.toNat_lt; omega
      have k0 : (0 : Int) ≤ (k : Int) := by omega
      have hvl : vl 0 0 l = if (k = 9 ∧ y.toNat ≠ 1) ∨ (0 < k ∧ y.toNat = 0) then (0, 0, 21) else if y.toNat < 128 then (a + y.toNat % 128 * 2 ^ (7 * k), k + 1, 0) else vl (k + 1) (a + y.toNat % 128 * 2 ^ (7 * k)) (l.drop (k + 1)) := by
        rw [← HV.out, HD.out]; rfl
      have HL := Lib.hid hvl; clear hvl
      by_cases h9 : k = 9
      · subst h9
        by_cases h1 : y.toNat = 1
        · have hb : ((y.toNat : Int) != 1) = false := by simp [h1]
          have hb2 : ((y.toNat : Int) == 0) = false := by simp [h1]
          have hb3 : (y.toNat : Int) < 128 := by omega
          have H1 := Lib.hid h1; clear h1
          go_wp2
          have hfin : vl 0 0 l = (a + y.toNat % 128 * 2 ^ (7 * 9), 10, 0) := by
            have h1 := H1.out
            rw [HL.out, if_neg (by omega), if_pos (by omega)]
          have hs := (seven a y.toNat 9 (by omega) HA.out (by omega) (fun _ => H1.out)).1
          have e63 : (2 : Int) ^ (7 * 9) = 9223372036854775808 := by decide
          rw [e63] at hs
          rw [hs, hfin]
          go_ret3
          exact ⟨rfl, rfl⟩
        · have hb : ((y.toNat : Int) != 1) = true := by simp; omega
          have H1 := Lib.hid h1; clear h1
          go_wp2
          have hfin : vl 0 0 l = (0, 0, 21) := by rw [HL.out, if_pos (.inl ⟨by trivial, H1.out⟩)]
          rw [hfin]
          go_ret3
          exact ⟨rfl, rfl⟩
      · have hb9 : ((k : Int) == 9) = false := by simp; omega
        by_cases hz : k = 0
        · subst hz
          have hc' : w.cell? ⟨b, o, none⟩ = some (.int .u8 (y.toNat : Int)) := hc
          clear hc
          by_cases h128 : (y.toNat : Int) < 128
          · go_wp2
            have hfin : vl 0 0 l = (a + y.toNat % 128 * 2 ^ (7 * 0), 1, 0) := by rw [HL.out, if_neg (by omega), if_pos (by omega)]
            have hs := (seven a y.toNat 0 (by omega) HA.out (by omega) (fun h => by omega)).1
            have e0 : (2 : Int) ^ (7 * 0) = 1 := by decide
            rw [e0, Int.mul_one] at hs
            rw [hs, hfin]
            go_ret3
            exact ⟨rfl, rfl⟩
          · go_wp2
            have hs := (seven a y.toNat 0 (by omega) HA.out (by omega) (fun h => by omega)).1
            have e0 : (2 : Int) ^ (7 * 0) = 1 := by decide
            rw [e0, Int.mul_one] at hs
            go_round
            case rel =>
              refine ⟨1, a + y.toNat % 128 * 2 ^ (7 * 0), by omega, by omega, ?_, by go_num, by rw [hs], rfl, ?_⟩
              · have := HA.out
                omega
              · conv => rhs; rw [HL.out, if_neg (by omega), if_neg (by omega)]
            case measure => simp [intOf]; omega
        · have hbk : decide ((0 : Int) < (k : Int)) = true := by simp; omega
          by_cases h0 : y.toNat = 0
          · have hb2 : ((y.toNat : Int) == 0) = true := by simp [h0]
            have H1 := Lib.hid h0; clear h0
            go_wp2
            have hfin : vl 0 0 l = (0, 0, 21) := by rw [HL.out, if_pos (.inr ⟨by omega, H1.out⟩)]
            rw [hfin]
            go_ret3
            exact ⟨rfl, rfl⟩
          · have hb2 : ((y.toNat : Int) == 0) = false := by simp; omega
            have H1 := Lib.hid h0; clear h0
            by_cases h128 : (y.toNat : Int) < 128
            · go_wp2
              have hfin : vl 0 0 l = (a + y.toNat % 128 * 2 ^ (7 * k), k + 1, 0) := by
                have h1 := H1.out
                rw [HL.out, if_neg (by omega), if_pos (by omega)]
              have hs := (seven a y.toNat k (by omega) HA.out (by omega) (fun h => by omega)).1
              rw [hs, hfin]
              go_ret3
              exact ⟨rfl, rfl⟩
            · have h8 : k ≤ 8 := by omega
              go_wp2
              have hs := seven a y.toNat k (by omega) HA.out (by omega) (fun h => by omega)
              go_round
              case rel =>
                refine ⟨k + 1, a + y.toNat % 128 * 2 ^ (7 * k), by omega, by omega, ?_, by go_num, by rw [hs.1], rfl, ?_⟩
                · have := HA.out
                  have e : 2 ^ (7 * (k + 1)) = 128 * 2 ^ (7 * k) := by rw [Nat.mul_add, Nat.pow_add]; omega
                  have : y.toNat % 128 * 2 ^ (7 * k) ≤ 127 * 2 ^ (7 * k) := Nat.mul_le_mul_right _ (by omega)
                  omega
                · have h1 := H1.out
                  conv => rhs; rw [HL.out, if_neg (by omega), if_neg (by omega)]
              case measure => simp [intOf]; omega
    · go_wp2
      have hfin : vl 0 0 l = (0, 0, 20) := by rw [← HV.out, List.drop_of_length_le (by omega)]; rfl
      rw [hfin]
      go_ret3
      exact ⟨rfl, rfl⟩
end Go.Proofs.YtijcleiekafoiaaGreatDoor

/- Clones, and the reader's calls. -/
namespace Go.Proofs.YtijcleiekafoiaaGreatDoor
open Go.RowKit

set_option maxHeartbeats 400000 in
theorem clip_any (w : World) (A : Option Addr) (n c : Nat) (hc : n ≤ c) :
    Calls Tryz.prog 79 #[.slice A n c] w fun e w' => e = .returned (.slice A n n) ∧ w' = w := by
  by_cases hn : n = 0
  · subst hn
    go_enter Tryz.func79, Tryz.ntmps79
    go_wp2
    go_ret
    exact ⟨rfl, rfl⟩
  · go_enter Tryz.func79, Tryz.ntmps79
    go_wp2
    go_ret
    refine ⟨?_, rfl⟩
    cases A <;> simp

set_option maxHeartbeats 400000 in
/-- Clone: nil of nil; else a row of its own. -/
theorem sclone_any (w : World) (x : Value) (l : List UInt8) (hx : Sl w 1 x l.length (bvs l)) (hl : l.length ≤ 140737488351232) :
    Calls Tryz.prog 80 #[x] w fun e w' => ∃ A c, e = .returned (.slice A l.length c) ∧ w'.ownsRow 0 5 1 (.slice A l.length c) l.length (bvs l) ∧ (∀ k, Value.ownBlock (.slice A l.length c) = some k → w.heap.size ≤ k) ∧ Fr no w w' := by
  have hx2 : (x = .slice none 0 0 ∧ l.length = 0) ∨ ∃ y cap, x = .slice (some y) l.length cap ∧ l.length ≤ cap ∧ cap ≤ maxLen := by
    rcases hx.2 with ⟨Y, h1, h2⟩ | ⟨b, o, cap, h1, h2, h3, _⟩
    · cases Y with
      | none => exact .inl ⟨h1, h2⟩
      | some y => exact .inr ⟨y, 0, by rw [h1, h2], by omega, Nat.zero_le _⟩
    · exact .inr ⟨_, cap, h1, h2, h3⟩
  rcases hx2 with ⟨rfl, h0⟩ | ⟨y, cap, rfl, h1, h2⟩
  · obtain rfl : l = [] := List.eq_nil_of_length_eq_zero h0
    have hnil := fun (w : World) (a : Option Addr) (n c n' c' : Nat) => Lib.run_eql_slice_nil (P := Tryz.prog) w 23 5 a n c n' c' (by kernel_rfl)
    go_enter Tryz.func80, Tryz.ntmps80
    go_wp2
    go_ret
    exact ⟨none, 0, rfl, ⟨rfl, .inl ⟨rfl, rfl⟩⟩, by simp [Value.ownBlock], Fr.refl _ _⟩
  · have HX := Lib.hid hx; clear hx
    have hnil := fun (w : World) (a : Option Addr) (n c n' c' : Nat) => Lib.run_eql_slice_nil (P := Tryz.prog) w 23 5 a n c n' c' (by kernel_rfl)
    go_enter Tryz.func80, Tryz.ntmps80
    go_wp2_with (at_builtin; refine wpList_ap (w0 := w.alloc (.cells #[] 5)) (n := 0) (xs := []) rfl (.tmp 5) (.tmp 6) 23 rfl tbB ?own (Fr.refl _ _) (HX.out.kept0 ?fr) rfl rfl (bvs_one l) ?b1 ?b2 ?go)
    case own => exact ⟨rfl, .inr ⟨w.heap.size, 0, #[], rfl, Nat.zero_le _, heap_alloc_new _ _, Nat.le_refl _, Nat.zero_le _, by simp, by simp⟩⟩
    case fr => (repeat first | exact Fr.refl _ _ | apply Fr.drew | apply Fr.alloc)
    case b1 => simp only [maxLen]; omega
    case b2 => omega
    case go =>
      intro A N c w' ho hf hm
      obtain rfl : N = l.length := by have := ho.1; rw [bvs_length] at this; omega
      have HO := Lib.hid ho; have HF := Lib.hid hf; have HM := Lib.hid hm; clear ho hf hm
      go_wp2
      go_ret
      refine ⟨A, c, rfl, HO.out, fun k hk => ?_, ?_⟩
      · rcases HM.out with h | h
        · rw [h] at hk
          have : w.heap.size = k := by simpa [Value.ownBlock] using hk
          omega
        · have := h k hk; simp at this; omega
      · exact Fr.trans (S := no) (by (repeat first | exact Fr.refl _ _ | apply Fr.drew | apply Fr.alloc)) HF.out (fun k hk h => by simp [Value.ownBlock] at h; omega)

set_option maxHeartbeats 400000 in
theorem bytes_any (p : Nat) (w : World) (sv : Value) (l : List UInt8) (hw : Wr w p sv l) (hl : l.length ≤ 140737488351232) :
    Calls Tryz.prog 30 #[.pointer (some ⟨p, 0, none⟩)] w fun e w' => ∃ A, e = .returned (.slice A l.length l.length) ∧ Ow w' 5 1 (.slice A l.length l.length) l.length (bvs l) ∧ (∀ k, Value.ownBlock (.slice A l.length l.length) = some k → w.heap.size ≤ k) ∧ Fr no w w' := by
  obtain ⟨A, c, rfl⟩ := own_form hw.2.1
  obtain ⟨hc0, hfz, hps⟩ := one_cells hw.1
  have HW := Lib.hid hw; clear hw
  go_enter Tryz.func30, Tryz.ntmps30
  go_wp2_with fail
  refine (sclone_any _ _ l (Sl.of_own HW.out.2.1) hl).mono ?_
  rintro e w1 ⟨A1, c1, rfl, ho, hfresh, hf⟩
  obtain ⟨A2, c2, h1, h2, h3⟩ := (Sl.of_own ho).form
  cases h1
  have HO := Lib.hid ho; have HFR := Lib.hid hfresh; have HF := Lib.hid hf; clear ho hfresh hf h3
  go_wp2_with fail
  refine (clip_any _ _ _ _ h2).mono ?_
  rintro e w2 ⟨rfl, rfl⟩
  go_wp2
  go_ret
  refine ⟨A1, rfl, (Ow.of_own HO.out).clip, fun k hk => HFR.out k (by cases A1 <;> exact hk), HF.out⟩

/-- A reader of its own over the bytes. -/
theorem read_any (w : World) (x : Value) (l : List UInt8) (hx : Sl w 1 x l.length (bvs l)) (hl : l.length ≤ 140737488351232) :
    Calls Tryz.prog 58 #[x] w fun e w' => ∃ p sv, e = .returned (.pointer (some ⟨p, 0, none⟩)) ∧ Rr w' p sv l ⟨0, 0, 0⟩ ∧ w.heap.size ≤ p ∧ (∀ k, sv.ownBlock = some k → w.heap.size ≤ k ∧ k < w'.heap.size) ∧ Fr no w w' := by
  go_enter Tryz.func58, Tryz.ntmps58
  go_wp2_with fail
  refine (sclone_any _ _ l hx hl).mono ?_
  rintro e w1 ⟨A1, c1, rfl, ho, hfresh, hf⟩
  have HO := Lib.hid ho; have HFR := Lib.hid hfresh; have HF := Lib.hid hf; clear ho hfresh hf
  go_wp2
  go_ret
  have hlt := own_lt HO.out
  refine ⟨_, _, rfl, ⟨heap_alloc_new _ _, (Sl.of_own HO.out).kept0 (by (repeat first | exact Fr.refl _ _ | apply Fr.drew | apply Fr.alloc)), fun h => by have := hlt _ h; omega, Nat.zero_le _, hl, by decide⟩, HF.out.size, fun k hk => ⟨HFR.out k hk, by have := hlt k hk; simp; omega⟩, HF.out.alloc _⟩
end Go.Proofs.YtijcleiekafoiaaGreatDoor

/- The reader's numbers and texts. -/
namespace Go.Proofs.YtijcleiekafoiaaGreatDoor
open Go.RowKit

theorem vl_ok : ∀ (l : List UInt8) (i v : Nat), (vl i v l).2.2 = 0 → i < (vl i v l).2.1 ∧ (vl i v l).2.1 ≤ i + l.length
  | [], i, v, h => by simp [vl] at h
  | c :: r, i, v, h => by
    unfold vl at h ⊢
    split at h
    · simp at h
    · rename_i h1
      rw [if_neg h1] at *
      split at h
      · rename_i h2; rw [if_pos h2] at *; simp
      · rename_i h2
        rw [if_neg h2] at *
        have := vl_ok r (i + 1) _ h
        simp; omega

theorem vl_e : ∀ (l : List UInt8) (i v : Nat), (vl i v l).2.2 < 65536
  | [], i, v => by simp [vl]
  | c :: r, i, v => by
    unfold vl
    split
    · simp
    · split
      · simp
      · exact vl_e r _ _

/-- A number. -/
def RS.var (l : List UInt8) (s : RS) : Nat × RS :=
  if s.e ≠ 0 then (0, s) else if (vl 0 0 (l.drop s.pos)).2.2 ≠ 0 then (0, s.fail (vl 0 0 (l.drop s.pos)).2.2)
  else ((vl 0 0 (l.drop s.pos)).1, ⟨s.pos + (vl 0 0 (l.drop s.pos)).2.1, s.e, s.wh⟩)

set_option maxRecDepth 100000 in
set_option maxHeartbeats 400000 in
theorem rvar_any (p : Nat) (w : World) (sv : Value) (l : List UInt8) (s : RS) (hw : Rr w p sv l s) :
    Calls Tryz.prog 93 #[.pointer (some ⟨p, 0, none⟩)] w fun e w' => e = .returned (.int .u64 ((s.var l).1 : Int)) ∧ Rr w' p sv l (s.var l).2 ∧ Fr (At p) w w' := by
  obtain ⟨c0, c1, c2, c3, hf, hps⟩ := four_cells hw.1
  have HW := Lib.hid hw
  by_cases he : s.e = 0
  · have hb : ((s.e : Int) != 0) = false := by simp [he]
    have HE := Lib.hid he; clear he
    obtain ⟨A, c, rfl, hl1, hl2⟩ := hw.2.1.form
    obtain ⟨_, _, _, hp, hl, _⟩ := hw
    obtain ⟨x, n, er, hr⟩ : ∃ x n er, vl 0 0 (l.drop s.pos) = (x, n, er) := ⟨_, _, _, rfl⟩
    have hcall : ∀ (w' : World) (X : Value), Sl w' 1 X (l.drop s.pos).length (bvs (l.drop s.pos)) → Calls Tryz.prog 123 #[X] w' fun e w'' => e = .returned (.tuple #[.int .u64 (x : Int), .int .i64 (n : Int), .int .u16 (er : Int)]) ∧ w'' = w' := by
      intro w' X hX
      have h := varint_reads w' X (l.drop s.pos) hX (by simp; omega)
      rw [hr] at h
      exact h
    have hn := vl_ok (l.drop s.pos) 0 0
    have he16 := vl_e (l.drop s.pos) 0 0
    rw [hr] at hn he16
    simp only [List.length_drop] at hn hcall
    have HR := Lib.hid hr; have HN := Lib.hid hn; clear hr hn
    have HC := Lib.hid hcall; clear hcall
    by_cases hcp : c = s.pos
    all_goals
      have hs := HW.out.2.1
      first
        | (have ht := Sl.tail0 (n := l.length) (lo := s.pos) (hcp ▸ hs) hp)
        | (have ht := Sl.tail1 (n := l.length) (lo := s.pos) hs hp)
      rw [bvs_drop] at ht
      have HT := Lib.hid ht.1; clear ht hs
      by_cases hr0 : er = 0
      all_goals
        first
          | (have hb2 : ((er : Int) != 0) = false := by simp [hr0])
          | (have hb2 : ((er : Int) != 0) = true := by simp [hr0])
        have HR0 := Lib.hid hr0; clear hr0
        go_enter Tryz.func93, Tryz.ntmps93
        go_wp2
        go_quiet ((go_at_call 123; exact Calls.quiet_of_same (HC.out _ _ (HT.out.kept0 (Fr.drewN _ _ _)))))
        first
          | (have hn := HN.out HR0.out
             have hn2 : s.pos + n ≤ l.length := by omega
             clear hn
             go_wp2
             go_ret
             have e : s.var l = (x, ⟨s.pos + n, s.e, s.wh⟩) := by
               unfold RS.var
               rw [HR.out, if_neg (by simp [HE.out]), if_neg (by simp [HR0.out])]
             rw [e]
             refine ⟨rfl, HW.out.of (by (repeat first | exact Fr.refl _ _ | exact Fr.drewN _ _ _ | apply Fr.drew | apply Fr.alloc | apply Fr.setAt | apply Fr.moreN)) hn2 HW.out.2.2.2.2.2 ?_, by (repeat first | exact Fr.refl _ _ | exact Fr.drewN _ _ _ | apply Fr.drew | apply Fr.alloc | apply Fr.setAt | apply Fr.moreN)⟩
             rw [hp_same (HW.out.drewN _).1]
             simp; done)
          | (go_wp2_with (go_at_call 122; refine (fail_any p _ _ l s er he16 (HW.out.drewN nq)).mono ?_; rintro e w' ⟨rfl, hr, hf⟩)
             go_ret
             have e : s.var l = (0, s.fail er) := by
               unfold RS.var
               rw [HR.out, if_neg (by simp [HE.out]), if_pos HR0.out]
             rw [e]
             exact ⟨rfl, hr, (Fr.drewN (At p) w nq).trans hf (fun _ _ h => h)⟩)
  · have hb : ((s.e : Int) != 0) = true := by simp [he]
    have e : s.var l = (0, s) := by simp [RS.var, he]
    rw [e]
    have HE := Lib.hid he; clear he hw
    go_enter Tryz.func93, Tryz.ntmps93
    go_wp2
    go_ret
    exact ⟨rfl, HW.out, Fr.refl _ _⟩
end Go.Proofs.YtijcleiekafoiaaGreatDoor

/- The reader's fixed numbers, signed numbers, texts, bytes, and its end. -/
namespace Go.Proofs.YtijcleiekafoiaaGreatDoor
open Go.RowKit

/-- Bytes as a number, the highest first. -/
def ube (l : List UInt8) : Nat := l.foldl (fun v c => v * 256 + c.toNat) 0

theorem be_snoc (l : List UInt8) (c : UInt8) : ube (l ++ [c]) = ube l * 256 + c.toNat := by simp [ube, List.foldl_append]
theorem be_lt (l : List UInt8) : ube l < 256 ^ l.length := by
  have key : ∀ (n : Nat) (l : List UInt8), l.length = n → ube l < 256 ^ n := by
    intro n
    induction n with
    | zero => intro l h; rw [List.eq_nil_of_length_eq_zero h]; simp [ube]
    | succ n ih =>
      intro l h
      obtain ⟨m, c, rfl⟩ : ∃ m c, l = m ++ [c] := ⟨l.dropLast, l.getLast (by intro e; subst e; simp at h), (List.dropLast_concat_getLast _).symm⟩
      have := ih m (by simp at h; omega)
      have := c.toNat_lt
      rw [be_snoc, Nat.pow_succ]; omega
  exact key _ _ rfl

theorem take_len (l : List UInt8) (n : Int) (s : RS) : (s.take l n).1.length ≤ n.toNat := by
  unfold RS.take
  split
  · simp
  · split
    · simp
    · split
      · simp
      · simp; omega

set_option maxRecDepth 100000 in
set_option maxHeartbeats 400000 in
theorem whole_any (p : Nat) (w : World) (sv : Value) (l : List UInt8) (s : RS) (n : Int) (hn0 : 0 ≤ n) (hn8 : n ≤ 8) (hw : Rr w p sv l s) :
    Calls Tryz.prog 119 #[.int .i64 n, .func (.func 120) #[.pointer (some ⟨p, 0, none⟩)] #[]] w fun e w' => e = .returned (.int .u64 (ube (s.take l n).1 : Int)) ∧ Rr w' p sv l (s.take l n).2 ∧ Fr (At p) w w' := by
  go_enter Tryz.func119, Tryz.ntmps119
  go_wp2_with fail
  refine (take_any p _ sv l s n (by omega) hw).mono ?_
  rintro e w1 ⟨v, rfl, hv, _, hr, hf⟩
  obtain ⟨A, c, rfl, hc1, hc2⟩ := hv.form
  have hbl : (s.take l n).1.length ≤ 8 := by have := take_len l n s; omega
  have HR := Lib.hid hr; have HF := Lib.hid hf; have HV := Lib.hid hv
  clear hr hf hv
  obtain ⟨bs, hbs⟩ : ∃ bs, bs = (s.take l n).1 := ⟨_, rfl⟩
  obtain ⟨s', hs'⟩ : ∃ s', s' = (s.take l n).2 := ⟨_, rfl⟩
  rw [← hbs] at hbl HV hc1 ⊢
  rw [← hs'] at HR
  have HB := Lib.hid hbs; have HS := Lib.hid hs'; clear hbs hs'
  go_wp2
  go_loop [4, 11] (fun v i => ∃ k : Nat, k ≤ bs.length ∧ i = .int .i64 k ∧ v = .int .u64 (ube (bs.take k))) (fun _ i => bs.length - (intOf i).toNat)
  case atStart => exact ⟨0, Nat.zero_le _, rfl, rfl⟩
  case round =>
    obtain ⟨k, hk, rfl, rfl⟩ := hrel
    by_cases hlt : k < bs.length
    · obtain ⟨b, o, rfl, hc⟩ := HV.out.byte k hlt
      have hsn : bs.take (k + 1) = bs.take k ++ [bs[k]] := by rw [List.take_succ_eq_append_getElem hlt]
      have HSN := Lib.hid hsn; clear hsn
      obtain ⟨y, hy⟩ : ∃ y : UInt8, y = bs[k] := ⟨_, rfl⟩
      rw [← hy] at hc HSN
      clear hy
      have hbe := be_lt (bs.take k)
      rw [List.length_take, Nat.min_eq_left hk] at hbe
      have hbe2 : ube (bs.take k) < 72057594037927936 := by
        have : 256 ^ k ≤ 256 ^ 7 := Nat.pow_le_pow_right (by omega) (by omega)
        omega
      have HBF := Lib.hid (eight (ube (bs.take k)) y.toNat hbe2 y.toNat_lt)
      clear hbe hbe2
      go_wp2
      go_round
      case rel =>
        refine ⟨k + 1, by omega, by go_num, ?_⟩
        rw [HSN.out, be_snoc]
        rw [wrap_u64_id (y.toNat : Int) (by omega) (by have := y.toNat_lt; omega), HBF.out]
      case measure => simp [intOf]; omega
    · go_wp2
      go_ret
      refine ⟨?_, HS.out ▸ HR.out, HF.out⟩
      rw [← HB.out, List.take_of_length_le (by omega)]
      rfl

set_option maxHeartbeats 400000 in
theorem ru8_any (p : Nat) (w : World) (sv : Value) (l : List UInt8) (s : RS) (hw : Rr w p sv l s) :
    Calls Tryz.prog 89 #[.pointer (some ⟨p, 0, none⟩)] w fun e w' => e = .returned (.int .u8 (ube (s.take l 1).1 : Int)) ∧ Rr w' p sv l (s.take l 1).2 ∧ Fr (At p) w w' := by
  have hb := be_lt (s.take l 1).1
  have hl := take_len l 1 s
  have h2 : 256 ^ (s.take l 1).1.length ≤ 256 ^ 1 := Nat.pow_le_pow_right (by omega) hl
  have h3 : (ube (s.take l 1).1 : Int) < 256 := by simp only [Nat.reducePow] at h2; omega
  clear hb hl h2
  go_enter Tryz.func89, Tryz.ntmps89
  go_wp2_with fail
  refine (whole_any p _ sv l s 1 (by omega) (by omega) hw).mono ?_
  rintro e w1 ⟨rfl, hr, hf⟩
  have HR := Lib.hid hr; have HF := Lib.hid hf
  clear hr hf
  go_wp2
  go_ret
  exact ⟨rfl, HR.out, HF.out⟩

/-- Was all read? -/
def RS.last (l : List UInt8) (s : RS) : Nat := if s.e = 0 ∧ s.pos < l.length then 21 else s.e

set_option maxHeartbeats 400000 in
theorem end_any (p : Nat) (w : World) (sv : Value) (l : List UInt8) (s : RS) (hw : Rr w p sv l s) :
    Calls Tryz.prog 60 #[.pointer (some ⟨p, 0, none⟩)] w fun e w' => e = .returned (.int .u16 (s.last l : Int)) ∧ ∃ n, w' = w.drewN n := by
  obtain ⟨c0, c1, c2, c3, hf, hps⟩ := four_cells hw.1
  obtain ⟨A, c, rfl, hl1, hl2⟩ := hw.2.1.form
  obtain ⟨_, _, _, hp, hl, _⟩ := hw
  by_cases he : s.e = 0
  · have hb : ((s.e : Int) == 0) = true := by simp [he]
    have HE := Lib.hid he; clear he
    by_cases hlt : s.pos < l.length
    · have hd : decide ((s.pos : Int) < (l.length : Int)) = true := by simp; omega
      go_enter Tryz.func60, Tryz.ntmps60
      go_wp2
      go_quiet (fail)
      go_wp2
      go_ret
      refine ⟨?_, _, rfl⟩
      rw [RS.last, if_pos ⟨HE.out, hlt⟩]; rfl
    · have hd : decide ((s.pos : Int) < (l.length : Int)) = false := by simp; omega
      go_enter Tryz.func60, Tryz.ntmps60
      go_wp2
      go_quiet (fail)
      go_wp2
      go_ret
      refine ⟨?_, _, rfl⟩
      rw [RS.last, if_neg (by omega)]; rfl
  · have hb : ((s.e : Int) == 0) = false := by simp [he]
    have HE := Lib.hid he; clear he
    go_enter Tryz.func60, Tryz.ntmps60
    go_wp2
    go_quiet (fail)
    go_wp2
    go_ret
    refine ⟨?_, _, rfl⟩
    rw [RS.last, if_neg (fun h => HE.out h.1)]; rfl

theorem vl_64 : ∀ (l : List UInt8) (i v : Nat), i ≤ 9 → v < 2 ^ (7 * i) → (vl i v l).1 < 18446744073709551616
  | [], i, v, _, _ => by simp [vl]
  | c :: r, i, v, hi, hv => by
    unfold vl
    split
    · simp
    · rename_i h1
      have h9 : i = 9 → c.toNat = 1 := fun h => by
        by_cases e : c.toNat = 1
        · exact e
        · exact absurd (Or.inl ⟨h, e⟩) h1
      have hs := (seven v c.toNat i hi hv c.toNat_lt h9).2
      have hp : 2 ^ (7 * i) ≤ 2 ^ 63 := Nat.pow_le_pow_right (by omega) (by omega)
      split
      · by_cases e : i = 9
        · subst e
          rw [h9 rfl]
          simp only [Nat.reduceMul, Nat.reducePow, Nat.reduceMod, Nat.one_mul] at hv ⊢
          omega
        · have hp2 : 2 ^ (7 * i) ≤ 2 ^ 56 := Nat.pow_le_pow_right (by omega) (by omega)
          have h3 : c.toNat % 128 * 2 ^ (7 * i) ≤ 127 * 2 ^ 56 := Nat.mul_le_mul (by omega) hp2
          simp only []
          omega
      · rename_i h2
        have e : ¬ i = 9 := fun h => by have := h9 h; omega
        refine vl_64 r (i + 1) _ (by omega) ?_
        have e2 : 2 ^ (7 * (i + 1)) = 128 * 2 ^ (7 * i) := by rw [Nat.mul_add, Nat.pow_add]; omega
        have h3 : c.toNat % 128 * 2 ^ (7 * i) ≤ 127 * 2 ^ (7 * i) := Nat.mul_le_mul_right _ (by omega)
        omega

theorem var_64 (l : List UInt8) (s : RS) : (s.var l).1 < 18446744073709551616 := by
  unfold RS.var
  split
  · simp
  · split
    · simp
    · exact vl_64 _ 0 0 (by omega) (by simp)

/-- A number of either sign, back. -/
def uz (x : Nat) : Int := if x % 2 = 0 then ((x / 2 : Nat) : Int) else -((x / 2 : Nat) : Int) - 1

set_option maxHeartbeats 400000 in
theorem rsigned_any (p : Nat) (w : World) (sv : Value) (l : List UInt8) (s : RS) (hw : Rr w p sv l s) :
    Calls Tryz.prog 91 #[.pointer (some ⟨p, 0, none⟩)] w fun e w' => e = .returned (.int .i64 (uz (s.var l).1)) ∧ Rr w' p sv l (s.var l).2 ∧ Fr (At p) w w' := by
  go_enter Tryz.func91, Tryz.ntmps91
  go_wp2_with fail
  refine (rvar_any p _ sv l s hw).mono ?_
  rintro e w1 ⟨rfl, hr, hf⟩
  have HR := Lib.hid hr; have HF := Lib.hid hf
  clear hr hf
  go_wp2
  go_ret
  refine ⟨?_, HR.out, HF.out⟩
  rw [unzig _ (var_64 l s)]
  rfl

theorem Rr.setPos {w : World} {p : Nat} {sv : Value} {l : List UInt8} {s : RS} (h : Rr w p sv l s) (q : Nat) (hq : q ≤ l.length) : Rr (w.setCell ⟨p, 1, none⟩ (.int .i64 (q : Int))) p sv l ⟨q, s.e, s.wh⟩ := by
  refine h.of ((Fr.refl (At p) w).setAt _ _) hq h.2.2.2.2.2 ?_
  rw [hp_same h.1]
  simp

/-- A text. -/
def RS.text (l : List UInt8) (s : RS) : List UInt8 × RS :=
  if (s.var l).1 > l.length - (s.var l).2.pos then ([], (RS.mk s.pos (s.var l).2.e (s.var l).2.wh).fail 20)
  else (s.var l).2.take l (s.var l).1

set_option maxRecDepth 100000 in
set_option maxHeartbeats 400000 in
theorem rtext_any (p : Nat) (w : World) (sv : Value) (l : List UInt8) (s : RS) (hw : Rr w p sv l s) :
    Calls Tryz.prog 92 #[.pointer (some ⟨p, 0, none⟩)] w fun e w' => e = .returned (.string ⟨(s.text l).1.toArray⟩) ∧ Rr w' p sv l (s.text l).2 ∧ Fr (At p) w w' := by
  obtain ⟨c0, c1, c2, c3, hf, hps⟩ := four_cells hw.1
  have HP0 := Lib.hid hw.2.2.2.1
  go_enter Tryz.func92, Tryz.ntmps92
  go_wp2_with fail
  refine (rvar_any p _ sv l s hw).mono ?_
  rintro e w1 ⟨rfl, hr, hf1⟩
  clear c0 c1 c2 c3 hf hw
  obtain ⟨c0, c1, c2, c3, hf, hps1⟩ := four_cells hr.1
  obtain ⟨A, c, rfl, hl1, hl2⟩ := hr.2.1.form
  have hp := hr.2.2.2.1
  have hl := hr.2.2.2.2.1
  obtain ⟨x, hx⟩ : ∃ x, x = (s.var l).1 := ⟨_, rfl⟩
  obtain ⟨s1, hs1⟩ : ∃ s1, s1 = (s.var l).2 := ⟨_, rfl⟩
  rw [← hx]
  rw [← hs1] at hr c1 c2 c3 hp
  have HR := Lib.hid hr; have HF := Lib.hid hf1; have HX := Lib.hid hx; have HS := Lib.hid hs1
  clear hr hf1 hx hs1
  by_cases hgt : l.length - s1.pos < x
  · go_wp2
    go_quiet (fail)
    have HR2 := Lib.hid ((HR.out.drewN nq).setPos s.pos HP0.out)
    go_wp2_with (go_at_call 122; refine (fail_any p _ _ l _ 20 (by omega) HR2.out).mono ?_; rintro e w' ⟨rfl, hr, hf⟩)
    go_ret
    have e : s.text l = ([], (RS.mk s.pos s1.e s1.wh).fail 20) := by
      unfold RS.text
      rw [← HX.out, ← HS.out, if_pos (by omega)]
    rw [e]
    exact ⟨rfl, hr, HF.out.trans ((Fr.drewN (At p) w1 nq).setAt 1 (.int .i64 (s.pos : Int)) |>.trans hf (fun _ _ h => h)) (fun _ _ h => h)⟩
  · have hxl : x ≤ l.length := by omega
    go_wp2
    go_quiet (fail)
    go_wp2_with fail
    refine (take_any p _ _ l s1 x (by omega) (HR.out.drewN nq)).mono ?_
    rintro e w2 ⟨v, rfl, hv, _, hr, hf2⟩
    obtain ⟨A2, c2, rfl, h1, h2⟩ := hv.form
    have hstr := run_str (P := Tryz.prog) w2 (src := 23) (dst := 9) (e := 5) (by kernel_rfl) (by kernel_rfl) (by kernel_rfl) hv
    have HR2 := Lib.hid hr; have HF2 := Lib.hid hf2
    clear hr hf2 hv
    go_wp2
    go_ret
    have e : s.text l = s1.take l x := by
      unfold RS.text
      rw [← HX.out, ← HS.out, if_neg (by omega)]
    rw [e]
    exact ⟨rfl, HR2.out, HF.out.trans ((Fr.drewN (At p) w1 nq).trans HF2.out (fun _ _ h => h)) (fun _ _ h => h)⟩
end Go.Proofs.YtijcleiekafoiaaGreatDoor

/- Plain laws: a number has one form; of two numbers the greater one is never shorter. -/
namespace Go.Proofs.YtijcleiekafoiaaGreatDoor

theorem vl_vi : ∀ (l : List UInt8) (i v : Nat), i ≤ 9 → (vl i v l).2.2 = 0 → ∃ y m, (vl i v l).1 = v + y * 2 ^ (7 * i) ∧ (vl i v l).2.1 = i + m ∧ 1 ≤ m ∧ m ≤ l.length ∧ vi y = l.take m ∧ (0 < i → 0 < y)
  | [], i, v, _, h => by simp [vl] at h
  | c :: r, i, v, hi, h => by
    have hc := c.toNat_lt
    unfold vl at h ⊢
    split at h
    · simp at h
    · rename_i h1
      rw [if_neg h1] at *
      split at h
      · rename_i h2
        rw [if_pos h2] at *
        refine ⟨c.toNat, 1, ?_, rfl, by omega, by simp, ?_, fun hp => ?_⟩
        · simp only []
          rw [Nat.mod_eq_of_lt h2]
        · rw [vi, dif_pos h2]
          simp
        · by_cases e : c.toNat = 0
          · exact absurd (Or.inr ⟨hp, e⟩) h1
          · omega
      · rename_i h2
        rw [if_neg h2] at *
        have h9 : ¬ i = 9 := fun e => h1 (Or.inl ⟨e, by omega⟩)
        obtain ⟨y, m, e1, e2, hm1, hm2, e3, hy⟩ := vl_vi r (i + 1) _ (by omega) h
        have hy := hy (by omega)
        refine ⟨c.toNat % 128 + 128 * y, m + 1, ?_, by rw [e2]; omega, by omega, by simp; omega, ?_, fun _ => by omega⟩
        · rw [e1]
          have e : 2 ^ (7 * (i + 1)) = 128 * 2 ^ (7 * i) := by rw [Nat.mul_add, Nat.pow_add]; omega
          rw [e, Nat.add_mul, Nat.add_assoc]
          congr 2
          rw [← Nat.mul_assoc, Nat.mul_comm y 128]
        · rw [vi, dif_neg (by omega)]
          have a1 : (c.toNat % 128 + 128 * y) % 128 + 128 = c.toNat := by omega
          have a2 : (c.toNat % 128 + 128 * y) / 128 = y := by omega
          rw [a1, a2, e3]
          simp

theorem one_form (l : List UInt8) (h : (vl 0 0 l).2.2 = 0) : vi (vl 0 0 l).1 = l.take (vl 0 0 l).2.1 ∧ 1 ≤ (vl 0 0 l).2.1 ∧ (vl 0 0 l).2.1 ≤ l.length := by
  obtain ⟨y, m, e1, e2, h1, h2, e3, _⟩ := vl_vi l 0 0 (by omega) h
  simp at e1 e2
  rw [e1, e2]
  exact ⟨e3, h1, h2⟩

theorem vi_mono : ∀ (n a b : Nat), b ≤ n → a ≤ b → (vi a).length ≤ (vi b).length := by
  intro n
  induction n using Nat.strongRecOn with
  | _ n ih =>
    intro a b hb hab
    conv => lhs; rw [vi]
    conv => rhs; rw [vi]
    by_cases h1 : a < 128
    · rw [dif_pos h1]
      split
      · simp
      · simp
    · rw [dif_neg h1, dif_neg (by omega)]
      have := ih (n / 128) (by omega) (a / 128) (b / 128) (by omega) (by omega)
      simp; omega

theorem var_case (l : List UInt8) : ((RS.var l ⟨0, 0, 0⟩).2.e = 0 ∧ 1 ≤ (RS.var l ⟨0, 0, 0⟩).2.pos ∧ (RS.var l ⟨0, 0, 0⟩).2.pos ≤ l.length ∧ vi (RS.var l ⟨0, 0, 0⟩).1 = l.take (RS.var l ⟨0, 0, 0⟩).2.pos) ∨
    ((RS.var l ⟨0, 0, 0⟩).2.e ≠ 0 ∧ (RS.var l ⟨0, 0, 0⟩).2.pos = 0 ∧ (RS.var l ⟨0, 0, 0⟩).1 = 0) := by
  unfold RS.var
  simp only [ne_eq, not_true, if_false, List.drop_zero, Nat.zero_add]
  by_cases h : (vl 0 0 l).2.2 = 0
  · rw [if_neg (by simp [h])]
    obtain ⟨h1, h2, h3⟩ := one_form l h
    exact .inl ⟨rfl, h2, h3, h1⟩
  · rw [if_pos h]
    exact .inr ⟨by simp [RS.fail, h], by simp [RS.fail], rfl⟩
end Go.Proofs.YtijcleiekafoiaaGreatDoor

/- Plain laws: what is written is read. -/
namespace Go.Proofs.YtijcleiekafoiaaGreatDoor

theorem be_fx (v : Nat) : ∀ n, ube (fx v n) = v % 256 ^ n
  | 0 => by simp [fx, ube, Nat.mod_one]
  | n + 1 => by
    have key : ∀ (l : List UInt8) (z : Nat), l.foldl (fun v c => v * 256 + c.toNat) z = z * 256 ^ l.length + l.foldl (fun v c => v * 256 + c.toNat) 0 := by
      intro l
      induction l with
      | nil => intro z; simp
      | cons c l ih =>
        intro z
        simp only [List.foldl_cons, List.length_cons]
        rw [ih, ih (0 * 256 + c.toNat), Nat.pow_succ]
        simp only [Nat.zero_mul, Nat.zero_add, Nat.add_mul]
        rw [Nat.mul_assoc, Nat.mul_comm 256, ← Nat.mul_assoc, Nat.add_assoc]
    have h := be_fx v n
    unfold ube at h ⊢
    simp only [fx, List.foldl_cons]
    rw [key, h, fx_length]
    simp only [Nat.zero_mul, Nat.zero_add, UInt8.toNat_ofNat']
    have e : 2 ^ (8 * n) = 256 ^ n := by rw [Nat.pow_mul]
    rw [e, Nat.pow_succ 256 n, Nat.mod_mul, show (2 : Nat) ^ 8 = 256 from rfl, Nat.mul_comm, Nat.add_comm]

theorem take_at {l pre m rest : List UInt8} {wh : Nat} (h : l = pre ++ m ++ rest) : RS.take l (m.length : Int) ⟨pre.length, 0, wh⟩ = (m, ⟨(pre ++ m).length, 0, wh⟩) := by
  subst h
  unfold RS.take
  rw [if_neg (by simp), if_neg (by omega), if_neg (by simp; omega)]
  simp

/-- The bytes of a number are read as that number. -/
theorem vl_at : ∀ (n y i v : Nat) (r : List UInt8), y ≤ n → i ≤ 9 → y * 2 ^ (7 * i) < 2 ^ 64 → (0 < i → 0 < y) → vl i v (vi y ++ r) = (v + y * 2 ^ (7 * i), i + (vi y).length, 0) := by
  intro n
  induction n using Nat.strongRecOn with
  | _ n ih =>
    intro y i v r hyn hi hy h0
    have h9 : i = 9 → y = 1 := fun e => by
      subst e
      have := h0 (by omega)
      simp only [Nat.reduceMul, Nat.reducePow] at hy
      omega
    rw [vi]
    split
    · rename_i h1
      simp only [List.cons_append, List.nil_append, List.length_cons, List.length_nil]
      unfold vl
      have e : (UInt8.ofNat y).toNat = y := by simp; omega
      rw [e, if_neg (by rintro (⟨a, b⟩ | ⟨a, b⟩); exact b (h9 a); have := h0 a; omega), if_pos h1, Nat.mod_eq_of_lt h1]
    · rename_i h1
      have hi9 : i ≠ 9 := fun e => by have := h9 e; omega
      simp only [List.cons_append, List.length_cons]
      unfold vl
      have e : (UInt8.ofNat (y % 128 + 128)).toNat = y % 128 + 128 := by simp; omega
      have e2 : 2 ^ (7 * (i + 1)) = 128 * 2 ^ (7 * i) := by rw [Nat.mul_add, Nat.pow_add]; omega
      have e3 : y / 128 * (128 * 2 ^ (7 * i)) + y % 128 * 2 ^ (7 * i) = y * 2 ^ (7 * i) := by
        rw [← Nat.mul_assoc, ← Nat.add_mul, Nat.div_add_mod']
      rw [e, if_neg (by rintro (⟨a, b⟩ | ⟨a, b⟩); exact hi9 a; omega), if_neg (by omega), ih (y / 128) (by omega) (y / 128) (i + 1) _ r (Nat.le_refl _) (by omega) (by rw [e2]; omega) (fun _ => by omega)]
      rw [show (y % 128 + 128) % 128 = y % 128 by omega, e2]
      congr 1
      · omega
      · congr 1; omega

theorem var_at {l pre rest : List UInt8} {y wh : Nat} (hy : y < 18446744073709551616) (h : l = pre ++ vi y ++ rest) : RS.var l ⟨pre.length, 0, wh⟩ = (y, ⟨(pre ++ vi y).length, 0, wh⟩) := by
  subst h
  unfold RS.var
  have e : (pre ++ vi y ++ rest).drop pre.length = vi y ++ rest := by rw [List.append_assoc]; simp
  have h1 := vl_at y y 0 0 rest (Nat.le_refl _) (by omega) (by simpa using hy) (by omega)
  rw [if_neg (by simp)]
  simp only [e, h1]
  simp

theorem uz_zz (x : Int) (h : -9223372036854775808 ≤ x) (h2 : x ≤ 9223372036854775807) : uz (zz x) = x := by
  unfold uz zz
  split <;> split <;> omega

theorem zz_lt (x : Int) (h : -9223372036854775808 ≤ x) (h2 : x ≤ 9223372036854775807) : zz x < 18446744073709551616 := by
  unfold zz; split <;> omega

theorem text_at {l pre m rest : List UInt8} {wh : Nat} (hm : m.length < 18446744073709551616) (h : l = pre ++ (vi m.length ++ m) ++ rest) : RS.text l ⟨pre.length, 0, wh⟩ = (m, ⟨(pre ++ (vi m.length ++ m)).length, 0, wh⟩) := by
  unfold RS.text
  have h1 := var_at (l := l) (pre := pre) (rest := m ++ rest) (y := m.length) (wh := wh) hm (by rw [h]; simp)
  rw [h1]
  have h2 := take_at (l := l) (pre := pre ++ vi m.length) (m := m) (rest := rest) (wh := wh) (by rw [h]; simp)
  simp only
  rw [if_neg (by rw [h]; simp; omega), h2]
  simp
end Go.Proofs.YtijcleiekafoiaaGreatDoor

/- Values without a program: trees. How deep one is, all below it in order, its parts. -/
namespace Go.Proofs.YtijcleiekafoiaaGreatDoor

/-- A value: its kind, what it holds; m: whatever else is to be known of where it lies. -/
inductive Tr (α : Type) where
  | mk (k : UInt8) (b : Bool) (i : Int) (t bs : List UInt8) (m : α) (l : List (Tr α)) (f : List (List UInt8 × Tr α))

namespace Tr
variable {α : Type}
def k : Tr α → UInt8 | mk k _ _ _ _ _ _ _ => k
def b : Tr α → Bool | mk _ b _ _ _ _ _ _ => b
def i : Tr α → Int | mk _ _ i _ _ _ _ _ => i
def t : Tr α → List UInt8 | mk _ _ _ t _ _ _ _ => t
def bs : Tr α → List UInt8 | mk _ _ _ _ bs _ _ _ => bs
def m : Tr α → α | mk _ _ _ _ _ m _ _ => m
def l : Tr α → List (Tr α) | mk _ _ _ _ _ _ l _ => l
def f : Tr α → List (List UInt8 × Tr α) | mk _ _ _ _ _ _ _ f => f
/-- The values right below. -/
def kids (x : Tr α) : List (Tr α) := x.l ++ x.f.map Prod.snd

theorem mem_l_lt {x y : Tr α} (h : y ∈ x.l) : SizeOf.sizeOf y < SizeOf.sizeOf x := by
  cases x
  simp only [l] at h
  have := List.sizeOf_lt_of_mem h
  simp only [mk.sizeOf_spec]
  omega
theorem mem_f_lt {x : Tr α} {p : List UInt8 × Tr α} (h : p ∈ x.f) : SizeOf.sizeOf p.2 < SizeOf.sizeOf x := by
  cases x
  simp only [f] at h
  have := List.sizeOf_lt_of_mem h
  obtain ⟨a, y⟩ := p
  simp only [mk.sizeOf_spec, Prod.mk.sizeOf_spec] at *
  omega
theorem kid_lt {x y : Tr α} (h : y ∈ x.kids) : SizeOf.sizeOf y < SizeOf.sizeOf x := by
  rcases List.mem_append.1 h with h | h
  · exact mem_l_lt h
  · obtain ⟨p, hp, rfl⟩ := List.mem_map.1 h
    exact mem_f_lt hp

/-- By trees: what holds of a value if it holds of those right below. -/
theorem ind {P : Tr α → Prop} (h : ∀ x, (∀ y ∈ x.kids, P y) → P x) (x : Tr α) : P x := by
  have : ∀ n, ∀ x : Tr α, SizeOf.sizeOf x < n → P x := by
    intro n
    induction n with
    | zero => intro x hx; omega
    | succ n ih => intro x hx; exact h x (fun y hy => ih y (by have := kid_lt hy; omega))
  exact this _ x (Nat.lt_succ_self _)

/-- Are there values deeper than so many? -/
def deep : Nat → Tr α → Bool
  | 0, _ => true
  | n + 1, x => x.kids.any (deep n)

/-- It and all below, with their depths, in order. -/
def pre (d : Nat) (x : Tr α) : List (Nat × Tr α) := (d, x) :: x.kids.attach.flatMap fun y => pre (d + 1) y.1
termination_by SizeOf.sizeOf x
decreasing_by exact kid_lt y.2
theorem pre_eq (d : Nat) (x : Tr α) : pre d x = (d, x) :: x.kids.flatMap (pre (d + 1)) := by
  rw [pre, List.flatMap_subtype (g := pre (d + 1)) (fun _ _ => rfl), List.unattach_attach]
theorem pre_pos (d : Nat) (x : Tr α) : 0 < (pre d x).length := by rw [pre_eq]; simp

theorem pre_len (d e : Nat) (x : Tr α) : (pre d x).length = (pre e x).length := by
  induction x using ind generalizing d e with
  | h x ih =>
    rw [pre_eq, pre_eq, List.length_cons, List.length_cons, List.length_flatMap, List.length_flatMap]
    congr 2
    exact List.map_congr_left fun y hy => ih y hy _ _
/-- How many values: it and all below. -/
def parts (x : Tr α) : Nat := (pre 1 x).length

theorem mem_pre_self (d : Nat) (x : Tr α) : (d, x) ∈ pre d x := by rw [pre_eq]; exact List.mem_cons_self ..
theorem mem_pre_kid {d : Nat} {x y : Tr α} (h : y ∈ x.kids) {p : Nat × Tr α} (hp : p ∈ pre (d + 1) y) : p ∈ pre d x := by
  rw [pre_eq]
  exact List.mem_cons_of_mem _ (List.mem_flatMap.2 ⟨y, h, hp⟩)

/-- What holds of a value and is handed down to those below. -/
theorem pre_all {P : Tr α → Prop} (hd : ∀ x, P x → ∀ y ∈ x.kids, P y) (d : Nat) (x : Tr α) (h : P x) : ∀ p ∈ pre d x, P p.2 := by
  induction x using ind generalizing d with
  | h x ih =>
    intro p hp
    rw [pre_eq] at hp
    rcases List.mem_cons.1 hp with rfl | hp
    · exact h
    · obtain ⟨y, hy, hp⟩ := List.mem_flatMap.1 hp
      exact ih y hy _ (hd x h y hy) p hp

/-- The same values, without where they lie. -/
def bare (x : Tr α) : Tr Unit := .mk x.k x.b x.i x.t x.bs () (x.l.attach.map fun y => bare y.1) (x.f.attach.map fun p => (p.1.1, bare p.1.2))
termination_by SizeOf.sizeOf x
decreasing_by
  · exact mem_l_lt y.2
  · exact mem_f_lt p.2
theorem bare_eq (x : Tr α) : bare x = .mk x.k x.b x.i x.t x.bs () (x.l.map bare) (x.f.map fun p => (p.1, bare p.2)) := by
  rw [bare]
  congr 1
  · rw [List.map_subtype (g := bare) (fun _ _ => rfl), List.unattach_attach]
  · rw [List.map_subtype (g := fun p : List UInt8 × Tr α => (p.1, bare p.2)) (fun _ _ => rfl), List.unattach_attach]
theorem bare_kids (x : Tr α) : (bare x).kids = x.kids.map bare := by
  rw [bare_eq]
  simp [kids, l, f, List.map_map, Function.comp_def]
theorem bare_k (x : Tr α) : (bare x).k = x.k := by rw [bare_eq]; rfl
theorem bare_b (x : Tr α) : (bare x).b = x.b := by rw [bare_eq]; rfl
theorem bare_i (x : Tr α) : (bare x).i = x.i := by rw [bare_eq]; rfl
theorem bare_t (x : Tr α) : (bare x).t = x.t := by rw [bare_eq]; rfl
theorem bare_bs (x : Tr α) : (bare x).bs = x.bs := by rw [bare_eq]; rfl
theorem bare_l (x : Tr α) : (bare x).l = x.l.map bare := by rw [bare_eq]; rfl
theorem bare_f (x : Tr α) : (bare x).f = x.f.map fun p => (p.1, bare p.2) := by rw [bare_eq]; rfl
theorem bare_deep (n : Nat) (x : Tr α) : deep n (bare x) = deep n x := by
  induction n generalizing x with
  | zero => rfl
  | succ n ih => simp only [deep, bare_kids, List.any_map]; congr 1; funext y; exact ih y
theorem bare_pre (d : Nat) (x : Tr α) : pre d (bare x) = (pre d x).map fun p => (p.1, bare p.2) := by
  induction x using ind generalizing d with
  | h x ih =>
    rw [pre_eq, pre_eq, bare_kids, List.map_cons, List.flatMap_map, List.map_flatMap]
    congr 1
    simp only [List.flatMap]
    exact congrArg List.flatten (List.map_congr_left fun y hy => ih y hy _)
theorem bare_parts (x : Tr α) : parts (bare x) = parts x := by unfold parts; rw [bare_pre, List.length_map]
end Tr
end Go.Proofs.YtijcleiekafoiaaGreatDoor

/- Bytes compared: the number that bytes.Compare says. -/
namespace Go.Proofs.YtijcleiekafoiaaGreatDoor
open Go.RowKit

/-- Bytes compared. -/
def cb (l k : List UInt8) : Int := Lib.compareBytes l k

theorem cb_range (l k : List UInt8) : cb l k = -1 ∨ cb l k = 0 ∨ cb l k = 1 := by
  unfold cb
  induction l generalizing k with
  | nil => cases k <;> simp [Lib.compareBytes]
  | cons a l ih =>
    cases k with
    | nil => simp [Lib.compareBytes]
    | cons b k =>
      simp only [Lib.compareBytes]
      split
      · exact .inl rfl
      · split
        · exact .inr (.inr rfl)
        · exact ih k
end Go.Proofs.YtijcleiekafoiaaGreatDoor

/- The order of bytes; strings compared. (Cb without what it says of regions and spans.) -/
namespace Go.Proofs.YtijcleiekafoiaaGreatDoor
open Go.RowKit

theorem cb_self (l : List UInt8) : cb l l = 0 := by
  unfold cb
  induction l with
  | nil => rfl
  | cons a l ih => simp [Lib.compareBytes, ih]
theorem cb_eq {l k : List UInt8} (h : cb l k = 0) : l = k := by
  unfold cb at h
  induction l generalizing k with
  | nil => cases k <;> simp_all [Lib.compareBytes]
  | cons a l ih =>
    cases k with
    | nil => simp [Lib.compareBytes] at h
    | cons b k =>
      simp only [Lib.compareBytes] at h
      split at h
      · omega
      · split at h
        · omega
        · rename_i h1 h2
          rw [ih h, UInt8.le_antisymm (UInt8.not_lt.1 h2) (UInt8.not_lt.1 h1)]
theorem cb_swap (l k : List UInt8) : cb k l = - cb l k := by
  unfold cb
  induction l generalizing k with
  | nil => cases k <;> simp [Lib.compareBytes]
  | cons a l ih =>
    cases k with
    | nil => simp [Lib.compareBytes]
    | cons b k =>
      simp only [Lib.compareBytes]
      by_cases h1 : a < b
      · have h2 : ¬ b < a := UInt8.not_lt.2 (UInt8.le_of_lt h1)
        simp [h1, h2]
      · by_cases h2 : b < a <;> simp [h1, h2, ih]
theorem cb_trans {a b c : List UInt8} (h1 : cb a b ≤ 0) (h2 : cb b c ≤ 0) : cb a c ≤ 0 ∧ (cb a b < 0 ∨ cb b c < 0 → cb a c < 0) := by
  unfold cb at *
  induction a generalizing b c with
  | nil =>
    cases c with
    | nil => cases b with
      | nil => simp [Lib.compareBytes]
      | cons b bs => simp [Lib.compareBytes] at h2
    | cons c cs => simp [Lib.compareBytes]
  | cons a us ih =>
    cases b with
    | nil => simp [Lib.compareBytes] at h1
    | cons b bs =>
      cases c with
      | nil => simp [Lib.compareBytes] at h2
      | cons c cs =>
        simp only [Lib.compareBytes] at h1 h2 ⊢
        by_cases ab : a < b
        · by_cases bc : b < c
          · have ac := UInt8.lt_trans ab bc
            simp [ac]
          · by_cases cb' : c < b
            · simp [bc, cb'] at h2
            · have e : b = c := UInt8.le_antisymm (UInt8.not_lt.1 cb') (UInt8.not_lt.1 bc)
              subst e
              simp [ab]
        · by_cases ba : b < a
          · simp [ab, ba] at h1
          · have e : a = b := UInt8.le_antisymm (UInt8.not_lt.1 ba) (UInt8.not_lt.1 ab)
            subst e
            by_cases bc : a < c
            · simp [bc]
            · by_cases cb' : c < a
              · simp [bc, cb'] at h2
              · simp only [bc, cb', if_false, if_neg ab] at h1 h2 ⊢
                exact ih h1 h2

/-- No later than. -/
def le (a b : List UInt8) : Prop := cb a b ≤ 0
/-- Sooner than. -/
def lt (a b : List UInt8) : Prop := cb a b < 0
theorem le_rfl (a : List UInt8) : le a a := by unfold le; rw [cb_self]; omega
theorem lt_irrefl {a : List UInt8} (h : lt a a) : False := by unfold lt at h; rw [cb_self] at h; omega
theorem lt_le {a b : List UInt8} (h : lt a b) : le a b := by unfold lt at h; unfold le; omega
theorem le_trans {a b c : List UInt8} (h1 : le a b) (h2 : le b c) : le a c := (cb_trans h1 h2).1
theorem lt_le_trans {a b c : List UInt8} (h1 : lt a b) (h2 : le b c) : lt a c := (cb_trans (lt_le h1) h2).2 (.inl h1)
theorem le_lt_trans {a b c : List UInt8} (h1 : le a b) (h2 : lt b c) : lt a c := (cb_trans h1 (lt_le h2)).2 (.inr h2)
theorem lt_trans {a b c : List UInt8} (h1 : lt a b) (h2 : lt b c) : lt a c := lt_le_trans h1 (lt_le h2)
theorem le_or {a b : List UInt8} : le a b ∨ lt b a := by unfold le lt; have := cb_swap a b; omega
theorem not_lt {a b : List UInt8} (h : ¬ lt a b) : le b a := by unfold lt at h; unfold le; have := cb_swap a b; omega
theorem not_le {a b : List UInt8} (h : ¬ le a b) : lt b a := by unfold le at h; unfold lt; have := cb_swap a b; omega
theorem le_antisymm {a b : List UInt8} (h1 : le a b) (h2 : le b a) : a = b := by
  refine cb_eq ?_
  unfold le at *
  have := cb_swap a b; omega
theorem lt_not_le {a b : List UInt8} (h : lt a b) (h2 : le b a) : False := lt_irrefl (lt_le_trans h h2)

theorem less_cb (l k : List UInt8) : Op.bytesLess l k = decide (cb l k < 0) := by
  unfold cb
  induction l generalizing k with
  | nil => cases k <;> simp [Op.bytesLess, Lib.compareBytes]
  | cons a l ih =>
    cases k with
    | nil => simp [Op.bytesLess, Lib.compareBytes]
    | cons b k =>
      simp only [Op.bytesLess, Lib.compareBytes, ih]
      by_cases h1 : a < b
      · simp [h1]
      · by_cases h2 : b < a
        · have h3 : a ≠ b := fun e => by subst e; exact h1 h2
          simp [h1, h2, h3]
        · have h3 : a = b := UInt8.le_antisymm (UInt8.not_lt.1 h2) (UInt8.not_lt.1 h1)
          subst h3
          simp [h1]
theorem leq_cb (l k : List UInt8) : (Op.bytesLess l k || l == k) = decide (cb l k ≤ 0) := by
  rw [less_cb]
  have := cb_range l k
  by_cases h : l = k
  · subst h; simp [cb_self]
  · have h2 : cb l k ≠ 0 := fun e => h (cb_eq e)
    have h3 : (l == k) = false := by simpa using h
    rw [h3, Bool.or_false, decide_eq_decide]
    omega

@[go_sem] theorem strs_leq (t : TypeId) (l k : List UInt8) : binOp .leq t (.string ⟨l.toArray⟩) (.string ⟨k.toArray⟩) = pure (.bool (decide (cb l k ≤ 0))) := by
  simp only [binOp, Op.stringOp, ByteArray.toList_mk, leq_cb]
@[go_sem] theorem strs_gtr (t : TypeId) (l k : List UInt8) : binOp .gtr t (.string ⟨l.toArray⟩) (.string ⟨k.toArray⟩) = pure (.bool !(decide (cb l k ≤ 0))) := by
  simp only [binOp, Op.stringOp, ByteArray.toList_mk, leq_cb]
@[go_sem] theorem strs_geq (t : TypeId) (l k : List UInt8) : binOp .geq t (.string ⟨l.toArray⟩) (.string ⟨k.toArray⟩) = pure (.bool !(decide (cb l k < 0))) := by
  simp only [binOp, Op.stringOp, ByteArray.toList_mk, less_cb]
@[go_sem] theorem strs_lss (t : TypeId) (l k : List UInt8) : binOp .lss t (.string ⟨l.toArray⟩) (.string ⟨k.toArray⟩) = pure (.bool (decide (cb l k < 0))) := by
  simp only [binOp, Op.stringOp, ByteArray.toList_mk, less_cb]
end Go.Proofs.YtijcleiekafoiaaGreatDoor
