/- The reader of package code: what each call of it reads. Conditions: the bytes lie in a block other than the reader's. -/
import Derived.Test.YtomnhblecnbmaaaCodeV
import Derived.Deep.QuietTactic
import Derived.BigQuiet
namespace Go.Proofs.Ytomnhblecnbmaaa
open Go.RowKit

/-- A reader's place, its error, and where that was met. -/
structure RS where
  pos : Nat
  e : Nat
  wh : Nat

def RS.fail (s : RS) (k : Nat) : RS := if s.e = 0 then ⟨s.pos, k, s.pos⟩ else s

/-- The next n bytes. -/
def RS.take (l : List UInt8) (n : Int) (s : RS) : List UInt8 × RS :=
  if s.e ≠ 0 then ([], s) else if n < 0 then ([], s.fail 1) else if n > (l.length : Int) - s.pos then ([], s.fail 20)
  else ((l.drop s.pos).take n.toNat, ⟨s.pos + n.toNat, s.e, s.wh⟩)

def Rr (w : World) (p : Nat) (sv : Value) (l : List UInt8) (s : RS) : Prop :=
  w.heap[p]? = some (.cells #[sv, .int .i64 (s.pos : Int), .int .u16 (s.e : Int), .int .i64 (s.wh : Int)] 88 (0, 0)) ∧ Sl w 1 sv l.length (bvs l) ∧ sv.ownBlock ≠ some p ∧ s.pos ≤ l.length ∧ l.length ≤ 1000000000 ∧ s.e < 65536

theorem four_cells {w : World} {p : Nat} {a b c d : Value} {T : TypeId} (h : w.heap[p]? = some (.cells #[a, b, c, d] T (0, 0))) :
    w.cell? ⟨p, 0, none⟩ = some a ∧ w.cell? ⟨p, 1, none⟩ = some b ∧ w.cell? ⟨p, 2, none⟩ = some c ∧ w.cell? ⟨p, 3, none⟩ = some d ∧ (∀ o, w.frozen? ⟨p, o, none⟩ = false) ∧ p < w.heap.size := by
  refine ⟨by simp [World.cell?, h], by simp [World.cell?, h], by simp [World.cell?, h], by simp [World.cell?, h], fun o => by simp [World.frozen?, h], (Array.getElem?_eq_some_iff.1 h).1⟩

def At (p : Nat) : Nat → Prop := fun k => k = p

theorem _root_.Go.Fr.setAt {p : Nat} {w w1 : World} (h : Fr (At p) w w1) (o : Nat) (v : Value) : Fr (At p) w (w1.setCell ⟨p, o, none⟩ v) := h.setCell _ _ (fun _ => rfl)

theorem Rr.of {w w1 : World} {p : Nat} {sv : Value} {l : List UInt8} {s s' : RS} (h : Rr w p sv l s) (f : Fr (At p) w w1) (hp : s'.pos ≤ l.length) (he : s'.e < 65536)
    (hb : w1.heap[p]? = some (.cells #[sv, .int .i64 (s'.pos : Int), .int .u16 (s'.e : Int), .int .i64 (s'.wh : Int)] 88 (0, 0))) : Rr w1 p sv l s' :=
  ⟨hb, h.2.1.kept f (fun k hk e => h.2.2.1 (by rw [hk, e])), h.2.2.1, hp, h.2.2.2.2.1, he⟩

theorem Rr.kept {w w1 : World} {p : Nat} {sv : Value} {l : List UInt8} {s : RS} {S : Nat → Prop} (h : Rr w p sv l s) (f : Fr S w w1) (h1 : ¬ S p) (h2 : ∀ k, sv.ownBlock = some k → ¬ S k) : Rr w1 p sv l s :=
  ⟨f.heap h.1 h1, h.2.1.kept f h2, h.2.2⟩

set_option maxHeartbeats 400000 in
theorem fail_any (p : Nat) (w : World) (sv : Value) (l : List UInt8) (s : RS) (k : Nat) (hk : k < 65536) (hw : Rr w p sv l s) :
    Calls Try.prog 40 #[.pointer (some ⟨p, 0, none⟩), .int .u16 k] w fun e w' => e = .returned (.tuple #[]) ∧ Rr w' p sv l (s.fail k) ∧ Fr (At p) w w' := by
  obtain ⟨c0, c1, c2, c3, hf, hps⟩ := four_cells hw.1
  have HW := Lib.hid hw; clear hw
  by_cases he : s.e = 0
  · have hb : ((s.e : Int) == 0) = true := by simp [he]
    have HE := Lib.hid he; clear he
    go_enter Try.func40, Try.ntmps40
    go_wp2
    go_end0
    refine ⟨rfl, ?_, ((Fr.refl (At p) w).setAt _ _).setAt _ _⟩
    have e : s.fail k = ⟨s.pos, k, s.pos⟩ := by simp [RS.fail, HE.out]
    rw [e]
    refine HW.out.of (((Fr.refl (At p) w).setAt _ _).setAt _ _) HW.out.2.2.2.1 hk ?_
    rw [hp_same (hp_same HW.out.1 _ _)]
    simp
  · have hb : ((s.e : Int) == 0) = false := by simp [he]
    have HE := Lib.hid he; clear he
    go_enter Try.func40, Try.ntmps40
    go_wp2
    go_end0
    have e : s.fail k = s := by simp [RS.fail, HE.out]
    rw [e]
    exact ⟨rfl, HW.out, Fr.refl _ _⟩

theorem Rr.drewN {w : World} {p : Nat} {sv : Value} {l : List UInt8} {s : RS} (h : Rr w p sv l s) (n : Nat) : Rr (w.drewN n) p sv l s :=
  h.of (Fr.drewN _ _ _) h.2.2.2.1 h.2.2.2.2.2 h.1

set_option maxHeartbeats 400000 in
theorem left_any (p : Nat) (w : World) (sv : Value) (l : List UInt8) (s : RS) (hw : Rr w p sv l s) :
    Calls Try.prog 14 #[.pointer (some ⟨p, 0, none⟩)] w fun e w' => e = .returned (.int .i64 ((l.length : Int) - s.pos)) ∧ ∃ n, w' = w.drewN n := by
  obtain ⟨c0, c1, c2, c3, hf, hps⟩ := four_cells hw.1
  obtain ⟨A, c, rfl, hl1, hl2⟩ := hw.2.1.form
  obtain ⟨_, _, _, hp, hl, _⟩ := hw
  go_enter Try.func14, Try.ntmps14
  go_wp2
  go_quiet (fail)
  go_wp2
  go_ret
  exact ⟨rfl, _, rfl⟩

set_option maxHeartbeats 400000 in
theorem err_any (p : Nat) (w : World) (sv : Value) (l : List UInt8) (s : RS) (hw : Rr w p sv l s) :
    Calls Try.prog 12 #[.pointer (some ⟨p, 0, none⟩)] w fun e w' => e = .returned (.tuple #[.int .u16 s.e, .int .i64 s.wh]) ∧ ∃ n, w' = w.drewN n := by
  obtain ⟨c0, c1, c2, c3, hf, hps⟩ := four_cells hw.1
  go_enter Try.func12, Try.ntmps12
  go_wp2
  go_quiet (fail)
  go_wp2
  go_ret2
  exact ⟨rfl, _, rfl⟩

set_option maxHeartbeats 400000 in
theorem take_any (p : Nat) (w : World) (sv : Value) (l : List UInt8) (s : RS) (n : Int) (hn1 : -9223372036854775808 ≤ n) (hw : Rr w p sv l s) :
    Calls Try.prog 79 #[.pointer (some ⟨p, 0, none⟩), .int .i64 n] w fun e w' => ∃ v, e = .returned v ∧ Sl w' 1 v (s.take l n).1.length (bvs (s.take l n).1) ∧ (v = .slice none 0 0 ∨ v.ownBlock = sv.ownBlock) ∧ Rr w' p sv l (s.take l n).2 ∧ Fr (At p) w w' := by
  obtain ⟨c0, c1, c2, c3, hf, hps⟩ := four_cells hw.1
  have HW := Lib.hid hw
  by_cases he : s.e = 0
  · have hb : ((s.e : Int) != 0) = false := by simp [he]
    have HE := Lib.hid he; clear he
    by_cases hn : n < 0
    · have e : s.take l n = ([], s.fail 1) := by simp [RS.take, HE.out, hn]
      rw [e]
      clear hn1 hw
      go_enter Try.func79, Try.ntmps79
      go_wp2_with (go_at_call 40; refine (fail_any p _ sv l s 1 (by omega) HW.out).mono ?_; rintro e w' ⟨rfl, hr, hf⟩)
      go_ret
      exact ⟨_, rfl, Sl.nil _ _, .inl rfl, hr, hf⟩
    · obtain ⟨A, c, rfl, hl1, hl2⟩ := hw.2.1.form
      obtain ⟨_, _, _, hp, hl, _⟩ := hw
      by_cases hm : (l.length : Int) - s.pos < n
      · have e : s.take l n = ([], s.fail 20) := by simp [RS.take, HE.out, hn, hm]
        rw [e]
        clear hn1
        go_enter Try.func79, Try.ntmps79
        go_wp2
        go_quiet (fail)
        go_wp2_with (go_at_call 40; refine (fail_any p _ _ l s 20 (by omega) (HW.out.drewN nq)).mono ?_; rintro e w' ⟨rfl, hr, hf⟩)
        go_ret
        exact ⟨_, rfl, Sl.nil _ _, .inl rfl, hr, (Fr.drewN (At p) w nq).trans hf (fun _ _ h => h)⟩
      · obtain ⟨m, rfl⟩ := Int.eq_ofNat_of_zero_le (show 0 ≤ n by omega)
        have hm2 : s.pos + m ≤ l.length := by omega
        have e : s.take l m = ((l.drop s.pos).take m, ⟨s.pos + m, s.e, s.wh⟩) := by simp only [RS.take, HE.out, ne_eq, not_true, if_false, hn, hm, Int.toNat_natCast]
        rw [e]
        clear hn1 hm hn e
        by_cases hcp : c = s.pos
        all_goals
         go_enter Try.func79, Try.ntmps79
         go_wp2
         go_quiet (fail)
         go_wp2
         go_quiet (fail)
         go_wp2
         go_ret
        all_goals
         have hs := HW.out.2.1
         first
          | (obtain ⟨q1, q2⟩ := Sl.cut0 (lo := s.pos) (m := m) (hcp ▸ hs) hm2; have q3 := q2.trans (show _ = (Value.slice A l.length c).ownBlock from by cases A <;> rfl); refine ⟨_, rfl, ?_, .inr q3, ?_, ?_⟩)
          | (obtain ⟨q1, q2⟩ := Sl.cut1 (lo := s.pos) (m := m) hs hm2; have q3 := q2; refine ⟨_, rfl, ?_, .inr q3, ?_, ?_⟩)
         · rw [bvs_cut] at q1
           rw [show ((l.drop s.pos).take m).length = m from by simp; omega]
           exact q1.kept (S := At p) (by (repeat first | exact Fr.refl _ _ | exact Fr.drewN _ _ _ | apply Fr.drew | apply Fr.alloc | apply Fr.setAt | apply Fr.moreN)) (fun k hk e => HW.out.2.2.1 ((q3.symm.trans hk).trans (congrArg some e)))
         · refine HW.out.of (by (repeat first | exact Fr.refl _ _ | exact Fr.drewN _ _ _ | apply Fr.drew | apply Fr.alloc | apply Fr.setAt | apply Fr.moreN)) hm2 HW.out.2.2.2.2.2 ?_
           rw [hp_same (HW.out.drewN _).1]
           simp
         · (repeat first | exact Fr.refl _ _ | exact Fr.drewN _ _ _ | apply Fr.drew | apply Fr.alloc | apply Fr.setAt | apply Fr.moreN)
  · have hb : ((s.e : Int) != 0) = true := by simp [he]
    have e : s.take l n = ([], s) := by simp [RS.take, he]
    rw [e]
    have HE := Lib.hid he; clear he hw hn1
    go_enter Try.func79, Try.ntmps79
    go_wp2
    go_ret
    exact ⟨_, rfl, Sl.nil _ _, .inl rfl, HW.out, Fr.refl _ _⟩
end Go.Proofs.Ytomnhblecnbmaaa
