/- The reader's numbers and texts. -/
import Derived.Test.YtomnhblecnbmaaaCodeY
namespace Go.Proofs.Ytomnhblecnbmaaa
open Go.RowKit

theorem vl_ok : ∀ (l : List UInt8) (i v : Nat), (vl i v l).2.2 = 0 → i < (vl i v l).2.1 ∧ (vl i v l).2.1 ≤ i + l.length
  | [], i, v, h => by simp [vl] at h
  | c :: r, i, v, h => by
    unfold vl at h ⊢
    split at h
    · simp at h
    · rename_i h1
      rw [if_neg h1] at *
      split at h
      · rename_i h2; rw [if_pos h2] at *; simp
      · rename_i h2
        rw [if_neg h2] at *
        have := vl_ok r (i + 1) _ h
        simp; omega

theorem vl_e : ∀ (l : List UInt8) (i v : Nat), (vl i v l).2.2 < 65536
  | [], i, v => by simp [vl]
  | c :: r, i, v => by
    unfold vl
    split
    · simp
    · split
      · simp
      · exact vl_e r _ _

/-- A number. -/
def RS.var (l : List UInt8) (s : RS) : Nat × RS :=
  if s.e ≠ 0 then (0, s) else if (vl 0 0 (l.drop s.pos)).2.2 ≠ 0 then (0, s.fail (vl 0 0 (l.drop s.pos)).2.2)
  else ((vl 0 0 (l.drop s.pos)).1, ⟨s.pos + (vl 0 0 (l.drop s.pos)).2.1, s.e, s.wh⟩)

set_option maxRecDepth 100000 in
set_option maxHeartbeats 400000 in
theorem rvar_any (p : Nat) (w : World) (sv : Value) (l : List UInt8) (s : RS) (hw : Rr w p sv l s) :
    Calls Try.prog 11 #[.pointer (some ⟨p, 0, none⟩)] w fun e w' => e = .returned (.int .u64 ((s.var l).1 : Int)) ∧ Rr w' p sv l (s.var l).2 ∧ Fr (At p) w w' := by
  obtain ⟨c0, c1, c2, c3, hf, hps⟩ := four_cells hw.1
  have HW := Lib.hid hw
  by_cases he : s.e = 0
  · have hb : ((s.e : Int) != 0) = false := by simp [he]
    have HE := Lib.hid he; clear he
    obtain ⟨A, c, rfl, hl1, hl2⟩ := hw.2.1.form
    obtain ⟨_, _, _, hp, hl, _⟩ := hw
    obtain ⟨x, n, er, hr⟩ : ∃ x n er, vl 0 0 (l.drop s.pos) = (x, n, er) := ⟨_, _, _, rfl⟩
    have hcall : ∀ (w' : World) (X : Value), Sl w' 1 X (l.drop s.pos).length (bvs (l.drop s.pos)) → Calls Try.prog 39 #[X] w' fun e w'' => e = .returned (.tuple #[.int .u64 (x : Int), .int .i64 (n : Int), .int .u16 (er : Int)]) ∧ w'' = w' := by
      intro w' X hX
      have h := varint_reads w' X (l.drop s.pos) hX (by simp; omega)
      rw [hr] at h
      exact h
    have hn := vl_ok (l.drop s.pos) 0 0
    have he16 := vl_e (l.drop s.pos) 0 0
    rw [hr] at hn he16
    simp only [List.length_drop] at hn hcall
    have HR := Lib.hid hr; have HN := Lib.hid hn; clear hr hn
    have HC := Lib.hid hcall; clear hcall
    by_cases hcp : c = s.pos
    all_goals
      have hs := HW.out.2.1
      first
        | (have ht := Sl.tail0 (n := l.length) (lo := s.pos) (hcp ▸ hs) hp)
        | (have ht := Sl.tail1 (n := l.length) (lo := s.pos) hs hp)
      rw [bvs_drop] at ht
      have HT := Lib.hid ht.1; clear ht hs
      by_cases hr0 : er = 0
      all_goals
        first
          | (have hb2 : ((er : Int) != 0) = false := by simp [hr0])
          | (have hb2 : ((er : Int) != 0) = true := by simp [hr0])
        have HR0 := Lib.hid hr0; clear hr0
        go_enter Try.func11, Try.ntmps11
        go_wp2
        go_quiet ((go_at_call 39; exact Calls.quiet_of_same (HC.out _ _ (HT.out.kept0 (Fr.drewN _ _ _)))))
        first
          | (have hn := HN.out HR0.out
             have hn2 : s.pos + n ≤ l.length := by omega
             clear hn
             go_wp2
             go_ret
             have e : s.var l = (x, ⟨s.pos + n, s.e, s.wh⟩) := by
               unfold RS.var
               rw [HR.out, if_neg (by simp [HE.out]), if_neg (by simp [HR0.out])]
             rw [e]
             refine ⟨rfl, HW.out.of (by (repeat first | exact Fr.refl _ _ | exact Fr.drewN _ _ _ | apply Fr.drew | apply Fr.alloc | apply Fr.setAt | apply Fr.moreN)) hn2 HW.out.2.2.2.2.2 ?_, by (repeat first | exact Fr.refl _ _ | exact Fr.drewN _ _ _ | apply Fr.drew | apply Fr.alloc | apply Fr.setAt | apply Fr.moreN)⟩
             rw [hp_same (HW.out.drewN _).1]
             simp; done)
          | (go_wp2_with (go_at_call 40; refine (fail_any p _ _ l s er he16 (HW.out.drewN nq)).mono ?_; rintro e w' ⟨rfl, hr, hf⟩)
             go_ret
             have e : s.var l = (0, s.fail er) := by
               unfold RS.var
               rw [HR.out, if_neg (by simp [HE.out]), if_pos HR0.out]
             rw [e]
             exact ⟨rfl, hr, (Fr.drewN (At p) w nq).trans hf (fun _ _ h => h)⟩)
  · have hb : ((s.e : Int) != 0) = true := by simp [he]
    have e : s.var l = (0, s) := by simp [RS.var, he]
    rw [e]
    have HE := Lib.hid he; clear he hw
    go_enter Try.func11, Try.ntmps11
    go_wp2
    go_ret
    exact ⟨rfl, HW.out, Fr.refl _ _⟩
end Go.Proofs.Ytomnhblecnbmaaa
