/- Clones, and the reader's calls. -/
import Derived.Test.YtomnhblecnbmaaaCodeX
import Derived.WalkSpells
namespace Go.Proofs.Ytomnhblecnbmaaa
open Go.RowKit

set_option maxHeartbeats 400000 in
theorem clip_any (w : World) (A : Option Addr) (n c : Nat) (hc : n ≤ c) :
    Calls Try.prog 41 #[.slice A n c] w fun e w' => e = .returned (.slice A n n) ∧ w' = w := by
  by_cases hn : n = 0
  · subst hn
    go_enter Try.func41, Try.ntmps41
    go_wp2
    go_ret
    exact ⟨rfl, rfl⟩
  · go_enter Try.func41, Try.ntmps41
    go_wp2
    go_ret
    refine ⟨?_, rfl⟩
    cases A <;> simp

set_option maxHeartbeats 400000 in
/-- Clone: nil of nil; else a row of its own. -/
theorem clone_any (w : World) (x : Value) (l : List UInt8) (hx : Sl w 1 x l.length (bvs l)) (hl : l.length ≤ 1000000000) :
    Calls Try.prog 35 #[x] w fun e w' => ∃ A c, e = .returned (.slice A l.length c) ∧ w'.ownsRow 0 5 1 (.slice A l.length c) l.length (bvs l) ∧ (∀ k, Value.ownBlock (.slice A l.length c) = some k → w.heap.size ≤ k) ∧ Fr no w w' := by
  have hx2 : (x = .slice none 0 0 ∧ l.length = 0) ∨ ∃ y cap, x = .slice (some y) l.length cap ∧ l.length ≤ cap ∧ cap ≤ maxLen := by
    rcases hx.2 with ⟨Y, h1, h2⟩ | ⟨b, o, cap, h1, h2, h3, _⟩
    · cases Y with
      | none => exact .inl ⟨h1, h2⟩
      | some y => exact .inr ⟨y, 0, by rw [h1, h2], by omega, Nat.zero_le _⟩
    · exact .inr ⟨_, cap, h1, h2, h3⟩
  rcases hx2 with ⟨rfl, h0⟩ | ⟨y, cap, rfl, h1, h2⟩
  · obtain rfl : l = [] := List.eq_nil_of_length_eq_zero h0
    have hnil := fun (w : World) (a : Option Addr) (n c n' c' : Nat) => Lib.run_eql_slice_nil (P := Try.prog) w 22 5 a n c n' c' (by kernel_rfl)
    go_enter Try.func35, Try.ntmps35
    go_wp2
    go_ret
    exact ⟨none, 0, rfl, ⟨rfl, .inl ⟨rfl, rfl⟩⟩, by simp [Value.ownBlock], Fr.refl _ _⟩
  · have HX := Lib.hid hx; clear hx
    have hnil := fun (w : World) (a : Option Addr) (n c n' c' : Nat) => Lib.run_eql_slice_nil (P := Try.prog) w 22 5 a n c n' c' (by kernel_rfl)
    go_enter Try.func35, Try.ntmps35
    go_wp2_with (at_builtin; refine wpList_ap (w0 := w.alloc (.cells #[] 5)) (n := 0) (xs := []) rfl (.tmp 5) (.tmp 6) 22 rfl tbB ?own (Fr.refl _ _) (HX.out.kept0 ?fr) rfl rfl (bvs_one l) ?b1 ?b2 ?go)
    case own => exact ⟨rfl, .inr ⟨w.heap.size, 0, #[], rfl, Nat.zero_le _, heap_alloc_new _ _, Nat.le_refl _, Nat.zero_le _, by simp, by simp⟩⟩
    case fr => (repeat first | exact Fr.refl _ _ | apply Fr.drew | apply Fr.alloc)
    case b1 => simp only [maxLen]; omega
    case b2 => omega
    case go =>
      intro A N c w' ho hf hm
      obtain rfl : N = l.length := by have := ho.1; rw [bvs_length] at this; omega
      have HO := Lib.hid ho; have HF := Lib.hid hf; have HM := Lib.hid hm; clear ho hf hm
      go_wp2
      go_ret
      refine ⟨A, c, rfl, HO.out, fun k hk => ?_, ?_⟩
      · rcases HM.out with h | h
        · rw [h] at hk
          have : w.heap.size = k := by simpa [Value.ownBlock] using hk
          omega
        · have := h k hk; simp at this; omega
      · exact Fr.trans (S := no) (by (repeat first | exact Fr.refl _ _ | apply Fr.drew | apply Fr.alloc)) HF.out (fun k hk h => by simp [Value.ownBlock] at h; omega)

set_option maxHeartbeats 400000 in
theorem bytes_any (p : Nat) (w : World) (sv : Value) (l : List UInt8) (hw : Wr w p sv l) (hl : l.length ≤ 1000000000) :
    Calls Try.prog 16 #[.pointer (some ⟨p, 0, none⟩)] w fun e w' => ∃ A, e = .returned (.slice A l.length l.length) ∧ Ow w' 5 1 (.slice A l.length l.length) l.length (bvs l) ∧ (∀ k, Value.ownBlock (.slice A l.length l.length) = some k → w.heap.size ≤ k) ∧ Fr no w w' := by
  obtain ⟨A, c, rfl⟩ := own_form hw.2.1
  obtain ⟨hc0, hfz, hps⟩ := one_cells hw.1
  have HW := Lib.hid hw; clear hw
  go_enter Try.func16, Try.ntmps16
  go_wp2_with fail
  refine (clone_any _ _ l (Sl.of_own HW.out.2.1) hl).mono ?_
  rintro e w1 ⟨A1, c1, rfl, ho, hfresh, hf⟩
  obtain ⟨A2, c2, h1, h2, h3⟩ := (Sl.of_own ho).form
  cases h1
  have HO := Lib.hid ho; have HFR := Lib.hid hfresh; have HF := Lib.hid hf; clear ho hfresh hf h3
  go_wp2_with fail
  refine (clip_any _ _ _ _ h2).mono ?_
  rintro e w2 ⟨rfl, rfl⟩
  go_wp2
  go_ret
  refine ⟨A1, rfl, (Ow.of_own HO.out).clip, fun k hk => HFR.out k (by cases A1 <;> exact hk), HF.out⟩

/-- A reader of its own over the bytes. -/
theorem read_any (w : World) (x : Value) (l : List UInt8) (hx : Sl w 1 x l.length (bvs l)) (hl : l.length ≤ 1000000000) :
    Calls Try.prog 8 #[x] w fun e w' => ∃ p sv, e = .returned (.pointer (some ⟨p, 0, none⟩)) ∧ Rr w' p sv l ⟨0, 0, 0⟩ ∧ w.heap.size ≤ p ∧ (∀ k, sv.ownBlock = some k → w.heap.size ≤ k ∧ k < w'.heap.size) ∧ Fr no w w' := by
  go_enter Try.func8, Try.ntmps8
  go_wp2_with fail
  refine (clone_any _ _ l hx hl).mono ?_
  rintro e w1 ⟨A1, c1, rfl, ho, hfresh, hf⟩
  have HO := Lib.hid ho; have HFR := Lib.hid hfresh; have HF := Lib.hid hf; clear ho hfresh hf
  go_wp2
  go_ret
  have hlt := own_lt HO.out
  refine ⟨_, _, rfl, ⟨heap_alloc_new _ _, (Sl.of_own HO.out).kept0 (by (repeat first | exact Fr.refl _ _ | apply Fr.drew | apply Fr.alloc)), fun h => by have := hlt _ h; omega, Nat.zero_le _, hl, by decide⟩, HF.out.size, fun k hk => ⟨HFR.out k hk, by have := hlt k hk; simp; omega⟩, HF.out.alloc _⟩
end Go.Proofs.Ytomnhblecnbmaaa
