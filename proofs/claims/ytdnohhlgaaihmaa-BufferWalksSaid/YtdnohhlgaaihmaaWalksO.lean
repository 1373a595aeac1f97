/- law16: BufferWalks of more than is looked at. -/
import Derived.Test.YtdnohhlgaaihmaaWalks
namespace Go.Proofs.Ytdnohhlgaaihmaa
open Go.RowKit
set_option maxRecDepth 100000 in
set_option maxHeartbeats 4000000 in
theorem walks_over (w : World) (U X : Value) (n : Nat) (xs : List Value) (l : List OpB) (hu : Sl w 2 U n xs) (hx : OpsB w X l) (h : over16 l = true ∨ 200 < n) :
    Calls Try.prog 3 #[U, X] w fun e w' => e = .returned (.bool true) ∧ Fr no w w' := by
  obtain ⟨UA, Uc, rfl, hUc, hUm⟩ := hu.form
  obtain ⟨A, c, rfl, hc1, _⟩ := hx.sl.form
  unfold maxLen at hUm
  have HX := Lib.hid hx; clear hu hx
  rcases ho : over16 l with _ | _
  · have HO := Lib.hid ho; clear ho
    have h1 : 200 < n := by rcases h with h | h; rw [HO.out] at h; cases h; exact h
    have d1 : decide ((200 : Int) < (n : Int)) = true := decide_eq_true (by omega)
    clear h h1
    go_enter Try.func3, Try.ntmps3
    go_wp2_with fail
    refine (much16_any w _ l HX.out).mono ?_
    rintro e w1 ⟨rfl, f1⟩
    rw [HO.out]
    have F1 := Lib.hid f1; clear f1
    go_wp2
    go_ret
    exact ⟨rfl, F1.out⟩
  · have HO := Lib.hid ho; clear ho h
    go_enter Try.func3, Try.ntmps3
    go_wp2_with fail
    refine (much16_any w _ l HX.out).mono ?_
    rintro e w1 ⟨rfl, f1⟩
    rw [HO.out]
    have F1 := Lib.hid f1; clear f1
    go_wp2
    go_ret
    exact ⟨rfl, F1.out⟩
end Go.Proofs.Ytdnohhlgaaihmaa
