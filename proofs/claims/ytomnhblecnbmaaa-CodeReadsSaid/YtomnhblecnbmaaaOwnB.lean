/- The owner's check on a list of bools that is not there. -/
import Derived.Test.YtomnhblecnbmaaaCodeW
namespace Go.Proofs.Ytomnhblecnbmaaa
open Go.RowKit

set_option maxRecDepth 100000 in
set_option maxHeartbeats 400000 in
theorem ownBools_nil (w : World) : Calls Try.prog 67 #[.slice none 0 0] w fun e w' => e = .returned (.bool true) ∧ Fr no w w' := by
  have tb : Tb Try.prog 59 157 (.slice none 0 0) 1 24 := ⟨by kernel_rfl, by kernel_rfl, rfl, by decide⟩
  obtain ⟨inf, hi, hz0, hz1, hz2⟩ := info_parts tb.info
  have hmk := run_make (P := Try.prog) w 59 157 inf (.slice none 0 0) tb.und hi hz0 .i64 .i64 0 0 (by omega) (by omega) (by omega) (by omega)
  obtain ⟨c, hc⟩ : ∃ c, c = madeCells (Value.slice none 0 0).cells ((0 : Int).toNat * inf.size) := ⟨_, rfl⟩
  rw [← hc] at hmk
  clear hc hi hz0 hz1 hz2 tb
  go_enter Try.func67, Try.ntmps67
  go_wp2
  go_loop [4] (fun i => i = .int .i64 0) (fun _ => 0)
  case atStart => rfl
  case round =>
    subst hrel
    go_wp2
    go_ret
    exact ⟨rfl, (Fr.refl no w).alloc _⟩
end Go.Proofs.Ytomnhblecnbmaaa
