import Derived.Test.YtgcicljklejmjaaGreatDoorMb02
import Derived.Test.YtgcicljklejmjaaGreatDoorMw06
import Derived.Test.YtgcicljklejmjaaGreatDoorMb04
import Derived.Test.YtgcicljklejmjaaGreatDoorMw04
import Derived.Test.YtgcicljklejmjaaGreatDoorMw05
import Derived.Test.YtgcicljklejmjaaGreatDoorMb16

/- The owner's check on lists that are not there. -/
namespace Go.Proofs.YtgcicljklejmjaaGreatDoor
open Go.RowKit

set_option maxRecDepth 100000 in
set_option maxHeartbeats 400000 in
theorem ownBytes_nil (w : World) : Calls Tryz.prog 42 #[.slice none 0 0] w fun e w' => e = .returned (.bool true) ∧ w' = w := by
  go_enter Tryz.func42, Tryz.ntmps42
  go_wp2
  go_loop [3] (fun i => i = .int .i64 0) (fun _ => 0)
  case atStart => rfl
  case round =>
    subst hrel
    go_wp2
    go_loop [6] (fun i => i = .int .i64 0) (fun _ => 0)
    case atStart => rfl
    case round =>
      subst hrel
      go_wp2
      go_loop [9] (fun i => i = .int .i64 0) (fun _ => 0)
      case atStart => rfl
      case round =>
        subst hrel
        go_wp2
        go_ret
        exact ⟨rfl, rfl⟩

set_option maxRecDepth 100000 in
set_option maxHeartbeats 400000 in
theorem ownTexts_nil (w : World) : Calls Tryz.prog 43 #[.slice none 0 0] w fun e w' => e = .returned (.bool true) ∧ w' = w := by
  go_enter Tryz.func43, Tryz.ntmps43
  go_wp2
  go_loop [3] (fun i => i = .int .i64 0) (fun _ => 0)
  case atStart => rfl
  case round =>
    subst hrel
    go_wp2
    go_loop [6] (fun i => i = .int .i64 0) (fun _ => 0)
    case atStart => rfl
    case round =>
      subst hrel
      go_wp2
      go_loop [9] (fun i => i = .int .i64 0) (fun _ => 0)
      case atStart => rfl
      case round =>
        subst hrel
        go_wp2
        go_ret
        exact ⟨rfl, rfl⟩

set_option maxRecDepth 100000 in
set_option maxHeartbeats 400000 in
theorem ownInts_nil (w : World) : Calls Tryz.prog 44 #[.slice none 0 0] w fun e w' => e = .returned (.bool true) ∧ w' = w := by
  go_enter Tryz.func44, Tryz.ntmps44
  go_wp2
  go_loop [3] (fun i => i = .int .i64 0) (fun _ => 0)
  case atStart => rfl
  case round =>
    subst hrel
    go_wp2
    go_loop [6] (fun i => i = .int .i64 0) (fun _ => 0)
    case atStart => rfl
    case round =>
      subst hrel
      go_wp2
      go_loop [9] (fun i => i = .int .i64 0) (fun _ => 0)
      case atStart => rfl
      case round =>
        subst hrel
        go_wp2
        go_ret
        exact ⟨rfl, rfl⟩

set_option maxRecDepth 100000 in
set_option maxHeartbeats 400000 in
theorem ownLongs_nil (w : World) : Calls Tryz.prog 45 #[.slice none 0 0] w fun e w' => e = .returned (.bool true) ∧ w' = w := by
  go_enter Tryz.func45, Tryz.ntmps45
  go_wp2
  go_loop [3] (fun i => i = .int .i64 0) (fun _ => 0)
  case atStart => rfl
  case round =>
    subst hrel
    go_wp2
    go_loop [6] (fun i => i = .int .i64 0) (fun _ => 0)
    case atStart => rfl
    case round =>
      subst hrel
      go_wp2
      go_loop [9] (fun i => i = .int .i64 0) (fun _ => 0)
      case atStart => rfl
      case round =>
        subst hrel
        go_wp2
        go_ret
        exact ⟨rfl, rfl⟩

set_option maxRecDepth 100000 in
set_option maxHeartbeats 400000 in
theorem ownNumbers_nil (w : World) : Calls Tryz.prog 46 #[.slice none 0 0] w fun e w' => e = .returned (.bool true) ∧ w' = w := by
  go_enter Tryz.func46, Tryz.ntmps46
  go_wp2
  go_loop [3] (fun i => i = .int .i64 0) (fun _ => 0)
  case atStart => rfl
  case round =>
    subst hrel
    go_wp2
    go_loop [6] (fun i => i = .int .i64 0) (fun _ => 0)
    case atStart => rfl
    case round =>
      subst hrel
      go_wp2
      go_loop [9] (fun i => i = .int .i64 0) (fun _ => 0)
      case atStart => rfl
      case round =>
        subst hrel
        go_wp2
        go_ret
        exact ⟨rfl, rfl⟩

set_option maxRecDepth 100000 in
set_option maxHeartbeats 400000 in
theorem ownWords_nil (w : World) : Calls Tryz.prog 47 #[.slice none 0 0] w fun e w' => e = .returned (.bool true) ∧ w' = w := by
  go_enter Tryz.func47, Tryz.ntmps47
  go_wp2
  go_loop [3] (fun i => i = .int .i64 0) (fun _ => 0)
  case atStart => rfl
  case round =>
    subst hrel
    go_wp2
    go_loop [6] (fun i => i = .int .i64 0) (fun _ => 0)
    case atStart => rfl
    case round =>
      subst hrel
      go_wp2
      go_loop [9] (fun i => i = .int .i64 0) (fun _ => 0)
      case atStart => rfl
      case round =>
        subst hrel
        go_wp2
        go_ret
        exact ⟨rfl, rfl⟩

set_option maxRecDepth 100000 in
set_option maxHeartbeats 400000 in
theorem ownSteps_nil (w : World) : Calls Tryz.prog 48 #[.slice none 0 0] w fun e w' => e = .returned (.bool true) ∧ w' = w := by
  go_enter Tryz.func48, Tryz.ntmps48
  go_wp2
  go_loop [3] (fun i => i = .int .i64 0) (fun _ => 0)
  case atStart => rfl
  case round =>
    subst hrel
    go_wp2
    go_loop [6] (fun i => i = .int .i64 0) (fun _ => 0)
    case atStart => rfl
    case round =>
      subst hrel
      go_wp2
      go_loop [9] (fun i => i = .int .i64 0) (fun _ => 0)
      case atStart => rfl
      case round =>
        subst hrel
        go_wp2
        go_ret
        exact ⟨rfl, rfl⟩

set_option maxRecDepth 100000 in
set_option maxHeartbeats 400000 in
theorem ownParts_nil (w : World) : Calls Tryz.prog 49 #[.slice none 0 0] w fun e w' => e = .returned (.bool true) ∧ w' = w := by
  go_enter Tryz.func49, Tryz.ntmps49
  go_wp2
  go_loop [3] (fun i => i = .int .i64 0) (fun _ => 0)
  case atStart => rfl
  case round =>
    subst hrel
    go_wp2
    go_loop [6] (fun i => i = .int .i64 0) (fun _ => 0)
    case atStart => rfl
    case round =>
      subst hrel
      go_wp2
      go_loop [9] (fun i => i = .int .i64 0) (fun _ => 0)
      case atStart => rfl
      case round =>
        subst hrel
        go_wp2
        go_ret
        exact ⟨rfl, rfl⟩

set_option maxRecDepth 100000 in
set_option maxHeartbeats 400000 in
theorem ownDones_nil (w : World) : Calls Tryz.prog 50 #[.slice none 0 0] w fun e w' => e = .returned (.bool true) ∧ w' = w := by
  go_enter Tryz.func50, Tryz.ntmps50
  go_wp2
  go_loop [3] (fun i => i = .int .i64 0) (fun _ => 0)
  case atStart => rfl
  case round =>
    subst hrel
    go_wp2
    go_loop [6] (fun i => i = .int .i64 0) (fun _ => 0)
    case atStart => rfl
    case round =>
      subst hrel
      go_wp2
      go_loop [9] (fun i => i = .int .i64 0) (fun _ => 0)
      case atStart => rfl
      case round =>
        subst hrel
        go_wp2
        go_ret
        exact ⟨rfl, rfl⟩

set_option maxRecDepth 100000 in
set_option maxHeartbeats 400000 in
theorem ownRows_nil (w : World) : Calls Tryz.prog 51 #[.slice none 0 0] w fun e w' => e = .returned (.bool true) ∧ w' = w := by
  go_enter Tryz.func51, Tryz.ntmps51
  go_wp2
  go_loop [3] (fun i => i = .int .i64 0) (fun _ => 0)
  case atStart => rfl
  case round =>
    subst hrel
    go_wp2
    go_loop [6] (fun i => i = .int .i64 0) (fun _ => 0)
    case atStart => rfl
    case round =>
      subst hrel
      go_wp2
      go_loop [9] (fun i => i = .int .i64 0) (fun _ => 0)
      case atStart => rfl
      case round =>
        subst hrel
        go_wp2
        go_ret
        exact ⟨rfl, rfl⟩

set_option maxRecDepth 100000 in
set_option maxHeartbeats 400000 in
theorem ownLists_nil (w : World) : Calls Tryz.prog 52 #[.slice none 0 0] w fun e w' => e = .returned (.bool true) ∧ w' = w := by
  go_enter Tryz.func52, Tryz.ntmps52
  go_wp2
  go_loop [3] (fun i => i = .int .i64 0) (fun _ => 0)
  case atStart => rfl
  case round =>
    subst hrel
    go_wp2
    go_loop [6] (fun i => i = .int .i64 0) (fun _ => 0)
    case atStart => rfl
    case round =>
      subst hrel
      go_wp2
      go_loop [9] (fun i => i = .int .i64 0) (fun _ => 0)
      case atStart => rfl
      case round =>
        subst hrel
        go_wp2
        go_ret
        exact ⟨rfl, rfl⟩

set_option maxRecDepth 100000 in
set_option maxHeartbeats 400000 in
theorem ownIntLists_nil (w : World) : Calls Tryz.prog 53 #[.slice none 0 0] w fun e w' => e = .returned (.bool true) ∧ w' = w := by
  go_enter Tryz.func53, Tryz.ntmps53
  go_wp2
  go_loop [3] (fun i => i = .int .i64 0) (fun _ => 0)
  case atStart => rfl
  case round =>
    subst hrel
    go_wp2
    go_loop [6] (fun i => i = .int .i64 0) (fun _ => 0)
    case atStart => rfl
    case round =>
      subst hrel
      go_wp2
      go_loop [9] (fun i => i = .int .i64 0) (fun _ => 0)
      case atStart => rfl
      case round =>
        subst hrel
        go_wp2
        go_ret
        exact ⟨rfl, rfl⟩

set_option maxRecDepth 100000 in
set_option maxHeartbeats 400000 in
theorem ownPaths_nil (w : World) : Calls Tryz.prog 54 #[.slice none 0 0] w fun e w' => e = .returned (.bool true) ∧ w' = w := by
  go_enter Tryz.func54, Tryz.ntmps54
  go_wp2
  go_loop [3] (fun i => i = .int .i64 0) (fun _ => 0)
  case atStart => rfl
  case round =>
    subst hrel
    go_wp2
    go_loop [6] (fun i => i = .int .i64 0) (fun _ => 0)
    case atStart => rfl
    case round =>
      subst hrel
      go_wp2
      go_loop [9] (fun i => i = .int .i64 0) (fun _ => 0)
      case atStart => rfl
      case round =>
        subst hrel
        go_wp2
        go_ret
        exact ⟨rfl, rfl⟩

set_option maxRecDepth 100000 in
set_option maxHeartbeats 400000 in
theorem ownPairs_nil (w : World) : Calls Tryz.prog 55 #[.slice none 0 0] w fun e w' => e = .returned (.bool true) ∧ w' = w := by
  go_enter Tryz.func55, Tryz.ntmps55
  go_wp2
  go_loop [3] (fun i => i = .int .i64 0) (fun _ => 0)
  case atStart => rfl
  case round =>
    subst hrel
    go_wp2
    go_loop [6] (fun i => i = .int .i64 0) (fun _ => 0)
    case atStart => rfl
    case round =>
      subst hrel
      go_wp2
      go_loop [9] (fun i => i = .int .i64 0) (fun _ => 0)
      case atStart => rfl
      case round =>
        subst hrel
        go_wp2
        go_ret
        exact ⟨rfl, rfl⟩

set_option maxRecDepth 100000 in
set_option maxHeartbeats 400000 in
theorem ownChanges_nil (w : World) : Calls Tryz.prog 56 #[.slice none 0 0] w fun e w' => e = .returned (.bool true) ∧ w' = w := by
  go_enter Tryz.func56, Tryz.ntmps56
  go_wp2
  go_loop [3] (fun i => i = .int .i64 0) (fun _ => 0)
  case atStart => rfl
  case round =>
    subst hrel
    go_wp2
    go_loop [6] (fun i => i = .int .i64 0) (fun _ => 0)
    case atStart => rfl
    case round =>
      subst hrel
      go_wp2
      go_loop [9] (fun i => i = .int .i64 0) (fun _ => 0)
      case atStart => rfl
      case round =>
        subst hrel
        go_wp2
        go_ret
        exact ⟨rfl, rfl⟩

set_option maxRecDepth 100000 in
set_option maxHeartbeats 400000 in
theorem ownSpans_nil (w : World) : Calls Tryz.prog 57 #[.slice none 0 0] w fun e w' => e = .returned (.bool true) ∧ w' = w := by
  go_enter Tryz.func57, Tryz.ntmps57
  go_wp2
  go_loop [3] (fun i => i = .int .i64 0) (fun _ => 0)
  case atStart => rfl
  case round =>
    subst hrel
    go_wp2
    go_loop [6] (fun i => i = .int .i64 0) (fun _ => 0)
    case atStart => rfl
    case round =>
      subst hrel
      go_wp2
      go_loop [9] (fun i => i = .int .i64 0) (fun _ => 0)
      case atStart => rfl
      case round =>
        subst hrel
        go_wp2
        go_ret
        exact ⟨rfl, rfl⟩

set_option maxRecDepth 100000 in
set_option maxHeartbeats 400000 in
theorem ownEntries_nil (w : World) : Calls Tryz.prog 58 #[.slice none 0 0] w fun e w' => e = .returned (.bool true) ∧ w' = w := by
  go_enter Tryz.func58, Tryz.ntmps58
  go_wp2
  go_loop [3] (fun i => i = .int .i64 0) (fun _ => 0)
  case atStart => rfl
  case round =>
    subst hrel
    go_wp2
    go_loop [6] (fun i => i = .int .i64 0) (fun _ => 0)
    case atStart => rfl
    case round =>
      subst hrel
      go_wp2
      go_loop [9] (fun i => i = .int .i64 0) (fun _ => 0)
      case atStart => rfl
      case round =>
        subst hrel
        go_wp2
        go_ret
        exact ⟨rfl, rfl⟩

set_option maxRecDepth 100000 in
set_option maxHeartbeats 400000 in
theorem ownValues_nil (w : World) : Calls Tryz.prog 60 #[.slice none 0 0] w fun e w' => e = .returned (.bool true) ∧ w' = w := by
  go_enter Tryz.func60, Tryz.ntmps60
  go_wp2
  go_loop [3] (fun i => i = .int .i64 0) (fun _ => 0)
  case atStart => rfl
  case round =>
    subst hrel
    go_wp2
    go_loop [6] (fun i => i = .int .i64 0) (fun _ => 0)
    case atStart => rfl
    case round =>
      subst hrel
      go_wp2
      go_loop [9] (fun i => i = .int .i64 0) (fun _ => 0)
      case atStart => rfl
      case round =>
        subst hrel
        go_wp2
        go_ret
        exact ⟨rfl, rfl⟩

set_option maxRecDepth 100000 in
set_option maxHeartbeats 400000 in
theorem ownFields_nil (w : World) : Calls Tryz.prog 61 #[.slice none 0 0] w fun e w' => e = .returned (.bool true) ∧ w' = w := by
  go_enter Tryz.func61, Tryz.ntmps61
  go_wp2
  go_loop [3] (fun i => i = .int .i64 0) (fun _ => 0)
  case atStart => rfl
  case round =>
    subst hrel
    go_wp2
    go_loop [6] (fun i => i = .int .i64 0) (fun _ => 0)
    case atStart => rfl
    case round =>
      subst hrel
      go_wp2
      go_loop [9] (fun i => i = .int .i64 0) (fun _ => 0)
      case atStart => rfl
      case round =>
        subst hrel
        go_wp2
        go_ret
        exact ⟨rfl, rfl⟩

set_option maxRecDepth 100000 in
set_option maxHeartbeats 400000 in
theorem ownIndexes_nil (w : World) : Calls Tryz.prog 62 #[.slice none 0 0] w fun e w' => e = .returned (.bool true) ∧ w' = w := by
  go_enter Tryz.func62, Tryz.ntmps62
  go_wp2
  go_loop [3] (fun i => i = .int .i64 0) (fun _ => 0)
  case atStart => rfl
  case round =>
    subst hrel
    go_wp2
    go_loop [6] (fun i => i = .int .i64 0) (fun _ => 0)
    case atStart => rfl
    case round =>
      subst hrel
      go_wp2
      go_loop [9] (fun i => i = .int .i64 0) (fun _ => 0)
      case atStart => rfl
      case round =>
        subst hrel
        go_wp2
        go_ret
        exact ⟨rfl, rfl⟩

set_option maxRecDepth 100000 in
set_option maxHeartbeats 400000 in
theorem ownEvents_nil (w : World) : Calls Tryz.prog 63 #[.slice none 0 0] w fun e w' => e = .returned (.bool true) ∧ w' = w := by
  go_enter Tryz.func63, Tryz.ntmps63
  go_wp2
  go_loop [3] (fun i => i = .int .i64 0) (fun _ => 0)
  case atStart => rfl
  case round =>
    subst hrel
    go_wp2
    go_loop [6] (fun i => i = .int .i64 0) (fun _ => 0)
    case atStart => rfl
    case round =>
      subst hrel
      go_wp2
      go_loop [9] (fun i => i = .int .i64 0) (fun _ => 0)
      case atStart => rfl
      case round =>
        subst hrel
        go_wp2
        go_ret
        exact ⟨rfl, rfl⟩

set_option maxRecDepth 100000 in
set_option maxHeartbeats 400000 in
theorem ownCommits_nil (w : World) : Calls Tryz.prog 64 #[.slice none 0 0] w fun e w' => e = .returned (.bool true) ∧ w' = w := by
  go_enter Tryz.func64, Tryz.ntmps64
  go_wp2
  go_loop [3] (fun i => i = .int .i64 0) (fun _ => 0)
  case atStart => rfl
  case round =>
    subst hrel
    go_wp2
    go_loop [6] (fun i => i = .int .i64 0) (fun _ => 0)
    case atStart => rfl
    case round =>
      subst hrel
      go_wp2
      go_loop [9] (fun i => i = .int .i64 0) (fun _ => 0)
      case atStart => rfl
      case round =>
        subst hrel
        go_wp2
        go_ret
        exact ⟨rfl, rfl⟩

end Go.Proofs.YtgcicljklejmjaaGreatDoor

/- The owner's check on a list of bools that is not there. -/
namespace Go.Proofs.YtgcicljklejmjaaGreatDoor
open Go.RowKit

set_option maxRecDepth 100000 in
set_option maxHeartbeats 400000 in
theorem ownBools_nil (w : World) : Calls Tryz.prog 59 #[.slice none 0 0] w fun e w' => e = .returned (.bool true) ∧ Fr no w w' := by
  have tb : Tb Tryz.prog 50 23 (.slice none 0 0) 1 24 := ⟨by kernel_rfl, by kernel_rfl, rfl, by decide⟩
  obtain ⟨inf, hi, hz0, hz1, hz2⟩ := info_parts tb.info
  have hmk := run_make (P := Tryz.prog) w 50 23 inf (.slice none 0 0) tb.und hi hz0 .i64 .i64 0 0 (by omega) (by omega) (by omega) (by omega)
  obtain ⟨c, hc⟩ : ∃ c, c = madeCells (Value.slice none 0 0).cells ((0 : Int).toNat * inf.size) := ⟨_, rfl⟩
  rw [← hc] at hmk
  clear hc hi hz0 hz1 hz2 tb
  go_enter Tryz.func59, Tryz.ntmps59
  go_wp2
  go_loop [4] (fun i => i = .int .i64 0) (fun _ => 0)
  case atStart => rfl
  case round =>
    subst hrel
    go_wp2
    go_ret
    exact ⟨rfl, (Fr.refl no w).alloc _⟩
end Go.Proofs.YtgcicljklejmjaaGreatDoor

/- The owner's check of a whole book: one kind of lists behind the other. -/
namespace Go.Proofs.YtgcicljklejmjaaGreatDoor
open Go.RowKit

set_option maxRecDepth 100000 in
set_option maxHeartbeats 4000000 in
theorem own_all (b : Nat) (w : World) (F : Nat → Value) (I : Nat → World → Prop) (h0 : I 0 w) (hc : ∀ i w', i < 23 → I i w' → w'.cell? ⟨b, i, none⟩ = some (F i))
    (k0 : ∀ w', I 0 w' → Calls Tryz.prog 42 #[F 0] w' fun e w'' => e = .returned (.bool true) ∧ I 1 w'')
    (k1 : ∀ w', I 1 w' → Calls Tryz.prog 43 #[F 1] w' fun e w'' => e = .returned (.bool true) ∧ I 2 w'')
    (k2 : ∀ w', I 2 w' → Calls Tryz.prog 44 #[F 2] w' fun e w'' => e = .returned (.bool true) ∧ I 3 w'')
    (k3 : ∀ w', I 3 w' → Calls Tryz.prog 45 #[F 3] w' fun e w'' => e = .returned (.bool true) ∧ I 4 w'')
    (k4 : ∀ w', I 4 w' → Calls Tryz.prog 46 #[F 4] w' fun e w'' => e = .returned (.bool true) ∧ I 5 w'')
    (k5 : ∀ w', I 5 w' → Calls Tryz.prog 47 #[F 5] w' fun e w'' => e = .returned (.bool true) ∧ I 6 w'')
    (k6 : ∀ w', I 6 w' → Calls Tryz.prog 48 #[F 6] w' fun e w'' => e = .returned (.bool true) ∧ I 7 w'')
    (k7 : ∀ w', I 7 w' → Calls Tryz.prog 49 #[F 7] w' fun e w'' => e = .returned (.bool true) ∧ I 8 w'')
    (k8 : ∀ w', I 8 w' → Calls Tryz.prog 50 #[F 8] w' fun e w'' => e = .returned (.bool true) ∧ I 9 w'')
    (k9 : ∀ w', I 9 w' → Calls Tryz.prog 51 #[F 9] w' fun e w'' => e = .returned (.bool true) ∧ I 10 w'')
    (k10 : ∀ w', I 10 w' → Calls Tryz.prog 52 #[F 10] w' fun e w'' => e = .returned (.bool true) ∧ I 11 w'')
    (k11 : ∀ w', I 11 w' → Calls Tryz.prog 53 #[F 11] w' fun e w'' => e = .returned (.bool true) ∧ I 12 w'')
    (k12 : ∀ w', I 12 w' → Calls Tryz.prog 54 #[F 12] w' fun e w'' => e = .returned (.bool true) ∧ I 13 w'')
    (k13 : ∀ w', I 13 w' → Calls Tryz.prog 55 #[F 13] w' fun e w'' => e = .returned (.bool true) ∧ I 14 w'')
    (k14 : ∀ w', I 14 w' → Calls Tryz.prog 56 #[F 14] w' fun e w'' => e = .returned (.bool true) ∧ I 15 w'')
    (k15 : ∀ w', I 15 w' → Calls Tryz.prog 57 #[F 15] w' fun e w'' => e = .returned (.bool true) ∧ I 16 w'')
    (k16 : ∀ w', I 16 w' → Calls Tryz.prog 58 #[F 16] w' fun e w'' => e = .returned (.bool true) ∧ I 17 w'')
    (k17 : ∀ w', I 17 w' → Calls Tryz.prog 59 #[F 17] w' fun e w'' => e = .returned (.bool true) ∧ I 18 w'')
    (k18 : ∀ w', I 18 w' → Calls Tryz.prog 60 #[F 18] w' fun e w'' => e = .returned (.bool true) ∧ I 19 w'')
    (k19 : ∀ w', I 19 w' → Calls Tryz.prog 61 #[F 19] w' fun e w'' => e = .returned (.bool true) ∧ I 20 w'')
    (k20 : ∀ w', I 20 w' → Calls Tryz.prog 62 #[F 20] w' fun e w'' => e = .returned (.bool true) ∧ I 21 w'')
    (k21 : ∀ w', I 21 w' → Calls Tryz.prog 63 #[F 21] w' fun e w'' => e = .returned (.bool true) ∧ I 22 w'')
    (k22 : ∀ w', I 22 w' → Calls Tryz.prog 64 #[F 22] w' fun e w'' => e = .returned (.bool true) ∧ I 23 w'')
    : Calls Tryz.prog 17 #[.pointer (some ⟨b, 0, none⟩)] w fun e w' => e = .returned (.bool true) ∧ I 23 w' := by
  have HC := Lib.hid hc; clear hc
  have K0 := Lib.hid k0; clear k0
  have K1 := Lib.hid k1; clear k1
  have K2 := Lib.hid k2; clear k2
  have K3 := Lib.hid k3; clear k3
  have K4 := Lib.hid k4; clear k4
  have K5 := Lib.hid k5; clear k5
  have K6 := Lib.hid k6; clear k6
  have K7 := Lib.hid k7; clear k7
  have K8 := Lib.hid k8; clear k8
  have K9 := Lib.hid k9; clear k9
  have K10 := Lib.hid k10; clear k10
  have K11 := Lib.hid k11; clear k11
  have K12 := Lib.hid k12; clear k12
  have K13 := Lib.hid k13; clear k13
  have K14 := Lib.hid k14; clear k14
  have K15 := Lib.hid k15; clear k15
  have K16 := Lib.hid k16; clear k16
  have K17 := Lib.hid k17; clear k17
  have K18 := Lib.hid k18; clear k18
  have K19 := Lib.hid k19; clear k19
  have K20 := Lib.hid k20; clear k20
  have K21 := Lib.hid k21; clear k21
  have K22 := Lib.hid k22; clear k22
  have HI := Lib.hid h0; clear h0
  obtain ⟨F, rfl⟩ : ∃ G : Nat → Value, G = F := ⟨_, rfl⟩
  generalize hF0 : F 0 = v0 at K0
  generalize hF1 : F 1 = v1 at K1
  generalize hF2 : F 2 = v2 at K2
  generalize hF3 : F 3 = v3 at K3
  generalize hF4 : F 4 = v4 at K4
  generalize hF5 : F 5 = v5 at K5
  generalize hF6 : F 6 = v6 at K6
  generalize hF7 : F 7 = v7 at K7
  generalize hF8 : F 8 = v8 at K8
  generalize hF9 : F 9 = v9 at K9
  generalize hF10 : F 10 = v10 at K10
  generalize hF11 : F 11 = v11 at K11
  generalize hF12 : F 12 = v12 at K12
  generalize hF13 : F 13 = v13 at K13
  generalize hF14 : F 14 = v14 at K14
  generalize hF15 : F 15 = v15 at K15
  generalize hF16 : F 16 = v16 at K16
  generalize hF17 : F 17 = v17 at K17
  generalize hF18 : F 18 = v18 at K18
  generalize hF19 : F 19 = v19 at K19
  generalize hF20 : F 20 = v20 at K20
  generalize hF21 : F 21 = v21 at K21
  generalize hF22 : F 22 = v22 at K22
  have HF0 := Lib.hid hF0; clear hF0
  have HF1 := Lib.hid hF1; clear hF1
  have HF2 := Lib.hid hF2; clear hF2
  have HF3 := Lib.hid hF3; clear hF3
  have HF4 := Lib.hid hF4; clear hF4
  have HF5 := Lib.hid hF5; clear hF5
  have HF6 := Lib.hid hF6; clear hF6
  have HF7 := Lib.hid hF7; clear hF7
  have HF8 := Lib.hid hF8; clear hF8
  have HF9 := Lib.hid hF9; clear hF9
  have HF10 := Lib.hid hF10; clear hF10
  have HF11 := Lib.hid hF11; clear hF11
  have HF12 := Lib.hid hF12; clear hF12
  have HF13 := Lib.hid hF13; clear hF13
  have HF14 := Lib.hid hF14; clear hF14
  have HF15 := Lib.hid hF15; clear hF15
  have HF16 := Lib.hid hF16; clear hF16
  have HF17 := Lib.hid hF17; clear hF17
  have HF18 := Lib.hid hF18; clear hF18
  have HF19 := Lib.hid hF19; clear hF19
  have HF20 := Lib.hid hF20; clear hF20
  have HF21 := Lib.hid hF21; clear hF21
  have HF22 := Lib.hid hF22; clear hF22
  have c := HC.out 0 w (by omega) HI.out
  rw [HF0.out] at c
  go_enter Tryz.func17, Tryz.ntmps17
  go_wp2_with fail
  refine (K0.out _ HI.out).mono ?_
  clear c HI
  rintro e w1 ⟨rfl, hi⟩
  have HI := Lib.hid hi; clear hi
  have c := HC.out 1 w1 (by omega) HI.out
  rw [HF1.out] at c
  go_wp2_with fail
  refine (K1.out _ HI.out).mono ?_
  clear c HI
  rintro e w2 ⟨rfl, hi⟩
  have HI := Lib.hid hi; clear hi
  have c := HC.out 2 w2 (by omega) HI.out
  rw [HF2.out] at c
  go_wp2_with fail
  refine (K2.out _ HI.out).mono ?_
  clear c HI
  rintro e w3 ⟨rfl, hi⟩
  have HI := Lib.hid hi; clear hi
  have c := HC.out 3 w3 (by omega) HI.out
  rw [HF3.out] at c
  go_wp2_with fail
  refine (K3.out _ HI.out).mono ?_
  clear c HI
  rintro e w4 ⟨rfl, hi⟩
  have HI := Lib.hid hi; clear hi
  have c := HC.out 4 w4 (by omega) HI.out
  rw [HF4.out] at c
  go_wp2_with fail
  refine (K4.out _ HI.out).mono ?_
  clear c HI
  rintro e w5 ⟨rfl, hi⟩
  have HI := Lib.hid hi; clear hi
  have c := HC.out 5 w5 (by omega) HI.out
  rw [HF5.out] at c
  go_wp2_with fail
  refine (K5.out _ HI.out).mono ?_
  clear c HI
  rintro e w6 ⟨rfl, hi⟩
  have HI := Lib.hid hi; clear hi
  have c := HC.out 6 w6 (by omega) HI.out
  rw [HF6.out] at c
  go_wp2_with fail
  refine (K6.out _ HI.out).mono ?_
  clear c HI
  rintro e w7 ⟨rfl, hi⟩
  have HI := Lib.hid hi; clear hi
  have c := HC.out 7 w7 (by omega) HI.out
  rw [HF7.out] at c
  go_wp2_with fail
  refine (K7.out _ HI.out).mono ?_
  clear c HI
  rintro e w8 ⟨rfl, hi⟩
  have HI := Lib.hid hi; clear hi
  have c := HC.out 8 w8 (by omega) HI.out
  rw [HF8.out] at c
  go_wp2_with fail
  refine (K8.out _ HI.out).mono ?_
  clear c HI
  rintro e w9 ⟨rfl, hi⟩
  have HI := Lib.hid hi; clear hi
  have c := HC.out 9 w9 (by omega) HI.out
  rw [HF9.out] at c
  go_wp2_with fail
  refine (K9.out _ HI.out).mono ?_
  clear c HI
  rintro e w10 ⟨rfl, hi⟩
  have HI := Lib.hid hi; clear hi
  have c := HC.out 10 w10 (by omega) HI.out
  rw [HF10.out] at c
  go_wp2_with fail
  refine (K10.out _ HI.out).mono ?_
  clear c HI
  rintro e w11 ⟨rfl, hi⟩
  have HI := Lib.hid hi; clear hi
  have c := HC.out 11 w11 (by omega) HI.out
  rw [HF11.out] at c
  go_wp2_with fail
  refine (K11.out _ HI.out).mono ?_
  clear c HI
  rintro e w12 ⟨rfl, hi⟩
  have HI := Lib.hid hi; clear hi
  have c := HC.out 12 w12 (by omega) HI.out
  rw [HF12.out] at c
  go_wp2_with fail
  refine (K12.out _ HI.out).mono ?_
  clear c HI
  rintro e w13 ⟨rfl, hi⟩
  have HI := Lib.hid hi; clear hi
  have c := HC.out 13 w13 (by omega) HI.out
  rw [HF13.out] at c
  go_wp2_with fail
  refine (K13.out _ HI.out).mono ?_
  clear c HI
  rintro e w14 ⟨rfl, hi⟩
  have HI := Lib.hid hi; clear hi
  have c := HC.out 14 w14 (by omega) HI.out
  rw [HF14.out] at c
  go_wp2_with fail
  refine (K14.out _ HI.out).mono ?_
  clear c HI
  rintro e w15 ⟨rfl, hi⟩
  have HI := Lib.hid hi; clear hi
  have c := HC.out 15 w15 (by omega) HI.out
  rw [HF15.out] at c
  go_wp2_with fail
  refine (K15.out _ HI.out).mono ?_
  clear c HI
  rintro e w16 ⟨rfl, hi⟩
  have HI := Lib.hid hi; clear hi
  have c := HC.out 16 w16 (by omega) HI.out
  rw [HF16.out] at c
  go_wp2_with fail
  refine (K16.out _ HI.out).mono ?_
  clear c HI
  rintro e w17 ⟨rfl, hi⟩
  have HI := Lib.hid hi; clear hi
  have c := HC.out 17 w17 (by omega) HI.out
  rw [HF17.out] at c
  go_wp2_with fail
  refine (K17.out _ HI.out).mono ?_
  clear c HI
  rintro e w18 ⟨rfl, hi⟩
  have HI := Lib.hid hi; clear hi
  have c := HC.out 18 w18 (by omega) HI.out
  rw [HF18.out] at c
  go_wp2_with fail
  refine (K18.out _ HI.out).mono ?_
  clear c HI
  rintro e w19 ⟨rfl, hi⟩
  have HI := Lib.hid hi; clear hi
  have c := HC.out 19 w19 (by omega) HI.out
  rw [HF19.out] at c
  go_wp2_with fail
  refine (K19.out _ HI.out).mono ?_
  clear c HI
  rintro e w20 ⟨rfl, hi⟩
  have HI := Lib.hid hi; clear hi
  have c := HC.out 20 w20 (by omega) HI.out
  rw [HF20.out] at c
  go_wp2_with fail
  refine (K20.out _ HI.out).mono ?_
  clear c HI
  rintro e w21 ⟨rfl, hi⟩
  have HI := Lib.hid hi; clear hi
  have c := HC.out 21 w21 (by omega) HI.out
  rw [HF21.out] at c
  go_wp2_with fail
  refine (K21.out _ HI.out).mono ?_
  clear c HI
  rintro e w22 ⟨rfl, hi⟩
  have HI := Lib.hid hi; clear hi
  have c := HC.out 22 w22 (by omega) HI.out
  rw [HF22.out] at c
  go_wp2_with fail
  refine (K22.out _ HI.out).mono ?_
  clear c HI
  rintro e w23 ⟨rfl, hi⟩
  have HI := Lib.hid hi; clear hi
  go_wp2
  go_ret
  exact ⟨rfl, HI.out⟩
end Go.Proofs.YtgcicljklejmjaaGreatDoor

/- What things of a call's own take up in memory: each its own blocks. General. -/
namespace Go
open Go.RowKit

def Dj (S T : Nat → Prop) : Prop := ∀ k, S k → ¬ T k

theorem Dj.symm {S T : Nat → Prop} (h : Dj S T) : Dj T S := fun k h1 h2 => h k h2 h1

/-- The blocks of a slice's row. -/
def ob (v : Value) : Nat → Prop := fun k => v.ownBlock = some k

/-- One block. -/
def at1 (g : Nat) : Nat → Prop := fun k => k = g

/-- Footprints, apart from each other, of blocks from lo on, below hi. -/
structure Sep (lo hi : Nat) (F : List (Nat → Prop)) : Prop where
  dj : F.Pairwise Dj
  bd : ∀ S ∈ F, ∀ k, S k → lo ≤ k ∧ k < hi

namespace Sep
variable {lo hi hi' : Nat} {F : List (Nat → Prop)}
theorem nil (lo hi : Nat) : Sep lo hi [] := ⟨.nil, by simp⟩
theorem later (h : Sep lo hi F) (hh : hi ≤ hi') : Sep lo hi' F := ⟨h.dj, fun S hS k hk => ⟨(h.bd S hS k hk).1, Nat.lt_of_lt_of_le (h.bd S hS k hk).2 hh⟩⟩
theorem ne (h : Sep lo hi F) (i j : Nat) (hij : i ≠ j) {S T : Nat → Prop} (hi : F[i]? = some S) (hj : F[j]? = some T) : Dj S T := by
  obtain ⟨hi1, rfl⟩ := List.getElem?_eq_some_iff.1 hi
  obtain ⟨hj1, rfl⟩ := List.getElem?_eq_some_iff.1 hj
  rcases Nat.lt_or_gt_of_ne hij with h1 | h1
  · exact List.pairwise_iff_getElem.1 h.dj i j hi1 hj1 h1
  · exact (List.pairwise_iff_getElem.1 h.dj j i hj1 hi1 h1).symm
theorem lo_of (h : Sep lo hi F) (i : Nat) {S : Nat → Prop} (hS : F[i]? = some S) (k : Nat) (hk : S k) : lo ≤ k ∧ k < hi := h.bd S (List.mem_of_getElem? hS) k hk
/-- One of them goes on: in its own blocks, and in new ones. -/
theorem upd (h : Sep lo hi F) (i : Nat) {S : Nat → Prop} (S' : Nat → Prop) (hS : F[i]? = some S) (hh : hi ≤ hi') (hl : lo ≤ hi) (h' : ∀ k, S' k → S k ∨ (hi ≤ k ∧ k < hi')) : Sep lo hi' (F.set i S') := by
  have key : ∀ k, S' k → lo ≤ k ∧ k < hi' := fun k hk => by
    rcases h' k hk with h1 | h1
    · have := h.lo_of i hS k h1; omega
    · omega
  refine ⟨List.pairwise_iff_getElem.2 fun a b ha hb hab => ?_, fun T hT k hk => ?_⟩
  · simp only [List.length_set] at ha hb
    have other : ∀ c (hc : c < F.length), i ≠ c → Dj S' F[c] := fun c hc hne k hk hk2 => by
      rcases h' k hk with h1 | h1
      · exact h.ne i c hne hS (List.getElem?_eq_getElem hc) k h1 hk2
      · have := (h.lo_of c (List.getElem?_eq_getElem hc) k hk2).2; omega
    by_cases h1 : i = a
    · subst h1
      rw [List.getElem_set_self, List.getElem_set_ne (by omega)]
      exact other b hb (by omega)
    · rw [List.getElem_set_ne h1]
      by_cases h2 : i = b
      · subst h2
        rw [List.getElem_set_self]
        exact (other a ha (by omega)).symm
      · rw [List.getElem_set_ne h2]
        exact List.pairwise_iff_getElem.1 h.dj a b ha hb hab
  · rcases List.mem_or_eq_of_mem_set hT with h1 | rfl
    · have := h.bd T h1 k hk; omega
    · exact key k hk
/-- A new one. -/
theorem cons (h : Sep lo hi F) {S : Nat → Prop} (hh : hi ≤ hi') (hl : lo ≤ hi) (h' : ∀ k, S k → hi ≤ k ∧ k < hi') : Sep lo hi' (S :: F) := by
  refine ⟨List.pairwise_cons.2 ⟨fun T hT k hk hk2 => ?_, h.dj⟩, fun T hT k hk => ?_⟩
  · have := (h.bd T hT k hk2).2; have := (h' k hk).1; omega
  · rcases List.mem_cons.1 hT with rfl | h1
    · have := h' k hk; omega
    · have := h.bd T h1 k hk; omega
theorem tail {S : Nat → Prop} (h : Sep lo hi (S :: F)) : Sep lo hi F := ⟨(List.pairwise_cons.1 h.dj).2, fun T hT => h.bd T (List.mem_cons_of_mem _ hT)⟩
/-- Less of one of them. -/
theorem less (h : Sep lo hi F) (i : Nat) {S : Nat → Prop} (S' : Nat → Prop) (hS : F[i]? = some S) (hl : lo ≤ hi) (h' : ∀ k, S' k → S k) : Sep lo hi (F.set i S') := h.upd i S' hS (Nat.le_refl _) hl (fun k hk => .inl (h' k hk))
end Sep

theorem Moved.blk {w w' : World} {v v' : Value} (m : Moved w w' v v') (k : Nat) (h : ob v' k) : ob v k ∨ (w.heap.size ≤ k ∧ k < w'.heap.size) := by
  rcases m with m | m
  · exact .inl (m.symm.trans h)
  · exact .inr (m k h)
end Go

/- A book of byte rows, as a thing with footprints. -/
namespace Go.Proofs.YtgcicljklejmjaaGreatDoor
open Go.RowKit

/-- What a book takes up. -/
def BkF (b : Nat) (bv : Value) : Nat → Prop := fun k => k = b ∨ bv.ownBlock = some k

theorem InRows.ob {vs : List Value} {j : Nat} (h : j < vs.length) {k : Nat} (hk : vs[j].ownBlock = some k) : InRows vs k := ⟨_, List.getElem_mem h, hk⟩

theorem Bk.kept {w w1 : World} {b : Nat} {v : Value} {rs : List Value} {S : Nat → Prop} (h : Bk w b v rs) (f : Fr S w w1) (hn : Dj (BkF b v) S) : Bk w1 b v rs :=
  ⟨f.heap h.1 (hn b (.inl rfl)), own_kept h.2.1 f (fun k hk => hn k (.inr hk)), h.2.2⟩

set_option maxRecDepth 100000 in
/-- A book of lists of bytes: it finds each its owner's. -/
theorem book_own (b : Nat) (w : World) (v : Value) (rs : List Value) (ns : Nat → Nat) (C : Nat → List Value) (hb : Bk w b v rs) (hr : Rws w 5 1 rs ns C) (ha : Dj (BkF b v) (InRows rs)) (hl : rs.length ≤ 1000000) (hns : ∀ j, ns j ≤ 140737488351232) :
    Calls Tryz.prog 17 #[.pointer (some ⟨b, 0, none⟩)] w fun e w' => e = .returned (.bool true) ∧ Fr (InRows rs) w w' := by
  have hnil : ∀ f : FuncId, (∀ w' : World, Calls Tryz.prog f #[.slice none 0 0] w' fun e w'' => e = .returned (.bool true) ∧ w'' = w') → ∀ i, 1 ≤ i → ∀ w', (fun (i : Nat) (w' : World) => if i = 0 then w' = w else Fr (InRows rs) w w') i w' →
      Calls Tryz.prog f #[(fun i => if i = 0 then v else Value.slice none 0 0) i] w' fun e w'' => e = .returned (.bool true) ∧ (fun (i : Nat) (w' : World) => if i = 0 then w' = w else Fr (InRows rs) w w') (i + 1) w'' := by
    intro f h i hi w' hw
    have hi0 : ¬ i = 0 := by omega
    simp only [hi0, if_false] at hw ⊢
    exact (h w').mono fun e w'' ⟨h1, h2⟩ => ⟨h1, by simp only [Nat.add_eq_zero_iff, hi0, false_and, if_false]; rw [h2]; exact hw⟩
  have hcell : ∀ i w', i < 23 → (fun (i : Nat) (w' : World) => if i = 0 then w' = w else Fr (InRows rs) w w') i w' → w'.cell? ⟨b, i, none⟩ = some ((fun i => if i = 0 then v else Value.slice none 0 0) i) := by
    intro i w' hi hw
    have hf : Fr (InRows rs) w w' := by
      by_cases h0 : i = 0
      · simp only [h0, if_true] at hw; rw [hw]; exact Fr.refl _ _
      · simpa only [h0, if_false] using hw
    have hk := (hb.kept hf ha).cells
    by_cases h0 : i = 0
    · subst h0; exact hk.1
    · obtain ⟨j, rfl⟩ : ∃ j, i = j + 1 := ⟨i - 1, by omega⟩
      simpa using hk.2.1 j (by omega)
  refine (own_all b w (fun i => if i = 0 then v else .slice none 0 0) (fun i w' => if i = 0 then w' = w else Fr (InRows rs) w w') rfl hcell ?_ (hnil _ ownTexts_nil 1 (by omega)) (hnil _ ownInts_nil 2 (by omega)) (hnil _ ownLongs_nil 3 (by omega)) (hnil _ ownNumbers_nil 4 (by omega)) (hnil _ ownWords_nil 5 (by omega)) (hnil _ ownSteps_nil 6 (by omega)) (hnil _ ownParts_nil 7 (by omega)) (hnil _ ownDones_nil 8 (by omega))
    (hnil _ ownRows_nil 9 (by omega)) (hnil _ ownLists_nil 10 (by omega)) (hnil _ ownIntLists_nil 11 (by omega)) (hnil _ ownPaths_nil 12 (by omega)) (hnil _ ownPairs_nil 13 (by omega)) (hnil _ ownChanges_nil 14 (by omega)) (hnil _ ownSpans_nil 15 (by omega)) (hnil _ ownEntries_nil 16 (by omega)) ?_ (hnil _ ownValues_nil 18 (by omega)) (hnil _ ownFields_nil 19 (by omega)) (hnil _ ownIndexes_nil 20 (by omega)) (hnil _ ownEvents_nil 21 (by omega)) (hnil _ ownCommits_nil 22 (by omega))).mono ?_
  · intro w' hw
    simp only [if_true] at hw
    subst hw
    obtain ⟨A, c, rfl⟩ := own_form hb.2.1
    refine (own_bytes w' A c rs ns C ⟨Sl.of_own hb.2.1, fun k hk => ha k (.inr hk), hr⟩ (fun k hk => own_lt hb.2.1 k hk) hl hns).mono fun e w'' ⟨h1, h2⟩ => ⟨h1, by simpa using h2⟩
  · intro w' hw
    replace hw : Fr (InRows rs) w w' := hw
    exact (ownBools_nil w').mono fun e w'' ⟨h1, h2⟩ => ⟨h1, hw.trans h2 (fun _ _ h => h.elim)⟩
  · intro e w' ⟨h1, h2⟩
    exact ⟨h1, h2⟩

/-- A book b of rows rs. -/
structure Bo (w : World) (b : Nat) (bv : Value) (rs : List Value) (ns : Nat → Nat) (C : Nat → List Value) : Prop where
  bk : Bk w b bv rs
  rows : Rws w 5 1 rs ns C
  short : ∀ j, ns j ≤ 140737488351232

namespace Bo
variable {w w1 : World} {b : Nat} {bv : Value} {rs : List Value} {ns : Nat → Nat} {C : Nat → List Value} {S : Nat → Prop}
theorem kept (h : Bo w b bv rs ns C) (f : Fr S w w1) (h1 : Dj (BkF b bv) S) (h2 : Dj (InRows rs) S) : Bo w1 b bv rs ns C :=
  ⟨h.bk.kept f h1, h.rows.kept f h2, h.short⟩
theorem kept0 (h : Bo w b bv rs ns C) (f : Fr no w w1) : Bo w1 b bv rs ns C := h.kept f (fun _ _ h => h) (fun _ _ h => h)

theorem in_snoc {r : Value} (k : Nat) : InRows (rs ++ [r]) k ↔ InRows rs k ∨ r.ownBlock = some k := by
  constructor
  · rintro ⟨v, hv, hk⟩
    rcases List.mem_append.1 hv with hv | hv
    · exact .inl ⟨v, hv, hk⟩
    · simp at hv; subst hv; exact .inr hk
  · rintro (⟨v, hv, hk⟩ | hk)
    · exact ⟨v, List.mem_append_left _ hv, hk⟩
    · exact ⟨r, by simp, hk⟩

/-- A row of one's own put into it. -/
theorem booked (h : Bo w b bv rs ns C) (hd : Dj (BkF b bv) (InRows rs)) (hb1 : ∀ k, BkF b bv k → k < w.heap.size) {wm : World} {r bv' : Value} {n : Nat} {xs : List Value} (fm : Fr no w wm) (hn : n ≤ 140737488351232) (ho : Ow wm 5 1 r n xs) (hf : ∀ k, r.ownBlock = some k → w.heap.size ≤ k) (hb : Bk w1 b bv' (rs ++ [r])) (f : Fr (fun k => k = b ∨ bv.ownBlock = some k) wm w1) :
    ∃ ns C, Bo w1 b bv' (rs ++ [r]) ns C := by
  have h1 := h.kept0 fm
  have hrb : ∀ k, r.ownBlock = some k → ¬ BkF b bv k := fun k hk hk2 => by
    have := hf k hk; have := hb1 k hk2; omega
  refine ⟨fun j => if j = rs.length then n else ns j, fun j => if j = rs.length then xs else C j, hb, ⟨fun j hj => ?_, fun i j hi hj k hij hk => ?_⟩, fun j => ?_⟩
  · by_cases hj2 : j < rs.length
    · simp only [List.getElem_append_left hj2, show ¬ j = rs.length by omega, if_false]
      exact (h1.rows.row j hj2).kept f (fun k hk hk2 => hd k hk2 (InRows.ob hj2 hk))
    · obtain rfl : j = rs.length := by simp at hj; omega
      simp only [List.getElem_concat_length, if_true]
      exact ho.kept f (fun k hk hk2 => hrb k hk hk2)
  · by_cases hi2 : i < rs.length
    · rw [List.getElem_append_left hi2] at hk
      by_cases hj2 : j < rs.length
      · rw [List.getElem_append_left hj2]
        exact h.rows.apart i j hi2 hj2 k hij hk
      · obtain rfl : j = rs.length := by simp at hj; omega
        simp only [List.getElem_concat_length]
        intro hk2
        have := hf k hk2; have := h.rows.lt k (InRows.ob hi2 hk); omega
    · obtain rfl : i = rs.length := by simp at hi; omega
      simp only [List.getElem_concat_length] at hk
      have hj2 : j < rs.length := by simp at hj; omega
      rw [List.getElem_append_left hj2]
      intro hk2
      have := hf k hk; have := h.rows.lt k (InRows.ob hj2 hk2); omega
  · split
    · exact hn
    · exact h.short j
end Bo

/-- What the book and its rows take up behind it. -/
theorem Sep.booked {lo : Nat} {F : List (Nat → Prop)} {w wm w1 : World} {b : Nat} {bv bv' r : Value} {rs : List Value} (h : Sep lo w.heap.size F) (hl : lo ≤ w.heap.size) (i j : Nat) (hij : i ≠ j) (hi : F[i]? = some (BkF b bv)) (hj : F[j]? = some (InRows rs)) (fm : Fr no w wm) (hf : ∀ k, r.ownBlock = some k → w.heap.size ≤ k ∧ k < wm.heap.size) {S : Nat → Prop} (f : Fr S wm w1) (m : Moved wm w1 bv bv') :
    Sep lo w1.heap.size ((F.set j (InRows (rs ++ [r]))).set i (BkF b bv')) := by
  have s1 := h.upd j (InRows (rs ++ [r])) hj fm.size hl (fun k hk => by
    rcases (Bo.in_snoc k).1 hk with h1 | h1
    · exact .inl h1
    · exact .inr (hf k h1))
  refine s1.upd i (BkF b bv') (by rw [List.getElem?_set_ne (fun e => hij e.symm)]; exact hi) f.size (Nat.le_trans hl fm.size) (fun k hk => ?_)
  rcases hk with hk | hk
  · exact .inl (.inl hk)
  · rcases m.blk k hk with h2 | h2
    · exact .inl (.inr h2)
    · exact .inr h2
end Go.Proofs.YtgcicljklejmjaaGreatDoor

/- KeyWrites: the calls in one form each; the book. -/
namespace Go.Proofs.YtgcicljklejmjaaGreatDoor
open Go.RowKit Go.Shelf
open Tr

theorem ow_nil4 (w : World) : Ow w 5 1 (.slice none 0 0) 0 (bvs []) := ⟨by simp [bvs], .inl ⟨rfl, rfl⟩⟩
/-- The bytes of a tuple, none if it is refused. -/
def tb4 (dl : List Bool) (l : List (Tr Mm)) : List UInt8 := if tupErr l = 0 then encT (fallsB dl) 0 l else []
def ob4 (down : Bool) (x : Tr Mm) : List UInt8 := if oneErr x = 0 then encD down x else []
theorem tup_bare {l k : List (Tr Mm)} (h : l.map bare = k.map bare) : tupErr l = tupErr k := by rw [← bare_tup l, ← bare_tup k, h]
theorem tb4_bare (dl : List Bool) {l k : List (Tr Mm)} (h : l.map bare = k.map bare) : tb4 dl l = tb4 dl k := by
  unfold tb4
  rw [tup_bare h, ← bare_encT _ _ l, ← bare_encT _ _ k, h]
theorem one_bare {x y : Tr Mm} (h : bare x = bare y) : oneErr x = oneErr y := by rw [← bare_one x, ← bare_one y, h]
theorem ob4_bare (d : Bool) {x y : Tr Mm} (h : bare x = bare y) : ob4 d x = ob4 d y := by
  unfold ob4
  rw [one_bare h, ← bare_encD _ x, ← bare_encD _ y, h]
theorem tb4_len (dl : List Bool) (l : List (Tr Mm)) : (tb4 dl l).length ≤ 160 := by
  unfold tb4
  by_cases h : tupErr l = 0
  · rw [if_pos h, encT_len (fallsB dl) 0 0 l]
    exact (tupErr_zero.1 h).2.2
  · rw [if_neg h]; exact Nat.zero_le _
theorem ob4_len (d : Bool) (x : Tr Mm) : (ob4 d x).length ≤ 160 := by
  unfold ob4
  by_cases h : oneErr x = 0
  · rw [if_pos h, encD_len]
    exact (oneErr_zero.1 h).2.2
  · rw [if_neg h]; exact Nat.zero_le _
theorem oneErr_le {α : Type} (x : Tr α) : oneErr x ≤ 42 := by
  unfold oneErr
  split
  · omega
  · split
    · omega
    · split <;> omega
theorem firstErr_le (n : Nat) : ∀ l : List Nat, (∀ e ∈ l, e ≤ n) → firstErr l ≤ n
  | [], _ => Nat.zero_le _
  | e :: l, h => by
    unfold firstErr
    split
    · exact h e (.head _)
    · exact firstErr_le n l (fun e he => h e (.tail _ he))
theorem tupErr_le {α : Type} (l : List (Tr α)) : tupErr l ≤ 42 := by
  have h := firstErr_le 42 (l.map oneErr) (fun e he => by obtain ⟨x, _, rfl⟩ := List.mem_map.1 he; exact oneErr_le x)
  unfold tupErr
  split
  · omega
  · split
    · exact h
    · split <;> omega
/-- A code of the program as a whole number. -/
theorem conv_err (n : Nat) (h : n ≤ 42) : IntKind.i64.wrap (n : Int) = (n : Int) := IntWalk.i64_in _ ⟨by omega, by omega⟩

theorem enc_u (w : World) (X D : Value) (ys l : List (Tr Mm)) (dl : List Bool) (hb : ys.map bare = l.map bare) (hx : In w X ys) (hd : Sl w 1 D dl.length (bls dl)) (hdn : dl.length ≤ reachBytes) (hT : Tabs w) :
    Calls Tryz.prog 8 #[X, D] w fun e w' => Fr no w w' ∧ ∃ A n, e = .returned (.tuple #[.slice A n n, .int .u16 (tupErr l)]) ∧ n = (tb4 dl l).length ∧ Ow w' 5 1 (.slice A n n) n (bvs (tb4 dl l)) ∧ ∀ k, Value.ownBlock (.slice A n n) = some k → w.heap.size ≤ k := by
  rw [← tup_bare hb, ← tb4_bare dl hb]
  refine (encode_any w X D ys dl hx hd hdn hT).mono ?_
  rintro e w' ⟨f, ⟨h, A, n, rfl, hn, ho, hk⟩ | ⟨h, rfl⟩⟩
  · have e1 : tb4 dl ys = encT (fallsB dl) 0 ys := if_pos h
    rw [e1, h]
    exact ⟨f, A, n, rfl, hn, ho, hk⟩
  · have e1 : tb4 dl ys = [] := if_neg h
    rw [e1]
    exact ⟨f, none, 0, rfl, rfl, ow_nil4 _, by simp [Value.ownBlock]⟩
theorem enc4_u (w : World) (X D : Value) (l : List (Tr Mm)) (dl : List Bool) (hx : In w X l) (hd : Sl w 1 D dl.length (bls dl)) (hdn : dl.length ≤ reachBytes) (hp : ∀ x ∈ l, parts x ≤ 1000000) :
    Calls Tryz.prog 15 #[X, D] w fun e w' => Fr no w w' ∧ ∃ A n c, e = .returned (.tuple #[.slice A n c, .int .i64 (tupErr l)]) ∧ n = (tb4 dl l).length ∧ Ow w' 5 1 (.slice A n c) n (bvs (tb4 dl l)) := by
  refine (encode4_any w X D l dl hx hd hdn hp).mono ?_
  rintro e w' ⟨f, ⟨h, A, n, c, rfl, hn⟩ | ⟨h, rfl⟩⟩
  · have e1 : tb4 dl l = encT (fallsB dl) 0 l := if_pos h
    rw [e1, h]
    exact ⟨f, A, n, c, rfl, hn.len, hn.ow⟩
  · have e1 : tb4 dl l = [] := if_neg h
    rw [e1]
    exact ⟨f, none, 0, 0, rfl, rfl, ow_nil4 _⟩
theorem one_u (w : World) (y x : Tr Mm) (down : Bool) (hb : bare y = bare x) (hy : Tr.Good w y) (hT : Tabs w) :
    Calls Tryz.prog 10 #[y.agg, .bool down] w fun e w' => Fr no w w' ∧ ∃ A n, e = .returned (.tuple #[.slice A n n, .int .u16 (oneErr x)]) ∧ n = (ob4 down x).length ∧ Ow w' 5 1 (.slice A n n) n (bvs (ob4 down x)) ∧ ∀ k, Value.ownBlock (.slice A n n) = some k → w.heap.size ≤ k := by
  rw [← one_bare hb, ← ob4_bare down hb]
  refine (one_any w y down hy hT).mono ?_
  rintro e w' ⟨f, ⟨h, A, n, rfl, hn, ho, hk⟩ | ⟨h, rfl⟩⟩
  · have e1 : ob4 down y = encD down y := if_pos h
    rw [e1, h]
    exact ⟨f, A, n, rfl, hn, ho, hk⟩
  · have e1 : ob4 down y = [] := if_neg h
    rw [e1]
    exact ⟨f, none, 0, rfl, rfl, ow_nil4 _, by simp [Value.ownBlock]⟩
theorem one4_u (w : World) (x : Tr Mm) (down : Bool) (hx : Tr.Good w x) (hp : parts x ≤ 1000000) :
    Calls Tryz.prog 11 #[x.agg, .bool down] w fun e w' => Fr no w w' ∧ ∃ A n c, e = .returned (.tuple #[.slice A n c, .int .i64 (oneErr x)]) ∧ n = (ob4 down x).length ∧ Ow w' 5 1 (.slice A n c) n (bvs (ob4 down x)) ∧ ∀ k, Value.ownBlock (.slice A n c) = some k → w.heap.size ≤ k := by
  refine (one4_any w x down hx hp).mono ?_
  rintro e w' ⟨f, ⟨h, A, n, c, rfl, hn⟩ | ⟨h, rfl⟩⟩
  · have e1 : ob4 down x = encD down x := if_pos h
    rw [e1, h]
    exact ⟨f, A, n, c, rfl, hn.len, hn.ow, hn.new⟩
  · have e1 : ob4 down x = [] := if_neg h
    rw [e1]
    exact ⟨f, none, 0, 0, rfl, rfl, ow_nil4 _, by simp [Value.ownBlock]⟩

/-- A book of rows of bytes: no row older than lo, nothing of the book itself older than hi. -/
structure BS (lo hi : Nat) (w : World) (b : Nat) (bv : Value) (rs : List Value) : Prop where
  bk : Bk w b bv rs
  rows : ∃ ns C, Rws w 5 1 rs ns C ∧ ∀ j, ns j ≤ 140737488351232
  dj : Dj (BkF b bv) (InRows rs)
  lo : ∀ k, InRows rs k → lo ≤ k
  hi : ∀ k, BkF b bv k → hi ≤ k
theorem BS.kept0 {lo hi : Nat} {w w1 : World} {b : Nat} {bv : Value} {rs : List Value} (h : BS lo hi w b bv rs) (f : Fr no w w1) : BS lo hi w1 b bv rs := by
  obtain ⟨ns, C, h1, h2⟩ := h.rows
  exact ⟨h.bk.kept f (fun _ _ h => h), ⟨ns, C, h1.kept f (fun _ _ h => h), h2⟩, h.dj, h.lo, h.hi⟩
theorem BS.lt {lo hi : Nat} {w : World} {b : Nat} {bv : Value} {rs : List Value} (h : BS lo hi w b bv rs) : (∀ k, InRows rs k → k < w.heap.size) ∧ ∀ k, BkF b bv k → k < w.heap.size := by
  obtain ⟨ns, C, h1, _⟩ := h.rows
  refine ⟨h1.lt, fun k hk => ?_⟩
  rcases hk with rfl | hk
  · exact h.bk.cells.2.2.2
  · exact own_lt h.bk.2.1 k hk
theorem BS.add {lo hi : Nat} {w w1 : World} {b : Nat} {bv bv' r : Value} {rs : List Value} {n : Nat} {xs : List Value} (h : BS lo hi w b bv rs) (hn : n ≤ 140737488351232) (ho : Ow w 5 1 r n xs) (hr : ∀ k, r.ownBlock = some k → ¬ BkF b bv k ∧ ¬ InRows rs k ∧ lo ≤ k) (hb : Bk w1 b bv' (rs ++ [r])) (f : Fr (fun k => k = b ∨ bv.ownBlock = some k) w w1) (m : Moved w w1 bv bv') (hw : hi ≤ w.heap.size) : BS lo hi w1 b bv' (rs ++ [r]) := by
  obtain ⟨hl1, hl2⟩ := h.lt
  obtain ⟨ns, C, h1, h2⟩ := h.rows
  refine ⟨hb, ⟨fun j => if j = rs.length then n else ns j, fun j => if j = rs.length then xs else C j, ⟨fun j hj => ?_, fun i j hi hj k hij hk => ?_⟩, fun j => by show (if j = rs.length then n else ns j) ≤ _; split; exact hn; exact h2 j⟩, fun k hk hr2 => ?_, fun k hk => ?_, fun k hk => ?_⟩
  · by_cases hj2 : j < rs.length
    · simp only [List.getElem_append_left hj2, show ¬ j = rs.length by omega, if_false]
      exact (h1.row j hj2).kept f (fun k hk hk2 => h.dj k hk2 (InRows.ob hj2 hk))
    · obtain rfl : j = rs.length := by simp at hj; omega
      simp only [List.getElem_concat_length, if_true]
      exact ho.kept f (fun k hk hk2 => (hr k hk).1 hk2)
  · by_cases hi2 : i < rs.length
    · rw [List.getElem_append_left hi2] at hk
      by_cases hj2 : j < rs.length
      · rw [List.getElem_append_left hj2]
        exact h1.apart i j hi2 hj2 k hij hk
      · obtain rfl : j = rs.length := by simp at hj; omega
        simp only [List.getElem_concat_length]
        intro hk2
        exact (hr k hk2).2.1 (InRows.ob hi2 hk)
    · obtain rfl : i = rs.length := by simp at hi; omega
      simp only [List.getElem_concat_length] at hk
      have hj2 : j < rs.length := by simp at hj; omega
      rw [List.getElem_append_left hj2]
      intro hk2
      exact (hr k hk).2.1 (InRows.ob hj2 hk2)
  · have hold : BkF b bv k ∨ w.heap.size ≤ k := by
      rcases hk with hk | hk
      · exact .inl (.inl hk)
      · rcases m.blk k hk with h3 | h3
        · exact .inl (.inr h3)
        · exact .inr h3.1
    rcases (Bo.in_snoc k).1 hr2 with h3 | h3
    · rcases hold with h4 | h4
      · exact h.dj k h4 h3
      · have := hl1 k h3; omega
    · rcases hold with h4 | h4
      · exact (hr k h3).1 h4
      · have := ho.lt k h3; omega
  · rcases (Bo.in_snoc k).1 hk with h3 | h3
    · exact h.lo k h3
    · exact (hr k h3).2.2
  · rcases hk with hk | hk
    · exact h.hi k (.inl hk)
    · rcases m.blk k hk with h3 | h3
      · exact h.hi k (.inr h3)
      · exact Nat.le_trans hw h3.1
theorem BS.own {lo hi : Nat} {w : World} {b : Nat} {bv : Value} {rs : List Value} (h : BS lo hi w b bv rs) (hl : rs.length ≤ 1000000) :
    Calls Tryz.prog 17 #[.pointer (some ⟨b, 0, none⟩)] w fun e w' => e = .returned (.bool true) ∧ Fr (InRows rs) w w' := by
  obtain ⟨ns, C, h1, h2⟩ := h.rows
  exact book_own b w bv rs ns C h.bk h1 h.dj hl h2
theorem BS.first {w wb : World} {b : Nat} {lo : Nat} (h : Bk wb b (.slice none 0 0) []) (hb : w.heap.size ≤ b) : BS lo w.heap.size wb b (.slice none 0 0) [] :=
  ⟨h, ⟨fun _ => 0, fun _ => [], ⟨fun j hj => by simp at hj, fun i j hi => by simp at hi⟩, fun _ => Nat.zero_le _⟩, (fun k _ hr => by obtain ⟨v, hv, _⟩ := hr; cases hv), (fun k hk => by obtain ⟨v, hv, _⟩ := hk; cases hv), fun k hk => by
    rcases hk with hk | hk
    · omega
    · simp [Value.ownBlock] at hk⟩
end Go.Proofs.YtgcicljklejmjaaGreatDoor
