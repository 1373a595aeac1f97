import Derived.Test.YtijcleiekafoiaaGreatDoorMb02
import Derived.Test.YtijcleiekafoiaaGreatDoorMb16
import Derived.Test.YtijcleiekafoiaaGreatDoorMb09
import Derived.Laws.CopyRow

/- The owner's check on lists that are not there. -/
namespace Go.Proofs.YtijcleiekafoiaaGreatDoor
open Go.RowKit

set_option maxRecDepth 100000 in
set_option maxHeartbeats 400000 in
theorem ownBytes_nil (w : World) : Calls Tryz.prog 35 #[.slice none 0 0] w fun e w' => e = .returned (.bool true) ∧ w' = w := by
  go_enter Tryz.func35, Tryz.ntmps35
  go_wp2
  go_loop [3] (fun i => i = .int .i64 0) (fun _ => 0)
  case atStart => rfl
  case round =>
    subst hrel
    go_wp2
    go_loop [6] (fun i => i = .int .i64 0) (fun _ => 0)
    case atStart => rfl
    case round =>
      subst hrel
      go_wp2
      go_loop [9] (fun i => i = .int .i64 0) (fun _ => 0)
      case atStart => rfl
      case round =>
        subst hrel
        go_wp2
        go_ret
        exact ⟨rfl, rfl⟩

set_option maxRecDepth 100000 in
set_option maxHeartbeats 400000 in
theorem ownTexts_nil (w : World) : Calls Tryz.prog 36 #[.slice none 0 0] w fun e w' => e = .returned (.bool true) ∧ w' = w := by
  go_enter Tryz.func36, Tryz.ntmps36
  go_wp2
  go_loop [3] (fun i => i = .int .i64 0) (fun _ => 0)
  case atStart => rfl
  case round =>
    subst hrel
    go_wp2
    go_loop [6] (fun i => i = .int .i64 0) (fun _ => 0)
    case atStart => rfl
    case round =>
      subst hrel
      go_wp2
      go_loop [9] (fun i => i = .int .i64 0) (fun _ => 0)
      case atStart => rfl
      case round =>
        subst hrel
        go_wp2
        go_ret
        exact ⟨rfl, rfl⟩

set_option maxRecDepth 100000 in
set_option maxHeartbeats 400000 in
theorem ownInts_nil (w : World) : Calls Tryz.prog 37 #[.slice none 0 0] w fun e w' => e = .returned (.bool true) ∧ w' = w := by
  go_enter Tryz.func37, Tryz.ntmps37
  go_wp2
  go_loop [3] (fun i => i = .int .i64 0) (fun _ => 0)
  case atStart => rfl
  case round =>
    subst hrel
    go_wp2
    go_loop [6] (fun i => i = .int .i64 0) (fun _ => 0)
    case atStart => rfl
    case round =>
      subst hrel
      go_wp2
      go_loop [9] (fun i => i = .int .i64 0) (fun _ => 0)
      case atStart => rfl
      case round =>
        subst hrel
        go_wp2
        go_ret
        exact ⟨rfl, rfl⟩

set_option maxRecDepth 100000 in
set_option maxHeartbeats 400000 in
theorem ownLongs_nil (w : World) : Calls Tryz.prog 38 #[.slice none 0 0] w fun e w' => e = .returned (.bool true) ∧ w' = w := by
  go_enter Tryz.func38, Tryz.ntmps38
  go_wp2
  go_loop [3] (fun i => i = .int .i64 0) (fun _ => 0)
  case atStart => rfl
  case round =>
    subst hrel
    go_wp2
    go_loop [6] (fun i => i = .int .i64 0) (fun _ => 0)
    case atStart => rfl
    case round =>
      subst hrel
      go_wp2
      go_loop [9] (fun i => i = .int .i64 0) (fun _ => 0)
      case atStart => rfl
      case round =>
        subst hrel
        go_wp2
        go_ret
        exact ⟨rfl, rfl⟩

set_option maxRecDepth 100000 in
set_option maxHeartbeats 400000 in
theorem ownNumbers_nil (w : World) : Calls Tryz.prog 39 #[.slice none 0 0] w fun e w' => e = .returned (.bool true) ∧ w' = w := by
  go_enter Tryz.func39, Tryz.ntmps39
  go_wp2
  go_loop [3] (fun i => i = .int .i64 0) (fun _ => 0)
  case atStart => rfl
  case round =>
    subst hrel
    go_wp2
    go_loop [6] (fun i => i = .int .i64 0) (fun _ => 0)
    case atStart => rfl
    case round =>
      subst hrel
      go_wp2
      go_loop [9] (fun i => i = .int .i64 0) (fun _ => 0)
      case atStart => rfl
      case round =>
        subst hrel
        go_wp2
        go_ret
        exact ⟨rfl, rfl⟩

set_option maxRecDepth 100000 in
set_option maxHeartbeats 400000 in
theorem ownWords_nil (w : World) : Calls Tryz.prog 40 #[.slice none 0 0] w fun e w' => e = .returned (.bool true) ∧ w' = w := by
  go_enter Tryz.func40, Tryz.ntmps40
  go_wp2
  go_loop [3] (fun i => i = .int .i64 0) (fun _ => 0)
  case atStart => rfl
  case round =>
    subst hrel
    go_wp2
    go_loop [6] (fun i => i = .int .i64 0) (fun _ => 0)
    case atStart => rfl
    case round =>
      subst hrel
      go_wp2
      go_loop [9] (fun i => i = .int .i64 0) (fun _ => 0)
      case atStart => rfl
      case round =>
        subst hrel
        go_wp2
        go_ret
        exact ⟨rfl, rfl⟩

set_option maxRecDepth 100000 in
set_option maxHeartbeats 400000 in
theorem ownSteps_nil (w : World) : Calls Tryz.prog 41 #[.slice none 0 0] w fun e w' => e = .returned (.bool true) ∧ w' = w := by
  go_enter Tryz.func41, Tryz.ntmps41
  go_wp2
  go_loop [3] (fun i => i = .int .i64 0) (fun _ => 0)
  case atStart => rfl
  case round =>
    subst hrel
    go_wp2
    go_loop [6] (fun i => i = .int .i64 0) (fun _ => 0)
    case atStart => rfl
    case round =>
      subst hrel
      go_wp2
      go_loop [9] (fun i => i = .int .i64 0) (fun _ => 0)
      case atStart => rfl
      case round =>
        subst hrel
        go_wp2
        go_ret
        exact ⟨rfl, rfl⟩

set_option maxRecDepth 100000 in
set_option maxHeartbeats 400000 in
theorem ownParts_nil (w : World) : Calls Tryz.prog 42 #[.slice none 0 0] w fun e w' => e = .returned (.bool true) ∧ w' = w := by
  go_enter Tryz.func42, Tryz.ntmps42
  go_wp2
  go_loop [3] (fun i => i = .int .i64 0) (fun _ => 0)
  case atStart => rfl
  case round =>
    subst hrel
    go_wp2
    go_loop [6] (fun i => i = .int .i64 0) (fun _ => 0)
    case atStart => rfl
    case round =>
      subst hrel
      go_wp2
      go_loop [9] (fun i => i = .int .i64 0) (fun _ => 0)
      case atStart => rfl
      case round =>
        subst hrel
        go_wp2
        go_ret
        exact ⟨rfl, rfl⟩

set_option maxRecDepth 100000 in
set_option maxHeartbeats 400000 in
theorem ownDones_nil (w : World) : Calls Tryz.prog 43 #[.slice none 0 0] w fun e w' => e = .returned (.bool true) ∧ w' = w := by
  go_enter Tryz.func43, Tryz.ntmps43
  go_wp2
  go_loop [3] (fun i => i = .int .i64 0) (fun _ => 0)
  case atStart => rfl
  case round =>
    subst hrel
    go_wp2
    go_loop [6] (fun i => i = .int .i64 0) (fun _ => 0)
    case atStart => rfl
    case round =>
      subst hrel
      go_wp2
      go_loop [9] (fun i => i = .int .i64 0) (fun _ => 0)
      case atStart => rfl
      case round =>
        subst hrel
        go_wp2
        go_ret
        exact ⟨rfl, rfl⟩

set_option maxRecDepth 100000 in
set_option maxHeartbeats 400000 in
theorem ownRows_nil (w : World) : Calls Tryz.prog 44 #[.slice none 0 0] w fun e w' => e = .returned (.bool true) ∧ w' = w := by
  go_enter Tryz.func44, Tryz.ntmps44
  go_wp2
  go_loop [3] (fun i => i = .int .i64 0) (fun _ => 0)
  case atStart => rfl
  case round =>
    subst hrel
    go_wp2
    go_loop [6] (fun i => i = .int .i64 0) (fun _ => 0)
    case atStart => rfl
    case round =>
      subst hrel
      go_wp2
      go_loop [9] (fun i => i = .int .i64 0) (fun _ => 0)
      case atStart => rfl
      case round =>
        subst hrel
        go_wp2
        go_ret
        exact ⟨rfl, rfl⟩

set_option maxRecDepth 100000 in
set_option maxHeartbeats 400000 in
theorem ownLists_nil (w : World) : Calls Tryz.prog 45 #[.slice none 0 0] w fun e w' => e = .returned (.bool true) ∧ w' = w := by
  go_enter Tryz.func45, Tryz.ntmps45
  go_wp2
  go_loop [3] (fun i => i = .int .i64 0) (fun _ => 0)
  case atStart => rfl
  case round =>
    subst hrel
    go_wp2
    go_loop [6] (fun i => i = .int .i64 0) (fun _ => 0)
    case atStart => rfl
    case round =>
      subst hrel
      go_wp2
      go_loop [9] (fun i => i = .int .i64 0) (fun _ => 0)
      case atStart => rfl
      case round =>
        subst hrel
        go_wp2
        go_ret
        exact ⟨rfl, rfl⟩

set_option maxRecDepth 100000 in
set_option maxHeartbeats 400000 in
theorem ownIntLists_nil (w : World) : Calls Tryz.prog 46 #[.slice none 0 0] w fun e w' => e = .returned (.bool true) ∧ w' = w := by
  go_enter Tryz.func46, Tryz.ntmps46
  go_wp2
  go_loop [3] (fun i => i = .int .i64 0) (fun _ => 0)
  case atStart => rfl
  case round =>
    subst hrel
    go_wp2
    go_loop [6] (fun i => i = .int .i64 0) (fun _ => 0)
    case atStart => rfl
    case round =>
      subst hrel
      go_wp2
      go_loop [9] (fun i => i = .int .i64 0) (fun _ => 0)
      case atStart => rfl
      case round =>
        subst hrel
        go_wp2
        go_ret
        exact ⟨rfl, rfl⟩

set_option maxRecDepth 100000 in
set_option maxHeartbeats 400000 in
theorem ownPaths_nil (w : World) : Calls Tryz.prog 47 #[.slice none 0 0] w fun e w' => e = .returned (.bool true) ∧ w' = w := by
  go_enter Tryz.func47, Tryz.ntmps47
  go_wp2
  go_loop [3] (fun i => i = .int .i64 0) (fun _ => 0)
  case atStart => rfl
  case round =>
    subst hrel
    go_wp2
    go_loop [6] (fun i => i = .int .i64 0) (fun _ => 0)
    case atStart => rfl
    case round =>
      subst hrel
      go_wp2
      go_loop [9] (fun i => i = .int .i64 0) (fun _ => 0)
      case atStart => rfl
      case round =>
        subst hrel
        go_wp2
        go_ret
        exact ⟨rfl, rfl⟩

set_option maxRecDepth 100000 in
set_option maxHeartbeats 400000 in
theorem ownPairs_nil (w : World) : Calls Tryz.prog 48 #[.slice none 0 0] w fun e w' => e = .returned (.bool true) ∧ w' = w := by
  go_enter Tryz.func48, Tryz.ntmps48
  go_wp2
  go_loop [3] (fun i => i = .int .i64 0) (fun _ => 0)
  case atStart => rfl
  case round =>
    subst hrel
    go_wp2
    go_loop [6] (fun i => i = .int .i64 0) (fun _ => 0)
    case atStart => rfl
    case round =>
      subst hrel
      go_wp2
      go_loop [9] (fun i => i = .int .i64 0) (fun _ => 0)
      case atStart => rfl
      case round =>
        subst hrel
        go_wp2
        go_ret
        exact ⟨rfl, rfl⟩

set_option maxRecDepth 100000 in
set_option maxHeartbeats 400000 in
theorem ownChanges_nil (w : World) : Calls Tryz.prog 49 #[.slice none 0 0] w fun e w' => e = .returned (.bool true) ∧ w' = w := by
  go_enter Tryz.func49, Tryz.ntmps49
  go_wp2
  go_loop [3] (fun i => i = .int .i64 0) (fun _ => 0)
  case atStart => rfl
  case round =>
    subst hrel
    go_wp2
    go_loop [6] (fun i => i = .int .i64 0) (fun _ => 0)
    case atStart => rfl
    case round =>
      subst hrel
      go_wp2
      go_loop [9] (fun i => i = .int .i64 0) (fun _ => 0)
      case atStart => rfl
      case round =>
        subst hrel
        go_wp2
        go_ret
        exact ⟨rfl, rfl⟩

set_option maxRecDepth 100000 in
set_option maxHeartbeats 400000 in
theorem ownSpans_nil (w : World) : Calls Tryz.prog 50 #[.slice none 0 0] w fun e w' => e = .returned (.bool true) ∧ w' = w := by
  go_enter Tryz.func50, Tryz.ntmps50
  go_wp2
  go_loop [3] (fun i => i = .int .i64 0) (fun _ => 0)
  case atStart => rfl
  case round =>
    subst hrel
    go_wp2
    go_loop [6] (fun i => i = .int .i64 0) (fun _ => 0)
    case atStart => rfl
    case round =>
      subst hrel
      go_wp2
      go_loop [9] (fun i => i = .int .i64 0) (fun _ => 0)
      case atStart => rfl
      case round =>
        subst hrel
        go_wp2
        go_ret
        exact ⟨rfl, rfl⟩

set_option maxRecDepth 100000 in
set_option maxHeartbeats 400000 in
theorem ownEntries_nil (w : World) : Calls Tryz.prog 51 #[.slice none 0 0] w fun e w' => e = .returned (.bool true) ∧ w' = w := by
  go_enter Tryz.func51, Tryz.ntmps51
  go_wp2
  go_loop [3] (fun i => i = .int .i64 0) (fun _ => 0)
  case atStart => rfl
  case round =>
    subst hrel
    go_wp2
    go_loop [6] (fun i => i = .int .i64 0) (fun _ => 0)
    case atStart => rfl
    case round =>
      subst hrel
      go_wp2
      go_loop [9] (fun i => i = .int .i64 0) (fun _ => 0)
      case atStart => rfl
      case round =>
        subst hrel
        go_wp2
        go_ret
        exact ⟨rfl, rfl⟩

set_option maxRecDepth 100000 in
set_option maxHeartbeats 400000 in
theorem ownValues_nil (w : World) : Calls Tryz.prog 53 #[.slice none 0 0] w fun e w' => e = .returned (.bool true) ∧ w' = w := by
  go_enter Tryz.func53, Tryz.ntmps53
  go_wp2
  go_loop [3] (fun i => i = .int .i64 0) (fun _ => 0)
  case atStart => rfl
  case round =>
    subst hrel
    go_wp2
    go_loop [6] (fun i => i = .int .i64 0) (fun _ => 0)
    case atStart => rfl
    case round =>
      subst hrel
      go_wp2
      go_loop [9] (fun i => i = .int .i64 0) (fun _ => 0)
      case atStart => rfl
      case round =>
        subst hrel
        go_wp2
        go_ret
        exact ⟨rfl, rfl⟩

set_option maxRecDepth 100000 in
set_option maxHeartbeats 400000 in
theorem ownFields_nil (w : World) : Calls Tryz.prog 54 #[.slice none 0 0] w fun e w' => e = .returned (.bool true) ∧ w' = w := by
  go_enter Tryz.func54, Tryz.ntmps54
  go_wp2
  go_loop [3] (fun i => i = .int .i64 0) (fun _ => 0)
  case atStart => rfl
  case round =>
    subst hrel
    go_wp2
    go_loop [6] (fun i => i = .int .i64 0) (fun _ => 0)
    case atStart => rfl
    case round =>
      subst hrel
      go_wp2
      go_loop [9] (fun i => i = .int .i64 0) (fun _ => 0)
      case atStart => rfl
      case round =>
        subst hrel
        go_wp2
        go_ret
        exact ⟨rfl, rfl⟩

set_option maxRecDepth 100000 in
set_option maxHeartbeats 400000 in
theorem ownIndexes_nil (w : World) : Calls Tryz.prog 55 #[.slice none 0 0] w fun e w' => e = .returned (.bool true) ∧ w' = w := by
  go_enter Tryz.func55, Tryz.ntmps55
  go_wp2
  go_loop [3] (fun i => i = .int .i64 0) (fun _ => 0)
  case atStart => rfl
  case round =>
    subst hrel
    go_wp2
    go_loop [6] (fun i => i = .int .i64 0) (fun _ => 0)
    case atStart => rfl
    case round =>
      subst hrel
      go_wp2
      go_loop [9] (fun i => i = .int .i64 0) (fun _ => 0)
      case atStart => rfl
      case round =>
        subst hrel
        go_wp2
        go_ret
        exact ⟨rfl, rfl⟩

set_option maxRecDepth 100000 in
set_option maxHeartbeats 400000 in
theorem ownEvents_nil (w : World) : Calls Tryz.prog 56 #[.slice none 0 0] w fun e w' => e = .returned (.bool true) ∧ w' = w := by
  go_enter Tryz.func56, Tryz.ntmps56
  go_wp2
  go_loop [3] (fun i => i = .int .i64 0) (fun _ => 0)
  case atStart => rfl
  case round =>
    subst hrel
    go_wp2
    go_loop [6] (fun i => i = .int .i64 0) (fun _ => 0)
    case atStart => rfl
    case round =>
      subst hrel
      go_wp2
      go_loop [9] (fun i => i = .int .i64 0) (fun _ => 0)
      case atStart => rfl
      case round =>
        subst hrel
        go_wp2
        go_ret
        exact ⟨rfl, rfl⟩

set_option maxRecDepth 100000 in
set_option maxHeartbeats 400000 in
theorem ownCommits_nil (w : World) : Calls Tryz.prog 57 #[.slice none 0 0] w fun e w' => e = .returned (.bool true) ∧ w' = w := by
  go_enter Tryz.func57, Tryz.ntmps57
  go_wp2
  go_loop [3] (fun i => i = .int .i64 0) (fun _ => 0)
  case atStart => rfl
  case round =>
    subst hrel
    go_wp2
    go_loop [6] (fun i => i = .int .i64 0) (fun _ => 0)
    case atStart => rfl
    case round =>
      subst hrel
      go_wp2
      go_loop [9] (fun i => i = .int .i64 0) (fun _ => 0)
      case atStart => rfl
      case round =>
        subst hrel
        go_wp2
        go_ret
        exact ⟨rfl, rfl⟩

end Go.Proofs.YtijcleiekafoiaaGreatDoor

/- The owner's check on a list of bools that is not there. -/
namespace Go.Proofs.YtijcleiekafoiaaGreatDoor
open Go.RowKit

set_option maxRecDepth 100000 in
set_option maxHeartbeats 400000 in
theorem ownBools_nil (w : World) : Calls Tryz.prog 52 #[.slice none 0 0] w fun e w' => e = .returned (.bool true) ∧ Fr no w w' := by
  have tb : Tb Tryz.prog 56 171 (.slice none 0 0) 1 24 := ⟨by kernel_rfl, by kernel_rfl, rfl, by decide⟩
  obtain ⟨inf, hi, hz0, hz1, hz2⟩ := info_parts tb.info
  have hmk := run_make (P := Tryz.prog) w 56 171 inf (.slice none 0 0) tb.und hi hz0 .i64 .i64 0 0 (by omega) (by omega) (by omega) (by omega)
  obtain ⟨c, hc⟩ : ∃ c, c = madeCells (Value.slice none 0 0).cells ((0 : Int).toNat * inf.size) := ⟨_, rfl⟩
  rw [← hc] at hmk
  clear hc hi hz0 hz1 hz2 tb
  go_enter Tryz.func52, Tryz.ntmps52
  go_wp2
  go_loop [4] (fun i => i = .int .i64 0) (fun _ => 0)
  case atStart => rfl
  case round =>
    subst hrel
    go_wp2
    go_ret
    exact ⟨rfl, (Fr.refl no w).alloc _⟩
end Go.Proofs.YtijcleiekafoiaaGreatDoor

/- The owner's check on rows of bytes. -/
namespace Go.Proofs.YtijcleiekafoiaaGreatDoor
open Go.RowKit

theorem sl_at {w : World} {A : Option Addr} {n c : Nat} {xs : List Value} (h : Sl w 1 (.slice A n c) n xs) (i : Nat) (hi : i < xs.length) : ∃ b o, A = some ⟨b, o, none⟩ ∧ w.cell? ⟨b, o + i, none⟩ = some xs[i] := by
  rcases h.2 with ⟨_, h1, h2⟩ | ⟨b, o, cap, h1, _, _, h4⟩
  · have := h.1; omega
  · cases h1; exact ⟨b, o, rfl, h4 i _ (List.getElem?_eq_getElem hi)⟩

/-- The outer row, and the rows. -/
structure Two (w : World) (e : TypeId) (sz : Nat) (X : Value) (vs : List Value) (ns : Nat → Nat) (C : Nat → List Value) : Prop where
  out : Sl w 1 X vs.length vs
  away : ∀ b, X.ownBlock = some b → ¬ InRows vs b
  rows : Rws w e sz vs ns C

theorem Two.kept {w w1 : World} {e : TypeId} {sz : Nat} {X : Value} {vs : List Value} {ns : Nat → Nat} {C : Nat → List Value} {S : Nat → Prop} (h : Two w e sz X vs ns C) (f : Fr S w w1) (h1 : ∀ b, X.ownBlock = some b → ¬ S b) (h2 : ∀ b, InRows vs b → ¬ S b) : Two w1 e sz X vs ns C :=
  ⟨h.out.kept f h1, h.away, h.rows.kept f h2⟩

/-- Midway: the rows are marked, and the first of them have grown into rows lvs, that the row L has. -/
structure Ph2 (w1 w : World) (e eo : TypeId) (sz : Nat) (m : Int → Nat → List Value) (gr : Nat) (X L : Value) (vs lvs : List Value) (ns : Nat → Nat) : Prop where
  two : Two w e sz X vs ns (fun j => mks m j (ns j))
  long : Ow w eo 1 L lvs.length lvs
  many : lvs.length ≤ vs.length
  rows : ∀ j (h : j < lvs.length), Ow w e sz lvs[j] (ns j + gr) (mks m j (ns j) ++ mks m (-1 - j) gr)
  from_ : ∀ j (h : j < lvs.length) (h' : j < vs.length) b, lvs[j].ownBlock = some b → vs[j].ownBlock = some b ∨ w1.heap.size ≤ b
  fresh : ∀ b, L.ownBlock = some b → w1.heap.size ≤ b ∧ ∀ v ∈ lvs, v.ownBlock ≠ some b
  fr : Fr (InRows vs) w1 w
  ltX : ∀ b, X.ownBlock = some b → b < w1.heap.size
  lt : ∀ b, InRows vs b → b < w1.heap.size

/-- A row that grows. -/
structure Ph3 (w1 w : World) (e eo : TypeId) (sz : Nat) (m : Int → Nat → List Value) (gr : Nat) (X L x : Value) (vs lvs : List Value) (ns : Nat → Nat) (k : Nat) : Prop where
  ph2 : Ph2 w1 w e eo sz m gr X L vs lvs ns
  lt : lvs.length < vs.length
  row : Ow w e sz x (ns lvs.length + k) (mks m lvs.length (ns lvs.length) ++ mks m (-1 - lvs.length) k)
  place : (∃ A c, vs[lvs.length] = .slice A (ns lvs.length) c ∧ x = .slice A (ns lvs.length + k) c) ∨ ∀ b, x.ownBlock = some b → w1.heap.size ≤ b ∧ (∀ v ∈ lvs, v.ownBlock ≠ some b) ∧ L.ownBlock ≠ some b

namespace Ph3
variable {w1 w w2 : World} {e eo : TypeId} {sz : Nat} {m : Int → Nat → List Value} {gr : Nat} {X L x : Value} {vs lvs : List Value} {ns : Nat → Nat} {k : Nat}

theorem start (h : Ph2 w1 w e eo sz m gr X L vs lvs ns) (hl : lvs.length < vs.length) : Ph3 w1 w e eo sz m gr X L vs[lvs.length] vs lvs ns 0 := by
  refine ⟨h, hl, by simpa [mks] using h.two.rows.row _ hl, .inl ?_⟩
  obtain ⟨A, c, h1, _⟩ := (h.two.rows.row _ hl).form
  exact ⟨A, c, h1, h1⟩

/-- Where the growing row is not: all others. -/
theorem other (h : Ph3 w1 w e eo sz m gr X L x vs lvs ns k) (b : Nat) (hb : x.ownBlock = some b) :
    (∀ b', X.ownBlock = some b' → b' ≠ b) ∧ (∀ j (hj : j < vs.length), j ≠ lvs.length → vs[j].ownBlock ≠ some b) ∧ L.ownBlock ≠ some b ∧ (∀ v ∈ lvs, v.ownBlock ≠ some b) ∧ (b < w1.heap.size → InRows vs b) := by
  rcases h.place with ⟨A, c, h1, h2⟩ | h1
  · have hvb : (vs[lvs.length]'h.lt).ownBlock = some b := by rw [h1]; rw [h2] at hb; cases A <;> exact hb
    have hin : InRows vs b := ⟨_, List.getElem_mem h.lt, hvb⟩
    have hlt := h.ph2.lt b hin
    refine ⟨fun b' h' e => h.ph2.two.away b' h' (e ▸ hin), fun j hj hne => h.ph2.two.rows.apart _ j h.lt hj b (fun e => hne e.symm) hvb, fun h' => ?_, fun v hv h' => ?_, fun _ => hin⟩
    · have := (h.ph2.fresh b h').1; omega
    · obtain ⟨j, hj, rfl⟩ := List.getElem_of_mem hv
      have hj' : j < vs.length := Nat.lt_of_lt_of_le hj h.ph2.many
      rcases h.ph2.from_ j hj hj' b h' with h'' | h''
      · exact h.ph2.two.rows.apart j _ hj' h.lt b (by omega) h'' hvb
      · omega
  · obtain ⟨h3, h4, h5⟩ := h1 b hb
    refine ⟨fun b' h' e => ?_, fun j hj _ h' => ?_, h5, h4, fun h' => by omega⟩
    · have := h.ph2.ltX b' h'; omega
    · have := h.ph2.lt b ⟨_, List.getElem_mem hj, h'⟩; omega

theorem kept0 (h : Ph3 w1 w e eo sz m gr X L x vs lvs ns k) (f : Fr no w w2) : Ph3 w1 w2 e eo sz m gr X L x vs lvs ns k :=
  ⟨⟨h.ph2.two.kept f (fun _ _ h => h) (fun _ _ h => h), h.ph2.long.kept0 f, h.ph2.many, fun j hj => (h.ph2.rows j hj).kept0 f, h.ph2.from_, h.ph2.fresh, h.ph2.fr.trans f (fun _ _ h => h.elim), h.ph2.ltX, h.ph2.lt⟩, h.lt, h.row.kept0 f, h.place⟩

/-- One more mark behind it. -/
theorem more (hm : ∀ i k, (m i k).length = sz) (h : Ph3 w1 w e eo sz m gr X L x vs lvs ns k) {x' : Value} (ho : Ow w2 e sz x' (ns lvs.length + k + 1) (mks m lvs.length (ns lvs.length) ++ mks m (-1 - lvs.length) k ++ m (-1 - lvs.length) k))
    (hold : Ow w2 e sz x (ns lvs.length + k) (mks m lvs.length (ns lvs.length) ++ mks m (-1 - lvs.length) k)) (f : Fr (fun b => x.ownBlock = some b) w w2) (st : Stays w w2 x x' (ns lvs.length + k) (ns lvs.length + k + 1)) :
    Ph3 w1 w2 e eo sz m gr X L x' vs lvs ns (k + 1) := by
  have hkeep : ∀ j (hj : j < vs.length), Ow w2 e sz vs[j] (ns j) (mks m j (ns j)) := by
    intro j hj
    by_cases hji : j = lvs.length
    · subst hji
      rcases h.place with ⟨A, c, h1, h2⟩ | h1
      · rw [h2] at hold
        have := hold.head (ns lvs.length) (by omega)
        rw [List.take_append_of_le_length (by rw [mks_len hm]; exact Nat.le_refl _), List.take_of_length_le (by rw [mks_len hm]; exact Nat.le_refl _)] at this
        rw [h1]; exact this
      · exact (h.ph2.two.rows.row _ hj).kept f (fun b hb hb2 => by have := (h1 b hb2).1; have := h.ph2.lt b ⟨_, List.getElem_mem hj, hb⟩; omega)
    · exact (h.ph2.two.rows.row _ hj).kept f (fun b hb hb2 => (h.other b hb2).2.1 j hj hji hb)
  refine ⟨⟨⟨h.ph2.two.out.kept f (fun b hb hb2 => (h.other b hb2).1 b hb rfl), h.ph2.two.away, hkeep, h.ph2.two.rows.apart⟩, h.ph2.long.kept f (fun b hb hb2 => (h.other b hb2).2.2.1 hb), h.ph2.many,
    fun j hj => (h.ph2.rows j hj).kept f (fun b hb hb2 => (h.other b hb2).2.2.2.1 _ (List.getElem_mem hj) hb), h.ph2.from_, h.ph2.fresh, h.ph2.fr.trans f (fun b hb hb2 => (h.other b hb2).2.2.2.2 hb), h.ph2.ltX, h.ph2.lt⟩, h.lt, ?_, ?_⟩
  · rw [mks_succ, ← List.append_assoc]; exact ho
  · rcases st with ⟨A, c, h1, h2⟩ | st
    · rcases h.place with ⟨A', c', h3, h4⟩ | h3
      · rw [h4] at h1; cases h1
        exact .inl ⟨A, c, h3, h2⟩
      · refine .inr fun b hb => h3 b ?_
        rw [h1]; rw [h2] at hb; cases A <;> exact hb
    · refine .inr fun b hb => ?_
      obtain ⟨h5, h6⟩ := st b hb
      have hs := h.ph2.fr.size
      refine ⟨by omega, fun v hv h' => ?_, fun h' => ?_⟩
      · obtain ⟨j, hj, rfl⟩ := List.getElem_of_mem hv
        have := (h.ph2.rows j hj).lt b h'; omega
      · have := h.ph2.long.lt b h'; omega

/-- The grown row laid into the long one. -/
theorem laid (h : Ph3 w1 w e eo sz m gr X L x vs lvs ns gr) {L' : Value} (ho : Ow w2 eo 1 L' (lvs.length + 1) (lvs ++ [x])) (f : Fr (fun b => L.ownBlock = some b) w w2) (st : Stays w w2 L L' lvs.length (lvs.length + 1)) :
    Ph2 w1 w2 e eo sz m gr X L' vs (lvs ++ [x]) ns := by
  have hL : ∀ b, L.ownBlock = some b → w1.heap.size ≤ b := fun b hb => (h.ph2.fresh b hb).1
  have hxL : ∀ b, x.ownBlock = some b → L.ownBlock ≠ some b := fun b hb => (h.other b hb).2.2.1
  refine ⟨h.ph2.two.kept f (fun b hb hb2 => by have := h.ph2.ltX b hb; have := hL b hb2; omega) (fun b hb hb2 => by have := h.ph2.lt b hb; have := hL b hb2; omega), by simpa using ho, by have := h.lt; simp; omega, ?_, ?_, ?_, h.ph2.fr.trans f (fun b hb hb2 => by have := hL b hb2; omega), h.ph2.ltX, h.ph2.lt⟩
  · intro j hj
    by_cases hj2 : j < lvs.length
    · rw [List.getElem_append_left hj2]
      exact (h.ph2.rows j hj2).kept f (fun b hb hb2 => (h.ph2.fresh b hb2).2 _ (List.getElem_mem hj2) hb)
    · obtain rfl : j = lvs.length := by simp at hj; omega
      simp only [List.getElem_concat_length]
      exact h.row.kept f (fun b hb hb2 => hxL b hb hb2)
  · intro j hj hj' b hb
    by_cases hj2 : j < lvs.length
    · rw [List.getElem_append_left hj2] at hb
      exact h.ph2.from_ j hj2 hj' b hb
    · obtain rfl : j = lvs.length := by simp at hj; omega
      simp only [List.getElem_concat_length] at hb
      rcases h.place with ⟨A, c, h1, h2⟩ | h1
      · left; rw [h1]; rw [h2] at hb; cases A <;> exact hb
      · exact .inr (h1 b hb).1
  · intro b hb
    rcases st with ⟨A, c, h1, h2⟩ | st
    · have hb' : L.ownBlock = some b := by rw [h1]; rw [h2] at hb; cases A <;> exact hb
      refine ⟨hL b hb', fun v hv h' => ?_⟩
      rcases List.mem_append.1 hv with hv | hv
      · exact (h.ph2.fresh b hb').2 v hv h'
      · simp at hv; subst hv; exact hxL b h' hb'
    · obtain ⟨h5, h6⟩ := st b hb
      have hs := h.ph2.fr.size
      refine ⟨by omega, fun v hv h' => ?_⟩
      rcases List.mem_append.1 hv with hv | hv
      · obtain ⟨j, hj, rfl⟩ := List.getElem_of_mem hv
        have := (h.ph2.rows j hj).lt b h'; omega
      · simp at hv; subst hv; have := h.row.lt b h'; omega
end Ph3

/-- The elements off, off + 1, .. of a slice. -/
def Shows (w : World) (sz : Nat) (v : Value) (off n : Nat) (f : Nat → List Value) : Prop :=
  0 < n → ∃ g c N, v = .slice (some ⟨g, 0, none⟩) N c ∧ off + n ≤ N ∧ N ≤ c ∧ ∀ k, k < n → ∀ (t : Nat) u, (f k)[t]? = some u → w.cell? ⟨g, (off + k) * sz + t, none⟩ = some u

theorem Shows.of {w : World} {e : TypeId} {sz n off k : Nat} {v : Value} {xs ys : List Value} {m : Int → Nat → List Value} {i : Int} (hm : ∀ i k, (m i k).length = sz) (h : Ow w e sz v n (xs ++ mks m i k ++ ys)) (hx : xs.length = off * sz) (hn : off + k ≤ n) : Shows w sz v off k (m i) := by
  intro hk
  obtain ⟨g, c, h1, h2, _, _, _, h3⟩ := h.cells 0 (by omega)
  refine ⟨g, c, n, h1, hn, h2, fun k' hk' t u hu => h3 _ _ ?_⟩
  have ht : t < sz := by have := (List.getElem?_eq_some_iff.1 hu).1; rw [hm] at this; exact this
  have hle : k' * sz + t < k * sz := by
    have : (k' + 1) * sz ≤ k * sz := Nat.mul_le_mul_right _ hk'
    rw [Nat.succ_mul] at this; omega
  rw [Nat.add_mul, Nat.add_assoc, List.append_assoc, List.getElem?_append_right (by omega), hx, Nat.add_sub_cancel_left, List.getElem?_append_left (by rw [mks_len hm]; exact hle), mks_get hm i k' k hk' t ht]
  exact hu

theorem Ph2.at {w1 w : World} {e eo : TypeId} {sz : Nat} {m : Int → Nat → List Value} {gr : Nat} {X L : Value} {vs lvs : List Value} {ns : Nat → Nat} (hm : ∀ i k, (m i k).length = sz) (h : Ph2 w1 w e eo sz m gr X L vs lvs ns) (j : Nat) (hj : j < vs.length) (hl : j < lvs.length) :
    Shows w sz vs[j] 0 (ns j) (m j) ∧ Shows w sz lvs[j] 0 (ns j) (m j) ∧ Shows w sz lvs[j] (ns j) gr (m (-1 - j)) := by
  refine ⟨Shows.of (xs := []) (ys := []) hm (by simpa using h.two.rows.row j hj) (by simp) (by omega), Shows.of (xs := []) (ys := mks m (-1 - j) gr) hm (by simpa using h.rows j hl) (by simp) (by omega), Shows.of (ys := []) hm (by simpa using h.rows j hl) (mks_len hm _ _) (Nat.le_refl _)⟩

/-- The marks of bytes. -/
def mB (i : Int) (k : Nat) : List Value := [.int .u8 ((i * 97 + (k : Int) * 13) % 256)]

theorem mB_len (i : Int) (k : Nat) : (mB i k).length = 1 := rfl

theorem take_set_mark {l : List Value} {m : Int → Nat → List Value} {i : Int} {k : Nat} {u : Value} (h : l.take k = mks m i k) (hk : k < l.length) (hu : m i k = [u]) : (l.set k u).take (k + 1) = mks m i (k + 1) := by
  rw [mks_succ, hu, ← h, List.take_succ_eq_append_getElem (by simpa using hk), List.take_set_of_le (Nat.le_refl _)]
  simp

set_option maxRecDepth 100000 in
set_option maxHeartbeats 4000000 in
theorem own_bytes (w : World) (A : Option Addr) (c : Nat) (vs : List Value) (ns : Nat → Nat) (C0 : Nat → List Value) (h : Two w 5 1 (.slice A vs.length c) vs ns C0) (hX : ∀ b, (Value.slice A vs.length c).ownBlock = some b → b < w.heap.size) (hvs : vs.length ≤ 1000000) (hns : ∀ j, ns j ≤ 140737488351232) :
    Calls Tryz.prog 35 #[.slice A vs.length c] w fun e w' => e = .returned (.bool true) ∧ Fr (InRows vs) w w' := by
  have H := Lib.hid h; have HLX := Lib.hid hX; have HNS := Lib.hid hns; clear h hX hns
  go_enter Tryz.func35, Tryz.ntmps35
  go_wp2
  go_loopw [3] (fun s wr => ∃ (i : Nat) (C : Nat → List Value), i ≤ vs.length ∧ s = .int .i64 i ∧ Two wr 5 1 (.slice A vs.length c) vs ns C ∧ Fr (InRows vs) w wr ∧ ∀ j, j < i → C j = mks mB j (ns j)) (fun s _ => vs.length - (intOf s).toNat)
  case atStart => exact ⟨0, C0, Nat.zero_le _, rfl, H.out, Fr.refl _ _, fun j h => by omega⟩
  case round =>
    obtain ⟨i, C, hi, rfl, ht, hf, hm⟩ := hrel
    have HT := Lib.hid ht; have HF := Lib.hid hf; have HM := Lib.hid hm; clear ht hf hm
    by_cases hlt : i < vs.length
    · go_wp2
      go_loopw [4] (fun s wr => ∃ (k : Nat) (C : Nat → List Value), k ≤ ns i ∧ s = .int .i64 k ∧ Two wr 5 1 (.slice A vs.length c) vs ns C ∧ Fr (InRows vs) w wr ∧ (∀ j, j < i → C j = mks mB j (ns j)) ∧ (C i).take k = mks mB i k) (fun s _ => 140737488351232 - (intOf s).toNat)
      case atStart => exact ⟨0, C, Nat.zero_le _, rfl, HT.out, HF.out, HM.out, by simp [mks]⟩
      case round =>
        obtain ⟨k, C, hk, rfl, ht, hf, hm, hmk⟩ := hrel
        have HT := Lib.hid ht; have HF := Lib.hid hf; have HM := Lib.hid hm; have HK := Lib.hid hmk; clear ht hf hm hmk
        have hk9 : ns i ≤ 140737488351232 := HNS.out i
        obtain ⟨b, o, hA, hcell⟩ := sl_at HT.out.out i hlt
        subst hA
        by_cases hkl : k < ns i
        · have hri := HT.out.rows.row i hlt
          obtain ⟨g, c', hv, _, _, hgl, hz, hcs⟩ := hri.cells k hkl
          have hkC : k < (C i).length := by rw [hri.1]; omega
          obtain ⟨cv, hcv⟩ : ∃ cv, (C i)[k]? = some cv := ⟨_, List.getElem?_eq_getElem hkC⟩
          have hc := hcs k _ hcv
          have hz := hz k
          rw [hv] at hcell
          have HV := Lib.hid hv; have HRI := Lib.hid hri; have HKC := Lib.hid hkC; clear hv hri hcs hkC hcv
          go_wp2
          go_roundw
          case rel =>
            obtain ⟨u, hu⟩ : ∃ u : Value, u = .int .u8 (((i : Int) * 97 + (k : Int) * 13) % 256) := ⟨_, rfl⟩
            rw [← hu]
            have hin : InRows vs g := ⟨vs[i], List.getElem_mem _, by rw [HV.out]; rfl⟩
            have hro : Ow (wr.setCell ⟨g, k, none⟩ u) 5 1 vs[i] (ns i) ((C i).set k u) := by
              have h := HRI.out
              rw [HV.out] at h ⊢
              exact h.set HKC.out u
            have hone := HT.out.rows.one i hlt (w1 := wr.setCell ⟨g, k, none⟩ u) ((Fr.refl _ wr).setCell _ _ (fun _ => by rw [HV.out]; rfl)) _ hro
            refine ⟨k + 1, _, hkl, by go_num, ⟨HT.out.out.kept (S := fun b => b = g) ((Fr.refl _ wr).setCell _ _ (fun _ => rfl)) (fun b' hb' e => HT.out.away b' hb' (by subst e; exact hin)), HT.out.away, hone⟩, HF.out.setCell _ _ (fun _ => hin), fun j hj => ?_, ?_⟩
            · simp only [show ¬ j = i by omega, if_false]
              exact HM.out j hj
            · simp only [if_true]
              exact take_set_mark HK.out HKC.out (by rw [hu]; rfl)
          case measure => simp [intOf]; omega
        · have hkk : k = ns i := by omega
          subst hkk
          obtain ⟨Ai, ci, hv, _, _⟩ := (HT.out.rows.row i hlt).form
          rw [hv] at hcell
          have HV := Lib.hid hv; clear hv
          go_wp2
          go_roundw
          case rel =>
            refine ⟨i + 1, C, hlt, by go_num, HT.out, HF.out, fun j hji => ?_⟩
            by_cases h : j = i
            · subst h
              have h2 := HK.out
              rw [List.take_of_length_le (by rw [(HT.out.rows.row j hlt).1]; omega)] at h2
              exact h2
            · exact HM.out j (by omega)
          case measure => simp [intOf]; omega
    · obtain rfl : i = vs.length := by omega
      clear hlt hi
      have HT1 := Lib.hid (show Two wr 5 1 (.slice A vs.length c) vs ns (fun j => mks mB j (ns j)) from ⟨HT.out.out, HT.out.away, HT.out.rows.congr HM.out⟩)
      clear HT HM
      obtain ⟨w1, rfl⟩ : ∃ w1 : World, w1 = wr := ⟨_, rfl⟩
      go_wp2
      go_loopw [5, 6] (fun L s wr => ∃ (lvs : List Value), s = .int .i64 lvs.length ∧ Ph2 w1 wr 5 23 1 mB 16 (.slice A vs.length c) L vs lvs ns) (fun _ s _ => vs.length - (intOf s).toNat)
      case atStart => exact ⟨[], rfl, HT1.out, ⟨rfl, .inl ⟨rfl, rfl⟩⟩, Nat.zero_le _, fun j h => by simp at h, fun j h => by simp at h, fun b h => by simp [Value.ownBlock] at h, Fr.refl _ _, fun b hb => Nat.lt_of_lt_of_le (HLX.out b hb) HF.out.size, HT1.out.rows.lt⟩
      case round =>
        obtain ⟨lvs, rfl, hp⟩ := hrel
        have hmany := hp.many
        have HP := Lib.hid hp; clear hp
        by_cases hlt : lvs.length < vs.length
        · obtain ⟨b, o, hA, hcell⟩ := sl_at HP.out.two.out lvs.length hlt
          subst hA
          have HS := Lib.hid (Ph3.start HP.out hlt)
          go_wp2
          go_loopw [7, 8] (fun x s wr => ∃ k : Nat, k ≤ 16 ∧ s = .int .i64 k ∧ Ph3 w1 wr 5 23 1 mB 16 (.slice (some ⟨b, o, none⟩) vs.length c) u5 x vs lvs ns k) (fun _ s _ => 16 - (intOf s).toNat)
          case atStart => exact ⟨0, Nat.zero_le _, rfl, HS.out⟩
          case round =>
            obtain ⟨k, hk, rfl, hp⟩ := hrel
            have HP := Lib.hid hp; clear hp
            have hn9 := HNS.out lvs.length
            by_cases hk16 : k < 16
            · go_wp2_with (at_builtin; refine wpList_apo rfl (.tmp 54) (.tmp 62) 23 rfl tbB (HP.out.kept0 ((Fr.refl no _).alloc _)).row (Sl.built wr _ _) rfl rfl (by simp [Value.oneCell']) ?b1 ?b2 ?go)
              case b1 => simp only [maxLen]; omega
              case b2 => omega
              case go =>
                intro A' N c' w2 hN ho hold hf2 hst
                subst hN
                have HPP := Lib.hid (Ph3.more mB_len (HP.out.kept0 ((Fr.refl no _).alloc _)) (by rw [← List.append_assoc] at ho; exact ho) hold hf2 hst)
                clear ho hold hf2 hst
                go_wp2
                go_roundw
                case rel => exact ⟨k + 1, by omega, by go_num, HPP.out⟩
                case measure => simp [intOf]; omega
            · obtain rfl : k = 16 := by omega
              obtain ⟨Ax, cx, hx, _, _⟩ := HP.out.row.form
              subst hx
              go_wp2_with (at_builtin; refine wpList_apo rfl (.tmp 64) (.tmp 66) 39 rfl tbRows (HP.out.kept0 ((Fr.refl no _).alloc _)).ph2.long (Sl.built wr _ _) rfl rfl ?b0 ?b1 ?b2 ?go)
              case b0 => simp [Value.oneCell']
              case b1 => simp only [maxLen]; omega
              case b2 => omega
              case go =>
                intro A' N c' w2 hN ho hold hf2 hst
                subst hN
                have HPP := Lib.hid (Ph3.laid (HP.out.kept0 ((Fr.refl no _).alloc _)) ho hf2 hst)
                clear ho hold hf2 hst
                go_wp2
                go_roundw
                case rel => exact ⟨lvs ++ [_], by simp, HPP.out⟩
                case measure => simp [intOf]; omega
        · have hle : lvs.length = vs.length := by omega
          have hrow := fun j (hj : j < vs.length) => Ph2.at mB_len HP.out j hj (by omega)
          have HR := Lib.hid hrow; clear hrow
          obtain ⟨AL, cL, hL, _, _⟩ := HP.out.long.form
          subst hL
          have HLL := Lib.hid HP.out.long.sl
          go_wp2
          go_loop [9] (fun s => ∃ i : Nat, i ≤ vs.length ∧ s = .int .i64 i) (fun s => vs.length - (intOf s).toNat)
          case atStart => exact ⟨0, Nat.zero_le _, rfl⟩
          case round =>
            obtain ⟨i, hi, rfl⟩ := hrel
            by_cases hlt2 : i < vs.length
            · obtain ⟨b, o, hA, hcell⟩ := sl_at HP.out.two.out i hlt2
              obtain ⟨b2, o2, hA2, hcell2⟩ := sl_at HLL.out i (by omega)
              subst hA; subst hA2
              obtain ⟨Ai, ci, hv, hci, _⟩ := (HP.out.two.rows.row i hlt2).form
              rw [hv] at hcell
              have HV := Lib.hid hv
              have hn9 := HNS.out i
              clear hv
              go_wp2
              go_loop [11] (fun s => ∃ k : Nat, k ≤ ns i ∧ s = .int .i64 k) (fun s => ns i - (intOf s).toNat)
              case atStart => exact ⟨0, Nat.zero_le _, rfl⟩
              case round =>
                obtain ⟨k, hk, rfl⟩ := hrel
                by_cases hkl : k < ns i
                · obtain ⟨g, c1, N1, e1, _, _, q1⟩ := (HR.out i hlt2).1 (by omega)
                  obtain ⟨g2, c2, N2, e2, _, _, q2⟩ := (HR.out i hlt2).2.1 (by omega)
                  replace q1 := q1 k hkl 0 _ rfl
                  replace q2 := q2 k hkl 0 _ rfl
                  simp only [Nat.zero_add, Nat.mul_one, Nat.add_zero] at q1 q2
                  rw [HV.out] at e1
                  rw [e2] at hcell2
                  have HV2 := Lib.hid e2; clear e2
                  cases e1
                  go_wp2
                  go_round
                  case rel => exact ⟨k + 1, hkl, by go_num⟩
                  case measure => simp [intOf]; omega
                · obtain rfl : k = ns i := by omega
                  go_wp2
                  go_loop [12] (fun s => ∃ k : Nat, k ≤ 16 ∧ s = .int .i64 k) (fun s => 16 - (intOf s).toNat)
                  case atStart => exact ⟨0, Nat.zero_le _, rfl⟩
                  case round =>
                    obtain ⟨k, hk, rfl⟩ := hrel
                    by_cases hkl : k < 16
                    · obtain ⟨g2, c2, N2, e2, _, _, q2⟩ := (HR.out i hlt2).2.2 (by omega)
                      replace q2 := q2 k hkl 0 _ rfl
                      simp only [Nat.mul_one, Nat.add_zero] at q2
                      rw [e2] at hcell2
                      have HV2 := Lib.hid e2; clear e2
                      go_wp2
                      go_round
                      case rel => exact ⟨k + 1, hkl, by go_num⟩
                      case measure => simp [intOf]; omega
                    · go_wp2
                      go_round
                      case rel => exact ⟨i + 1, hlt2, by go_num⟩
                      case measure => simp [intOf]; omega
            · go_wp2
              go_ret
              exact ⟨rfl, HF.out.trans HP.out.fr (fun _ _ h => h)⟩
end Go.Proofs.YtijcleiekafoiaaGreatDoor

/- copy, clear, and append of what make makes, on rows of one's own. General. -/
namespace Go
open Go.RowKit

/-- Block g has these cells. -/
def Has (w : World) (g : Nat) (e : TypeId) (xs : List Value) : Prop := w.heap[g]? = some (.cells xs.toArray e (0, 0))

section
variable {P : Program} {w : World} {o : Oper} {a : Act} {K : Act → World → Prop} {Q : Exit → Act → World → Prop}

theorem fr_setRow (w : World) (g : Nat) (cs : Array Value) : Fr (fun k => k = g) w (w.setRow g cs) := ⟨rfl, rfl, rfl, by simp, fun k _ hk => setRow_other w g k _ (fun e => hk e)⟩

theorem sl_first {sz n m : Nat} {v : Value} {xs : List Value} (h : Sl w sz v n xs) (hm : m ≤ n) : (Builtin.firstCells sz m v).run P w = .ok (xs.take (m * sz)).toArray w := by
  have hl : (xs.take (m * sz)).length = m * sz := by
    have := h.1
    have h2 : m * sz ≤ n * sz := Nat.mul_le_mul_right _ hm
    rw [List.length_take]; omega
  rcases h.2 with ⟨A, rfl, rfl⟩ | ⟨b, off, cap, rfl, h1, h2, h3⟩
  · obtain rfl : m = 0 := by omega
    cases A with
    | none => simp [Builtin.firstCells]
    | some y => simpa using run_firstCells_some (P := P) w sz 0 y 0 0 [] (by simp) (by simp)
  · refine run_firstCells_some (P := P) w sz m _ n cap _ hl (fun j u hu => ?_)
    rw [Addr.add_lit]
    rw [List.getElem?_take] at hu
    split at hu
    · exact h3 j u hu
    · cases hu

theorem run_cp {dT sT e : TypeId} (hu : P.underlying dT = some (.slice e)) {i : TypeInfo} (hi : P.info? e = some i) {sz : Nat} (hsz : i.size = sz) {g off dLen dCap : Nat} {cur : List Value} (hg : Has w g e cur) {src : Value} {sLen : Nat} {xs : List Value} (hs : Sl w sz src sLen xs)
    (hfit : off + min sLen dLen * sz ≤ cur.length) (h1 : ∀ u ∈ xs.take (min sLen dLen * sz), u.oneCell' = true) (ty : TypeId) :
    ∃ w', (Builtin.copy_ #[dT, sT] ty #[.slice (some ⟨g, off, none⟩) dLen dCap, src]).run P w = .ok (goInt (min sLen dLen : Nat)) w' ∧ Has w' g e (cur.take off ++ xs.take (min sLen dLen * sz) ++ cur.drop (off + min sLen dLen * sz)) ∧ Fr (fun k => k = g) w w' := by
  have hf := sl_first (P := P) hs (Nat.min_le_left sLen dLen)
  have hlen : (xs.take (min sLen dLen * sz)).length = min sLen dLen * sz := by
    have := hs.1
    have h2 : min sLen dLen * sz ≤ sLen * sz := Nat.mul_le_mul_right _ (Nat.min_le_left _ _)
    rw [List.length_take]; omega
  have hst := run_storeCells_at P g off e (xs.take (min sLen dLen * sz)) 0 cur.toArray w hg (by rw [hlen]; simpa using hfit) h1
  obtain ⟨X, cx, hX, _, _⟩ := hs.form
  subst hX
  simp only [Nat.add_zero, hlen] at hst
  refine ⟨w.setRow g (cur.take off ++ xs.take (min sLen dLen * sz) ++ cur.drop (off + min sLen dLen * sz)).toArray, ?_, ?_, fr_setRow w g _⟩
  · have hnm : Nat.min sLen dLen = min sLen dLen := rfl
    subst hsz
    unfold Builtin.copy_
    simp [run_underlying hu, Builtin.lenOf, sizeOf, typeInfo, hi, hf, hst, hnm]
  · exact setRow_heap w g cur.toArray _ e _ hg

theorem wp_cp (d s : Operand) (dT sT : TypeId) (ho : o.op = .call { callee := .builtin .copy, args := #[d, s], argTypes := #[dT, sT] }) {e : TypeId} {z : Value} {sz bytes : Nat} (tb : Tb P dT e z sz bytes) {g off dLen dCap : Nat} {cur : List Value} (hg : Has w g e cur) {src : Value} {sLen : Nat} {xs : List Value} (hs : Sl w sz src sLen xs)
    (hd : a.eval d = .slice (some ⟨g, off, none⟩) dLen dCap) (hse : a.eval s = src) (hfit : off + min sLen dLen * sz ≤ cur.length) (h1 : ∀ u ∈ xs.take (min sLen dLen * sz), u.oneCell' = true)
    (h : ∀ w', Has w' g e (cur.take off ++ xs.take (min sLen dLen * sz) ++ cur.drop (off + min sLen dLen * sz)) → Fr (fun k => k = g) w w' → K (a.put o.dst (goInt (min sLen dLen : Nat))) w') : o.wp P a w K Q := by
  obtain ⟨i, hi, hz0, hz1, hz2⟩ := info_parts tb.info
  obtain ⟨w', hr, h2, h3⟩ := run_cp (P := P) (sT := sT) tb.und hi hz1 (dLen := dLen) (dCap := dCap) hg hs hfit h1 o.type
  unfold Oper.wp execOp
  simp only [ho, resolve, invoke, builtin, Sem.run_bind, Sem.run_pure, Result.andThen_ok, List.map_toArray, List.map_cons, List.map_nil, hd, hse, hr]
  exact h w' h2 h3
variable {ops : Array Oper} {rest : List Oper}
theorem wpList_cp (hgd : o.guard = none) (d s : Operand) (dT sT : TypeId) (ho : o.op = .call { callee := .builtin .copy, args := #[d, s], argTypes := #[dT, sT] }) {e : TypeId} {z : Value} {sz bytes : Nat} (tb : Tb P dT e z sz bytes) {g off dLen dCap : Nat} {cur : List Value} (hg : Has w g e cur) {src : Value} {sLen : Nat} {xs : List Value} (hs : Sl w sz src sLen xs)
    (hd : a.eval d = .slice (some ⟨g, off, none⟩) dLen dCap) (hse : a.eval s = src) (hfit : off + min sLen dLen * sz ≤ cur.length) (h1 : ∀ u ∈ xs.take (min sLen dLen * sz), u.oneCell' = true)
    (h : ∀ w', Has w' g e (cur.take off ++ xs.take (min sLen dLen * sz) ++ cur.drop (off + min sLen dLen * sz)) → Fr (fun k => k = g) w w' → wpList P ops Q rest (a.put o.dst (goInt (min sLen dLen : Nat))) w') : wpList P ops Q (o :: rest) a w :=
  wpList_plain hgd fun _ hK => wp_cp d s dT sT ho tb hg hs hd hse hfit h1 fun w' h2 h3 => hK _ _ (h w' h2 h3)

theorem run_cl {dT e : TypeId} {z : Value} {sz bytes : Nat} (tb : Tb P dT e z sz bytes) (hzc : ∀ u ∈ z.cells.toList, u.oneCell' = true) {g off n c : Nat} {cur : List Value} (hg : Has w g e cur) (hfit : off + n * sz ≤ cur.length) (ty : TypeId) :
    ∃ w' ys, (Builtin.clear_ #[dT] ty #[.slice (some ⟨g, off, none⟩) n c]).run P w = .ok (.tuple #[]) w' ∧ ys.length = n * sz ∧ Has w' g e (cur.take off ++ ys ++ cur.drop (off + n * sz)) ∧ Fr (fun k => k = g) w w' := by
  obtain ⟨i, hi, hz0, hz1, hz2⟩ := info_parts tb.info
  by_cases hn : n = 0
  · subst hn
    refine ⟨w, [], ?_, by simp, ?_, Fr.refl _ _⟩
    · simp [Builtin.clear_, run_underlying tb.und]
    · simpa using hg
  · obtain ⟨m, rfl⟩ : ∃ m, n = m + 1 := ⟨n - 1, by omega⟩
    have hv : (zeroValue e).run P w = .ok z w := by simp [zeroValue, typeInfo, hi, hz0]
    have hyl : (Builtin.zeroCells z.cells (m + 1)).toList.length = (m + 1) * sz := by rw [Array.length_toList, size_zeroCells, tb.zs]
    have hst := run_storeCells_at P g off e (Builtin.zeroCells z.cells (m + 1)).toList 0 cur.toArray w hg (by rw [hyl]; simpa using hfit) (fun u hu => by
      simp only [Builtin.zeroCells] at hu
      simp only [Array.toList_map, List.mem_map] at hu
      obtain ⟨j, _, rfl⟩ := hu
      have hpos : 0 < z.cells.size := by rw [tb.zs]; exact tb.pos
      have hj : j % z.cells.size < z.cells.size := Nat.mod_lt _ hpos
      rw [getElem!_pos z.cells _ hj]
      exact hzc _ (by simp))
    simp only [Nat.add_zero, hyl] at hst
    refine ⟨_, (Builtin.zeroCells z.cells (m + 1)).toList, ?_, hyl, setRow_heap w g cur.toArray _ e _ hg, fr_setRow w g _⟩
    simp [Builtin.clear_, run_underlying tb.und, hv, hst]

theorem wp_cl (s : Operand) (dT : TypeId) (ho : o.op = .call { callee := .builtin .clear, args := #[s], argTypes := #[dT] }) {e : TypeId} {z : Value} {sz bytes : Nat} (tb : Tb P dT e z sz bytes) (hzc : ∀ u ∈ z.cells.toList, u.oneCell' = true) {g off n c : Nat} {cur : List Value} (hg : Has w g e cur)
    (hse : a.eval s = .slice (some ⟨g, off, none⟩) n c) (hfit : off + n * sz ≤ cur.length)
    (h : ∀ w' ys, ys.length = n * sz → Has w' g e (cur.take off ++ ys ++ cur.drop (off + n * sz)) → Fr (fun k => k = g) w w' → K (a.put o.dst (.tuple #[])) w') : o.wp P a w K Q := by
  obtain ⟨w', ys, hr, h2, h3, h4⟩ := run_cl (P := P) tb hzc (c := c) hg hfit o.type
  unfold Oper.wp execOp
  simp only [ho, resolve, invoke, builtin, Sem.run_bind, Sem.run_pure, Result.andThen_ok, List.map_toArray, List.map_cons, List.map_nil, hse, hr]
  exact h w' ys h2 h3 h4

theorem wpList_cl (hgd : o.guard = none) (s : Operand) (dT : TypeId) (ho : o.op = .call { callee := .builtin .clear, args := #[s], argTypes := #[dT] }) {e : TypeId} {z : Value} {sz bytes : Nat} (tb : Tb P dT e z sz bytes) (hzc : ∀ u ∈ z.cells.toList, u.oneCell' = true) {g off n c : Nat} {cur : List Value} (hg : Has w g e cur)
    (hse : a.eval s = .slice (some ⟨g, off, none⟩) n c) (hfit : off + n * sz ≤ cur.length)
    (h : ∀ w' ys, ys.length = n * sz → Has w' g e (cur.take off ++ ys ++ cur.drop (off + n * sz)) → Fr (fun k => k = g) w w' → wpList P ops Q rest (a.put o.dst (.tuple #[])) w') : wpList P ops Q (o :: rest) a w :=
  wpList_plain hgd fun _ hK => wp_cl s dT ho tb hzc hg hse hfit fun w' ys h2 h3 h4 => hK _ _ (h w' ys h2 h3 h4)

/-- append(s[:n], make(S, m)...) where there is no room: a new block. -/
theorem run_apm {t u e : TypeId} {z : Value} {sz bytes : Nat} (tb : Tb P t e z sz bytes) (hu : P.underlying u = some (.int .i64)) (ty : TypeId) {b : Addr} {n c m : Nat} {xs : List Value} (hl : xs.length = n * sz) (hxs : ∀ j v, xs[j]? = some v → w.cell? (b.add j) = some v) (hroom : c < n + m) (hm : 0 < m) (h63 : n + m ≤ maxLen) (hb : (n + m) * bytes ≤ 140737488355328) :
    ∃ c' ys w', (Builtin.append_ #[t, u] ty #[.slice (some b) n c, .int .i64 (m : Int)]).run P w = .ok (.slice (some ⟨w.heap.size, 0, none⟩) (n + m) c') w' ∧ n + m ≤ c' ∧ c' ≤ maxLen ∧ (xs ++ ys).length = c' * sz ∧ Has w' w.heap.size e (xs ++ ys) ∧ Fr no w w' ∧ w'.heap.size = w.heap.size + 1 := by
  obtain ⟨i, hi, hz0, hz1, hz2⟩ := info_parts tb.info
  subst hz1
  have hl63 : n + m ≤ 9223372036854775807 := by simp only [maxLen] at h63; omega
  have hms : ¬ (m * i.size = 0) := Nat.mul_ne_zero (by omega) (by have := tb.pos; omega)
  have hn : ¬ (n + m ≤ c) := by omega
  have h63' : ¬ (9223372036854775807 < ((n : Int) + (m : Int))) := by omega
  have h48' : ¬ (281474976710656 < Builtin.nextslicecap (n + m) c * i.bytes) := by
    have := growslice_fits (need := n + m) (old := c) (bytes := i.bytes) (by omega) (by rw [hz2]; exact hb)
    omega
  have hmb : m * bytes ≤ (n + m) * bytes := Nat.mul_le_mul_right _ (by omega)
  have h48m : ¬ (281474976710656 < (m : Int) * (i.bytes : Int)) := by rw [hz2]; omega
  have hwr : IntKind.i64.wrap (m : Int) = (m : Int) := by rw [IntKind.wrap_i64]; omega
  have hm0 : ¬ ((m : Int) < 0) := by omega
  have hge := grownCap_ge w (n + m) c e
  have hle := grownCap_le_maxLen w (n + m) c e h63
  have hfo := run_firstCells_some (P := P) w.drew i.size n b n c xs hl (by simpa using hxs)
  have hrun : (Builtin.append_ #[t, u] ty #[.slice (some b) n c, .int .i64 (m : Int)]).run P w =
      .ok (.slice (some ⟨w.heap.size, 0, none⟩) (n + m) (grownCap w (n + m) c e))
        (w.drew.alloc (.cells (xs ++ ((Builtin.zeroCells z.cells m).toList ++ (Builtin.zeroCells z.cells (grownCap w (n + m) c e - (n + m))).toList)).toArray e)) := by
    unfold Builtin.append_
    simp [run_underlying tb.und, run_underlying hu, sizeOf, typeInfo, zeroValue, hi, hz0, asInt, asIntOf, hwr, hm0, h48m, hms, hn, h63', h48', Question.forced, hfo, newRow, grownCap]
    congr 2
    apply Array.ext'
    simp
  refine ⟨grownCap w (n + m) c e, _, _, hrun, hge, hle, ?_, heap_alloc_new w.drew _, Fr.alloc (Fr.drew (Fr.refl _ _)) _, by simp⟩
  simp only [List.length_append, Array.length_toList, size_zeroCells, tb.zs, hl, ← Nat.add_mul]
  congr 1
  omega

theorem wp_apm (s x : Operand) (t u : TypeId) (ho : o.op = .call { callee := .builtin .append, args := #[s, x], argTypes := #[t, u] }) {e : TypeId} {z : Value} {sz bytes : Nat} (tb : Tb P t e z sz bytes) (hu : P.underlying u = some (.int .i64)) {b : Addr} {n c m : Nat} {xs : List Value} (hl : xs.length = n * sz) (hxs : ∀ j v, xs[j]? = some v → w.cell? (b.add j) = some v) (hse : a.eval s = .slice (some b) n c) {mi : Int} (hxe : a.eval x = .int .i64 mi) (hmi : mi = (m : Int)) (hroom : c < n + m) (hm : 0 < m) (h63 : n + m ≤ maxLen) (hb : (n + m) * bytes ≤ 140737488355328)
    (h : ∀ c' N ys w', N = n + m → N ≤ c' → c' ≤ maxLen → (xs ++ ys).length = c' * sz → Has w' w.heap.size e (xs ++ ys) → Fr no w w' → w'.heap.size = w.heap.size + 1 → K (a.put o.dst (.slice (some ⟨w.heap.size, 0, none⟩) N c')) w') : o.wp P a w K Q := by
  subst hmi
  obtain ⟨c', ys, w', hr, h2, h3, h4, h5, h6, h7⟩ := run_apm (P := P) tb hu o.type hl hxs hroom hm h63 hb
  unfold Oper.wp execOp
  simp only [ho, resolve, invoke, builtin, Sem.run_bind, Sem.run_pure, Result.andThen_ok, List.map_toArray, List.map_cons, List.map_nil, hse, hxe, hr]
  exact h c' _ ys w' rfl h2 h3 h4 h5 h6 h7

theorem wpList_apm (hgd : o.guard = none) (s x : Operand) (t u : TypeId) (ho : o.op = .call { callee := .builtin .append, args := #[s, x], argTypes := #[t, u] }) {e : TypeId} {z : Value} {sz bytes : Nat} (tb : Tb P t e z sz bytes) (hu : P.underlying u = some (.int .i64)) {b : Addr} {n c m : Nat} {xs : List Value} (hl : xs.length = n * sz) (hxs : ∀ j v, xs[j]? = some v → w.cell? (b.add j) = some v) (hse : a.eval s = .slice (some b) n c) {mi : Int} (hxe : a.eval x = .int .i64 mi) (hmi : mi = (m : Int)) (hroom : c < n + m) (hm : 0 < m) (h63 : n + m ≤ maxLen) (hb : (n + m) * bytes ≤ 140737488355328)
    (h : ∀ c' N ys w', N = n + m → N ≤ c' → c' ≤ maxLen → (xs ++ ys).length = c' * sz → Has w' w.heap.size e (xs ++ ys) → Fr no w w' → w'.heap.size = w.heap.size + 1 → wpList P ops Q rest (a.put o.dst (.slice (some ⟨w.heap.size, 0, none⟩) N c')) w') : wpList P ops Q (o :: rest) a w :=
  wpList_plain hgd fun _ hK => wp_apm s x t u ho tb hu hl hxs hse hxe hmi hroom hm h63 hb fun c' N ys w' h1 h2 h3 h4 h5 h6 h7 => hK _ _ (h c' N ys w' h1 h2 h3 h4 h5 h6 h7)
end
end Go
