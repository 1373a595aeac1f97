import Derived.Test.YtdnohhlgaaihmaaMt03
import Derived.Test.YtdnohhlgaaihmaaMt09
import Derived.Test.YtdnohhlgaaihmaaMt05

/- The owner's check on lists that are not there. -/
namespace Go.Proofs.Ytdnohhlgaaihmaa
open Go.RowKit

set_option maxRecDepth 100000 in
set_option maxHeartbeats 400000 in
theorem ownBytes_nil (w : World) : Calls Try.prog 83 #[.slice none 0 0] w fun e w' => e = .returned (.bool true) ∧ w' = w := by
  go_enter Try.func83, Try.ntmps83
  go_wp2
  go_loop [3] (fun i => i = .int .i64 0) (fun _ => 0)
  case atStart => rfl
  case round =>
    subst hrel
    go_wp2
    go_loop [6] (fun i => i = .int .i64 0) (fun _ => 0)
    case atStart => rfl
    case round =>
      subst hrel
      go_wp2
      go_loop [9] (fun i => i = .int .i64 0) (fun _ => 0)
      case atStart => rfl
      case round =>
        subst hrel
        go_wp2
        go_ret
        exact ⟨rfl, rfl⟩

set_option maxRecDepth 100000 in
set_option maxHeartbeats 400000 in
theorem ownTexts_nil (w : World) : Calls Try.prog 84 #[.slice none 0 0] w fun e w' => e = .returned (.bool true) ∧ w' = w := by
  go_enter Try.func84, Try.ntmps84
  go_wp2
  go_loop [3] (fun i => i = .int .i64 0) (fun _ => 0)
  case atStart => rfl
  case round =>
    subst hrel
    go_wp2
    go_loop [6] (fun i => i = .int .i64 0) (fun _ => 0)
    case atStart => rfl
    case round =>
      subst hrel
      go_wp2
      go_loop [9] (fun i => i = .int .i64 0) (fun _ => 0)
      case atStart => rfl
      case round =>
        subst hrel
        go_wp2
        go_ret
        exact ⟨rfl, rfl⟩

set_option maxRecDepth 100000 in
set_option maxHeartbeats 400000 in
theorem ownInts_nil (w : World) : Calls Try.prog 85 #[.slice none 0 0] w fun e w' => e = .returned (.bool true) ∧ w' = w := by
  go_enter Try.func85, Try.ntmps85
  go_wp2
  go_loop [3] (fun i => i = .int .i64 0) (fun _ => 0)
  case atStart => rfl
  case round =>
    subst hrel
    go_wp2
    go_loop [6] (fun i => i = .int .i64 0) (fun _ => 0)
    case atStart => rfl
    case round =>
      subst hrel
      go_wp2
      go_loop [9] (fun i => i = .int .i64 0) (fun _ => 0)
      case atStart => rfl
      case round =>
        subst hrel
        go_wp2
        go_ret
        exact ⟨rfl, rfl⟩

set_option maxRecDepth 100000 in
set_option maxHeartbeats 400000 in
theorem ownLongs_nil (w : World) : Calls Try.prog 86 #[.slice none 0 0] w fun e w' => e = .returned (.bool true) ∧ w' = w := by
  go_enter Try.func86, Try.ntmps86
  go_wp2
  go_loop [3] (fun i => i = .int .i64 0) (fun _ => 0)
  case atStart => rfl
  case round =>
    subst hrel
    go_wp2
    go_loop [6] (fun i => i = .int .i64 0) (fun _ => 0)
    case atStart => rfl
    case round =>
      subst hrel
      go_wp2
      go_loop [9] (fun i => i = .int .i64 0) (fun _ => 0)
      case atStart => rfl
      case round =>
        subst hrel
        go_wp2
        go_ret
        exact ⟨rfl, rfl⟩

set_option maxRecDepth 100000 in
set_option maxHeartbeats 400000 in
theorem ownNumbers_nil (w : World) : Calls Try.prog 87 #[.slice none 0 0] w fun e w' => e = .returned (.bool true) ∧ w' = w := by
  go_enter Try.func87, Try.ntmps87
  go_wp2
  go_loop [3] (fun i => i = .int .i64 0) (fun _ => 0)
  case atStart => rfl
  case round =>
    subst hrel
    go_wp2
    go_loop [6] (fun i => i = .int .i64 0) (fun _ => 0)
    case atStart => rfl
    case round =>
      subst hrel
      go_wp2
      go_loop [9] (fun i => i = .int .i64 0) (fun _ => 0)
      case atStart => rfl
      case round =>
        subst hrel
        go_wp2
        go_ret
        exact ⟨rfl, rfl⟩

set_option maxRecDepth 100000 in
set_option maxHeartbeats 400000 in
theorem ownWords_nil (w : World) : Calls Try.prog 88 #[.slice none 0 0] w fun e w' => e = .returned (.bool true) ∧ w' = w := by
  go_enter Try.func88, Try.ntmps88
  go_wp2
  go_loop [3] (fun i => i = .int .i64 0) (fun _ => 0)
  case atStart => rfl
  case round =>
    subst hrel
    go_wp2
    go_loop [6] (fun i => i = .int .i64 0) (fun _ => 0)
    case atStart => rfl
    case round =>
      subst hrel
      go_wp2
      go_loop [9] (fun i => i = .int .i64 0) (fun _ => 0)
      case atStart => rfl
      case round =>
        subst hrel
        go_wp2
        go_ret
        exact ⟨rfl, rfl⟩

set_option maxRecDepth 100000 in
set_option maxHeartbeats 400000 in
theorem ownSteps_nil (w : World) : Calls Try.prog 89 #[.slice none 0 0] w fun e w' => e = .returned (.bool true) ∧ w' = w := by
  go_enter Try.func89, Try.ntmps89
  go_wp2
  go_loop [3] (fun i => i = .int .i64 0) (fun _ => 0)
  case atStart => rfl
  case round =>
    subst hrel
    go_wp2
    go_loop [6] (fun i => i = .int .i64 0) (fun _ => 0)
    case atStart => rfl
    case round =>
      subst hrel
      go_wp2
      go_loop [9] (fun i => i = .int .i64 0) (fun _ => 0)
      case atStart => rfl
      case round =>
        subst hrel
        go_wp2
        go_ret
        exact ⟨rfl, rfl⟩

set_option maxRecDepth 100000 in
set_option maxHeartbeats 400000 in
theorem ownParts_nil (w : World) : Calls Try.prog 90 #[.slice none 0 0] w fun e w' => e = .returned (.bool true) ∧ w' = w := by
  go_enter Try.func90, Try.ntmps90
  go_wp2
  go_loop [3] (fun i => i = .int .i64 0) (fun _ => 0)
  case atStart => rfl
  case round =>
    subst hrel
    go_wp2
    go_loop [6] (fun i => i = .int .i64 0) (fun _ => 0)
    case atStart => rfl
    case round =>
      subst hrel
      go_wp2
      go_loop [9] (fun i => i = .int .i64 0) (fun _ => 0)
      case atStart => rfl
      case round =>
        subst hrel
        go_wp2
        go_ret
        exact ⟨rfl, rfl⟩

set_option maxRecDepth 100000 in
set_option maxHeartbeats 400000 in
theorem ownDones_nil (w : World) : Calls Try.prog 91 #[.slice none 0 0] w fun e w' => e = .returned (.bool true) ∧ w' = w := by
  go_enter Try.func91, Try.ntmps91
  go_wp2
  go_loop [3] (fun i => i = .int .i64 0) (fun _ => 0)
  case atStart => rfl
  case round =>
    subst hrel
    go_wp2
    go_loop [6] (fun i => i = .int .i64 0) (fun _ => 0)
    case atStart => rfl
    case round =>
      subst hrel
      go_wp2
      go_loop [9] (fun i => i = .int .i64 0) (fun _ => 0)
      case atStart => rfl
      case round =>
        subst hrel
        go_wp2
        go_ret
        exact ⟨rfl, rfl⟩

set_option maxRecDepth 100000 in
set_option maxHeartbeats 400000 in
theorem ownRows_nil (w : World) : Calls Try.prog 92 #[.slice none 0 0] w fun e w' => e = .returned (.bool true) ∧ w' = w := by
  go_enter Try.func92, Try.ntmps92
  go_wp2
  go_loop [3] (fun i => i = .int .i64 0) (fun _ => 0)
  case atStart => rfl
  case round =>
    subst hrel
    go_wp2
    go_loop [6] (fun i => i = .int .i64 0) (fun _ => 0)
    case atStart => rfl
    case round =>
      subst hrel
      go_wp2
      go_loop [9] (fun i => i = .int .i64 0) (fun _ => 0)
      case atStart => rfl
      case round =>
        subst hrel
        go_wp2
        go_ret
        exact ⟨rfl, rfl⟩

set_option maxRecDepth 100000 in
set_option maxHeartbeats 400000 in
theorem ownLists_nil (w : World) : Calls Try.prog 93 #[.slice none 0 0] w fun e w' => e = .returned (.bool true) ∧ w' = w := by
  go_enter Try.func93, Try.ntmps93
  go_wp2
  go_loop [3] (fun i => i = .int .i64 0) (fun _ => 0)
  case atStart => rfl
  case round =>
    subst hrel
    go_wp2
    go_loop [6] (fun i => i = .int .i64 0) (fun _ => 0)
    case atStart => rfl
    case round =>
      subst hrel
      go_wp2
      go_loop [9] (fun i => i = .int .i64 0) (fun _ => 0)
      case atStart => rfl
      case round =>
        subst hrel
        go_wp2
        go_ret
        exact ⟨rfl, rfl⟩

set_option maxRecDepth 100000 in
set_option maxHeartbeats 400000 in
theorem ownIntLists_nil (w : World) : Calls Try.prog 94 #[.slice none 0 0] w fun e w' => e = .returned (.bool true) ∧ w' = w := by
  go_enter Try.func94, Try.ntmps94
  go_wp2
  go_loop [3] (fun i => i = .int .i64 0) (fun _ => 0)
  case atStart => rfl
  case round =>
    subst hrel
    go_wp2
    go_loop [6] (fun i => i = .int .i64 0) (fun _ => 0)
    case atStart => rfl
    case round =>
      subst hrel
      go_wp2
      go_loop [9] (fun i => i = .int .i64 0) (fun _ => 0)
      case atStart => rfl
      case round =>
        subst hrel
        go_wp2
        go_ret
        exact ⟨rfl, rfl⟩

set_option maxRecDepth 100000 in
set_option maxHeartbeats 400000 in
theorem ownPaths_nil (w : World) : Calls Try.prog 95 #[.slice none 0 0] w fun e w' => e = .returned (.bool true) ∧ w' = w := by
  go_enter Try.func95, Try.ntmps95
  go_wp2
  go_loop [3] (fun i => i = .int .i64 0) (fun _ => 0)
  case atStart => rfl
  case round =>
    subst hrel
    go_wp2
    go_loop [6] (fun i => i = .int .i64 0) (fun _ => 0)
    case atStart => rfl
    case round =>
      subst hrel
      go_wp2
      go_loop [9] (fun i => i = .int .i64 0) (fun _ => 0)
      case atStart => rfl
      case round =>
        subst hrel
        go_wp2
        go_ret
        exact ⟨rfl, rfl⟩

set_option maxRecDepth 100000 in
set_option maxHeartbeats 400000 in
theorem ownPairs_nil (w : World) : Calls Try.prog 96 #[.slice none 0 0] w fun e w' => e = .returned (.bool true) ∧ w' = w := by
  go_enter Try.func96, Try.ntmps96
  go_wp2
  go_loop [3] (fun i => i = .int .i64 0) (fun _ => 0)
  case atStart => rfl
  case round =>
    subst hrel
    go_wp2
    go_loop [6] (fun i => i = .int .i64 0) (fun _ => 0)
    case atStart => rfl
    case round =>
      subst hrel
      go_wp2
      go_loop [9] (fun i => i = .int .i64 0) (fun _ => 0)
      case atStart => rfl
      case round =>
        subst hrel
        go_wp2
        go_ret
        exact ⟨rfl, rfl⟩

set_option maxRecDepth 100000 in
set_option maxHeartbeats 400000 in
theorem ownChanges_nil (w : World) : Calls Try.prog 97 #[.slice none 0 0] w fun e w' => e = .returned (.bool true) ∧ w' = w := by
  go_enter Try.func97, Try.ntmps97
  go_wp2
  go_loop [3] (fun i => i = .int .i64 0) (fun _ => 0)
  case atStart => rfl
  case round =>
    subst hrel
    go_wp2
    go_loop [6] (fun i => i = .int .i64 0) (fun _ => 0)
    case atStart => rfl
    case round =>
      subst hrel
      go_wp2
      go_loop [9] (fun i => i = .int .i64 0) (fun _ => 0)
      case atStart => rfl
      case round =>
        subst hrel
        go_wp2
        go_ret
        exact ⟨rfl, rfl⟩

set_option maxRecDepth 100000 in
set_option maxHeartbeats 400000 in
theorem ownSpans_nil (w : World) : Calls Try.prog 98 #[.slice none 0 0] w fun e w' => e = .returned (.bool true) ∧ w' = w := by
  go_enter Try.func98, Try.ntmps98
  go_wp2
  go_loop [3] (fun i => i = .int .i64 0) (fun _ => 0)
  case atStart => rfl
  case round =>
    subst hrel
    go_wp2
    go_loop [6] (fun i => i = .int .i64 0) (fun _ => 0)
    case atStart => rfl
    case round =>
      subst hrel
      go_wp2
      go_loop [9] (fun i => i = .int .i64 0) (fun _ => 0)
      case atStart => rfl
      case round =>
        subst hrel
        go_wp2
        go_ret
        exact ⟨rfl, rfl⟩

set_option maxRecDepth 100000 in
set_option maxHeartbeats 400000 in
theorem ownEntries_nil (w : World) : Calls Try.prog 99 #[.slice none 0 0] w fun e w' => e = .returned (.bool true) ∧ w' = w := by
  go_enter Try.func99, Try.ntmps99
  go_wp2
  go_loop [3] (fun i => i = .int .i64 0) (fun _ => 0)
  case atStart => rfl
  case round =>
    subst hrel
    go_wp2
    go_loop [6] (fun i => i = .int .i64 0) (fun _ => 0)
    case atStart => rfl
    case round =>
      subst hrel
      go_wp2
      go_loop [9] (fun i => i = .int .i64 0) (fun _ => 0)
      case atStart => rfl
      case round =>
        subst hrel
        go_wp2
        go_ret
        exact ⟨rfl, rfl⟩

set_option maxRecDepth 100000 in
set_option maxHeartbeats 400000 in
theorem ownValues_nil (w : World) : Calls Try.prog 101 #[.slice none 0 0] w fun e w' => e = .returned (.bool true) ∧ w' = w := by
  go_enter Try.func101, Try.ntmps101
  go_wp2
  go_loop [3] (fun i => i = .int .i64 0) (fun _ => 0)
  case atStart => rfl
  case round =>
    subst hrel
    go_wp2
    go_loop [6] (fun i => i = .int .i64 0) (fun _ => 0)
    case atStart => rfl
    case round =>
      subst hrel
      go_wp2
      go_loop [9] (fun i => i = .int .i64 0) (fun _ => 0)
      case atStart => rfl
      case round =>
        subst hrel
        go_wp2
        go_ret
        exact ⟨rfl, rfl⟩

set_option maxRecDepth 100000 in
set_option maxHeartbeats 400000 in
theorem ownFields_nil (w : World) : Calls Try.prog 102 #[.slice none 0 0] w fun e w' => e = .returned (.bool true) ∧ w' = w := by
  go_enter Try.func102, Try.ntmps102
  go_wp2
  go_loop [3] (fun i => i = .int .i64 0) (fun _ => 0)
  case atStart => rfl
  case round =>
    subst hrel
    go_wp2
    go_loop [6] (fun i => i = .int .i64 0) (fun _ => 0)
    case atStart => rfl
    case round =>
      subst hrel
      go_wp2
      go_loop [9] (fun i => i = .int .i64 0) (fun _ => 0)
      case atStart => rfl
      case round =>
        subst hrel
        go_wp2
        go_ret
        exact ⟨rfl, rfl⟩

set_option maxRecDepth 100000 in
set_option maxHeartbeats 400000 in
theorem ownIndexes_nil (w : World) : Calls Try.prog 103 #[.slice none 0 0] w fun e w' => e = .returned (.bool true) ∧ w' = w := by
  go_enter Try.func103, Try.ntmps103
  go_wp2
  go_loop [3] (fun i => i = .int .i64 0) (fun _ => 0)
  case atStart => rfl
  case round =>
    subst hrel
    go_wp2
    go_loop [6] (fun i => i = .int .i64 0) (fun _ => 0)
    case atStart => rfl
    case round =>
      subst hrel
      go_wp2
      go_loop [9] (fun i => i = .int .i64 0) (fun _ => 0)
      case atStart => rfl
      case round =>
        subst hrel
        go_wp2
        go_ret
        exact ⟨rfl, rfl⟩

set_option maxRecDepth 100000 in
set_option maxHeartbeats 400000 in
theorem ownEvents_nil (w : World) : Calls Try.prog 104 #[.slice none 0 0] w fun e w' => e = .returned (.bool true) ∧ w' = w := by
  go_enter Try.func104, Try.ntmps104
  go_wp2
  go_loop [3] (fun i => i = .int .i64 0) (fun _ => 0)
  case atStart => rfl
  case round =>
    subst hrel
    go_wp2
    go_loop [6] (fun i => i = .int .i64 0) (fun _ => 0)
    case atStart => rfl
    case round =>
      subst hrel
      go_wp2
      go_loop [9] (fun i => i = .int .i64 0) (fun _ => 0)
      case atStart => rfl
      case round =>
        subst hrel
        go_wp2
        go_ret
        exact ⟨rfl, rfl⟩

set_option maxRecDepth 100000 in
set_option maxHeartbeats 400000 in
theorem ownCommits_nil (w : World) : Calls Try.prog 105 #[.slice none 0 0] w fun e w' => e = .returned (.bool true) ∧ w' = w := by
  go_enter Try.func105, Try.ntmps105
  go_wp2
  go_loop [3] (fun i => i = .int .i64 0) (fun _ => 0)
  case atStart => rfl
  case round =>
    subst hrel
    go_wp2
    go_loop [6] (fun i => i = .int .i64 0) (fun _ => 0)
    case atStart => rfl
    case round =>
      subst hrel
      go_wp2
      go_loop [9] (fun i => i = .int .i64 0) (fun _ => 0)
      case atStart => rfl
      case round =>
        subst hrel
        go_wp2
        go_ret
        exact ⟨rfl, rfl⟩

end Go.Proofs.Ytdnohhlgaaihmaa

/- The owner's check on a list of bools that is not there. -/
namespace Go.Proofs.Ytdnohhlgaaihmaa
open Go.RowKit

set_option maxRecDepth 100000 in
set_option maxHeartbeats 400000 in
theorem ownBools_nil (w : World) : Calls Try.prog 100 #[.slice none 0 0] w fun e w' => e = .returned (.bool true) ∧ Fr no w w' := by
  have tb : Tb Try.prog 80 192 (.slice none 0 0) 1 24 := ⟨by kernel_rfl, by kernel_rfl, rfl, by decide⟩
  obtain ⟨inf, hi, hz0, hz1, hz2⟩ := info_parts tb.info
  have hmk := run_make (P := Try.prog) w 80 192 inf (.slice none 0 0) tb.und hi hz0 .i64 .i64 0 0 (by omega) (by omega) (by omega) (by omega)
  obtain ⟨c, hc⟩ : ∃ c, c = madeCells (Value.slice none 0 0).cells ((0 : Int).toNat * inf.size) := ⟨_, rfl⟩
  rw [← hc] at hmk
  clear hc hi hz0 hz1 hz2 tb
  go_enter Try.func100, Try.ntmps100
  go_wp2
  go_loop [4] (fun i => i = .int .i64 0) (fun _ => 0)
  case atStart => rfl
  case round =>
    subst hrel
    go_wp2
    go_ret
    exact ⟨rfl, (Fr.refl no w).alloc _⟩
end Go.Proofs.Ytdnohhlgaaihmaa

/- What is told is its owner's: rows of structs that are marked by a byte of their own. -/
namespace Go.Proofs.Ytdnohhlgaaihmaa
open Go.RowKit

/-- A marked element: a slice of one byte at a place of its own, and the rest. -/
def mP (a : Int → Nat → Nat) (tl : List Value) (i : Int) (k : Nat) : List Value := .slice (some ⟨a i k, 0, none⟩) 1 1 :: tl
theorem mP_len {a : Int → Nat → Nat} {tl : List Value} {sz : Nat} (h : tl.length + 1 = sz) (i : Int) (k : Nat) : (mP a tl i k).length = sz := by simpa [mP] using h
def mkV (i : Int) (k : Nat) : Value := .int .u8 ((i * 97 + (k : Int) * 13) % 256)
def Mkd (w : World) (a : Int → Nat → Nat) (i : Int) (k : Nat) : Prop := w.heap[a i k]? = some (.cells #[mkV i k] 5 (0, 0))
def upA (a : Int → Nat → Nat) (i0 : Int) (k0 g : Nat) : Int → Nat → Nat := fun i k => if i = i0 ∧ k = k0 then g else a i k

theorem upA_same (a : Int → Nat → Nat) (i : Int) (k g : Nat) : upA a i k g i k = g := by simp [upA]
theorem upA_other {a : Int → Nat → Nat} {i0 : Int} {k0 g : Nat} {i : Int} {k : Nat} (h : i ≠ i0 ∨ k ≠ k0) : upA a i0 k0 g i k = a i k := by
  unfold upA; rw [if_neg]; rintro ⟨h1, h2⟩; rcases h with h | h; exact h h1; exact h h2
theorem mP_other {a : Int → Nat → Nat} {tl : List Value} {i0 : Int} {k0 g : Nat} {i : Int} {k : Nat} (h : i ≠ i0 ∨ k ≠ k0) : mP (upA a i0 k0 g) tl i k = mP a tl i k := by
  unfold mP; rw [upA_other h]
theorem Mkd.other {w : World} {a : Int → Nat → Nat} {i0 : Int} {k0 g : Nat} {i : Int} {k : Nat} (h : Mkd w a i k) (hn : i ≠ i0 ∨ k ≠ k0) : Mkd w (upA a i0 k0 g) i k := by
  unfold Mkd; rw [upA_other hn]; exact h
theorem Mkd.kept0 {w w1 : World} {a : Int → Nat → Nat} {i : Int} {k : Nat} (h : Mkd w a i k) (f : Fr no w w1) : Mkd w1 a i k := f.heap h (fun h => h)
theorem Mkd.kept {w w1 : World} {a : Int → Nat → Nat} {i : Int} {k sz n : Nat} {e : TypeId} {x : Value} {xs : List Value} (h : Mkd w a i k) (ho : Ow w e sz x n xs) (he : e ≠ 5) (f : Fr (fun b => x.ownBlock = some b) w w1) : Mkd w1 a i k := by
  refine f.heap h (fun hb => ?_)
  rcases ho.2 with ⟨h1, _⟩ | ⟨g, cap, cur, h1, hg, _⟩
  · rw [h1] at hb; simp [Value.ownBlock] at hb
  · rw [h1] at hb
    have e2 : g = a i k := by simpa [Value.ownBlock] using hb
    rw [e2] at hg
    unfold Mkd at h
    rw [h] at hg
    simp only [Option.some.injEq, Obj.cells.injEq] at hg
    exact he hg.2.1.symm
theorem Mkd.cell {w : World} {a : Int → Nat → Nat} {i : Int} {k : Nat} (h : Mkd w a i k) : w.cell? ⟨a i k, 0, none⟩ = some (.int .u8 ((i * 97 + (k : Int) * 13) % 256)) ∧ a i k < w.heap.size := by
  unfold Mkd at h
  exact ⟨by simp [World.cell?, h, mkV], (Array.getElem?_eq_some_iff.1 h).1⟩
theorem mks_congr {m m' : Int → Nat → List Value} {i : Int} {n : Nat} (h : ∀ k, k < n → m i k = m' i k) : mks m i n = mks m' i n := by
  unfold mks
  rw [List.flatMap_def, List.flatMap_def]
  congr 1
  exact List.map_congr_left fun k hk => h k (List.mem_range.1 hk)

theorem Ph2.congr {w1 w : World} {e eo : TypeId} {sz : Nat} {m m' : Int → Nat → List Value} {gr : Nat} {X L : Value} {vs lvs : List Value} {ns : Nat → Nat} (h : Ph2 w1 w e eo sz m gr X L vs lvs ns)
    (h1 : ∀ j k : Nat, m j k = m' j k) (h2 : ∀ j k : Nat, j < lvs.length → m (-1 - j) k = m' (-1 - j) k) : Ph2 w1 w e eo sz m' gr X L vs lvs ns := by
  have e1 : ∀ (j n : Nat), mks m j n = mks m' j n := fun j n => mks_congr fun k _ => h1 j k
  refine ⟨⟨h.two.out, h.two.away, h.two.rows.congr fun j _ => e1 j _⟩, h.long, h.many, fun j hj => ?_, h.from_, h.fresh, h.fr, h.ltX, h.lt⟩
  rw [← e1, ← mks_congr (m := m) (fun k _ => h2 j k hj)]
  exact h.rows j hj
theorem Ph3.congr {w1 w : World} {e eo : TypeId} {sz : Nat} {m m' : Int → Nat → List Value} {gr : Nat} {X L x : Value} {vs lvs : List Value} {ns : Nat → Nat} {k : Nat} (h : Ph3 w1 w e eo sz m gr X L x vs lvs ns k)
    (h1 : ∀ j k : Nat, m j k = m' j k) (h2 : ∀ j k : Nat, j < lvs.length → m (-1 - j) k = m' (-1 - j) k) (h3 : ∀ k' : Nat, k' < k → m (-1 - lvs.length) k' = m' (-1 - lvs.length) k') : Ph3 w1 w e eo sz m' gr X L x vs lvs ns k := by
  refine ⟨h.ph2.congr h1 h2, h.lt, ?_, h.place⟩
  rw [← mks_congr (m := m) (fun k _ => h1 _ k), ← mks_congr (m := m) h3]
  exact h.row

theorem take_set2 {l P : List Value} {k : Nat} {x y : Value} (h : l.take (k * 2) = P) (hk : k * 2 + 2 ≤ l.length) : ((l.set (k * 2) x).set (k * 2 + 1) y).take ((k + 1) * 2) = P ++ [x, y] := by
  have e : (k + 1) * 2 = k * 2 + 1 + 1 := by omega
  rw [e, List.take_succ_eq_append_getElem (by simp; omega), List.take_succ_eq_append_getElem (by simp; omega)]
  rw [List.take_set_of_le (by omega), List.take_set_of_le (Nat.le_refl _), h]
  simp
theorem take_set3 {l P : List Value} {k : Nat} {x y z : Value} (h : l.take (k * 3) = P) (hk : k * 3 + 3 ≤ l.length) : (((l.set (k * 3) x).set (k * 3 + 1) y).set (k * 3 + 2) z).take ((k + 1) * 3) = P ++ [x, y, z] := by
  have e : (k + 1) * 3 = k * 3 + 1 + 1 + 1 := by omega
  rw [e, List.take_succ_eq_append_getElem (by simp; omega), List.take_succ_eq_append_getElem (by simp; omega), List.take_succ_eq_append_getElem (by simp; omega)]
  rw [List.take_set_of_le (by omega), List.take_set_of_le (by omega), List.take_set_of_le (Nat.le_refl _), h]
  simp
end Go.Proofs.Ytdnohhlgaaihmaa
