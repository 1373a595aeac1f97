/-
  No cell of these rows narrows 'for every input' (looked for: loops, veiled, ifaces, maps, wideKeys, modest, calm, conditions, laid).
  DERIVED. THE GIVEN ROWS OF THIS SEAT. 9 by the template 'for every input the law returns true; each argument reads behind the call as it read before'; 0 by the template 'total and deterministic' (their statements: YtdnohhlgaaihmaaTotals.lean).
  GIVEN WITH THE SEED: the statements are not yours to turn. If you find one false, say at which input.
  Laid BY PROGRAM, IN A SANDBOX (cutbox-rows.mjs): the forced cells as the released guide's own fill.sh prints them over the translation 0f6743e7e1830b3b… (all of the seat's roots in one cut). By AI agents, Wed Nov 11 2026. No macro, syntax, notation, axiom, sorry.
-/
import Derived.Test.YtdnohhlgaaihmaaChecked
import GoSem.Claim
import GoSem.ClaimJoined
import GoSem.ClaimMapViews
import Derived.JoinedTies
import Derived.KernelRfl
namespace Go.Proofs.Ytdnohhlgaaihmaa
/- THE CELL 'sum', in the pinned program and in every row, IS THE sha256 OF THE DUMP (.gsa) THAT YtdnohhlgaaihmaaProg.lean LOADS. Nothing in Lean hashes anything: it is a label: what it is worth is what the hold of that sum in a sandbox is worth. -/
noncomputable def Try.pinned : Pinned := { name := "ytdnohhlgaaihmaa", sum := "0f6743e7e1830b3bc5f126d7e9d5634b563b9ba0b73b6cc7b04f6dbadef8a401", checked := Try.checked }
namespace Rows
def none {H : Type} : Left H := { results := [], args := [] }

/-- 'codicillaw16.BufferWalks': WHATEVER THE INPUT: true; the input reads as it did. -/
def bufferWalksSpec : ChangeSpec := { name := "bufferWalks", fn := fun _ => fun
  | [d1, d2] => { results := [.lit (.bool true)], args := [d1, d2] }
  | _ => none }
def bufferWalksRow : OpenClaim := { program := "ytdnohhlgaaihmaa", sum := "0f6743e7e1830b3bc5f126d7e9d5634b563b9ba0b73b6cc7b04f6dbadef8a401", func := "codicil/codicillaw16.BufferWalks", spec := "bufferWalks", inPlace := ["internal/bytealg.Compare", "slices.overlaps[codicil/api.Change]"], unfollowed := true, recurses := true, apart := false }
def BufferWalksSaid : Prop := bufferWalksRow.holds Try.pinned (OpenSpec.ofChange bufferWalksSpec)

/-- ITS FALSE NEIGHBOUR: 'it returns false'. Refute it at one input. -/
def bufferWalksWrong : ChangeSpec := { name := "bufferWalks", fn := fun _ => fun
  | [d1, d2] => { results := [.lit (.bool false)], args := [d1, d2] }
  | _ => none }
def BufferWalksWrongFalsely : Prop := bufferWalksRow.holds Try.pinned (OpenSpec.ofChange bufferWalksWrong)

/-- 'codicillaw16.BufferErrors': WHATEVER THE INPUT: true; the input reads as it did. -/
def bufferErrorsSpec : ChangeSpec := { name := "bufferErrors", fn := fun _ => fun
  | [d1, d2, d3, d4, d5] => { results := [.lit (.bool true)], args := [d1, d2, d3, d4, d5] }
  | _ => none }
def bufferErrorsRow : OpenClaim := { program := "ytdnohhlgaaihmaa", sum := "0f6743e7e1830b3bc5f126d7e9d5634b563b9ba0b73b6cc7b04f6dbadef8a401", func := "codicil/codicillaw16.BufferErrors", spec := "bufferErrors", inPlace := ["internal/bytealg.Compare", "slices.overlaps[codicil/api.Change]"], unfollowed := true, recurses := true, apart := false }
def BufferErrorsSaid : Prop := bufferErrorsRow.holds Try.pinned (OpenSpec.ofChange bufferErrorsSpec)

/-- ITS FALSE NEIGHBOUR: 'it returns false'. Refute it at one input. -/
def bufferErrorsWrong : ChangeSpec := { name := "bufferErrors", fn := fun _ => fun
  | [d1, d2, d3, d4, d5] => { results := [.lit (.bool false)], args := [d1, d2, d3, d4, d5] }
  | _ => none }
def BufferErrorsWrongFalsely : Prop := bufferErrorsRow.holds Try.pinned (OpenSpec.ofChange bufferErrorsWrong)

/-- 'codicillaw16.BufferLast': WHATEVER THE INPUT: true; the input reads as it did. -/
def bufferLastSpec : ChangeSpec := { name := "bufferLast", fn := fun _ => fun
  | [d] => { results := [.lit (.bool true)], args := [d] }
  | _ => none }
def bufferLastRow : OpenClaim := { program := "ytdnohhlgaaihmaa", sum := "0f6743e7e1830b3bc5f126d7e9d5634b563b9ba0b73b6cc7b04f6dbadef8a401", func := "codicil/codicillaw16.BufferLast", spec := "bufferLast", inPlace := ["internal/bytealg.Compare", "slices.overlaps[codicil/api.Change]"], unfollowed := true, recurses := true, apart := false }
def BufferLastSaid : Prop := bufferLastRow.holds Try.pinned (OpenSpec.ofChange bufferLastSpec)

/-- ITS FALSE NEIGHBOUR: 'it returns false'. Refute it at one input. -/
def bufferLastWrong : ChangeSpec := { name := "bufferLast", fn := fun _ => fun
  | [d] => { results := [.lit (.bool false)], args := [d] }
  | _ => none }
def BufferLastWrongFalsely : Prop := bufferLastRow.holds Try.pinned (OpenSpec.ofChange bufferLastWrong)

/-- 'codicillaw16.BufferBacks': WHATEVER THE INPUT: true; the input reads as it did. -/
def bufferBacksSpec : ChangeSpec := { name := "bufferBacks", fn := fun _ => fun
  | [d1, d2] => { results := [.lit (.bool true)], args := [d1, d2] }
  | _ => none }
def bufferBacksRow : OpenClaim := { program := "ytdnohhlgaaihmaa", sum := "0f6743e7e1830b3bc5f126d7e9d5634b563b9ba0b73b6cc7b04f6dbadef8a401", func := "codicil/codicillaw16.BufferBacks", spec := "bufferBacks", inPlace := ["internal/bytealg.Compare", "slices.overlaps[codicil/api.Change]"], unfollowed := true, recurses := true, apart := false }
def BufferBacksSaid : Prop := bufferBacksRow.holds Try.pinned (OpenSpec.ofChange bufferBacksSpec)

/-- ITS FALSE NEIGHBOUR: 'it returns false'. Refute it at one input. -/
def bufferBacksWrong : ChangeSpec := { name := "bufferBacks", fn := fun _ => fun
  | [d1, d2] => { results := [.lit (.bool false)], args := [d1, d2] }
  | _ => none }
def BufferBacksWrongFalsely : Prop := bufferBacksRow.holds Try.pinned (OpenSpec.ofChange bufferBacksWrong)

/-- 'codicillaw16.BufferDoes': WHATEVER THE INPUT: true; the input reads as it did. -/
def bufferDoesSpec : ChangeSpec := { name := "bufferDoes", fn := fun _ => fun
  | [d1, d2] => { results := [.lit (.bool true)], args := [d1, d2] }
  | _ => none }
def bufferDoesRow : OpenClaim := { program := "ytdnohhlgaaihmaa", sum := "0f6743e7e1830b3bc5f126d7e9d5634b563b9ba0b73b6cc7b04f6dbadef8a401", func := "codicil/codicillaw16.BufferDoes", spec := "bufferDoes", inPlace := ["internal/bytealg.Compare", "slices.overlaps[codicil/api.Change]"], unfollowed := true, recurses := true, apart := false }
def BufferDoesSaid : Prop := bufferDoesRow.holds Try.pinned (OpenSpec.ofChange bufferDoesSpec)

/-- ITS FALSE NEIGHBOUR: 'it returns false'. Refute it at one input. -/
def bufferDoesWrong : ChangeSpec := { name := "bufferDoes", fn := fun _ => fun
  | [d1, d2] => { results := [.lit (.bool false)], args := [d1, d2] }
  | _ => none }
def BufferDoesWrongFalsely : Prop := bufferDoesRow.holds Try.pinned (OpenSpec.ofChange bufferDoesWrong)

/-- 'codicillaw17.ReadsTurns': WHATEVER THE INPUT: true; the input reads as it did. -/
def readsTurnsSpec : ChangeSpec := { name := "readsTurns", fn := fun _ => fun
  | [d1, d2, d3] => { results := [.lit (.bool true)], args := [d1, d2, d3] }
  | _ => none }
def readsTurnsRow : OpenClaim := { program := "ytdnohhlgaaihmaa", sum := "0f6743e7e1830b3bc5f126d7e9d5634b563b9ba0b73b6cc7b04f6dbadef8a401", func := "codicil/codicillaw17.ReadsTurns", spec := "readsTurns", inPlace := ["internal/bytealg.Compare", "slices.overlaps[codicil/api.Span]"], unfollowed := true, recurses := true, apart := false }
def ReadsTurnsSaid : Prop := readsTurnsRow.holds Try.pinned (OpenSpec.ofChange readsTurnsSpec)

/-- ITS FALSE NEIGHBOUR: 'it returns false'. Refute it at one input. -/
def readsTurnsWrong : ChangeSpec := { name := "readsTurns", fn := fun _ => fun
  | [d1, d2, d3] => { results := [.lit (.bool false)], args := [d1, d2, d3] }
  | _ => none }
def ReadsTurnsWrongFalsely : Prop := readsTurnsRow.holds Try.pinned (OpenSpec.ofChange readsTurnsWrong)

/-- 'codicillaw17.ReadsTells': WHATEVER THE INPUT: true; the input reads as it did. -/
def readsTellsSpec : ChangeSpec := { name := "readsTells", fn := fun _ => fun
  | [d1, d2, d3] => { results := [.lit (.bool true)], args := [d1, d2, d3] }
  | _ => none }
def readsTellsRow : OpenClaim := { program := "ytdnohhlgaaihmaa", sum := "0f6743e7e1830b3bc5f126d7e9d5634b563b9ba0b73b6cc7b04f6dbadef8a401", func := "codicil/codicillaw17.ReadsTells", spec := "readsTells", inPlace := ["internal/bytealg.Compare", "slices.overlaps[codicil/api.Span]"], unfollowed := true, recurses := true, apart := false }
def ReadsTellsSaid : Prop := readsTellsRow.holds Try.pinned (OpenSpec.ofChange readsTellsSpec)

/-- ITS FALSE NEIGHBOUR: 'it returns false'. Refute it at one input. -/
def readsTellsWrong : ChangeSpec := { name := "readsTells", fn := fun _ => fun
  | [d1, d2, d3] => { results := [.lit (.bool false)], args := [d1, d2, d3] }
  | _ => none }
def ReadsTellsWrongFalsely : Prop := readsTellsRow.holds Try.pinned (OpenSpec.ofChange readsTellsWrong)

/-- 'codicillaw17.ReadsSpans': WHATEVER THE INPUT: true; the input reads as it did. -/
def readsSpansSpec : ChangeSpec := { name := "readsSpans", fn := fun _ => fun
  | [d1, d2, d3] => { results := [.lit (.bool true)], args := [d1, d2, d3] }
  | _ => none }
def readsSpansRow : OpenClaim := { program := "ytdnohhlgaaihmaa", sum := "0f6743e7e1830b3bc5f126d7e9d5634b563b9ba0b73b6cc7b04f6dbadef8a401", func := "codicil/codicillaw17.ReadsSpans", spec := "readsSpans", inPlace := ["internal/bytealg.Compare", "slices.overlaps[codicil/api.Span]"], unfollowed := true, recurses := true, apart := false }
def ReadsSpansSaid : Prop := readsSpansRow.holds Try.pinned (OpenSpec.ofChange readsSpansSpec)

/-- ITS FALSE NEIGHBOUR: 'it returns false'. Refute it at one input. -/
def readsSpansWrong : ChangeSpec := { name := "readsSpans", fn := fun _ => fun
  | [d1, d2, d3] => { results := [.lit (.bool false)], args := [d1, d2, d3] }
  | _ => none }
def ReadsSpansWrongFalsely : Prop := readsSpansRow.holds Try.pinned (OpenSpec.ofChange readsSpansWrong)

/-- 'codicillaw17.ReadsGrows': WHATEVER THE INPUT: true; the input reads as it did. -/
def readsGrowsSpec : ChangeSpec := { name := "readsGrows", fn := fun _ => fun
  | [d1, d2, d3, d4] => { results := [.lit (.bool true)], args := [d1, d2, d3, d4] }
  | _ => none }
def readsGrowsRow : OpenClaim := { program := "ytdnohhlgaaihmaa", sum := "0f6743e7e1830b3bc5f126d7e9d5634b563b9ba0b73b6cc7b04f6dbadef8a401", func := "codicil/codicillaw17.ReadsGrows", spec := "readsGrows", inPlace := ["internal/bytealg.Compare", "slices.overlaps[codicil/api.Span]"], unfollowed := true, recurses := true, apart := false }
def ReadsGrowsSaid : Prop := readsGrowsRow.holds Try.pinned (OpenSpec.ofChange readsGrowsSpec)

/-- ITS FALSE NEIGHBOUR: 'it returns false'. Refute it at one input. -/
def readsGrowsWrong : ChangeSpec := { name := "readsGrows", fn := fun _ => fun
  | [d1, d2, d3, d4] => { results := [.lit (.bool false)], args := [d1, d2, d3, d4] }
  | _ => none }
def ReadsGrowsWrongFalsely : Prop := readsGrowsRow.holds Try.pinned (OpenSpec.ofChange readsGrowsWrong)

/- THE SECOND FORM. 'bulk': how many values and letters a reading holds, each counted each time it is reached (what is shared counts as often as it is met; a slice's spare places count too). A statement '..UptoSaid' is the law's where the arguments, and the package variables that the reading takes, are together of bulk at most 1048576: NARROWER than '..Said'. Prove '..Said' where nothing that the law and all that it calls make is longer than what came in: it says more and counts as full. Else prove '..UptoSaid'. A law counts once. -/
mutual
def uptoBulk {H : Type} : DataW H → Nat
  | .lit (.string bytes) => bytes.length + 1
  | .lit _ => 1
  | .nil => 1
  | .ptr d => uptoBulk d + 1
  | .slice elems spare => uptoBulkAll elems + uptoBulkAll spare + 1
  | .agg parts => uptoBulkAll parts + 1
  | .iface _ d => uptoBulk d + 1
  | .map entries => uptoBulkEntries entries + 1
  | .held _ => 1
def uptoBulkAll {H : Type} : List (DataW H) → Nat
  | [] => 0
  | d :: r => uptoBulk d + uptoBulkAll r
def uptoBulkEntries {H : Type} : List (Lit × DataW H) → Nat
  | [] => 0
  | x :: r => uptoBulkEntry x + uptoBulkEntries r
def uptoBulkEntry {H : Type} : Lit × DataW H → Nat
  | (.string bytes, d) => bytes.length + uptoBulk d + 1
  | (_, d) => uptoBulk d + 1
 end
def uptoSmall : (H : Type) → List (DataW H) → Bool := fun _ ds => decide (uptoBulkAll ds ≤ 1048576)
def OpenSpec.upto (s : _root_.Go.ChangeSpec) : _root_.Go.OpenSpec := { _root_.Go.OpenSpec.ofChange s with cond := some uptoSmall }

/-- 'codicillaw16.BufferWalks', WHERE WHAT IT READS IS OF BULK AT MOST 1048576: true; the input reads as it did. -/
def bufferWalksUptoRow : OpenClaim := { program := "ytdnohhlgaaihmaa", sum := "0f6743e7e1830b3bc5f126d7e9d5634b563b9ba0b73b6cc7b04f6dbadef8a401", func := "codicil/codicillaw16.BufferWalks", spec := "bufferWalks", inPlace := ["internal/bytealg.Compare", "slices.overlaps[codicil/api.Change]"], unfollowed := true, recurses := true, apart := false, narrowed := true }
def BufferWalksUptoSaid : Prop := bufferWalksUptoRow.holds Try.pinned (OpenSpec.upto bufferWalksSpec)

/-- 'codicillaw16.BufferErrors', WHERE WHAT IT READS IS OF BULK AT MOST 1048576: true; the input reads as it did. -/
def bufferErrorsUptoRow : OpenClaim := { program := "ytdnohhlgaaihmaa", sum := "0f6743e7e1830b3bc5f126d7e9d5634b563b9ba0b73b6cc7b04f6dbadef8a401", func := "codicil/codicillaw16.BufferErrors", spec := "bufferErrors", inPlace := ["internal/bytealg.Compare", "slices.overlaps[codicil/api.Change]"], unfollowed := true, recurses := true, apart := false, narrowed := true }
def BufferErrorsUptoSaid : Prop := bufferErrorsUptoRow.holds Try.pinned (OpenSpec.upto bufferErrorsSpec)

/-- 'codicillaw16.BufferLast', WHERE WHAT IT READS IS OF BULK AT MOST 1048576: true; the input reads as it did. -/
def bufferLastUptoRow : OpenClaim := { program := "ytdnohhlgaaihmaa", sum := "0f6743e7e1830b3bc5f126d7e9d5634b563b9ba0b73b6cc7b04f6dbadef8a401", func := "codicil/codicillaw16.BufferLast", spec := "bufferLast", inPlace := ["internal/bytealg.Compare", "slices.overlaps[codicil/api.Change]"], unfollowed := true, recurses := true, apart := false, narrowed := true }
def BufferLastUptoSaid : Prop := bufferLastUptoRow.holds Try.pinned (OpenSpec.upto bufferLastSpec)

/-- 'codicillaw16.BufferBacks', WHERE WHAT IT READS IS OF BULK AT MOST 1048576: true; the input reads as it did. -/
def bufferBacksUptoRow : OpenClaim := { program := "ytdnohhlgaaihmaa", sum := "0f6743e7e1830b3bc5f126d7e9d5634b563b9ba0b73b6cc7b04f6dbadef8a401", func := "codicil/codicillaw16.BufferBacks", spec := "bufferBacks", inPlace := ["internal/bytealg.Compare", "slices.overlaps[codicil/api.Change]"], unfollowed := true, recurses := true, apart := false, narrowed := true }
def BufferBacksUptoSaid : Prop := bufferBacksUptoRow.holds Try.pinned (OpenSpec.upto bufferBacksSpec)

/-- 'codicillaw16.BufferDoes', WHERE WHAT IT READS IS OF BULK AT MOST 1048576: true; the input reads as it did. -/
def bufferDoesUptoRow : OpenClaim := { program := "ytdnohhlgaaihmaa", sum := "0f6743e7e1830b3bc5f126d7e9d5634b563b9ba0b73b6cc7b04f6dbadef8a401", func := "codicil/codicillaw16.BufferDoes", spec := "bufferDoes", inPlace := ["internal/bytealg.Compare", "slices.overlaps[codicil/api.Change]"], unfollowed := true, recurses := true, apart := false, narrowed := true }
def BufferDoesUptoSaid : Prop := bufferDoesUptoRow.holds Try.pinned (OpenSpec.upto bufferDoesSpec)

/-- 'codicillaw17.ReadsTurns', WHERE WHAT IT READS IS OF BULK AT MOST 1048576: true; the input reads as it did. -/
def readsTurnsUptoRow : OpenClaim := { program := "ytdnohhlgaaihmaa", sum := "0f6743e7e1830b3bc5f126d7e9d5634b563b9ba0b73b6cc7b04f6dbadef8a401", func := "codicil/codicillaw17.ReadsTurns", spec := "readsTurns", inPlace := ["internal/bytealg.Compare", "slices.overlaps[codicil/api.Span]"], unfollowed := true, recurses := true, apart := false, narrowed := true }
def ReadsTurnsUptoSaid : Prop := readsTurnsUptoRow.holds Try.pinned (OpenSpec.upto readsTurnsSpec)

/-- 'codicillaw17.ReadsTells', WHERE WHAT IT READS IS OF BULK AT MOST 1048576: true; the input reads as it did. -/
def readsTellsUptoRow : OpenClaim := { program := "ytdnohhlgaaihmaa", sum := "0f6743e7e1830b3bc5f126d7e9d5634b563b9ba0b73b6cc7b04f6dbadef8a401", func := "codicil/codicillaw17.ReadsTells", spec := "readsTells", inPlace := ["internal/bytealg.Compare", "slices.overlaps[codicil/api.Span]"], unfollowed := true, recurses := true, apart := false, narrowed := true }
def ReadsTellsUptoSaid : Prop := readsTellsUptoRow.holds Try.pinned (OpenSpec.upto readsTellsSpec)

/-- 'codicillaw17.ReadsSpans', WHERE WHAT IT READS IS OF BULK AT MOST 1048576: true; the input reads as it did. -/
def readsSpansUptoRow : OpenClaim := { program := "ytdnohhlgaaihmaa", sum := "0f6743e7e1830b3bc5f126d7e9d5634b563b9ba0b73b6cc7b04f6dbadef8a401", func := "codicil/codicillaw17.ReadsSpans", spec := "readsSpans", inPlace := ["internal/bytealg.Compare", "slices.overlaps[codicil/api.Span]"], unfollowed := true, recurses := true, apart := false, narrowed := true }
def ReadsSpansUptoSaid : Prop := readsSpansUptoRow.holds Try.pinned (OpenSpec.upto readsSpansSpec)

/-- 'codicillaw17.ReadsGrows', WHERE WHAT IT READS IS OF BULK AT MOST 1048576: true; the input reads as it did. -/
def readsGrowsUptoRow : OpenClaim := { program := "ytdnohhlgaaihmaa", sum := "0f6743e7e1830b3bc5f126d7e9d5634b563b9ba0b73b6cc7b04f6dbadef8a401", func := "codicil/codicillaw17.ReadsGrows", spec := "readsGrows", inPlace := ["internal/bytealg.Compare", "slices.overlaps[codicil/api.Span]"], unfollowed := true, recurses := true, apart := false, narrowed := true }
def ReadsGrowsUptoSaid : Prop := readsGrowsUptoRow.holds Try.pinned (OpenSpec.upto readsGrowsSpec)

end Rows
end Go.Proofs.Ytdnohhlgaaihmaa
