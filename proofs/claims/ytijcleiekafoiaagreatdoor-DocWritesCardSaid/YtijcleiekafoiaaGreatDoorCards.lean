/-
  DERIVED. GIVEN WITH THE SEED: THE CARDS: each row of YtijcleiekafoiaaGreatDoorRows.lean that lists a variable, with what it lists TIED to the program's text (the seventh form; the later family's looks); each row that meets fmt, with fmt's text TOLD by the authors' own Lean function (tested against real Go, not proved from fmt's source: count such statements apart). THE CARD IS WHAT COUNTS. Prove the row's statement (the work); the ties are given (YtijcleiekafoiaaGreatDoorTie.lean); close each card by the builder's one call (the guide's Derived/Test/ToyasCard.lean, 'card_holds'). Laid BY PROGRAM, IN A SANDBOX (cutbox-door.mjs). By AI agents, Wed Nov 11 2026. No macro, syntax, notation, axiom, sorry.
-/
import Derived.Test.YtijcleiekafoiaaGreatDoorRows
import GoSem.ClaimSeven
namespace Go.Proofs.YtijcleiekafoiaaGreatDoor
namespace Rows

/-- THE TIED CARD OF 'codicillaw05.DocWrites'. -/
def docWritesCard : Claim7 := { stood := { row := docWritesRow, standIns := [], harness := (true, "62290f4a55d124e300821eab859c1a5a79a6f26155305a56b8d7499be71d4ee8"), looks := false }, kinds := [], alts := [], laidByText := true, laidKinds := [.data, .pinned], laidTests := true, laidLooks := .later }
def DocWritesCardSaid : Prop := Claim7.holds Tryz.pinned (.plain (OpenSpec.ofChange docWritesSpec)) docWritesCard

/-- THE TIED CARD OF 'codicillaw05.DocReads'. -/
def docReadsCard : Claim7 := { stood := { row := docReadsRow, standIns := [], harness := (true, "62290f4a55d124e300821eab859c1a5a79a6f26155305a56b8d7499be71d4ee8"), looks := false }, kinds := [], alts := [], laidByText := true, laidKinds := [.data, .pinned], laidTests := true, laidLooks := .later }
def DocReadsCardSaid : Prop := Claim7.holds Tryz.pinned (.plain (OpenSpec.ofChange docReadsSpec)) docReadsCard

/-- THE SECOND FORM's CARD OF 'codicillaw05.DocWrites'. -/
def docWritesUptoCard : Claim7 := { stood := { row := docWritesUptoRow, standIns := [], harness := (true, "62290f4a55d124e300821eab859c1a5a79a6f26155305a56b8d7499be71d4ee8"), looks := false }, kinds := [], alts := [], laidByText := true, laidKinds := [.data, .pinned], laidTests := true, laidLooks := .later }
def DocWritesUptoCardSaid : Prop := Claim7.holds Tryz.pinned (.plain (OpenSpec.upto docWritesSpec)) docWritesUptoCard

/-- THE SECOND FORM's CARD OF 'codicillaw05.DocReads'. -/
def docReadsUptoCard : Claim7 := { stood := { row := docReadsUptoRow, standIns := [], harness := (true, "62290f4a55d124e300821eab859c1a5a79a6f26155305a56b8d7499be71d4ee8"), looks := false }, kinds := [], alts := [], laidByText := true, laidKinds := [.data, .pinned], laidTests := true, laidLooks := .later }
def DocReadsUptoCardSaid : Prop := Claim7.holds Tryz.pinned (.plain (OpenSpec.upto docReadsSpec)) docReadsUptoCard
end Rows
end Go.Proofs.YtijcleiekafoiaaGreatDoor
