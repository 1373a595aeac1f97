/-
  DERIVED. GIVEN WITH THE SEED: THE CARDS: each row of YtgcicljklejmjaaGreatDoorRows.lean that lists a variable, with what it lists TIED to the program's text (the seventh form; the later family's looks); each row that meets fmt, with fmt's text TOLD by the authors' own Lean function (tested against real Go, not proved from fmt's source: count such statements apart). THE CARD IS WHAT COUNTS. Prove the row's statement (the work); the ties are given (YtgcicljklejmjaaGreatDoorTie.lean); close each card by the builder's one call (the guide's Derived/Test/ToyasCard.lean, 'card_holds'). Laid BY PROGRAM, IN A SANDBOX (cutbox-door.mjs). By AI agents, Wed Nov 11 2026. No macro, syntax, notation, axiom, sorry.
-/
import Derived.Test.YtgcicljklejmjaaGreatDoorRows
import GoSem.ClaimSeven
namespace Go.Proofs.YtgcicljklejmjaaGreatDoor
namespace Rows

/-- THE TIED CARD OF 'codicillaw04.KeyWrites'. -/
def keyWritesCard : Claim7 := { stood := { row := keyWritesRow, standIns := [], harness := (true, "60e2e9670dec8d349c989c9d9b41602b94e67f04855d9b0c1b97b7cede5a07dc"), looks := true }, kinds := [], alts := [], laidByText := true, laidKinds := [.data, .pinned], laidTests := true, laidLooks := .later }
def KeyWritesCardSaid : Prop := Claim7.holds Tryz.pinned (.plain (OpenSpec.ofChange keyWritesSpec)) keyWritesCard

/-- THE TIED CARD OF 'codicillaw04.KeyOthers'. -/
def keyOthersCard : Claim7 := { stood := { row := keyOthersRow, standIns := [], harness := (true, "60e2e9670dec8d349c989c9d9b41602b94e67f04855d9b0c1b97b7cede5a07dc"), looks := true }, kinds := [], alts := [], laidByText := true, laidKinds := [.data, .pinned], laidTests := true, laidLooks := .later }
def KeyOthersCardSaid : Prop := Claim7.holds Tryz.pinned (.plain (OpenSpec.ofChange keyOthersSpec)) keyOthersCard

/-- THE SECOND FORM's CARD OF 'codicillaw04.KeyWrites'. -/
def keyWritesUptoCard : Claim7 := { stood := { row := keyWritesUptoRow, standIns := [], harness := (true, "60e2e9670dec8d349c989c9d9b41602b94e67f04855d9b0c1b97b7cede5a07dc"), looks := true }, kinds := [], alts := [], laidByText := true, laidKinds := [.data, .pinned], laidTests := true, laidLooks := .later }
def KeyWritesUptoCardSaid : Prop := Claim7.holds Tryz.pinned (.plain (OpenSpec.upto keyWritesSpec)) keyWritesUptoCard

/-- THE SECOND FORM's CARD OF 'codicillaw04.KeyOthers'. -/
def keyOthersUptoCard : Claim7 := { stood := { row := keyOthersUptoRow, standIns := [], harness := (true, "60e2e9670dec8d349c989c9d9b41602b94e67f04855d9b0c1b97b7cede5a07dc"), looks := true }, kinds := [], alts := [], laidByText := true, laidKinds := [.data, .pinned], laidTests := true, laidLooks := .later }
def KeyOthersUptoCardSaid : Prop := Claim7.holds Tryz.pinned (.plain (OpenSpec.upto keyOthersSpec)) keyOthersUptoCard
end Rows
end Go.Proofs.YtgcicljklejmjaaGreatDoor
