/-
  DERIVED. GIVEN WITH THE SEED: THE CARDS: each row of YtgcicljklejmjaaDoorRows.lean that lists a variable, with what it lists TIED to the program's text (the seventh form; the later family's looks); each row that meets fmt, with fmt's text TOLD by the authors' own Lean function (tested against real Go, not proved from fmt's source: count such statements apart). THE CARD IS WHAT COUNTS. Prove the row's statement (the work); the ties are given (YtgcicljklejmjaaDoorTie.lean); close each card by the builder's one call (the guide's Derived/Test/ToyasCard.lean, 'card_holds'). Laid BY PROGRAM, IN A SANDBOX (cutbox-door.mjs). By AI agents, Wed Nov 11 2026. No macro, syntax, notation, axiom, sorry.
-/
import Derived.Test.YtgcicljklejmjaaDoorRows
import GoSem.ClaimSeven
namespace Go.Proofs.YtgcicljklejmjaaDoor
namespace Rows

/-- THE TIED CARD OF 'codicillaw04.KeyReads'. -/
def keyReadsCard : Claim7 := { stood := { row := keyReadsRow, standIns := [], harness := (true, "c10feb994d9f5d6ba68d22207089292e790b80be4dcdfb552724b101d0fd382d"), looks := false }, kinds := [], alts := [], laidByText := true, laidKinds := [.data, .pinned], laidTests := true, laidLooks := .later }
def KeyReadsCardSaid : Prop := Claim7.holds Tryd.pinned (.plain (OpenSpec.ofChange keyReadsSpec)) keyReadsCard

/-- THE TIED CARD OF 'codicillaw04.KeyOrder'. -/
def keyOrderCard : Claim7 := { stood := { row := keyOrderRow, standIns := [], harness := (true, "c10feb994d9f5d6ba68d22207089292e790b80be4dcdfb552724b101d0fd382d"), looks := false }, kinds := [], alts := [], laidByText := true, laidKinds := [.data, .pinned], laidTests := true, laidLooks := .later }
def KeyOrderCardSaid : Prop := Claim7.holds Tryd.pinned (.plain (OpenSpec.ofChange keyOrderSpec)) keyOrderCard

/-- THE TIED CARD OF 'codicillaw04.KeyBack'. -/
def keyBackCard : Claim7 := { stood := { row := keyBackRow, standIns := [], harness := (true, "c10feb994d9f5d6ba68d22207089292e790b80be4dcdfb552724b101d0fd382d"), looks := false }, kinds := [], alts := [], laidByText := true, laidKinds := [.data, .pinned], laidTests := true, laidLooks := .later }
def KeyBackCardSaid : Prop := Claim7.holds Tryd.pinned (.plain (OpenSpec.ofChange keyBackSpec)) keyBackCard

/-- THE TIED CARD OF 'codicillaw04.KeyBegins'. -/
def keyBeginsCard : Claim7 := { stood := { row := keyBeginsRow, standIns := [], harness := (true, "c10feb994d9f5d6ba68d22207089292e790b80be4dcdfb552724b101d0fd382d"), looks := false }, kinds := [], alts := [], laidByText := true, laidKinds := [.data, .pinned], laidTests := true, laidLooks := .later }
def KeyBeginsCardSaid : Prop := Claim7.holds Tryd.pinned (.plain (OpenSpec.ofChange keyBeginsSpec)) keyBeginsCard

/-- THE TIED CARD OF 'codicillaw04.KeyTakes'. -/
def keyTakesCard : Claim7 := { stood := { row := keyTakesRow, standIns := [], harness := (true, "c10feb994d9f5d6ba68d22207089292e790b80be4dcdfb552724b101d0fd382d"), looks := false }, kinds := [], alts := [], laidByText := true, laidKinds := [.data, .pinned], laidTests := true, laidLooks := .later }
def KeyTakesCardSaid : Prop := Claim7.holds Tryd.pinned (.plain (OpenSpec.ofChange keyTakesSpec)) keyTakesCard

/-- THE TIED CARD OF 'codicillaw04.KeyTurned'. -/
def keyTurnedCard : Claim7 := { stood := { row := keyTurnedRow, standIns := [], harness := (true, "c10feb994d9f5d6ba68d22207089292e790b80be4dcdfb552724b101d0fd382d"), looks := false }, kinds := [], alts := [], laidByText := true, laidKinds := [.data, .pinned], laidTests := true, laidLooks := .later }
def KeyTurnedCardSaid : Prop := Claim7.holds Tryd.pinned (.plain (OpenSpec.ofChange keyTurnedSpec)) keyTurnedCard

/-- THE TIED CARD OF 'codicillaw04.KeyWithin'. -/
def keyWithinCard : Claim7 := { stood := { row := keyWithinRow, standIns := [], harness := (true, "c10feb994d9f5d6ba68d22207089292e790b80be4dcdfb552724b101d0fd382d"), looks := false }, kinds := [], alts := [], laidByText := true, laidKinds := [.data, .pinned], laidTests := true, laidLooks := .later }
def KeyWithinCardSaid : Prop := Claim7.holds Tryd.pinned (.plain (OpenSpec.ofChange keyWithinSpec)) keyWithinCard

/-- THE SECOND FORM's CARD OF 'codicillaw04.KeyReads'. -/
def keyReadsUptoCard : Claim7 := { stood := { row := keyReadsUptoRow, standIns := [], harness := (true, "c10feb994d9f5d6ba68d22207089292e790b80be4dcdfb552724b101d0fd382d"), looks := false }, kinds := [], alts := [], laidByText := true, laidKinds := [.data, .pinned], laidTests := true, laidLooks := .later }
def KeyReadsUptoCardSaid : Prop := Claim7.holds Tryd.pinned (.plain (OpenSpec.upto keyReadsSpec)) keyReadsUptoCard

/-- THE SECOND FORM's CARD OF 'codicillaw04.KeyOrder'. -/
def keyOrderUptoCard : Claim7 := { stood := { row := keyOrderUptoRow, standIns := [], harness := (true, "c10feb994d9f5d6ba68d22207089292e790b80be4dcdfb552724b101d0fd382d"), looks := false }, kinds := [], alts := [], laidByText := true, laidKinds := [.data, .pinned], laidTests := true, laidLooks := .later }
def KeyOrderUptoCardSaid : Prop := Claim7.holds Tryd.pinned (.plain (OpenSpec.upto keyOrderSpec)) keyOrderUptoCard

/-- THE SECOND FORM's CARD OF 'codicillaw04.KeyBack'. -/
def keyBackUptoCard : Claim7 := { stood := { row := keyBackUptoRow, standIns := [], harness := (true, "c10feb994d9f5d6ba68d22207089292e790b80be4dcdfb552724b101d0fd382d"), looks := false }, kinds := [], alts := [], laidByText := true, laidKinds := [.data, .pinned], laidTests := true, laidLooks := .later }
def KeyBackUptoCardSaid : Prop := Claim7.holds Tryd.pinned (.plain (OpenSpec.upto keyBackSpec)) keyBackUptoCard

/-- THE SECOND FORM's CARD OF 'codicillaw04.KeyBegins'. -/
def keyBeginsUptoCard : Claim7 := { stood := { row := keyBeginsUptoRow, standIns := [], harness := (true, "c10feb994d9f5d6ba68d22207089292e790b80be4dcdfb552724b101d0fd382d"), looks := false }, kinds := [], alts := [], laidByText := true, laidKinds := [.data, .pinned], laidTests := true, laidLooks := .later }
def KeyBeginsUptoCardSaid : Prop := Claim7.holds Tryd.pinned (.plain (OpenSpec.upto keyBeginsSpec)) keyBeginsUptoCard

/-- THE SECOND FORM's CARD OF 'codicillaw04.KeyTakes'. -/
def keyTakesUptoCard : Claim7 := { stood := { row := keyTakesUptoRow, standIns := [], harness := (true, "c10feb994d9f5d6ba68d22207089292e790b80be4dcdfb552724b101d0fd382d"), looks := false }, kinds := [], alts := [], laidByText := true, laidKinds := [.data, .pinned], laidTests := true, laidLooks := .later }
def KeyTakesUptoCardSaid : Prop := Claim7.holds Tryd.pinned (.plain (OpenSpec.upto keyTakesSpec)) keyTakesUptoCard

/-- THE SECOND FORM's CARD OF 'codicillaw04.KeyTurned'. -/
def keyTurnedUptoCard : Claim7 := { stood := { row := keyTurnedUptoRow, standIns := [], harness := (true, "c10feb994d9f5d6ba68d22207089292e790b80be4dcdfb552724b101d0fd382d"), looks := false }, kinds := [], alts := [], laidByText := true, laidKinds := [.data, .pinned], laidTests := true, laidLooks := .later }
def KeyTurnedUptoCardSaid : Prop := Claim7.holds Tryd.pinned (.plain (OpenSpec.upto keyTurnedSpec)) keyTurnedUptoCard

/-- THE SECOND FORM's CARD OF 'codicillaw04.KeyWithin'. -/
def keyWithinUptoCard : Claim7 := { stood := { row := keyWithinUptoRow, standIns := [], harness := (true, "c10feb994d9f5d6ba68d22207089292e790b80be4dcdfb552724b101d0fd382d"), looks := false }, kinds := [], alts := [], laidByText := true, laidKinds := [.data, .pinned], laidTests := true, laidLooks := .later }
def KeyWithinUptoCardSaid : Prop := Claim7.holds Tryd.pinned (.plain (OpenSpec.upto keyWithinSpec)) keyWithinUptoCard
end Rows
end Go.Proofs.YtgcicljklejmjaaDoor
