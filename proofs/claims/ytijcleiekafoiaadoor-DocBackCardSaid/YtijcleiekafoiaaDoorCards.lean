/-
  DERIVED. GIVEN WITH THE SEED: THE CARDS: each row of YtijcleiekafoiaaDoorRows.lean that lists a variable, with what it lists TIED to the program's text (the seventh form; the later family's looks); each row that meets fmt, with fmt's text TOLD by the authors' own Lean function (tested against real Go, not proved from fmt's source: count such statements apart). THE CARD IS WHAT COUNTS. Prove the row's statement (the work); the ties are given (YtijcleiekafoiaaDoorTie.lean); close each card by the builder's one call (the guide's Derived/Test/ToyasCard.lean, 'card_holds'). Laid BY PROGRAM, IN A SANDBOX (cutbox-door.mjs). By AI agents, Wed Nov 11 2026. No macro, syntax, notation, axiom, sorry.
-/
import Derived.Test.YtijcleiekafoiaaDoorRows
import GoSem.ClaimSeven
namespace Go.Proofs.YtijcleiekafoiaaDoor
namespace Rows

/-- THE TIED CARD OF 'codicillaw05.DocBack'. -/
def docBackCard : Claim7 := { stood := { row := docBackRow, standIns := [], harness := (true, "3f4ee8711b1a3c5033a020c988078cd0253fafa31de1eb52a4c71f903275a168"), looks := false }, kinds := [], alts := [], laidByText := true, laidKinds := [.data, .pinned], laidTests := true, laidLooks := .later }
def DocBackCardSaid : Prop := Claim7.holds Tryd.pinned (.plain (OpenSpec.ofChange docBackSpec)) docBackCard

/-- THE TIED CARD OF 'codicillaw05.DocParts'. -/
def docPartsCard : Claim7 := { stood := { row := docPartsRow, standIns := [], harness := (true, "3f4ee8711b1a3c5033a020c988078cd0253fafa31de1eb52a4c71f903275a168"), looks := false }, kinds := [], alts := [], laidByText := true, laidKinds := [.data, .pinned], laidTests := true, laidLooks := .later }
def DocPartsCardSaid : Prop := Claim7.holds Tryd.pinned (.plain (OpenSpec.ofChange docPartsSpec)) docPartsCard

/-- THE SECOND FORM's CARD OF 'codicillaw05.DocBack'. -/
def docBackUptoCard : Claim7 := { stood := { row := docBackUptoRow, standIns := [], harness := (true, "3f4ee8711b1a3c5033a020c988078cd0253fafa31de1eb52a4c71f903275a168"), looks := false }, kinds := [], alts := [], laidByText := true, laidKinds := [.data, .pinned], laidTests := true, laidLooks := .later }
def DocBackUptoCardSaid : Prop := Claim7.holds Tryd.pinned (.plain (OpenSpec.upto docBackSpec)) docBackUptoCard

/-- THE SECOND FORM's CARD OF 'codicillaw05.DocParts'. -/
def docPartsUptoCard : Claim7 := { stood := { row := docPartsUptoRow, standIns := [], harness := (true, "3f4ee8711b1a3c5033a020c988078cd0253fafa31de1eb52a4c71f903275a168"), looks := false }, kinds := [], alts := [], laidByText := true, laidKinds := [.data, .pinned], laidTests := true, laidLooks := .later }
def DocPartsUptoCardSaid : Prop := Claim7.holds Tryd.pinned (.plain (OpenSpec.upto docPartsSpec)) docPartsUptoCard
end Rows
end Go.Proofs.YtijcleiekafoiaaDoor
