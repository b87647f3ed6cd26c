/-
  DERIVED. GIVEN WITH THE SEED: THE CARDS: each row of YthfkldheflmlmaaGreatDoorRows.lean that lists a variable, with what it lists TIED to the program's text (the seventh form; the later family's looks); each row that meets fmt, with fmt's text TOLD by the authors' own Lean function (tested against real Go, not proved from fmt's source: count such statements apart). THE CARD IS WHAT COUNTS. Prove the row's statement (the work); the ties are given (YthfkldheflmlmaaGreatDoorTie.lean); close each card by the builder's one call (the guide's Derived/Test/ToyasCard.lean, 'card_holds'). Laid BY PROGRAM, IN A SANDBOX (cutbox-door.mjs). By AI agents, Wed Nov 11 2026. No macro, syntax, notation, axiom, sorry.
-/
import Derived.Test.YthfkldheflmlmaaGreatDoorRows
import GoSem.ClaimSeven
namespace Go.Proofs.YthfkldheflmlmaaGreatDoor
namespace Rows

/-- THE TIED CARD OF 'rectolaw05.ToksAll'. -/
def toksAllCard : Claim7 := { stood := { row := toksAllRow, standIns := [], harness := (true, "c448610ce72361d2993da33f99c3f8f45ea376db9754ba31b82f7ab2d8257041"), looks := false }, kinds := [], alts := [], laidByText := true, laidKinds := [.data, .data, .data], laidTests := true, laidLooks := .later }
def ToksAllCardSaid : Prop := Claim7.holds Tryz.pinned (.plain (OpenSpec.ofChange toksAllSpec)) toksAllCard

/-- THE TIED CARD OF 'rectolaw06.PenNotesBack'. -/
def penNotesBackCard : Claim7 := { stood := { row := penNotesBackRow, standIns := [], harness := (true, "c448610ce72361d2993da33f99c3f8f45ea376db9754ba31b82f7ab2d8257041"), looks := false }, kinds := [], alts := [], laidByText := true, laidKinds := [.data, .data, .data, .data, .pinned], laidTests := true, laidLooks := .later }
def PenNotesBackCardSaid : Prop := Claim7.holds Tryz.pinned (.plain (OpenSpec.ofChange penNotesBackSpec)) penNotesBackCard

/-- THE SECOND FORM's CARD OF 'rectolaw05.ToksAll'. -/
def toksAllUptoCard : Claim7 := { stood := { row := toksAllUptoRow, standIns := [], harness := (true, "c448610ce72361d2993da33f99c3f8f45ea376db9754ba31b82f7ab2d8257041"), looks := false }, kinds := [], alts := [], laidByText := true, laidKinds := [.data, .data, .data], laidTests := true, laidLooks := .later }
def ToksAllUptoCardSaid : Prop := Claim7.holds Tryz.pinned (.plain (OpenSpec.upto toksAllSpec)) toksAllUptoCard

/-- THE SECOND FORM's CARD OF 'rectolaw06.PenNotesBack'. -/
def penNotesBackUptoCard : Claim7 := { stood := { row := penNotesBackUptoRow, standIns := [], harness := (true, "c448610ce72361d2993da33f99c3f8f45ea376db9754ba31b82f7ab2d8257041"), looks := false }, kinds := [], alts := [], laidByText := true, laidKinds := [.data, .data, .data, .data, .pinned], laidTests := true, laidLooks := .later }
def PenNotesBackUptoCardSaid : Prop := Claim7.holds Tryz.pinned (.plain (OpenSpec.upto penNotesBackSpec)) penNotesBackUptoCard
end Rows
end Go.Proofs.YthfkldheflmlmaaGreatDoor
