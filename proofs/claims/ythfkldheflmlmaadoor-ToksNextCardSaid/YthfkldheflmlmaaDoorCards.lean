/-
  DERIVED. GIVEN WITH THE SEED: THE CARDS: each row of YthfkldheflmlmaaDoorRows.lean that lists a variable, with what it lists TIED to the program's text (the seventh form; the later family's looks); each row that meets fmt, with fmt's text TOLD by the authors' own Lean function (tested against real Go, not proved from fmt's source: count such statements apart). THE CARD IS WHAT COUNTS. Prove the row's statement (the work); the ties are given (YthfkldheflmlmaaDoorTie.lean); close each card by the builder's one call (the guide's Derived/Test/ToyasCard.lean, 'card_holds'). Laid BY PROGRAM, IN A SANDBOX (cutbox-door.mjs). By AI agents, Wed Nov 11 2026. No macro, syntax, notation, axiom, sorry.
-/
import Derived.Test.YthfkldheflmlmaaDoorRows
import GoSem.ClaimSeven
namespace Go.Proofs.YthfkldheflmlmaaDoor
namespace Rows

/-- THE TIED CARD OF 'rectolaw05.ToksNext'. -/
def toksNextCard : Claim7 := { stood := { row := toksNextRow, standIns := [], harness := (true, "f51eb5c0b746e164ec1eeb0bec200d7be5087464b275472df7a669210796b140"), looks := false }, kinds := [], alts := [], laidByText := true, laidKinds := [.data, .data, .data], laidTests := true, laidLooks := .later }
def ToksNextCardSaid : Prop := Claim7.holds Tryd.pinned (.plain (OpenSpec.ofChange toksNextSpec)) toksNextCard

/-- THE TIED CARD OF 'rectolaw05.ToksGoes'. -/
def toksGoesCard : Claim7 := { stood := { row := toksGoesRow, standIns := [], harness := (true, "f51eb5c0b746e164ec1eeb0bec200d7be5087464b275472df7a669210796b140"), looks := false }, kinds := [], alts := [], laidByText := true, laidKinds := [.data, .data, .data], laidTests := true, laidLooks := .later }
def ToksGoesCardSaid : Prop := Claim7.holds Tryd.pinned (.plain (OpenSpec.ofChange toksGoesSpec)) toksGoesCard

/-- THE TIED CARD OF 'rectolaw05.ToksNames'. -/
def toksNamesCard : Claim7 := { stood := { row := toksNamesRow, standIns := [], harness := (true, "f51eb5c0b746e164ec1eeb0bec200d7be5087464b275472df7a669210796b140"), looks := false }, kinds := [], alts := [], laidByText := true, laidKinds := [.data, .data, .data], laidTests := true, laidLooks := .later }
def ToksNamesCardSaid : Prop := Claim7.holds Tryd.pinned (.plain (OpenSpec.ofChange toksNamesSpec)) toksNamesCard

/-- THE TIED CARD OF 'rectolaw05.ToksRaw'. -/
def toksRawCard : Claim7 := { stood := { row := toksRawRow, standIns := [], harness := (true, "f51eb5c0b746e164ec1eeb0bec200d7be5087464b275472df7a669210796b140"), looks := false }, kinds := [], alts := [], laidByText := true, laidKinds := [.data, .data, .data], laidTests := true, laidLooks := .later }
def ToksRawCardSaid : Prop := Claim7.holds Tryd.pinned (.plain (OpenSpec.ofChange toksRawSpec)) toksRawCard

/-- THE TIED CARD OF 'rectolaw05.ToksPlain'. -/
def toksPlainCard : Claim7 := { stood := { row := toksPlainRow, standIns := [], harness := (true, "f51eb5c0b746e164ec1eeb0bec200d7be5087464b275472df7a669210796b140"), looks := false }, kinds := [], alts := [], laidByText := true, laidKinds := [.data, .data, .data], laidTests := true, laidLooks := .later }
def ToksPlainCardSaid : Prop := Claim7.holds Tryd.pinned (.plain (OpenSpec.ofChange toksPlainSpec)) toksPlainCard

/-- THE TIED CARD OF 'rectolaw06.PenTagsBack'. -/
def penTagsBackCard : Claim7 := { stood := { row := penTagsBackRow, standIns := [], harness := (true, "f51eb5c0b746e164ec1eeb0bec200d7be5087464b275472df7a669210796b140"), looks := false }, kinds := [], alts := [], laidByText := true, laidKinds := [.data, .data, .data, .data, .pinned], laidTests := true, laidLooks := .later }
def PenTagsBackCardSaid : Prop := Claim7.holds Tryd.pinned (.plain (OpenSpec.ofChange penTagsBackSpec)) penTagsBackCard

/-- THE TIED CARD OF 'rectolaw06.PenCharsBack'. -/
def penCharsBackCard : Claim7 := { stood := { row := penCharsBackRow, standIns := [], harness := (true, "f51eb5c0b746e164ec1eeb0bec200d7be5087464b275472df7a669210796b140"), looks := false }, kinds := [], alts := [], laidByText := true, laidKinds := [.data, .data, .data, .data, .pinned], laidTests := true, laidLooks := .later }
def PenCharsBackCardSaid : Prop := Claim7.holds Tryd.pinned (.plain (OpenSpec.ofChange penCharsBackSpec)) penCharsBackCard

/-- THE TIED CARD OF 'rectolaw06.PenRawBack'. -/
def penRawBackCard : Claim7 := { stood := { row := penRawBackRow, standIns := [], harness := (true, "f51eb5c0b746e164ec1eeb0bec200d7be5087464b275472df7a669210796b140"), looks := false }, kinds := [], alts := [], laidByText := true, laidKinds := [.data, .data, .data, .data, .pinned], laidTests := true, laidLooks := .later }
def PenRawBackCardSaid : Prop := Claim7.holds Tryd.pinned (.plain (OpenSpec.ofChange penRawBackSpec)) penRawBackCard

/-- THE SECOND FORM's CARD OF 'rectolaw05.ToksNext'. -/
def toksNextUptoCard : Claim7 := { stood := { row := toksNextUptoRow, standIns := [], harness := (true, "f51eb5c0b746e164ec1eeb0bec200d7be5087464b275472df7a669210796b140"), looks := false }, kinds := [], alts := [], laidByText := true, laidKinds := [.data, .data, .data], laidTests := true, laidLooks := .later }
def ToksNextUptoCardSaid : Prop := Claim7.holds Tryd.pinned (.plain (OpenSpec.upto toksNextSpec)) toksNextUptoCard

/-- THE SECOND FORM's CARD OF 'rectolaw05.ToksGoes'. -/
def toksGoesUptoCard : Claim7 := { stood := { row := toksGoesUptoRow, standIns := [], harness := (true, "f51eb5c0b746e164ec1eeb0bec200d7be5087464b275472df7a669210796b140"), looks := false }, kinds := [], alts := [], laidByText := true, laidKinds := [.data, .data, .data], laidTests := true, laidLooks := .later }
def ToksGoesUptoCardSaid : Prop := Claim7.holds Tryd.pinned (.plain (OpenSpec.upto toksGoesSpec)) toksGoesUptoCard

/-- THE SECOND FORM's CARD OF 'rectolaw05.ToksNames'. -/
def toksNamesUptoCard : Claim7 := { stood := { row := toksNamesUptoRow, standIns := [], harness := (true, "f51eb5c0b746e164ec1eeb0bec200d7be5087464b275472df7a669210796b140"), looks := false }, kinds := [], alts := [], laidByText := true, laidKinds := [.data, .data, .data], laidTests := true, laidLooks := .later }
def ToksNamesUptoCardSaid : Prop := Claim7.holds Tryd.pinned (.plain (OpenSpec.upto toksNamesSpec)) toksNamesUptoCard

/-- THE SECOND FORM's CARD OF 'rectolaw05.ToksRaw'. -/
def toksRawUptoCard : Claim7 := { stood := { row := toksRawUptoRow, standIns := [], harness := (true, "f51eb5c0b746e164ec1eeb0bec200d7be5087464b275472df7a669210796b140"), looks := false }, kinds := [], alts := [], laidByText := true, laidKinds := [.data, .data, .data], laidTests := true, laidLooks := .later }
def ToksRawUptoCardSaid : Prop := Claim7.holds Tryd.pinned (.plain (OpenSpec.upto toksRawSpec)) toksRawUptoCard

/-- THE SECOND FORM's CARD OF 'rectolaw05.ToksPlain'. -/
def toksPlainUptoCard : Claim7 := { stood := { row := toksPlainUptoRow, standIns := [], harness := (true, "f51eb5c0b746e164ec1eeb0bec200d7be5087464b275472df7a669210796b140"), looks := false }, kinds := [], alts := [], laidByText := true, laidKinds := [.data, .data, .data], laidTests := true, laidLooks := .later }
def ToksPlainUptoCardSaid : Prop := Claim7.holds Tryd.pinned (.plain (OpenSpec.upto toksPlainSpec)) toksPlainUptoCard

/-- THE SECOND FORM's CARD OF 'rectolaw06.PenTagsBack'. -/
def penTagsBackUptoCard : Claim7 := { stood := { row := penTagsBackUptoRow, standIns := [], harness := (true, "f51eb5c0b746e164ec1eeb0bec200d7be5087464b275472df7a669210796b140"), looks := false }, kinds := [], alts := [], laidByText := true, laidKinds := [.data, .data, .data, .data, .pinned], laidTests := true, laidLooks := .later }
def PenTagsBackUptoCardSaid : Prop := Claim7.holds Tryd.pinned (.plain (OpenSpec.upto penTagsBackSpec)) penTagsBackUptoCard

/-- THE SECOND FORM's CARD OF 'rectolaw06.PenCharsBack'. -/
def penCharsBackUptoCard : Claim7 := { stood := { row := penCharsBackUptoRow, standIns := [], harness := (true, "f51eb5c0b746e164ec1eeb0bec200d7be5087464b275472df7a669210796b140"), looks := false }, kinds := [], alts := [], laidByText := true, laidKinds := [.data, .data, .data, .data, .pinned], laidTests := true, laidLooks := .later }
def PenCharsBackUptoCardSaid : Prop := Claim7.holds Tryd.pinned (.plain (OpenSpec.upto penCharsBackSpec)) penCharsBackUptoCard

/-- THE SECOND FORM's CARD OF 'rectolaw06.PenRawBack'. -/
def penRawBackUptoCard : Claim7 := { stood := { row := penRawBackUptoRow, standIns := [], harness := (true, "f51eb5c0b746e164ec1eeb0bec200d7be5087464b275472df7a669210796b140"), looks := false }, kinds := [], alts := [], laidByText := true, laidKinds := [.data, .data, .data, .data, .pinned], laidTests := true, laidLooks := .later }
def PenRawBackUptoCardSaid : Prop := Claim7.holds Tryd.pinned (.plain (OpenSpec.upto penRawBackSpec)) penRawBackUptoCard
end Rows
end Go.Proofs.YthfkldheflmlmaaDoor
