/- A world for the witness of a pen's row. -/
import Derived.Test.YthfkldheflmlmaaGreatDoorRow
namespace Go.Proofs.YthfkldheflmlmaaGreatDoor
open Go.RowKit

noncomputable def laidWorldP (os : Os) : World :=
  { laidWorld os with heap := layCells (layCells (laidWorld os).heap 5 ((Rows.laid_unicode_utf8_acceptRanges : DataW Unit).flat.map Lit.toCell).toArray) 4 ((Rows.laid_unicode_utf8_first : DataW Unit).flat.map Lit.toCell).toArray }

end Go.Proofs.YthfkldheflmlmaaGreatDoor
