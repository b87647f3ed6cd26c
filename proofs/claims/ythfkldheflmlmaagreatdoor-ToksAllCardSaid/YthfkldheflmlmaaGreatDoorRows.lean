/-
  NARROWER THAN 'FOR EVERY INPUT', by the rows' own cells (each row's printed sentence says how): ToksAll: laid · PenNotesBack: laid.
  DERIVED. THE GIVEN ROWS OF THIS SEAT. 2 by the template 'for every input the law returns true; each argument reads behind the call as it read before'; 0 by the template 'total and deterministic' (their statements: YthfkldheflmlmaaGreatDoorTotals.lean).
  GIVEN WITH THE SEED: the statements are not yours to turn. If you find one false, say at which input.
  Laid BY PROGRAM, IN A SANDBOX (cutbox-rows.mjs): the forced cells as the released guide's own fill.sh prints them over the translation 8bda2a8ee28c6ee5… (all of the seat's roots in one cut). By AI agents, Wed Nov 11 2026. No macro, syntax, notation, axiom, sorry.
-/
import Derived.Test.YthfkldheflmlmaaGreatDoorChecked
import GoSem.PinnedTables
import GoSem.Claim
import GoSem.ClaimJoined
import GoSem.ClaimMapViews
import Derived.JoinedTies
import Derived.KernelRfl
namespace Go.Proofs.YthfkldheflmlmaaGreatDoor
/- THE CELL 'sum', in the pinned program and in every row, IS THE sha256 OF THE DUMP (.gsa) THAT YthfkldheflmlmaaGreatDoorProg.lean LOADS. Nothing in Lean hashes anything: it is a label: what it is worth is what the hold of that sum in a sandbox is worth. -/
noncomputable def Tryz.pinned : Pinned := { name := "ythfkldheflmlmaagreatdoor", sum := "8bda2a8ee28c6ee56f2a1f4ec54434fadd2aba14ebe8c8665c3a7f3dad0abea3", checked := Tryz.checked }
namespace Rows
def none {H : Type} : Left H := { results := [], args := [] }

/- WHAT THE LISTED PACKAGE-LEVEL VARIABLES READ AS WHEN THE CALL BEGINS. Each datum BY PROGRAM (the guide's laid-datum.mjs) off the statement by which the dump's own 'gosem.cut.vars' lays the variable. In a bare row this is a premise. The card (YthfkldheflmlmaaGreatDoorCards.lean) ties it to the program's text. -/
def laid_recto_utf_rows {H : Type} : DataW H := .agg [.agg [.lit (.int .i64 0), .lit (.int .i64 0)], .agg [.lit (.int .i64 0), .lit (.int .i64 0)], .agg [.lit (.int .i64 192), .lit (.int .i64 128)], .agg [.lit (.int .i64 224), .lit (.int .i64 2048)], .agg [.lit (.int .i64 240), .lit (.int .i64 65536)]]
def laid_recto_refs_refs {H : Type} : DataW H := .agg [.agg [.lit (.string [97, 109, 112]), .lit (.int .i64 38), .lit (.bool true)], .agg [.lit (.string [108, 116]), .lit (.int .i64 60), .lit (.bool true)], .agg [.lit (.string [103, 116]), .lit (.int .i64 62), .lit (.bool true)], .agg [.lit (.string [113, 117, 111, 116]), .lit (.int .i64 34), .lit (.bool true)], .agg [.lit (.string [110, 98, 115, 112]), .lit (.int .i64 160), .lit (.bool true)], .agg [.lit (.string [99, 111, 112, 121]), .lit (.int .i64 169), .lit (.bool true)], .agg [.lit (.string [114, 101, 103]), .lit (.int .i64 174), .lit (.bool true)], .agg [.lit (.string [110, 111, 116]), .lit (.int .i64 172), .lit (.bool true)], .agg [.lit (.string [110, 111, 116, 105, 110]), .lit (.int .i64 8713), .lit (.bool false)], .agg [.lit (.string [116, 105, 109, 101, 115]), .lit (.int .i64 215), .lit (.bool true)], .agg [.lit (.string [112, 97, 114, 97]), .lit (.int .i64 182), .lit (.bool true)], .agg [.lit (.string [115, 101, 99, 116]), .lit (.int .i64 167), .lit (.bool true)], .agg [.lit (.string [101, 97, 99, 117, 116, 101]), .lit (.int .i64 233), .lit (.bool true)], .agg [.lit (.string [69, 97, 99, 117, 116, 101]), .lit (.int .i64 201), .lit (.bool true)], .agg [.lit (.string [97, 117, 109, 108]), .lit (.int .i64 228), .lit (.bool true)], .agg [.lit (.string [65, 117, 109, 108]), .lit (.int .i64 196), .lit (.bool true)], .agg [.lit (.string [115, 122, 108, 105, 103]), .lit (.int .i64 223), .lit (.bool true)], .agg [.lit (.string [101, 117, 114, 111]), .lit (.int .i64 8364), .lit (.bool false)], .agg [.lit (.string [104, 101, 108, 108, 105, 112]), .lit (.int .i64 8230), .lit (.bool false)], .agg [.lit (.string [109, 100, 97, 115, 104]), .lit (.int .i64 8212), .lit (.bool false)], .agg [.lit (.string [110, 100, 97, 115, 104]), .lit (.int .i64 8211), .lit (.bool false)], .agg [.lit (.string [97, 108, 112, 104, 97]), .lit (.int .i64 945), .lit (.bool false)], .agg [.lit (.string [98, 101, 116, 97]), .lit (.int .i64 946), .lit (.bool false)], .agg [.lit (.string [114, 97, 114, 114]), .lit (.int .i64 8594), .lit (.bool false)], .agg [.lit (.string [108, 97, 114, 114]), .lit (.int .i64 8592), .lit (.bool false)], .agg [.lit (.string [97, 112, 111, 115]), .lit (.int .i64 39), .lit (.bool false)], .agg [.lit (.string [121, 101, 110]), .lit (.int .i64 165), .lit (.bool true)], .agg [.lit (.string [109, 105, 99, 114, 111]), .lit (.int .i64 181), .lit (.bool true)]]
def laid_recto_refs_turns {H : Type} : DataW H := .agg [.agg [.lit (.int .i64 128), .lit (.int .i64 8364)], .agg [.lit (.int .i64 130), .lit (.int .i64 8218)], .agg [.lit (.int .i64 131), .lit (.int .i64 402)], .agg [.lit (.int .i64 132), .lit (.int .i64 8222)], .agg [.lit (.int .i64 133), .lit (.int .i64 8230)], .agg [.lit (.int .i64 134), .lit (.int .i64 8224)], .agg [.lit (.int .i64 135), .lit (.int .i64 8225)], .agg [.lit (.int .i64 136), .lit (.int .i64 710)], .agg [.lit (.int .i64 137), .lit (.int .i64 8240)], .agg [.lit (.int .i64 138), .lit (.int .i64 352)], .agg [.lit (.int .i64 139), .lit (.int .i64 8249)], .agg [.lit (.int .i64 140), .lit (.int .i64 338)], .agg [.lit (.int .i64 142), .lit (.int .i64 381)], .agg [.lit (.int .i64 145), .lit (.int .i64 8216)], .agg [.lit (.int .i64 146), .lit (.int .i64 8217)], .agg [.lit (.int .i64 147), .lit (.int .i64 8220)], .agg [.lit (.int .i64 148), .lit (.int .i64 8221)], .agg [.lit (.int .i64 149), .lit (.int .i64 8226)], .agg [.lit (.int .i64 150), .lit (.int .i64 8211)], .agg [.lit (.int .i64 151), .lit (.int .i64 8212)], .agg [.lit (.int .i64 152), .lit (.int .i64 732)], .agg [.lit (.int .i64 153), .lit (.int .i64 8482)], .agg [.lit (.int .i64 154), .lit (.int .i64 353)], .agg [.lit (.int .i64 155), .lit (.int .i64 8250)], .agg [.lit (.int .i64 156), .lit (.int .i64 339)], .agg [.lit (.int .i64 158), .lit (.int .i64 382)], .agg [.lit (.int .i64 159), .lit (.int .i64 376)]]
def laid_unicode_utf8_acceptRanges {H : Type} : DataW H := .agg [.agg [.lit (.int .u8 128), .lit (.int .u8 191)], .agg [.lit (.int .u8 160), .lit (.int .u8 191)], .agg [.lit (.int .u8 128), .lit (.int .u8 159)], .agg [.lit (.int .u8 144), .lit (.int .u8 191)], .agg [.lit (.int .u8 128), .lit (.int .u8 143)], .agg [.lit (.int .u8 0), .lit (.int .u8 0)], .agg [.lit (.int .u8 0), .lit (.int .u8 0)], .agg [.lit (.int .u8 0), .lit (.int .u8 0)], .agg [.lit (.int .u8 0), .lit (.int .u8 0)], .agg [.lit (.int .u8 0), .lit (.int .u8 0)], .agg [.lit (.int .u8 0), .lit (.int .u8 0)], .agg [.lit (.int .u8 0), .lit (.int .u8 0)], .agg [.lit (.int .u8 0), .lit (.int .u8 0)], .agg [.lit (.int .u8 0), .lit (.int .u8 0)], .agg [.lit (.int .u8 0), .lit (.int .u8 0)], .agg [.lit (.int .u8 0), .lit (.int .u8 0)]]
/-- One of Go's own tables, pinned by name: the form's constant. -/
def laid_unicode_utf8_first : DataW Unit := Go.Pinned.utf8First

/-- 'rectolaw05.ToksAll': WHATEVER THE INPUT: true; the input reads as it did. -/
def toksAllSpec : ChangeSpec := { name := "toksAll", fn := fun _ => fun
  | [d1, d2, d3] => { results := [.lit (.bool true)], args := [d1, d2, d3] }
  | _ => none }
def toksAllRow : OpenClaim := { program := "ythfkldheflmlmaagreatdoor", sum := "8bda2a8ee28c6ee56f2a1f4ec54434fadd2aba14ebe8c8665c3a7f3dad0abea3", func := "recto/rectolaw05.ToksAll", spec := "toksAll", inPlace := ["internal/abi.NoEscape", "internal/bytealg.IndexByteString", "internal/bytealg.IndexString"], unfollowed := true, recurses := true, named := ["recto/utf.rows", "recto/refs.turns", "recto/refs.refs", "internal/bytealg.MaxLen"], apart := false, laid := [("recto/utf.rows", laid_recto_utf_rows), ("recto/refs.refs", laid_recto_refs_refs), ("recto/refs.turns", laid_recto_refs_turns)] }
def ToksAllSaid : Prop := toksAllRow.holds Tryz.pinned (OpenSpec.ofChange toksAllSpec)

/-- ITS FALSE NEIGHBOUR: 'it returns false'. Refute it at one input. -/
def toksAllWrong : ChangeSpec := { name := "toksAll", fn := fun _ => fun
  | [d1, d2, d3] => { results := [.lit (.bool false)], args := [d1, d2, d3] }
  | _ => none }
def ToksAllWrongFalsely : Prop := toksAllRow.holds Tryz.pinned (OpenSpec.ofChange toksAllWrong)

/-- 'rectolaw06.PenNotesBack': WHATEVER THE INPUT: true; the input reads as it did. -/
def penNotesBackSpec : ChangeSpec := { name := "penNotesBack", fn := fun _ => fun
  | [d1, d2] => { results := [.lit (.bool true)], args := [d1, d2] }
  | _ => none }
def penNotesBackRow : OpenClaim := { program := "ythfkldheflmlmaagreatdoor", sum := "8bda2a8ee28c6ee56f2a1f4ec54434fadd2aba14ebe8c8665c3a7f3dad0abea3", func := "recto/rectolaw06.PenNotesBack", spec := "penNotesBack", inPlace := ["internal/abi.NoEscape", "internal/bytealg.CountString", "internal/bytealg.IndexByteString", "internal/bytealg.IndexString", "internal/bytealg.MakeNoZero"], unfollowed := true, recurses := true, named := ["recto/utf.rows", "internal/bytealg.MaxLen", "unicode/utf8.first", "unicode/utf8.acceptRanges", "recto/refs.turns", "recto/refs.refs"], apart := false, laid := [("unicode/utf8.acceptRanges", laid_unicode_utf8_acceptRanges), ("recto/utf.rows", laid_recto_utf_rows), ("recto/refs.refs", laid_recto_refs_refs), ("recto/refs.turns", laid_recto_refs_turns), ("unicode/utf8.first", laid_unicode_utf8_first)] }
def PenNotesBackSaid : Prop := penNotesBackRow.holds Tryz.pinned (OpenSpec.ofChange penNotesBackSpec)

/-- ITS FALSE NEIGHBOUR: 'it returns false'. Refute it at one input. -/
def penNotesBackWrong : ChangeSpec := { name := "penNotesBack", fn := fun _ => fun
  | [d1, d2] => { results := [.lit (.bool false)], args := [d1, d2] }
  | _ => none }
def PenNotesBackWrongFalsely : Prop := penNotesBackRow.holds Tryz.pinned (OpenSpec.ofChange penNotesBackWrong)

/- THE SECOND FORM. 'bulk': how many values and letters a reading holds, each counted each time it is reached (what is shared counts as often as it is met; a slice's spare places count too). A statement '..UptoSaid' is the law's where the arguments, and the package variables that the reading takes, are together of bulk at most 1048576: NARROWER than '..Said'. Prove '..Said' where nothing that the law and all that it calls make is longer than what came in: it says more and counts as full. Else prove '..UptoSaid'. A law counts once. -/
mutual
def uptoBulk {H : Type} : DataW H → Nat
  | .lit (.string bytes) => bytes.length + 1
  | .lit _ => 1
  | .nil => 1
  | .ptr d => uptoBulk d + 1
  | .slice elems spare => uptoBulkAll elems + uptoBulkAll spare + 1
  | .agg parts => uptoBulkAll parts + 1
  | .iface _ d => uptoBulk d + 1
  | .map entries => uptoBulkEntries entries + 1
  | .held _ => 1
def uptoBulkAll {H : Type} : List (DataW H) → Nat
  | [] => 0
  | d :: r => uptoBulk d + uptoBulkAll r
def uptoBulkEntries {H : Type} : List (Lit × DataW H) → Nat
  | [] => 0
  | x :: r => uptoBulkEntry x + uptoBulkEntries r
def uptoBulkEntry {H : Type} : Lit × DataW H → Nat
  | (.string bytes, d) => bytes.length + uptoBulk d + 1
  | (_, d) => uptoBulk d + 1
 end
def uptoSmall : (H : Type) → List (DataW H) → Bool := fun _ ds => decide (uptoBulkAll ds ≤ 1048576)
def OpenSpec.upto (s : _root_.Go.ChangeSpec) : _root_.Go.OpenSpec := { _root_.Go.OpenSpec.ofChange s with cond := some uptoSmall }

/-- 'rectolaw05.ToksAll', WHERE WHAT IT READS IS OF BULK AT MOST 1048576: true; the input reads as it did. -/
def toksAllUptoRow : OpenClaim := { program := "ythfkldheflmlmaagreatdoor", sum := "8bda2a8ee28c6ee56f2a1f4ec54434fadd2aba14ebe8c8665c3a7f3dad0abea3", func := "recto/rectolaw05.ToksAll", spec := "toksAll", inPlace := ["internal/abi.NoEscape", "internal/bytealg.IndexByteString", "internal/bytealg.IndexString"], unfollowed := true, recurses := true, named := ["recto/utf.rows", "recto/refs.turns", "recto/refs.refs", "internal/bytealg.MaxLen"], apart := false, laid := [("recto/utf.rows", laid_recto_utf_rows), ("recto/refs.refs", laid_recto_refs_refs), ("recto/refs.turns", laid_recto_refs_turns)], narrowed := true }
def ToksAllUptoSaid : Prop := toksAllUptoRow.holds Tryz.pinned (OpenSpec.upto toksAllSpec)

/-- 'rectolaw06.PenNotesBack', WHERE WHAT IT READS IS OF BULK AT MOST 1048576: true; the input reads as it did. -/
def penNotesBackUptoRow : OpenClaim := { program := "ythfkldheflmlmaagreatdoor", sum := "8bda2a8ee28c6ee56f2a1f4ec54434fadd2aba14ebe8c8665c3a7f3dad0abea3", func := "recto/rectolaw06.PenNotesBack", spec := "penNotesBack", inPlace := ["internal/abi.NoEscape", "internal/bytealg.CountString", "internal/bytealg.IndexByteString", "internal/bytealg.IndexString", "internal/bytealg.MakeNoZero"], unfollowed := true, recurses := true, named := ["recto/utf.rows", "internal/bytealg.MaxLen", "unicode/utf8.first", "unicode/utf8.acceptRanges", "recto/refs.turns", "recto/refs.refs"], apart := false, laid := [("unicode/utf8.acceptRanges", laid_unicode_utf8_acceptRanges), ("recto/utf.rows", laid_recto_utf_rows), ("recto/refs.refs", laid_recto_refs_refs), ("recto/refs.turns", laid_recto_refs_turns), ("unicode/utf8.first", laid_unicode_utf8_first)], narrowed := true }
def PenNotesBackUptoSaid : Prop := penNotesBackUptoRow.holds Tryz.pinned (OpenSpec.upto penNotesBackSpec)

end Rows
end Go.Proofs.YthfkldheflmlmaaGreatDoor
