/-
  NARROWER THAN 'FOR EVERY INPUT', by the rows' own cells (each row's printed sentence says how): ToksNext: laid · ToksGoes: laid · ToksNames: laid · ToksRaw: laid · ToksPlain: laid · PenTagsBack: laid · PenCharsBack: laid · PenRawBack: laid.
  DERIVED. THE GIVEN ROWS OF THIS SEAT. 8 by the template 'for every input the law returns true; each argument reads behind the call as it read before'; 0 by the template 'total and deterministic' (their statements: YthfkldheflmlmaaDoorTotals.lean).
  GIVEN WITH THE SEED: the statements are not yours to turn. If you find one false, say at which input.
  Laid BY PROGRAM, IN A SANDBOX (cutbox-rows.mjs): the forced cells as the released guide's own fill.sh prints them over the translation 80731e667bb9fd85… (all of the seat's roots in one cut). By AI agents, Wed Nov 11 2026. No macro, syntax, notation, axiom, sorry.
-/
import Derived.Test.YthfkldheflmlmaaDoorChecked
import GoSem.PinnedTables
import GoSem.Claim
import GoSem.ClaimJoined
import GoSem.ClaimMapViews
import Derived.JoinedTies
import Derived.KernelRfl
namespace Go.Proofs.YthfkldheflmlmaaDoor
/- THE CELL 'sum', in the pinned program and in every row, IS THE sha256 OF THE DUMP (.gsa) THAT YthfkldheflmlmaaDoorProg.lean LOADS. Nothing in Lean hashes anything: it is a label: what it is worth is what the hold of that sum in a sandbox is worth. -/
noncomputable def Tryd.pinned : Pinned := { name := "ythfkldheflmlmaadoor", sum := "80731e667bb9fd8577302940e15cccefaa3998bb2db7371abd192772ba95f756", checked := Tryd.checked }
namespace Rows
def none {H : Type} : Left H := { results := [], args := [] }

/- WHAT THE LISTED PACKAGE-LEVEL VARIABLES READ AS WHEN THE CALL BEGINS. Each datum BY PROGRAM (the guide's laid-datum.mjs) off the statement by which the dump's own 'gosem.cut.vars' lays the variable. In a bare row this is a premise. The card (YthfkldheflmlmaaDoorCards.lean) ties it to the program's text. -/
def laid_recto_utf_rows {H : Type} : DataW H := .agg [.agg [.lit (.int .i64 0), .lit (.int .i64 0)], .agg [.lit (.int .i64 0), .lit (.int .i64 0)], .agg [.lit (.int .i64 192), .lit (.int .i64 128)], .agg [.lit (.int .i64 224), .lit (.int .i64 2048)], .agg [.lit (.int .i64 240), .lit (.int .i64 65536)]]
def laid_recto_refs_refs {H : Type} : DataW H := .agg [.agg [.lit (.string [97, 109, 112]), .lit (.int .i64 38), .lit (.bool true)], .agg [.lit (.string [108, 116]), .lit (.int .i64 60), .lit (.bool true)], .agg [.lit (.string [103, 116]), .lit (.int .i64 62), .lit (.bool true)], .agg [.lit (.string [113, 117, 111, 116]), .lit (.int .i64 34), .lit (.bool true)], .agg [.lit (.string [110, 98, 115, 112]), .lit (.int .i64 160), .lit (.bool true)], .agg [.lit (.string [99, 111, 112, 121]), .lit (.int .i64 169), .lit (.bool true)], .agg [.lit (.string [114, 101, 103]), .lit (.int .i64 174), .lit (.bool true)], .agg [.lit (.string [110, 111, 116]), .lit (.int .i64 172), .lit (.bool true)], .agg [.lit (.string [110, 111, 116, 105, 110]), .lit (.int .i64 8713), .lit (.bool false)], .agg [.lit (.string [116, 105, 109, 101, 115]), .lit (.int .i64 215), .lit (.bool true)], .agg [.lit (.string [112, 97, 114, 97]), .lit (.int .i64 182), .lit (.bool true)], .agg [.lit (.string [115, 101, 99, 116]), .lit (.int .i64 167), .lit (.bool true)], .agg [.lit (.string [101, 97, 99, 117, 116, 101]), .lit (.int .i64 233), .lit (.bool true)], .agg [.lit (.string [69, 97, 99, 117, 116, 101]), .lit (.int .i64 201), .lit (.bool true)], .agg [.lit (.string [97, 117, 109, 108]), .lit (.int .i64 228), .lit (.bool true)], .agg [.lit (.string [65, 117, 109, 108]), .lit (.int .i64 196), .lit (.bool true)], .agg [.lit (.string [115, 122, 108, 105, 103]), .lit (.int .i64 223), .lit (.bool true)], .agg [.lit (.string [101, 117, 114, 111]), .lit (.int .i64 8364), .lit (.bool false)], .agg [.lit (.string [104, 101, 108, 108, 105, 112]), .lit (.int .i64 8230), .lit (.bool false)], .agg [.lit (.string [109, 100, 97, 115, 104]), .lit (.int .i64 8212), .lit (.bool false)], .agg [.lit (.string [110, 100, 97, 115, 104]), .lit (.int .i64 8211), .lit (.bool false)], .agg [.lit (.string [97, 108, 112, 104, 97]), .lit (.int .i64 945), .lit (.bool false)], .agg [.lit (.string [98, 101, 116, 97]), .lit (.int .i64 946), .lit (.bool false)], .agg [.lit (.string [114, 97, 114, 114]), .lit (.int .i64 8594), .lit (.bool false)], .agg [.lit (.string [108, 97, 114, 114]), .lit (.int .i64 8592), .lit (.bool false)], .agg [.lit (.string [97, 112, 111, 115]), .lit (.int .i64 39), .lit (.bool false)], .agg [.lit (.string [121, 101, 110]), .lit (.int .i64 165), .lit (.bool true)], .agg [.lit (.string [109, 105, 99, 114, 111]), .lit (.int .i64 181), .lit (.bool true)]]
def laid_recto_refs_turns {H : Type} : DataW H := .agg [.agg [.lit (.int .i64 128), .lit (.int .i64 8364)], .agg [.lit (.int .i64 130), .lit (.int .i64 8218)], .agg [.lit (.int .i64 131), .lit (.int .i64 402)], .agg [.lit (.int .i64 132), .lit (.int .i64 8222)], .agg [.lit (.int .i64 133), .lit (.int .i64 8230)], .agg [.lit (.int .i64 134), .lit (.int .i64 8224)], .agg [.lit (.int .i64 135), .lit (.int .i64 8225)], .agg [.lit (.int .i64 136), .lit (.int .i64 710)], .agg [.lit (.int .i64 137), .lit (.int .i64 8240)], .agg [.lit (.int .i64 138), .lit (.int .i64 352)], .agg [.lit (.int .i64 139), .lit (.int .i64 8249)], .agg [.lit (.int .i64 140), .lit (.int .i64 338)], .agg [.lit (.int .i64 142), .lit (.int .i64 381)], .agg [.lit (.int .i64 145), .lit (.int .i64 8216)], .agg [.lit (.int .i64 146), .lit (.int .i64 8217)], .agg [.lit (.int .i64 147), .lit (.int .i64 8220)], .agg [.lit (.int .i64 148), .lit (.int .i64 8221)], .agg [.lit (.int .i64 149), .lit (.int .i64 8226)], .agg [.lit (.int .i64 150), .lit (.int .i64 8211)], .agg [.lit (.int .i64 151), .lit (.int .i64 8212)], .agg [.lit (.int .i64 152), .lit (.int .i64 732)], .agg [.lit (.int .i64 153), .lit (.int .i64 8482)], .agg [.lit (.int .i64 154), .lit (.int .i64 353)], .agg [.lit (.int .i64 155), .lit (.int .i64 8250)], .agg [.lit (.int .i64 156), .lit (.int .i64 339)], .agg [.lit (.int .i64 158), .lit (.int .i64 382)], .agg [.lit (.int .i64 159), .lit (.int .i64 376)]]
def laid_unicode_utf8_acceptRanges {H : Type} : DataW H := .agg [.agg [.lit (.int .u8 128), .lit (.int .u8 191)], .agg [.lit (.int .u8 160), .lit (.int .u8 191)], .agg [.lit (.int .u8 128), .lit (.int .u8 159)], .agg [.lit (.int .u8 144), .lit (.int .u8 191)], .agg [.lit (.int .u8 128), .lit (.int .u8 143)], .agg [.lit (.int .u8 0), .lit (.int .u8 0)], .agg [.lit (.int .u8 0), .lit (.int .u8 0)], .agg [.lit (.int .u8 0), .lit (.int .u8 0)], .agg [.lit (.int .u8 0), .lit (.int .u8 0)], .agg [.lit (.int .u8 0), .lit (.int .u8 0)], .agg [.lit (.int .u8 0), .lit (.int .u8 0)], .agg [.lit (.int .u8 0), .lit (.int .u8 0)], .agg [.lit (.int .u8 0), .lit (.int .u8 0)], .agg [.lit (.int .u8 0), .lit (.int .u8 0)], .agg [.lit (.int .u8 0), .lit (.int .u8 0)], .agg [.lit (.int .u8 0), .lit (.int .u8 0)]]
/-- One of Go's own tables, pinned by name: the form's constant. -/
def laid_unicode_utf8_first : DataW Unit := Go.Pinned.utf8First

/-- 'rectolaw05.ToksNext': WHATEVER THE INPUT: true; the input reads as it did. -/
def toksNextSpec : ChangeSpec := { name := "toksNext", fn := fun _ => fun
  | [d1, d2, d3] => { results := [.lit (.bool true)], args := [d1, d2, d3] }
  | _ => none }
def toksNextRow : OpenClaim := { program := "ythfkldheflmlmaadoor", sum := "80731e667bb9fd8577302940e15cccefaa3998bb2db7371abd192772ba95f756", func := "recto/rectolaw05.ToksNext", spec := "toksNext", inPlace := ["internal/abi.NoEscape", "internal/bytealg.IndexByteString", "internal/bytealg.IndexString"], unfollowed := true, recurses := true, named := ["recto/utf.rows", "recto/refs.turns", "recto/refs.refs", "internal/bytealg.MaxLen"], apart := false, laid := [("recto/utf.rows", laid_recto_utf_rows), ("recto/refs.refs", laid_recto_refs_refs), ("recto/refs.turns", laid_recto_refs_turns)] }
def ToksNextSaid : Prop := toksNextRow.holds Tryd.pinned (OpenSpec.ofChange toksNextSpec)

/-- ITS FALSE NEIGHBOUR: 'it returns false'. Refute it at one input. -/
def toksNextWrong : ChangeSpec := { name := "toksNext", fn := fun _ => fun
  | [d1, d2, d3] => { results := [.lit (.bool false)], args := [d1, d2, d3] }
  | _ => none }
def ToksNextWrongFalsely : Prop := toksNextRow.holds Tryd.pinned (OpenSpec.ofChange toksNextWrong)

/-- 'rectolaw05.ToksGoes': WHATEVER THE INPUT: true; the input reads as it did. -/
def toksGoesSpec : ChangeSpec := { name := "toksGoes", fn := fun _ => fun
  | [d1, d2, d3] => { results := [.lit (.bool true)], args := [d1, d2, d3] }
  | _ => none }
def toksGoesRow : OpenClaim := { program := "ythfkldheflmlmaadoor", sum := "80731e667bb9fd8577302940e15cccefaa3998bb2db7371abd192772ba95f756", func := "recto/rectolaw05.ToksGoes", spec := "toksGoes", inPlace := ["internal/abi.NoEscape", "internal/bytealg.IndexByteString", "internal/bytealg.IndexString"], unfollowed := true, recurses := true, named := ["recto/utf.rows", "recto/refs.turns", "recto/refs.refs", "internal/bytealg.MaxLen"], apart := false, laid := [("recto/utf.rows", laid_recto_utf_rows), ("recto/refs.refs", laid_recto_refs_refs), ("recto/refs.turns", laid_recto_refs_turns)] }
def ToksGoesSaid : Prop := toksGoesRow.holds Tryd.pinned (OpenSpec.ofChange toksGoesSpec)

/-- ITS FALSE NEIGHBOUR: 'it returns false'. Refute it at one input. -/
def toksGoesWrong : ChangeSpec := { name := "toksGoes", fn := fun _ => fun
  | [d1, d2, d3] => { results := [.lit (.bool false)], args := [d1, d2, d3] }
  | _ => none }
def ToksGoesWrongFalsely : Prop := toksGoesRow.holds Tryd.pinned (OpenSpec.ofChange toksGoesWrong)

/-- 'rectolaw05.ToksNames': WHATEVER THE INPUT: true; the input reads as it did. -/
def toksNamesSpec : ChangeSpec := { name := "toksNames", fn := fun _ => fun
  | [d] => { results := [.lit (.bool true)], args := [d] }
  | _ => none }
def toksNamesRow : OpenClaim := { program := "ythfkldheflmlmaadoor", sum := "80731e667bb9fd8577302940e15cccefaa3998bb2db7371abd192772ba95f756", func := "recto/rectolaw05.ToksNames", spec := "toksNames", inPlace := ["internal/abi.NoEscape", "internal/bytealg.IndexByteString", "internal/bytealg.IndexString"], unfollowed := true, recurses := true, named := ["recto/utf.rows", "recto/refs.turns", "recto/refs.refs", "internal/bytealg.MaxLen"], apart := false, laid := [("recto/utf.rows", laid_recto_utf_rows), ("recto/refs.refs", laid_recto_refs_refs), ("recto/refs.turns", laid_recto_refs_turns)] }
def ToksNamesSaid : Prop := toksNamesRow.holds Tryd.pinned (OpenSpec.ofChange toksNamesSpec)

/-- ITS FALSE NEIGHBOUR: 'it returns false'. Refute it at one input. -/
def toksNamesWrong : ChangeSpec := { name := "toksNames", fn := fun _ => fun
  | [d] => { results := [.lit (.bool false)], args := [d] }
  | _ => none }
def ToksNamesWrongFalsely : Prop := toksNamesRow.holds Tryd.pinned (OpenSpec.ofChange toksNamesWrong)

/-- 'rectolaw05.ToksRaw': WHATEVER THE INPUT: true; the input reads as it did. -/
def toksRawSpec : ChangeSpec := { name := "toksRaw", fn := fun _ => fun
  | [d1, d2, d3] => { results := [.lit (.bool true)], args := [d1, d2, d3] }
  | _ => none }
def toksRawRow : OpenClaim := { program := "ythfkldheflmlmaadoor", sum := "80731e667bb9fd8577302940e15cccefaa3998bb2db7371abd192772ba95f756", func := "recto/rectolaw05.ToksRaw", spec := "toksRaw", inPlace := ["internal/abi.NoEscape", "internal/bytealg.IndexByteString", "internal/bytealg.IndexString"], unfollowed := true, recurses := true, named := ["recto/utf.rows", "recto/refs.turns", "recto/refs.refs", "internal/bytealg.MaxLen"], apart := false, laid := [("recto/utf.rows", laid_recto_utf_rows), ("recto/refs.refs", laid_recto_refs_refs), ("recto/refs.turns", laid_recto_refs_turns)] }
def ToksRawSaid : Prop := toksRawRow.holds Tryd.pinned (OpenSpec.ofChange toksRawSpec)

/-- ITS FALSE NEIGHBOUR: 'it returns false'. Refute it at one input. -/
def toksRawWrong : ChangeSpec := { name := "toksRaw", fn := fun _ => fun
  | [d1, d2, d3] => { results := [.lit (.bool false)], args := [d1, d2, d3] }
  | _ => none }
def ToksRawWrongFalsely : Prop := toksRawRow.holds Tryd.pinned (OpenSpec.ofChange toksRawWrong)

/-- 'rectolaw05.ToksPlain': WHATEVER THE INPUT: true; the input reads as it did. -/
def toksPlainSpec : ChangeSpec := { name := "toksPlain", fn := fun _ => fun
  | [d1, d2] => { results := [.lit (.bool true)], args := [d1, d2] }
  | _ => none }
def toksPlainRow : OpenClaim := { program := "ythfkldheflmlmaadoor", sum := "80731e667bb9fd8577302940e15cccefaa3998bb2db7371abd192772ba95f756", func := "recto/rectolaw05.ToksPlain", spec := "toksPlain", inPlace := ["internal/abi.NoEscape", "internal/bytealg.IndexByteString", "internal/bytealg.IndexString"], unfollowed := true, recurses := true, named := ["recto/utf.rows", "recto/refs.turns", "recto/refs.refs", "internal/bytealg.MaxLen"], apart := false, laid := [("recto/utf.rows", laid_recto_utf_rows), ("recto/refs.refs", laid_recto_refs_refs), ("recto/refs.turns", laid_recto_refs_turns)] }
def ToksPlainSaid : Prop := toksPlainRow.holds Tryd.pinned (OpenSpec.ofChange toksPlainSpec)

/-- ITS FALSE NEIGHBOUR: 'it returns false'. Refute it at one input. -/
def toksPlainWrong : ChangeSpec := { name := "toksPlain", fn := fun _ => fun
  | [d1, d2] => { results := [.lit (.bool false)], args := [d1, d2] }
  | _ => none }
def ToksPlainWrongFalsely : Prop := toksPlainRow.holds Tryd.pinned (OpenSpec.ofChange toksPlainWrong)

/-- 'rectolaw06.PenTagsBack': WHATEVER THE INPUT: true; the input reads as it did. -/
def penTagsBackSpec : ChangeSpec := { name := "penTagsBack", fn := fun _ => fun
  | [d1, d2, d3] => { results := [.lit (.bool true)], args := [d1, d2, d3] }
  | _ => none }
def penTagsBackRow : OpenClaim := { program := "ythfkldheflmlmaadoor", sum := "80731e667bb9fd8577302940e15cccefaa3998bb2db7371abd192772ba95f756", func := "recto/rectolaw06.PenTagsBack", spec := "penTagsBack", inPlace := ["internal/abi.NoEscape", "internal/bytealg.CountString", "internal/bytealg.IndexByteString", "internal/bytealg.IndexString", "internal/bytealg.MakeNoZero"], unfollowed := true, recurses := true, named := ["recto/utf.rows", "internal/bytealg.MaxLen", "unicode/utf8.first", "unicode/utf8.acceptRanges", "recto/refs.turns", "recto/refs.refs"], apart := false, laid := [("unicode/utf8.acceptRanges", laid_unicode_utf8_acceptRanges), ("recto/utf.rows", laid_recto_utf_rows), ("recto/refs.refs", laid_recto_refs_refs), ("recto/refs.turns", laid_recto_refs_turns), ("unicode/utf8.first", laid_unicode_utf8_first)] }
def PenTagsBackSaid : Prop := penTagsBackRow.holds Tryd.pinned (OpenSpec.ofChange penTagsBackSpec)

/-- ITS FALSE NEIGHBOUR: 'it returns false'. Refute it at one input. -/
def penTagsBackWrong : ChangeSpec := { name := "penTagsBack", fn := fun _ => fun
  | [d1, d2, d3] => { results := [.lit (.bool false)], args := [d1, d2, d3] }
  | _ => none }
def PenTagsBackWrongFalsely : Prop := penTagsBackRow.holds Tryd.pinned (OpenSpec.ofChange penTagsBackWrong)

/-- 'rectolaw06.PenCharsBack': WHATEVER THE INPUT: true; the input reads as it did. -/
def penCharsBackSpec : ChangeSpec := { name := "penCharsBack", fn := fun _ => fun
  | [d1, d2] => { results := [.lit (.bool true)], args := [d1, d2] }
  | _ => none }
def penCharsBackRow : OpenClaim := { program := "ythfkldheflmlmaadoor", sum := "80731e667bb9fd8577302940e15cccefaa3998bb2db7371abd192772ba95f756", func := "recto/rectolaw06.PenCharsBack", spec := "penCharsBack", inPlace := ["internal/abi.NoEscape", "internal/bytealg.CountString", "internal/bytealg.IndexByteString", "internal/bytealg.IndexString", "internal/bytealg.MakeNoZero"], unfollowed := true, recurses := true, named := ["recto/utf.rows", "internal/bytealg.MaxLen", "unicode/utf8.first", "unicode/utf8.acceptRanges", "recto/refs.turns", "recto/refs.refs"], apart := false, laid := [("unicode/utf8.acceptRanges", laid_unicode_utf8_acceptRanges), ("recto/utf.rows", laid_recto_utf_rows), ("recto/refs.refs", laid_recto_refs_refs), ("recto/refs.turns", laid_recto_refs_turns), ("unicode/utf8.first", laid_unicode_utf8_first)] }
def PenCharsBackSaid : Prop := penCharsBackRow.holds Tryd.pinned (OpenSpec.ofChange penCharsBackSpec)

/-- ITS FALSE NEIGHBOUR: 'it returns false'. Refute it at one input. -/
def penCharsBackWrong : ChangeSpec := { name := "penCharsBack", fn := fun _ => fun
  | [d1, d2] => { results := [.lit (.bool false)], args := [d1, d2] }
  | _ => none }
def PenCharsBackWrongFalsely : Prop := penCharsBackRow.holds Tryd.pinned (OpenSpec.ofChange penCharsBackWrong)

/-- 'rectolaw06.PenRawBack': WHATEVER THE INPUT: true; the input reads as it did. -/
def penRawBackSpec : ChangeSpec := { name := "penRawBack", fn := fun _ => fun
  | [d1, d2, d3] => { results := [.lit (.bool true)], args := [d1, d2, d3] }
  | _ => none }
def penRawBackRow : OpenClaim := { program := "ythfkldheflmlmaadoor", sum := "80731e667bb9fd8577302940e15cccefaa3998bb2db7371abd192772ba95f756", func := "recto/rectolaw06.PenRawBack", spec := "penRawBack", inPlace := ["internal/abi.NoEscape", "internal/bytealg.CountString", "internal/bytealg.IndexByteString", "internal/bytealg.IndexString", "internal/bytealg.MakeNoZero"], unfollowed := true, recurses := true, named := ["recto/utf.rows", "internal/bytealg.MaxLen", "unicode/utf8.first", "unicode/utf8.acceptRanges", "recto/refs.turns", "recto/refs.refs"], apart := false, laid := [("unicode/utf8.acceptRanges", laid_unicode_utf8_acceptRanges), ("recto/utf.rows", laid_recto_utf_rows), ("recto/refs.refs", laid_recto_refs_refs), ("recto/refs.turns", laid_recto_refs_turns), ("unicode/utf8.first", laid_unicode_utf8_first)] }
def PenRawBackSaid : Prop := penRawBackRow.holds Tryd.pinned (OpenSpec.ofChange penRawBackSpec)

/-- ITS FALSE NEIGHBOUR: 'it returns false'. Refute it at one input. -/
def penRawBackWrong : ChangeSpec := { name := "penRawBack", fn := fun _ => fun
  | [d1, d2, d3] => { results := [.lit (.bool false)], args := [d1, d2, d3] }
  | _ => none }
def PenRawBackWrongFalsely : Prop := penRawBackRow.holds Tryd.pinned (OpenSpec.ofChange penRawBackWrong)

/- THE SECOND FORM. 'bulk': how many values and letters a reading holds, each counted each time it is reached (what is shared counts as often as it is met; a slice's spare places count too). A statement '..UptoSaid' is the law's where the arguments, and the package variables that the reading takes, are together of bulk at most 1048576: NARROWER than '..Said'. Prove '..Said' where nothing that the law and all that it calls make is longer than what came in: it says more and counts as full. Else prove '..UptoSaid'. A law counts once. -/
mutual
def uptoBulk {H : Type} : DataW H → Nat
  | .lit (.string bytes) => bytes.length + 1
  | .lit _ => 1
  | .nil => 1
  | .ptr d => uptoBulk d + 1
  | .slice elems spare => uptoBulkAll elems + uptoBulkAll spare + 1
  | .agg parts => uptoBulkAll parts + 1
  | .iface _ d => uptoBulk d + 1
  | .map entries => uptoBulkEntries entries + 1
  | .held _ => 1
def uptoBulkAll {H : Type} : List (DataW H) → Nat
  | [] => 0
  | d :: r => uptoBulk d + uptoBulkAll r
def uptoBulkEntries {H : Type} : List (Lit × DataW H) → Nat
  | [] => 0
  | x :: r => uptoBulkEntry x + uptoBulkEntries r
def uptoBulkEntry {H : Type} : Lit × DataW H → Nat
  | (.string bytes, d) => bytes.length + uptoBulk d + 1
  | (_, d) => uptoBulk d + 1
 end
def uptoSmall : (H : Type) → List (DataW H) → Bool := fun _ ds => decide (uptoBulkAll ds ≤ 1048576)
def OpenSpec.upto (s : _root_.Go.ChangeSpec) : _root_.Go.OpenSpec := { _root_.Go.OpenSpec.ofChange s with cond := some uptoSmall }

/-- 'rectolaw05.ToksNext', WHERE WHAT IT READS IS OF BULK AT MOST 1048576: true; the input reads as it did. -/
def toksNextUptoRow : OpenClaim := { program := "ythfkldheflmlmaadoor", sum := "80731e667bb9fd8577302940e15cccefaa3998bb2db7371abd192772ba95f756", func := "recto/rectolaw05.ToksNext", spec := "toksNext", inPlace := ["internal/abi.NoEscape", "internal/bytealg.IndexByteString", "internal/bytealg.IndexString"], unfollowed := true, recurses := true, named := ["recto/utf.rows", "recto/refs.turns", "recto/refs.refs", "internal/bytealg.MaxLen"], apart := false, laid := [("recto/utf.rows", laid_recto_utf_rows), ("recto/refs.refs", laid_recto_refs_refs), ("recto/refs.turns", laid_recto_refs_turns)], narrowed := true }
def ToksNextUptoSaid : Prop := toksNextUptoRow.holds Tryd.pinned (OpenSpec.upto toksNextSpec)

/-- 'rectolaw05.ToksGoes', WHERE WHAT IT READS IS OF BULK AT MOST 1048576: true; the input reads as it did. -/
def toksGoesUptoRow : OpenClaim := { program := "ythfkldheflmlmaadoor", sum := "80731e667bb9fd8577302940e15cccefaa3998bb2db7371abd192772ba95f756", func := "recto/rectolaw05.ToksGoes", spec := "toksGoes", inPlace := ["internal/abi.NoEscape", "internal/bytealg.IndexByteString", "internal/bytealg.IndexString"], unfollowed := true, recurses := true, named := ["recto/utf.rows", "recto/refs.turns", "recto/refs.refs", "internal/bytealg.MaxLen"], apart := false, laid := [("recto/utf.rows", laid_recto_utf_rows), ("recto/refs.refs", laid_recto_refs_refs), ("recto/refs.turns", laid_recto_refs_turns)], narrowed := true }
def ToksGoesUptoSaid : Prop := toksGoesUptoRow.holds Tryd.pinned (OpenSpec.upto toksGoesSpec)

/-- 'rectolaw05.ToksNames', WHERE WHAT IT READS IS OF BULK AT MOST 1048576: true; the input reads as it did. -/
def toksNamesUptoRow : OpenClaim := { program := "ythfkldheflmlmaadoor", sum := "80731e667bb9fd8577302940e15cccefaa3998bb2db7371abd192772ba95f756", func := "recto/rectolaw05.ToksNames", spec := "toksNames", inPlace := ["internal/abi.NoEscape", "internal/bytealg.IndexByteString", "internal/bytealg.IndexString"], unfollowed := true, recurses := true, named := ["recto/utf.rows", "recto/refs.turns", "recto/refs.refs", "internal/bytealg.MaxLen"], apart := false, laid := [("recto/utf.rows", laid_recto_utf_rows), ("recto/refs.refs", laid_recto_refs_refs), ("recto/refs.turns", laid_recto_refs_turns)], narrowed := true }
def ToksNamesUptoSaid : Prop := toksNamesUptoRow.holds Tryd.pinned (OpenSpec.upto toksNamesSpec)

/-- 'rectolaw05.ToksRaw', WHERE WHAT IT READS IS OF BULK AT MOST 1048576: true; the input reads as it did. -/
def toksRawUptoRow : OpenClaim := { program := "ythfkldheflmlmaadoor", sum := "80731e667bb9fd8577302940e15cccefaa3998bb2db7371abd192772ba95f756", func := "recto/rectolaw05.ToksRaw", spec := "toksRaw", inPlace := ["internal/abi.NoEscape", "internal/bytealg.IndexByteString", "internal/bytealg.IndexString"], unfollowed := true, recurses := true, named := ["recto/utf.rows", "recto/refs.turns", "recto/refs.refs", "internal/bytealg.MaxLen"], apart := false, laid := [("recto/utf.rows", laid_recto_utf_rows), ("recto/refs.refs", laid_recto_refs_refs), ("recto/refs.turns", laid_recto_refs_turns)], narrowed := true }
def ToksRawUptoSaid : Prop := toksRawUptoRow.holds Tryd.pinned (OpenSpec.upto toksRawSpec)

/-- 'rectolaw05.ToksPlain', WHERE WHAT IT READS IS OF BULK AT MOST 1048576: true; the input reads as it did. -/
def toksPlainUptoRow : OpenClaim := { program := "ythfkldheflmlmaadoor", sum := "80731e667bb9fd8577302940e15cccefaa3998bb2db7371abd192772ba95f756", func := "recto/rectolaw05.ToksPlain", spec := "toksPlain", inPlace := ["internal/abi.NoEscape", "internal/bytealg.IndexByteString", "internal/bytealg.IndexString"], unfollowed := true, recurses := true, named := ["recto/utf.rows", "recto/refs.turns", "recto/refs.refs", "internal/bytealg.MaxLen"], apart := false, laid := [("recto/utf.rows", laid_recto_utf_rows), ("recto/refs.refs", laid_recto_refs_refs), ("recto/refs.turns", laid_recto_refs_turns)], narrowed := true }
def ToksPlainUptoSaid : Prop := toksPlainUptoRow.holds Tryd.pinned (OpenSpec.upto toksPlainSpec)

/-- 'rectolaw06.PenTagsBack', WHERE WHAT IT READS IS OF BULK AT MOST 1048576: true; the input reads as it did. -/
def penTagsBackUptoRow : OpenClaim := { program := "ythfkldheflmlmaadoor", sum := "80731e667bb9fd8577302940e15cccefaa3998bb2db7371abd192772ba95f756", func := "recto/rectolaw06.PenTagsBack", spec := "penTagsBack", inPlace := ["internal/abi.NoEscape", "internal/bytealg.CountString", "internal/bytealg.IndexByteString", "internal/bytealg.IndexString", "internal/bytealg.MakeNoZero"], unfollowed := true, recurses := true, named := ["recto/utf.rows", "internal/bytealg.MaxLen", "unicode/utf8.first", "unicode/utf8.acceptRanges", "recto/refs.turns", "recto/refs.refs"], apart := false, laid := [("unicode/utf8.acceptRanges", laid_unicode_utf8_acceptRanges), ("recto/utf.rows", laid_recto_utf_rows), ("recto/refs.refs", laid_recto_refs_refs), ("recto/refs.turns", laid_recto_refs_turns), ("unicode/utf8.first", laid_unicode_utf8_first)], narrowed := true }
def PenTagsBackUptoSaid : Prop := penTagsBackUptoRow.holds Tryd.pinned (OpenSpec.upto penTagsBackSpec)

/-- 'rectolaw06.PenCharsBack', WHERE WHAT IT READS IS OF BULK AT MOST 1048576: true; the input reads as it did. -/
def penCharsBackUptoRow : OpenClaim := { program := "ythfkldheflmlmaadoor", sum := "80731e667bb9fd8577302940e15cccefaa3998bb2db7371abd192772ba95f756", func := "recto/rectolaw06.PenCharsBack", spec := "penCharsBack", inPlace := ["internal/abi.NoEscape", "internal/bytealg.CountString", "internal/bytealg.IndexByteString", "internal/bytealg.IndexString", "internal/bytealg.MakeNoZero"], unfollowed := true, recurses := true, named := ["recto/utf.rows", "internal/bytealg.MaxLen", "unicode/utf8.first", "unicode/utf8.acceptRanges", "recto/refs.turns", "recto/refs.refs"], apart := false, laid := [("unicode/utf8.acceptRanges", laid_unicode_utf8_acceptRanges), ("recto/utf.rows", laid_recto_utf_rows), ("recto/refs.refs", laid_recto_refs_refs), ("recto/refs.turns", laid_recto_refs_turns), ("unicode/utf8.first", laid_unicode_utf8_first)], narrowed := true }
def PenCharsBackUptoSaid : Prop := penCharsBackUptoRow.holds Tryd.pinned (OpenSpec.upto penCharsBackSpec)

/-- 'rectolaw06.PenRawBack', WHERE WHAT IT READS IS OF BULK AT MOST 1048576: true; the input reads as it did. -/
def penRawBackUptoRow : OpenClaim := { program := "ythfkldheflmlmaadoor", sum := "80731e667bb9fd8577302940e15cccefaa3998bb2db7371abd192772ba95f756", func := "recto/rectolaw06.PenRawBack", spec := "penRawBack", inPlace := ["internal/abi.NoEscape", "internal/bytealg.CountString", "internal/bytealg.IndexByteString", "internal/bytealg.IndexString", "internal/bytealg.MakeNoZero"], unfollowed := true, recurses := true, named := ["recto/utf.rows", "internal/bytealg.MaxLen", "unicode/utf8.first", "unicode/utf8.acceptRanges", "recto/refs.turns", "recto/refs.refs"], apart := false, laid := [("unicode/utf8.acceptRanges", laid_unicode_utf8_acceptRanges), ("recto/utf.rows", laid_recto_utf_rows), ("recto/refs.refs", laid_recto_refs_refs), ("recto/refs.turns", laid_recto_refs_turns), ("unicode/utf8.first", laid_unicode_utf8_first)], narrowed := true }
def PenRawBackUptoSaid : Prop := penRawBackUptoRow.holds Tryd.pinned (OpenSpec.upto penRawBackSpec)

end Rows
end Go.Proofs.YthfkldheflmlmaaDoor
