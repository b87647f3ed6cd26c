/-
  NARROWER THAN 'FOR EVERY INPUT', by the rows' own cells (each row's printed sentence says how): MatchSelf: loops · MatchPages: loops · MatchRises: loops.
  DERIVED. THE GIVEN ROWS OF THIS SEAT. 3 by the template 'for every input the law returns true; each argument reads behind the call as it read before'; 0 by the template 'total and deterministic' (their statements: YtdlenbkkcpcbmaaTotals.lean).
  GIVEN WITH THE SEED: the statements are not yours to turn. If you find one false, say at which input.
  Laid BY PROGRAM, IN A SANDBOX (cutbox-rows.mjs): the forced cells as the released guide's own fill.sh prints them over the translation b498e6c90ef113e3… (all of the seat's roots in one cut). By AI agents, Wed Nov 11 2026. No macro, syntax, notation, axiom, sorry.
-/
import Derived.Test.YtdlenbkkcpcbmaaChecked
import GoSem.Claim
import GoSem.ClaimJoined
import GoSem.ClaimMapViews
import Derived.JoinedTies
import Derived.KernelRfl
namespace Go.Proofs.Ytdlenbkkcpcbmaa
/- THE CELL 'sum', in the pinned program and in every row, IS THE sha256 OF THE DUMP (.gsa) THAT YtdlenbkkcpcbmaaProg.lean LOADS. Nothing in Lean hashes anything: it is a label: what it is worth is what the hold of that sum in a sandbox is worth. -/
noncomputable def Try.pinned : Pinned := { name := "ytdlenbkkcpcbmaa", sum := "b498e6c90ef113e3a1496b6652634eb52b334ffe60d3743249110fb68f5f8f80", checked := Try.checked }
namespace Rows
def none {H : Type} : Left H := { results := [], args := [] }

/-- 'rectolaw20.MatchSelf': WHATEVER THE INPUT: true; the input reads as it did. -/
def matchSelfSpec : ChangeSpec := { name := "matchSelf", fn := fun _ => fun
  | [d] => { results := [.lit (.bool true)], args := [d] }
  | _ => none }
def matchSelfRow : OpenClaim := { program := "ytdlenbkkcpcbmaa", sum := "b498e6c90ef113e3a1496b6652634eb52b334ffe60d3743249110fb68f5f8f80", func := "recto/rectolaw20.MatchSelf", spec := "matchSelf", inPlace := ["internal/abi.NoEscape"], unfollowed := true, recurses := true, loops := true, apart := false }
def MatchSelfSaid : Prop := matchSelfRow.holds Try.pinned (OpenSpec.ofChange matchSelfSpec)

/-- ITS FALSE NEIGHBOUR: 'it returns false'. Refute it at one input. -/
def matchSelfWrong : ChangeSpec := { name := "matchSelf", fn := fun _ => fun
  | [d] => { results := [.lit (.bool false)], args := [d] }
  | _ => none }
def MatchSelfWrongFalsely : Prop := matchSelfRow.holds Try.pinned (OpenSpec.ofChange matchSelfWrong)

/-- 'rectolaw20.MatchPages': WHATEVER THE INPUT: true; the input reads as it did. -/
def matchPagesSpec : ChangeSpec := { name := "matchPages", fn := fun _ => fun
  | [d1, d2] => { results := [.lit (.bool true)], args := [d1, d2] }
  | _ => none }
def matchPagesRow : OpenClaim := { program := "ytdlenbkkcpcbmaa", sum := "b498e6c90ef113e3a1496b6652634eb52b334ffe60d3743249110fb68f5f8f80", func := "recto/rectolaw20.MatchPages", spec := "matchPages", inPlace := ["internal/abi.NoEscape"], unfollowed := true, recurses := true, loops := true, apart := false }
def MatchPagesSaid : Prop := matchPagesRow.holds Try.pinned (OpenSpec.ofChange matchPagesSpec)

/-- ITS FALSE NEIGHBOUR: 'it returns false'. Refute it at one input. -/
def matchPagesWrong : ChangeSpec := { name := "matchPages", fn := fun _ => fun
  | [d1, d2] => { results := [.lit (.bool false)], args := [d1, d2] }
  | _ => none }
def MatchPagesWrongFalsely : Prop := matchPagesRow.holds Try.pinned (OpenSpec.ofChange matchPagesWrong)

/-- 'rectolaw20.MatchRises': WHATEVER THE INPUT: true; the input reads as it did. -/
def matchRisesSpec : ChangeSpec := { name := "matchRises", fn := fun _ => fun
  | [d1, d2] => { results := [.lit (.bool true)], args := [d1, d2] }
  | _ => none }
def matchRisesRow : OpenClaim := { program := "ytdlenbkkcpcbmaa", sum := "b498e6c90ef113e3a1496b6652634eb52b334ffe60d3743249110fb68f5f8f80", func := "recto/rectolaw20.MatchRises", spec := "matchRises", inPlace := ["internal/abi.NoEscape"], unfollowed := true, recurses := true, loops := true, apart := false }
def MatchRisesSaid : Prop := matchRisesRow.holds Try.pinned (OpenSpec.ofChange matchRisesSpec)

/-- ITS FALSE NEIGHBOUR: 'it returns false'. Refute it at one input. -/
def matchRisesWrong : ChangeSpec := { name := "matchRises", fn := fun _ => fun
  | [d1, d2] => { results := [.lit (.bool false)], args := [d1, d2] }
  | _ => none }
def MatchRisesWrongFalsely : Prop := matchRisesRow.holds Try.pinned (OpenSpec.ofChange matchRisesWrong)

/- THE SECOND FORM. 'bulk': how many values and letters a reading holds, each counted each time it is reached (what is shared counts as often as it is met; a slice's spare places count too). A statement '..UptoSaid' is the law's where the arguments, and the package variables that the reading takes, are together of bulk at most 1048576: NARROWER than '..Said'. Prove '..Said' where nothing that the law and all that it calls make is longer than what came in: it says more and counts as full. Else prove '..UptoSaid'. A law counts once. -/
mutual
def uptoBulk {H : Type} : DataW H → Nat
  | .lit (.string bytes) => bytes.length + 1
  | .lit _ => 1
  | .nil => 1
  | .ptr d => uptoBulk d + 1
  | .slice elems spare => uptoBulkAll elems + uptoBulkAll spare + 1
  | .agg parts => uptoBulkAll parts + 1
  | .iface _ d => uptoBulk d + 1
  | .map entries => uptoBulkEntries entries + 1
  | .held _ => 1
def uptoBulkAll {H : Type} : List (DataW H) → Nat
  | [] => 0
  | d :: r => uptoBulk d + uptoBulkAll r
def uptoBulkEntries {H : Type} : List (Lit × DataW H) → Nat
  | [] => 0
  | x :: r => uptoBulkEntry x + uptoBulkEntries r
def uptoBulkEntry {H : Type} : Lit × DataW H → Nat
  | (.string bytes, d) => bytes.length + uptoBulk d + 1
  | (_, d) => uptoBulk d + 1
 end
def uptoSmall : (H : Type) → List (DataW H) → Bool := fun _ ds => decide (uptoBulkAll ds ≤ 1048576)
def OpenSpec.upto (s : _root_.Go.ChangeSpec) : _root_.Go.OpenSpec := { _root_.Go.OpenSpec.ofChange s with cond := some uptoSmall }

/-- 'rectolaw20.MatchSelf', WHERE WHAT IT READS IS OF BULK AT MOST 1048576: true; the input reads as it did. -/
def matchSelfUptoRow : OpenClaim := { program := "ytdlenbkkcpcbmaa", sum := "b498e6c90ef113e3a1496b6652634eb52b334ffe60d3743249110fb68f5f8f80", func := "recto/rectolaw20.MatchSelf", spec := "matchSelf", inPlace := ["internal/abi.NoEscape"], unfollowed := true, recurses := true, loops := true, apart := false, narrowed := true }
def MatchSelfUptoSaid : Prop := matchSelfUptoRow.holds Try.pinned (OpenSpec.upto matchSelfSpec)

/-- 'rectolaw20.MatchPages', WHERE WHAT IT READS IS OF BULK AT MOST 1048576: true; the input reads as it did. -/
def matchPagesUptoRow : OpenClaim := { program := "ytdlenbkkcpcbmaa", sum := "b498e6c90ef113e3a1496b6652634eb52b334ffe60d3743249110fb68f5f8f80", func := "recto/rectolaw20.MatchPages", spec := "matchPages", inPlace := ["internal/abi.NoEscape"], unfollowed := true, recurses := true, loops := true, apart := false, narrowed := true }
def MatchPagesUptoSaid : Prop := matchPagesUptoRow.holds Try.pinned (OpenSpec.upto matchPagesSpec)

/-- 'rectolaw20.MatchRises', WHERE WHAT IT READS IS OF BULK AT MOST 1048576: true; the input reads as it did. -/
def matchRisesUptoRow : OpenClaim := { program := "ytdlenbkkcpcbmaa", sum := "b498e6c90ef113e3a1496b6652634eb52b334ffe60d3743249110fb68f5f8f80", func := "recto/rectolaw20.MatchRises", spec := "matchRises", inPlace := ["internal/abi.NoEscape"], unfollowed := true, recurses := true, loops := true, apart := false, narrowed := true }
def MatchRisesUptoSaid : Prop := matchRisesUptoRow.holds Try.pinned (OpenSpec.upto matchRisesSpec)

end Rows
end Go.Proofs.Ytdlenbkkcpcbmaa
