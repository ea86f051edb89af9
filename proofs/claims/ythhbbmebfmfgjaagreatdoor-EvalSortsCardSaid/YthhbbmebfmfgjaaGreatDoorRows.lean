/-
  NARROWER THAN 'FOR EVERY INPUT', by the rows' own cells (each row's printed sentence says how): EvalSorts: laid · EvalTurned: laid · EvalFolds: laid · EvalGrows: laid · EvalNever: laid · EvalSets: laid · EvalTimes: laid · EvalOthers: laid · EvalMarks: laid · EvalEach: laid.
  DERIVED. THE GIVEN ROWS OF THIS SEAT. 10 by the template 'for every input the law returns true; each argument reads behind the call as it read before'; 0 by the template 'total and deterministic' (their statements: YthhbbmebfmfgjaaGreatDoorTotals.lean).
  GIVEN WITH THE SEED: the statements are not yours to turn. If you find one false, say at which input.
  Laid BY PROGRAM, IN A SANDBOX (cutbox-rows.mjs): the forced cells as the released guide's own fill.sh prints them over the translation 9494dedd6c30b703… (all of the seat's roots in one cut). By AI agents, Wed Nov 11 2026. No macro, syntax, notation, axiom, sorry.
-/
import Derived.Test.YthhbbmebfmfgjaaGreatDoorChecked
import GoSem.PinnedTables
import GoSem.Claim
import GoSem.ClaimJoined
import GoSem.ClaimMapViews
import Derived.JoinedTies
import Derived.KernelRfl
namespace Go.Proofs.YthhbbmebfmfgjaaGreatDoor
/- THE CELL 'sum', in the pinned program and in every row, IS THE sha256 OF THE DUMP (.gsa) THAT YthhbbmebfmfgjaaGreatDoorProg.lean LOADS. Nothing in Lean hashes anything: it is a label: what it is worth is what the hold of that sum in a sandbox is worth. -/
noncomputable def Tryz.pinned : Pinned := { name := "ythhbbmebfmfgjaagreatdoor", sum := "9494dedd6c30b7030eb275587a86ef2c6dc5a3e9f9c97b952052ab6db780ab57", checked := Tryz.checked }
namespace Rows
def none {H : Type} : Left H := { results := [], args := [] }

/- WHAT THE LISTED PACKAGE-LEVEL VARIABLES READ AS WHEN THE CALL BEGINS. Each datum BY PROGRAM (the guide's laid-datum.mjs) off the statement by which the dump's own 'gosem.cut.vars' lays the variable. In a bare row this is a premise. The card (YthhbbmebfmfgjaaGreatDoorCards.lean) ties it to the program's text. -/
def laid_unicode_utf8_acceptRanges {H : Type} : DataW H := .agg [.agg [.lit (.int .u8 128), .lit (.int .u8 191)], .agg [.lit (.int .u8 160), .lit (.int .u8 191)], .agg [.lit (.int .u8 128), .lit (.int .u8 159)], .agg [.lit (.int .u8 144), .lit (.int .u8 191)], .agg [.lit (.int .u8 128), .lit (.int .u8 143)], .agg [.lit (.int .u8 0), .lit (.int .u8 0)], .agg [.lit (.int .u8 0), .lit (.int .u8 0)], .agg [.lit (.int .u8 0), .lit (.int .u8 0)], .agg [.lit (.int .u8 0), .lit (.int .u8 0)], .agg [.lit (.int .u8 0), .lit (.int .u8 0)], .agg [.lit (.int .u8 0), .lit (.int .u8 0)], .agg [.lit (.int .u8 0), .lit (.int .u8 0)], .agg [.lit (.int .u8 0), .lit (.int .u8 0)], .agg [.lit (.int .u8 0), .lit (.int .u8 0)], .agg [.lit (.int .u8 0), .lit (.int .u8 0)], .agg [.lit (.int .u8 0), .lit (.int .u8 0)]]
/-- One of Go's own tables, pinned by name: the form's constant. -/
def laid_unicode_utf8_first : DataW Unit := Go.Pinned.utf8First

/-- 'manometerlaw27.EvalSorts': WHATEVER THE INPUT: true; the input reads as it did. -/
def evalSortsSpec : ChangeSpec := { name := "evalSorts", fn := fun _ => fun
  | [d] => { results := [.lit (.bool true)], args := [d] }
  | _ => none }
def evalSortsRow : OpenClaim := { program := "ythhbbmebfmfgjaagreatdoor", sum := "9494dedd6c30b7030eb275587a86ef2c6dc5a3e9f9c97b952052ab6db780ab57", func := "manometer/manometerlaw27.EvalSorts", spec := "evalSorts", inPlace := ["math.Float64frombits", "math.Float64bits", "math.archFloor", "math.archTrunc", "math.archCeil", "math.sqrt"], unfollowed := true, recurses := true, named := ["unicode/utf8.first", "unicode/utf8.acceptRanges"], apart := false, laid := [("unicode/utf8.acceptRanges", laid_unicode_utf8_acceptRanges), ("unicode/utf8.first", laid_unicode_utf8_first)] }
def EvalSortsSaid : Prop := evalSortsRow.holds Tryz.pinned (OpenSpec.ofChange evalSortsSpec)

/-- ITS FALSE NEIGHBOUR: 'it returns false'. Refute it at one input. -/
def evalSortsWrong : ChangeSpec := { name := "evalSorts", fn := fun _ => fun
  | [d] => { results := [.lit (.bool false)], args := [d] }
  | _ => none }
def EvalSortsWrongFalsely : Prop := evalSortsRow.holds Tryz.pinned (OpenSpec.ofChange evalSortsWrong)

/-- 'manometerlaw27.EvalTurned': WHATEVER THE INPUT: true; the input reads as it did. -/
def evalTurnedSpec : ChangeSpec := { name := "evalTurned", fn := fun _ => fun
  | [d1, d2] => { results := [.lit (.bool true)], args := [d1, d2] }
  | _ => none }
def evalTurnedRow : OpenClaim := { program := "ythhbbmebfmfgjaagreatdoor", sum := "9494dedd6c30b7030eb275587a86ef2c6dc5a3e9f9c97b952052ab6db780ab57", func := "manometer/manometerlaw27.EvalTurned", spec := "evalTurned", inPlace := ["math.Float64frombits", "math.Float64bits", "math.archFloor", "math.archTrunc", "math.archCeil", "math.sqrt"], unfollowed := true, recurses := true, named := ["unicode/utf8.first", "unicode/utf8.acceptRanges"], apart := false, laid := [("unicode/utf8.acceptRanges", laid_unicode_utf8_acceptRanges), ("unicode/utf8.first", laid_unicode_utf8_first)] }
def EvalTurnedSaid : Prop := evalTurnedRow.holds Tryz.pinned (OpenSpec.ofChange evalTurnedSpec)

/-- ITS FALSE NEIGHBOUR: 'it returns false'. Refute it at one input. -/
def evalTurnedWrong : ChangeSpec := { name := "evalTurned", fn := fun _ => fun
  | [d1, d2] => { results := [.lit (.bool false)], args := [d1, d2] }
  | _ => none }
def EvalTurnedWrongFalsely : Prop := evalTurnedRow.holds Tryz.pinned (OpenSpec.ofChange evalTurnedWrong)

/-- 'manometerlaw27.EvalFolds': WHATEVER THE INPUT: true; the input reads as it did. -/
def evalFoldsSpec : ChangeSpec := { name := "evalFolds", fn := fun _ => fun
  | [d1, d2] => { results := [.lit (.bool true)], args := [d1, d2] }
  | _ => none }
def evalFoldsRow : OpenClaim := { program := "ythhbbmebfmfgjaagreatdoor", sum := "9494dedd6c30b7030eb275587a86ef2c6dc5a3e9f9c97b952052ab6db780ab57", func := "manometer/manometerlaw27.EvalFolds", spec := "evalFolds", inPlace := ["math.Float64frombits", "math.Float64bits", "math.archFloor", "math.archTrunc", "math.archCeil", "math.sqrt"], unfollowed := true, recurses := true, named := ["unicode/utf8.first", "unicode/utf8.acceptRanges"], apart := false, laid := [("unicode/utf8.acceptRanges", laid_unicode_utf8_acceptRanges), ("unicode/utf8.first", laid_unicode_utf8_first)] }
def EvalFoldsSaid : Prop := evalFoldsRow.holds Tryz.pinned (OpenSpec.ofChange evalFoldsSpec)

/-- ITS FALSE NEIGHBOUR: 'it returns false'. Refute it at one input. -/
def evalFoldsWrong : ChangeSpec := { name := "evalFolds", fn := fun _ => fun
  | [d1, d2] => { results := [.lit (.bool false)], args := [d1, d2] }
  | _ => none }
def EvalFoldsWrongFalsely : Prop := evalFoldsRow.holds Tryz.pinned (OpenSpec.ofChange evalFoldsWrong)

/-- 'manometerlaw27.EvalGrows': WHATEVER THE INPUT: true; the input reads as it did. -/
def evalGrowsSpec : ChangeSpec := { name := "evalGrows", fn := fun _ => fun
  | [d1, d2, d3, d4] => { results := [.lit (.bool true)], args := [d1, d2, d3, d4] }
  | _ => none }
def evalGrowsRow : OpenClaim := { program := "ythhbbmebfmfgjaagreatdoor", sum := "9494dedd6c30b7030eb275587a86ef2c6dc5a3e9f9c97b952052ab6db780ab57", func := "manometer/manometerlaw27.EvalGrows", spec := "evalGrows", inPlace := ["math.Float64frombits", "math.Float64bits", "math.archFloor", "math.archTrunc", "math.archCeil", "math.sqrt"], unfollowed := true, recurses := true, named := ["unicode/utf8.first", "unicode/utf8.acceptRanges"], apart := false, laid := [("unicode/utf8.acceptRanges", laid_unicode_utf8_acceptRanges), ("unicode/utf8.first", laid_unicode_utf8_first)] }
def EvalGrowsSaid : Prop := evalGrowsRow.holds Tryz.pinned (OpenSpec.ofChange evalGrowsSpec)

/-- ITS FALSE NEIGHBOUR: 'it returns false'. Refute it at one input. -/
def evalGrowsWrong : ChangeSpec := { name := "evalGrows", fn := fun _ => fun
  | [d1, d2, d3, d4] => { results := [.lit (.bool false)], args := [d1, d2, d3, d4] }
  | _ => none }
def EvalGrowsWrongFalsely : Prop := evalGrowsRow.holds Tryz.pinned (OpenSpec.ofChange evalGrowsWrong)

/-- 'manometerlaw27.EvalNever': WHATEVER THE INPUT: true; the input reads as it did. -/
def evalNeverSpec : ChangeSpec := { name := "evalNever", fn := fun _ => fun
  | [d1, d2, d3] => { results := [.lit (.bool true)], args := [d1, d2, d3] }
  | _ => none }
def evalNeverRow : OpenClaim := { program := "ythhbbmebfmfgjaagreatdoor", sum := "9494dedd6c30b7030eb275587a86ef2c6dc5a3e9f9c97b952052ab6db780ab57", func := "manometer/manometerlaw27.EvalNever", spec := "evalNever", inPlace := ["math.Float64frombits", "math.Float64bits", "math.archFloor", "math.archTrunc", "math.archCeil", "math.sqrt"], unfollowed := true, recurses := true, named := ["unicode/utf8.first", "unicode/utf8.acceptRanges"], apart := false, laid := [("unicode/utf8.acceptRanges", laid_unicode_utf8_acceptRanges), ("unicode/utf8.first", laid_unicode_utf8_first)] }
def EvalNeverSaid : Prop := evalNeverRow.holds Tryz.pinned (OpenSpec.ofChange evalNeverSpec)

/-- ITS FALSE NEIGHBOUR: 'it returns false'. Refute it at one input. -/
def evalNeverWrong : ChangeSpec := { name := "evalNever", fn := fun _ => fun
  | [d1, d2, d3] => { results := [.lit (.bool false)], args := [d1, d2, d3] }
  | _ => none }
def EvalNeverWrongFalsely : Prop := evalNeverRow.holds Tryz.pinned (OpenSpec.ofChange evalNeverWrong)

/-- 'manometerlaw27.EvalSets': WHATEVER THE INPUT: true; the input reads as it did. -/
def evalSetsSpec : ChangeSpec := { name := "evalSets", fn := fun _ => fun
  | [d1, d2, d3] => { results := [.lit (.bool true)], args := [d1, d2, d3] }
  | _ => none }
def evalSetsRow : OpenClaim := { program := "ythhbbmebfmfgjaagreatdoor", sum := "9494dedd6c30b7030eb275587a86ef2c6dc5a3e9f9c97b952052ab6db780ab57", func := "manometer/manometerlaw27.EvalSets", spec := "evalSets", inPlace := ["math.Float64frombits", "math.Float64bits", "math.archFloor", "math.archTrunc", "math.archCeil", "math.sqrt"], unfollowed := true, recurses := true, named := ["unicode/utf8.first", "unicode/utf8.acceptRanges"], apart := false, laid := [("unicode/utf8.acceptRanges", laid_unicode_utf8_acceptRanges), ("unicode/utf8.first", laid_unicode_utf8_first)] }
def EvalSetsSaid : Prop := evalSetsRow.holds Tryz.pinned (OpenSpec.ofChange evalSetsSpec)

/-- ITS FALSE NEIGHBOUR: 'it returns false'. Refute it at one input. -/
def evalSetsWrong : ChangeSpec := { name := "evalSets", fn := fun _ => fun
  | [d1, d2, d3] => { results := [.lit (.bool false)], args := [d1, d2, d3] }
  | _ => none }
def EvalSetsWrongFalsely : Prop := evalSetsRow.holds Tryz.pinned (OpenSpec.ofChange evalSetsWrong)

/-- 'manometerlaw27.EvalTimes': WHATEVER THE INPUT: true; the input reads as it did. -/
def evalTimesSpec : ChangeSpec := { name := "evalTimes", fn := fun _ => fun
  | [d] => { results := [.lit (.bool true)], args := [d] }
  | _ => none }
def evalTimesRow : OpenClaim := { program := "ythhbbmebfmfgjaagreatdoor", sum := "9494dedd6c30b7030eb275587a86ef2c6dc5a3e9f9c97b952052ab6db780ab57", func := "manometer/manometerlaw27.EvalTimes", spec := "evalTimes", inPlace := ["math.Float64frombits", "math.Float64bits", "math.archFloor", "math.archTrunc", "math.archCeil", "math.sqrt"], unfollowed := true, recurses := true, named := ["unicode/utf8.first", "unicode/utf8.acceptRanges"], apart := false, laid := [("unicode/utf8.acceptRanges", laid_unicode_utf8_acceptRanges), ("unicode/utf8.first", laid_unicode_utf8_first)] }
def EvalTimesSaid : Prop := evalTimesRow.holds Tryz.pinned (OpenSpec.ofChange evalTimesSpec)

/-- ITS FALSE NEIGHBOUR: 'it returns false'. Refute it at one input. -/
def evalTimesWrong : ChangeSpec := { name := "evalTimes", fn := fun _ => fun
  | [d] => { results := [.lit (.bool false)], args := [d] }
  | _ => none }
def EvalTimesWrongFalsely : Prop := evalTimesRow.holds Tryz.pinned (OpenSpec.ofChange evalTimesWrong)

/-- 'manometerlaw27.EvalOthers': WHATEVER THE INPUT: true; the input reads as it did. -/
def evalOthersSpec : ChangeSpec := { name := "evalOthers", fn := fun _ => fun
  | [d1, d2, d3, d4] => { results := [.lit (.bool true)], args := [d1, d2, d3, d4] }
  | _ => none }
def evalOthersRow : OpenClaim := { program := "ythhbbmebfmfgjaagreatdoor", sum := "9494dedd6c30b7030eb275587a86ef2c6dc5a3e9f9c97b952052ab6db780ab57", func := "manometer/manometerlaw27.EvalOthers", spec := "evalOthers", inPlace := ["math.Float64frombits", "math.Float64bits", "math.archFloor", "math.archTrunc", "math.archCeil", "math.sqrt"], unfollowed := true, recurses := true, named := ["unicode/utf8.first", "unicode/utf8.acceptRanges"], apart := false, laid := [("unicode/utf8.acceptRanges", laid_unicode_utf8_acceptRanges), ("unicode/utf8.first", laid_unicode_utf8_first)] }
def EvalOthersSaid : Prop := evalOthersRow.holds Tryz.pinned (OpenSpec.ofChange evalOthersSpec)

/-- ITS FALSE NEIGHBOUR: 'it returns false'. Refute it at one input. -/
def evalOthersWrong : ChangeSpec := { name := "evalOthers", fn := fun _ => fun
  | [d1, d2, d3, d4] => { results := [.lit (.bool false)], args := [d1, d2, d3, d4] }
  | _ => none }
def EvalOthersWrongFalsely : Prop := evalOthersRow.holds Tryz.pinned (OpenSpec.ofChange evalOthersWrong)

/-- 'manometerlaw27.EvalMarks': WHATEVER THE INPUT: true; the input reads as it did. -/
def evalMarksSpec : ChangeSpec := { name := "evalMarks", fn := fun _ => fun
  | [d1, d2, d3, d4] => { results := [.lit (.bool true)], args := [d1, d2, d3, d4] }
  | _ => none }
def evalMarksRow : OpenClaim := { program := "ythhbbmebfmfgjaagreatdoor", sum := "9494dedd6c30b7030eb275587a86ef2c6dc5a3e9f9c97b952052ab6db780ab57", func := "manometer/manometerlaw27.EvalMarks", spec := "evalMarks", inPlace := ["math.Float64frombits", "math.Float64bits", "math.archFloor", "math.archTrunc", "math.archCeil", "math.sqrt"], unfollowed := true, recurses := true, named := ["unicode/utf8.first", "unicode/utf8.acceptRanges"], apart := false, laid := [("unicode/utf8.acceptRanges", laid_unicode_utf8_acceptRanges), ("unicode/utf8.first", laid_unicode_utf8_first)] }
def EvalMarksSaid : Prop := evalMarksRow.holds Tryz.pinned (OpenSpec.ofChange evalMarksSpec)

/-- ITS FALSE NEIGHBOUR: 'it returns false'. Refute it at one input. -/
def evalMarksWrong : ChangeSpec := { name := "evalMarks", fn := fun _ => fun
  | [d1, d2, d3, d4] => { results := [.lit (.bool false)], args := [d1, d2, d3, d4] }
  | _ => none }
def EvalMarksWrongFalsely : Prop := evalMarksRow.holds Tryz.pinned (OpenSpec.ofChange evalMarksWrong)

/-- 'manometerlaw27.EvalEach': WHATEVER THE INPUT: true; the input reads as it did. -/
def evalEachSpec : ChangeSpec := { name := "evalEach", fn := fun _ => fun
  | [d1, d2, d3] => { results := [.lit (.bool true)], args := [d1, d2, d3] }
  | _ => none }
def evalEachRow : OpenClaim := { program := "ythhbbmebfmfgjaagreatdoor", sum := "9494dedd6c30b7030eb275587a86ef2c6dc5a3e9f9c97b952052ab6db780ab57", func := "manometer/manometerlaw27.EvalEach", spec := "evalEach", inPlace := ["math.Float64frombits", "math.Float64bits", "math.archFloor", "math.archTrunc", "math.archCeil", "math.sqrt"], unfollowed := true, recurses := true, named := ["unicode/utf8.first", "unicode/utf8.acceptRanges"], apart := false, laid := [("unicode/utf8.acceptRanges", laid_unicode_utf8_acceptRanges), ("unicode/utf8.first", laid_unicode_utf8_first)] }
def EvalEachSaid : Prop := evalEachRow.holds Tryz.pinned (OpenSpec.ofChange evalEachSpec)

/-- ITS FALSE NEIGHBOUR: 'it returns false'. Refute it at one input. -/
def evalEachWrong : ChangeSpec := { name := "evalEach", fn := fun _ => fun
  | [d1, d2, d3] => { results := [.lit (.bool false)], args := [d1, d2, d3] }
  | _ => none }
def EvalEachWrongFalsely : Prop := evalEachRow.holds Tryz.pinned (OpenSpec.ofChange evalEachWrong)

/- THE SECOND FORM. 'bulk': how many values and letters a reading holds, each counted each time it is reached (what is shared counts as often as it is met; a slice's spare places count too). A statement '..UptoSaid' is the law's where the arguments, and the package variables that the reading takes, are together of bulk at most 1048576: NARROWER than '..Said'. Prove '..Said' where nothing that the law and all that it calls make is longer than what came in: it says more and counts as full. Else prove '..UptoSaid'. A law counts once. -/
mutual
def uptoBulk {H : Type} : DataW H → Nat
  | .lit (.string bytes) => bytes.length + 1
  | .lit _ => 1
  | .nil => 1
  | .ptr d => uptoBulk d + 1
  | .slice elems spare => uptoBulkAll elems + uptoBulkAll spare + 1
  | .agg parts => uptoBulkAll parts + 1
  | .iface _ d => uptoBulk d + 1
  | .map entries => uptoBulkEntries entries + 1
  | .held _ => 1
def uptoBulkAll {H : Type} : List (DataW H) → Nat
  | [] => 0
  | d :: r => uptoBulk d + uptoBulkAll r
def uptoBulkEntries {H : Type} : List (Lit × DataW H) → Nat
  | [] => 0
  | x :: r => uptoBulkEntry x + uptoBulkEntries r
def uptoBulkEntry {H : Type} : Lit × DataW H → Nat
  | (.string bytes, d) => bytes.length + uptoBulk d + 1
  | (_, d) => uptoBulk d + 1
 end
def uptoSmall : (H : Type) → List (DataW H) → Bool := fun _ ds => decide (uptoBulkAll ds ≤ 1048576)
def OpenSpec.upto (s : _root_.Go.ChangeSpec) : _root_.Go.OpenSpec := { _root_.Go.OpenSpec.ofChange s with cond := some uptoSmall }

/-- 'manometerlaw27.EvalSorts', WHERE WHAT IT READS IS OF BULK AT MOST 1048576: true; the input reads as it did. -/
def evalSortsUptoRow : OpenClaim := { program := "ythhbbmebfmfgjaagreatdoor", sum := "9494dedd6c30b7030eb275587a86ef2c6dc5a3e9f9c97b952052ab6db780ab57", func := "manometer/manometerlaw27.EvalSorts", spec := "evalSorts", inPlace := ["math.Float64frombits", "math.Float64bits", "math.archFloor", "math.archTrunc", "math.archCeil", "math.sqrt"], unfollowed := true, recurses := true, named := ["unicode/utf8.first", "unicode/utf8.acceptRanges"], apart := false, laid := [("unicode/utf8.acceptRanges", laid_unicode_utf8_acceptRanges), ("unicode/utf8.first", laid_unicode_utf8_first)], narrowed := true }
def EvalSortsUptoSaid : Prop := evalSortsUptoRow.holds Tryz.pinned (OpenSpec.upto evalSortsSpec)

/-- 'manometerlaw27.EvalTurned', WHERE WHAT IT READS IS OF BULK AT MOST 1048576: true; the input reads as it did. -/
def evalTurnedUptoRow : OpenClaim := { program := "ythhbbmebfmfgjaagreatdoor", sum := "9494dedd6c30b7030eb275587a86ef2c6dc5a3e9f9c97b952052ab6db780ab57", func := "manometer/manometerlaw27.EvalTurned", spec := "evalTurned", inPlace := ["math.Float64frombits", "math.Float64bits", "math.archFloor", "math.archTrunc", "math.archCeil", "math.sqrt"], unfollowed := true, recurses := true, named := ["unicode/utf8.first", "unicode/utf8.acceptRanges"], apart := false, laid := [("unicode/utf8.acceptRanges", laid_unicode_utf8_acceptRanges), ("unicode/utf8.first", laid_unicode_utf8_first)], narrowed := true }
def EvalTurnedUptoSaid : Prop := evalTurnedUptoRow.holds Tryz.pinned (OpenSpec.upto evalTurnedSpec)

/-- 'manometerlaw27.EvalFolds', WHERE WHAT IT READS IS OF BULK AT MOST 1048576: true; the input reads as it did. -/
def evalFoldsUptoRow : OpenClaim := { program := "ythhbbmebfmfgjaagreatdoor", sum := "9494dedd6c30b7030eb275587a86ef2c6dc5a3e9f9c97b952052ab6db780ab57", func := "manometer/manometerlaw27.EvalFolds", spec := "evalFolds", inPlace := ["math.Float64frombits", "math.Float64bits", "math.archFloor", "math.archTrunc", "math.archCeil", "math.sqrt"], unfollowed := true, recurses := true, named := ["unicode/utf8.first", "unicode/utf8.acceptRanges"], apart := false, laid := [("unicode/utf8.acceptRanges", laid_unicode_utf8_acceptRanges), ("unicode/utf8.first", laid_unicode_utf8_first)], narrowed := true }
def EvalFoldsUptoSaid : Prop := evalFoldsUptoRow.holds Tryz.pinned (OpenSpec.upto evalFoldsSpec)

/-- 'manometerlaw27.EvalGrows', WHERE WHAT IT READS IS OF BULK AT MOST 1048576: true; the input reads as it did. -/
def evalGrowsUptoRow : OpenClaim := { program := "ythhbbmebfmfgjaagreatdoor", sum := "9494dedd6c30b7030eb275587a86ef2c6dc5a3e9f9c97b952052ab6db780ab57", func := "manometer/manometerlaw27.EvalGrows", spec := "evalGrows", inPlace := ["math.Float64frombits", "math.Float64bits", "math.archFloor", "math.archTrunc", "math.archCeil", "math.sqrt"], unfollowed := true, recurses := true, named := ["unicode/utf8.first", "unicode/utf8.acceptRanges"], apart := false, laid := [("unicode/utf8.acceptRanges", laid_unicode_utf8_acceptRanges), ("unicode/utf8.first", laid_unicode_utf8_first)], narrowed := true }
def EvalGrowsUptoSaid : Prop := evalGrowsUptoRow.holds Tryz.pinned (OpenSpec.upto evalGrowsSpec)

/-- 'manometerlaw27.EvalNever', WHERE WHAT IT READS IS OF BULK AT MOST 1048576: true; the input reads as it did. -/
def evalNeverUptoRow : OpenClaim := { program := "ythhbbmebfmfgjaagreatdoor", sum := "9494dedd6c30b7030eb275587a86ef2c6dc5a3e9f9c97b952052ab6db780ab57", func := "manometer/manometerlaw27.EvalNever", spec := "evalNever", inPlace := ["math.Float64frombits", "math.Float64bits", "math.archFloor", "math.archTrunc", "math.archCeil", "math.sqrt"], unfollowed := true, recurses := true, named := ["unicode/utf8.first", "unicode/utf8.acceptRanges"], apart := false, laid := [("unicode/utf8.acceptRanges", laid_unicode_utf8_acceptRanges), ("unicode/utf8.first", laid_unicode_utf8_first)], narrowed := true }
def EvalNeverUptoSaid : Prop := evalNeverUptoRow.holds Tryz.pinned (OpenSpec.upto evalNeverSpec)

/-- 'manometerlaw27.EvalSets', WHERE WHAT IT READS IS OF BULK AT MOST 1048576: true; the input reads as it did. -/
def evalSetsUptoRow : OpenClaim := { program := "ythhbbmebfmfgjaagreatdoor", sum := "9494dedd6c30b7030eb275587a86ef2c6dc5a3e9f9c97b952052ab6db780ab57", func := "manometer/manometerlaw27.EvalSets", spec := "evalSets", inPlace := ["math.Float64frombits", "math.Float64bits", "math.archFloor", "math.archTrunc", "math.archCeil", "math.sqrt"], unfollowed := true, recurses := true, named := ["unicode/utf8.first", "unicode/utf8.acceptRanges"], apart := false, laid := [("unicode/utf8.acceptRanges", laid_unicode_utf8_acceptRanges), ("unicode/utf8.first", laid_unicode_utf8_first)], narrowed := true }
def EvalSetsUptoSaid : Prop := evalSetsUptoRow.holds Tryz.pinned (OpenSpec.upto evalSetsSpec)

/-- 'manometerlaw27.EvalTimes', WHERE WHAT IT READS IS OF BULK AT MOST 1048576: true; the input reads as it did. -/
def evalTimesUptoRow : OpenClaim := { program := "ythhbbmebfmfgjaagreatdoor", sum := "9494dedd6c30b7030eb275587a86ef2c6dc5a3e9f9c97b952052ab6db780ab57", func := "manometer/manometerlaw27.EvalTimes", spec := "evalTimes", inPlace := ["math.Float64frombits", "math.Float64bits", "math.archFloor", "math.archTrunc", "math.archCeil", "math.sqrt"], unfollowed := true, recurses := true, named := ["unicode/utf8.first", "unicode/utf8.acceptRanges"], apart := false, laid := [("unicode/utf8.acceptRanges", laid_unicode_utf8_acceptRanges), ("unicode/utf8.first", laid_unicode_utf8_first)], narrowed := true }
def EvalTimesUptoSaid : Prop := evalTimesUptoRow.holds Tryz.pinned (OpenSpec.upto evalTimesSpec)

/-- 'manometerlaw27.EvalOthers', WHERE WHAT IT READS IS OF BULK AT MOST 1048576: true; the input reads as it did. -/
def evalOthersUptoRow : OpenClaim := { program := "ythhbbmebfmfgjaagreatdoor", sum := "9494dedd6c30b7030eb275587a86ef2c6dc5a3e9f9c97b952052ab6db780ab57", func := "manometer/manometerlaw27.EvalOthers", spec := "evalOthers", inPlace := ["math.Float64frombits", "math.Float64bits", "math.archFloor", "math.archTrunc", "math.archCeil", "math.sqrt"], unfollowed := true, recurses := true, named := ["unicode/utf8.first", "unicode/utf8.acceptRanges"], apart := false, laid := [("unicode/utf8.acceptRanges", laid_unicode_utf8_acceptRanges), ("unicode/utf8.first", laid_unicode_utf8_first)], narrowed := true }
def EvalOthersUptoSaid : Prop := evalOthersUptoRow.holds Tryz.pinned (OpenSpec.upto evalOthersSpec)

/-- 'manometerlaw27.EvalMarks', WHERE WHAT IT READS IS OF BULK AT MOST 1048576: true; the input reads as it did. -/
def evalMarksUptoRow : OpenClaim := { program := "ythhbbmebfmfgjaagreatdoor", sum := "9494dedd6c30b7030eb275587a86ef2c6dc5a3e9f9c97b952052ab6db780ab57", func := "manometer/manometerlaw27.EvalMarks", spec := "evalMarks", inPlace := ["math.Float64frombits", "math.Float64bits", "math.archFloor", "math.archTrunc", "math.archCeil", "math.sqrt"], unfollowed := true, recurses := true, named := ["unicode/utf8.first", "unicode/utf8.acceptRanges"], apart := false, laid := [("unicode/utf8.acceptRanges", laid_unicode_utf8_acceptRanges), ("unicode/utf8.first", laid_unicode_utf8_first)], narrowed := true }
def EvalMarksUptoSaid : Prop := evalMarksUptoRow.holds Tryz.pinned (OpenSpec.upto evalMarksSpec)

/-- 'manometerlaw27.EvalEach', WHERE WHAT IT READS IS OF BULK AT MOST 1048576: true; the input reads as it did. -/
def evalEachUptoRow : OpenClaim := { program := "ythhbbmebfmfgjaagreatdoor", sum := "9494dedd6c30b7030eb275587a86ef2c6dc5a3e9f9c97b952052ab6db780ab57", func := "manometer/manometerlaw27.EvalEach", spec := "evalEach", inPlace := ["math.Float64frombits", "math.Float64bits", "math.archFloor", "math.archTrunc", "math.archCeil", "math.sqrt"], unfollowed := true, recurses := true, named := ["unicode/utf8.first", "unicode/utf8.acceptRanges"], apart := false, laid := [("unicode/utf8.acceptRanges", laid_unicode_utf8_acceptRanges), ("unicode/utf8.first", laid_unicode_utf8_first)], narrowed := true }
def EvalEachUptoSaid : Prop := evalEachUptoRow.holds Tryz.pinned (OpenSpec.upto evalEachSpec)

end Rows
end Go.Proofs.YthhbbmebfmfgjaaGreatDoor
