/-
  NARROWER THAN 'FOR EVERY INPUT', by the rows' own cells (each row's printed sentence says how): ExprBack: laid · ExprAgain: laid · ExprParts: laid · ExprChecks: laid · ExprPrints: laid.
  DERIVED. THE GIVEN ROWS OF THIS SEAT. 5 by the template 'for every input the law returns true; each argument reads behind the call as it read before'; 0 by the template 'total and deterministic' (their statements: YtmbfpichaaanpaaGreatDoorTotals.lean).
  GIVEN WITH THE SEED: the statements are not yours to turn. If you find one false, say at which input.
  Laid BY PROGRAM, IN A SANDBOX (cutbox-rows.mjs): the forced cells as the released guide's own fill.sh prints them over the translation 19c4650be8010749… (all of the seat's roots in one cut). By AI agents, Wed Nov 11 2026. No macro, syntax, notation, axiom, sorry.
-/
import Derived.Test.YtmbfpichaaanpaaGreatDoorChecked
import GoSem.PinnedTables
import GoSem.Claim
import GoSem.ClaimJoined
import GoSem.ClaimMapViews
import Derived.JoinedTies
import Derived.KernelRfl
namespace Go.Proofs.YtmbfpichaaanpaaGreatDoor
/- THE CELL 'sum', in the pinned program and in every row, IS THE sha256 OF THE DUMP (.gsa) THAT YtmbfpichaaanpaaGreatDoorProg.lean LOADS. Nothing in Lean hashes anything: it is a label: what it is worth is what the hold of that sum in a sandbox is worth. -/
noncomputable def Tryz.pinned : Pinned := { name := "ytmbfpichaaanpaagreatdoor", sum := "19c4650be80107495b9db61bf7fe906e9b9316c8fd99b4ac72809b5925363ab7", checked := Tryz.checked }
namespace Rows
def none {H : Type} : Left H := { results := [], args := [] }

/- WHAT THE LISTED PACKAGE-LEVEL VARIABLES READ AS WHEN THE CALL BEGINS. Each datum BY PROGRAM (the guide's laid-datum.mjs) off the statement by which the dump's own 'gosem.cut.vars' lays the variable. In a bare row this is a premise. The card (YtmbfpichaaanpaaGreatDoorCards.lean) ties it to the program's text. -/
def laid_unicode_utf8_acceptRanges {H : Type} : DataW H := .agg [.agg [.lit (.int .u8 128), .lit (.int .u8 191)], .agg [.lit (.int .u8 160), .lit (.int .u8 191)], .agg [.lit (.int .u8 128), .lit (.int .u8 159)], .agg [.lit (.int .u8 144), .lit (.int .u8 191)], .agg [.lit (.int .u8 128), .lit (.int .u8 143)], .agg [.lit (.int .u8 0), .lit (.int .u8 0)], .agg [.lit (.int .u8 0), .lit (.int .u8 0)], .agg [.lit (.int .u8 0), .lit (.int .u8 0)], .agg [.lit (.int .u8 0), .lit (.int .u8 0)], .agg [.lit (.int .u8 0), .lit (.int .u8 0)], .agg [.lit (.int .u8 0), .lit (.int .u8 0)], .agg [.lit (.int .u8 0), .lit (.int .u8 0)], .agg [.lit (.int .u8 0), .lit (.int .u8 0)], .agg [.lit (.int .u8 0), .lit (.int .u8 0)], .agg [.lit (.int .u8 0), .lit (.int .u8 0)], .agg [.lit (.int .u8 0), .lit (.int .u8 0)]]
def laid_manometer_expr_calls {H : Type} : DataW H := .agg [.lit (.string [114, 97, 116, 101]), .lit (.string [105, 110, 99, 114, 101, 97, 115, 101]), .lit (.string [100, 101, 108, 116, 97]), .lit (.string [115, 117, 109, 95, 111, 118, 101, 114, 95, 116, 105, 109, 101]), .lit (.string [97, 118, 103, 95, 111, 118, 101, 114, 95, 116, 105, 109, 101]), .lit (.string [109, 105, 110, 95, 111, 118, 101, 114, 95, 116, 105, 109, 101]), .lit (.string [109, 97, 120, 95, 111, 118, 101, 114, 95, 116, 105, 109, 101]), .lit (.string [99, 111, 117, 110, 116, 95, 111, 118, 101, 114, 95, 116, 105, 109, 101]), .lit (.string [108, 97, 115, 116, 95, 111, 118, 101, 114, 95, 116, 105, 109, 101]), .lit (.string [97, 98, 115]), .lit (.string [102, 108, 111, 111, 114]), .lit (.string [99, 101, 105, 108]), .lit (.string [115, 113, 114, 116]), .lit (.string [115, 99, 97, 108, 97, 114]), .lit (.string [118, 101, 99, 116, 111, 114])]
def laid_manometer_expr_aggs {H : Type} : DataW H := .agg [.lit (.string [115, 117, 109]), .lit (.string [97, 118, 103]), .lit (.string [109, 105, 110]), .lit (.string [109, 97, 120]), .lit (.string [99, 111, 117, 110, 116]), .lit (.string [113, 117, 97, 110, 116, 105, 108, 101])]
def laid_manometer_expr_sets {H : Type} : DataW H := .agg [.lit (.string [97, 110, 100]), .lit (.string [111, 114]), .lit (.string [117, 110, 108, 101, 115, 115])]
def laid_manometer_expr_cmps {H : Type} : DataW H := .agg [.lit (.string [61, 61]), .lit (.string [33, 61]), .lit (.string [62]), .lit (.string [60]), .lit (.string [62, 61]), .lit (.string [60, 61])]
def laid_manometer_expr_bins {H : Type} : DataW H := .agg [.lit (.string [43]), .lit (.string [45]), .lit (.string [42]), .lit (.string [47]), .lit (.string [37])]
/-- One of Go's own tables, pinned by name: the form's constant. -/
def laid_unicode_utf8_first : DataW Unit := Go.Pinned.utf8First

/-- 'manometerlaw26.ExprBack': WHATEVER THE INPUT: true; the input reads as it did. -/
def exprBackSpec : ChangeSpec := { name := "exprBack", fn := fun _ => fun
  | [d] => { results := [.lit (.bool true)], args := [d] }
  | _ => none }
def exprBackRow : OpenClaim := { program := "ytmbfpichaaanpaagreatdoor", sum := "19c4650be80107495b9db61bf7fe906e9b9316c8fd99b4ac72809b5925363ab7", func := "manometer/manometerlaw26.ExprBack", spec := "exprBack", inPlace := ["math.Float64bits", "math.Float64frombits", "math.archTrunc"], unfollowed := true, recurses := true, named := ["manometer/expr.calls", "manometer/expr.aggs", "unicode/utf8.first", "unicode/utf8.acceptRanges", "manometer/expr.cmps", "manometer/expr.bins", "manometer/expr.sets"], apart := false, laid := [("unicode/utf8.acceptRanges", laid_unicode_utf8_acceptRanges), ("manometer/expr.calls", laid_manometer_expr_calls), ("manometer/expr.aggs", laid_manometer_expr_aggs), ("manometer/expr.sets", laid_manometer_expr_sets), ("manometer/expr.cmps", laid_manometer_expr_cmps), ("manometer/expr.bins", laid_manometer_expr_bins), ("unicode/utf8.first", laid_unicode_utf8_first)] }
def ExprBackSaid : Prop := exprBackRow.holds Tryz.pinned (OpenSpec.ofChange exprBackSpec)

/-- ITS FALSE NEIGHBOUR: 'it returns false'. Refute it at one input. -/
def exprBackWrong : ChangeSpec := { name := "exprBack", fn := fun _ => fun
  | [d] => { results := [.lit (.bool false)], args := [d] }
  | _ => none }
def ExprBackWrongFalsely : Prop := exprBackRow.holds Tryz.pinned (OpenSpec.ofChange exprBackWrong)

/-- 'manometerlaw26.ExprAgain': WHATEVER THE INPUT: true; the input reads as it did. -/
def exprAgainSpec : ChangeSpec := { name := "exprAgain", fn := fun _ => fun
  | [d] => { results := [.lit (.bool true)], args := [d] }
  | _ => none }
def exprAgainRow : OpenClaim := { program := "ytmbfpichaaanpaagreatdoor", sum := "19c4650be80107495b9db61bf7fe906e9b9316c8fd99b4ac72809b5925363ab7", func := "manometer/manometerlaw26.ExprAgain", spec := "exprAgain", inPlace := ["math.Float64bits", "math.Float64frombits", "math.archTrunc"], unfollowed := true, recurses := true, named := ["manometer/expr.calls", "manometer/expr.aggs", "unicode/utf8.first", "unicode/utf8.acceptRanges", "manometer/expr.cmps", "manometer/expr.bins", "manometer/expr.sets"], apart := false, laid := [("unicode/utf8.acceptRanges", laid_unicode_utf8_acceptRanges), ("manometer/expr.calls", laid_manometer_expr_calls), ("manometer/expr.aggs", laid_manometer_expr_aggs), ("manometer/expr.sets", laid_manometer_expr_sets), ("manometer/expr.cmps", laid_manometer_expr_cmps), ("manometer/expr.bins", laid_manometer_expr_bins), ("unicode/utf8.first", laid_unicode_utf8_first)] }
def ExprAgainSaid : Prop := exprAgainRow.holds Tryz.pinned (OpenSpec.ofChange exprAgainSpec)

/-- ITS FALSE NEIGHBOUR: 'it returns false'. Refute it at one input. -/
def exprAgainWrong : ChangeSpec := { name := "exprAgain", fn := fun _ => fun
  | [d] => { results := [.lit (.bool false)], args := [d] }
  | _ => none }
def ExprAgainWrongFalsely : Prop := exprAgainRow.holds Tryz.pinned (OpenSpec.ofChange exprAgainWrong)

/-- 'manometerlaw26.ExprParts': WHATEVER THE INPUT: true; the input reads as it did. -/
def exprPartsSpec : ChangeSpec := { name := "exprParts", fn := fun _ => fun
  | [d1, d2, d3] => { results := [.lit (.bool true)], args := [d1, d2, d3] }
  | _ => none }
def exprPartsRow : OpenClaim := { program := "ytmbfpichaaanpaagreatdoor", sum := "19c4650be80107495b9db61bf7fe906e9b9316c8fd99b4ac72809b5925363ab7", func := "manometer/manometerlaw26.ExprParts", spec := "exprParts", inPlace := ["math.Float64bits", "math.Float64frombits", "math.archTrunc"], unfollowed := true, recurses := true, named := ["manometer/expr.calls", "manometer/expr.aggs", "unicode/utf8.first", "unicode/utf8.acceptRanges", "manometer/expr.cmps", "manometer/expr.bins", "manometer/expr.sets"], apart := false, laid := [("unicode/utf8.acceptRanges", laid_unicode_utf8_acceptRanges), ("manometer/expr.calls", laid_manometer_expr_calls), ("manometer/expr.aggs", laid_manometer_expr_aggs), ("manometer/expr.sets", laid_manometer_expr_sets), ("manometer/expr.cmps", laid_manometer_expr_cmps), ("manometer/expr.bins", laid_manometer_expr_bins), ("unicode/utf8.first", laid_unicode_utf8_first)] }
def ExprPartsSaid : Prop := exprPartsRow.holds Tryz.pinned (OpenSpec.ofChange exprPartsSpec)

/-- ITS FALSE NEIGHBOUR: 'it returns false'. Refute it at one input. -/
def exprPartsWrong : ChangeSpec := { name := "exprParts", fn := fun _ => fun
  | [d1, d2, d3] => { results := [.lit (.bool false)], args := [d1, d2, d3] }
  | _ => none }
def ExprPartsWrongFalsely : Prop := exprPartsRow.holds Tryz.pinned (OpenSpec.ofChange exprPartsWrong)

/-- 'manometerlaw26.ExprChecks': WHATEVER THE INPUT: true; the input reads as it did. -/
def exprChecksSpec : ChangeSpec := { name := "exprChecks", fn := fun _ => fun
  | [d1, d2, d3] => { results := [.lit (.bool true)], args := [d1, d2, d3] }
  | _ => none }
def exprChecksRow : OpenClaim := { program := "ytmbfpichaaanpaagreatdoor", sum := "19c4650be80107495b9db61bf7fe906e9b9316c8fd99b4ac72809b5925363ab7", func := "manometer/manometerlaw26.ExprChecks", spec := "exprChecks", inPlace := ["math.Float64bits", "math.Float64frombits", "math.archTrunc"], unfollowed := true, recurses := true, named := ["manometer/expr.calls", "manometer/expr.aggs", "unicode/utf8.first", "unicode/utf8.acceptRanges", "manometer/expr.cmps", "manometer/expr.bins", "manometer/expr.sets"], apart := false, laid := [("unicode/utf8.acceptRanges", laid_unicode_utf8_acceptRanges), ("manometer/expr.calls", laid_manometer_expr_calls), ("manometer/expr.aggs", laid_manometer_expr_aggs), ("manometer/expr.sets", laid_manometer_expr_sets), ("manometer/expr.cmps", laid_manometer_expr_cmps), ("manometer/expr.bins", laid_manometer_expr_bins), ("unicode/utf8.first", laid_unicode_utf8_first)] }
def ExprChecksSaid : Prop := exprChecksRow.holds Tryz.pinned (OpenSpec.ofChange exprChecksSpec)

/-- ITS FALSE NEIGHBOUR: 'it returns false'. Refute it at one input. -/
def exprChecksWrong : ChangeSpec := { name := "exprChecks", fn := fun _ => fun
  | [d1, d2, d3] => { results := [.lit (.bool false)], args := [d1, d2, d3] }
  | _ => none }
def ExprChecksWrongFalsely : Prop := exprChecksRow.holds Tryz.pinned (OpenSpec.ofChange exprChecksWrong)

/-- 'manometerlaw26.ExprPrints': WHATEVER THE INPUT: true; the input reads as it did. -/
def exprPrintsSpec : ChangeSpec := { name := "exprPrints", fn := fun _ => fun
  | [d1, d2] => { results := [.lit (.bool true)], args := [d1, d2] }
  | _ => none }
def exprPrintsRow : OpenClaim := { program := "ytmbfpichaaanpaagreatdoor", sum := "19c4650be80107495b9db61bf7fe906e9b9316c8fd99b4ac72809b5925363ab7", func := "manometer/manometerlaw26.ExprPrints", spec := "exprPrints", inPlace := ["math.Float64bits", "math.Float64frombits", "math.archTrunc", "math.archFloor"], unfollowed := true, recurses := true, named := ["manometer/expr.calls", "manometer/expr.aggs", "unicode/utf8.first", "unicode/utf8.acceptRanges", "manometer/expr.cmps", "manometer/expr.bins", "manometer/expr.sets"], apart := false, laid := [("unicode/utf8.acceptRanges", laid_unicode_utf8_acceptRanges), ("manometer/expr.calls", laid_manometer_expr_calls), ("manometer/expr.aggs", laid_manometer_expr_aggs), ("manometer/expr.sets", laid_manometer_expr_sets), ("manometer/expr.cmps", laid_manometer_expr_cmps), ("manometer/expr.bins", laid_manometer_expr_bins), ("unicode/utf8.first", laid_unicode_utf8_first)] }
def ExprPrintsSaid : Prop := exprPrintsRow.holds Tryz.pinned (OpenSpec.ofChange exprPrintsSpec)

/-- ITS FALSE NEIGHBOUR: 'it returns false'. Refute it at one input. -/
def exprPrintsWrong : ChangeSpec := { name := "exprPrints", fn := fun _ => fun
  | [d1, d2] => { results := [.lit (.bool false)], args := [d1, d2] }
  | _ => none }
def ExprPrintsWrongFalsely : Prop := exprPrintsRow.holds Tryz.pinned (OpenSpec.ofChange exprPrintsWrong)

/- THE SECOND FORM. 'bulk': how many values and letters a reading holds, each counted each time it is reached (what is shared counts as often as it is met; a slice's spare places count too). A statement '..UptoSaid' is the law's where the arguments, and the package variables that the reading takes, are together of bulk at most 1048576: NARROWER than '..Said'. Prove '..Said' where nothing that the law and all that it calls make is longer than what came in: it says more and counts as full. Else prove '..UptoSaid'. A law counts once. -/
mutual
def uptoBulk {H : Type} : DataW H → Nat
  | .lit (.string bytes) => bytes.length + 1
  | .lit _ => 1
  | .nil => 1
  | .ptr d => uptoBulk d + 1
  | .slice elems spare => uptoBulkAll elems + uptoBulkAll spare + 1
  | .agg parts => uptoBulkAll parts + 1
  | .iface _ d => uptoBulk d + 1
  | .map entries => uptoBulkEntries entries + 1
  | .held _ => 1
def uptoBulkAll {H : Type} : List (DataW H) → Nat
  | [] => 0
  | d :: r => uptoBulk d + uptoBulkAll r
def uptoBulkEntries {H : Type} : List (Lit × DataW H) → Nat
  | [] => 0
  | x :: r => uptoBulkEntry x + uptoBulkEntries r
def uptoBulkEntry {H : Type} : Lit × DataW H → Nat
  | (.string bytes, d) => bytes.length + uptoBulk d + 1
  | (_, d) => uptoBulk d + 1
 end
def uptoSmall : (H : Type) → List (DataW H) → Bool := fun _ ds => decide (uptoBulkAll ds ≤ 1048576)
def OpenSpec.upto (s : _root_.Go.ChangeSpec) : _root_.Go.OpenSpec := { _root_.Go.OpenSpec.ofChange s with cond := some uptoSmall }

/-- 'manometerlaw26.ExprBack', WHERE WHAT IT READS IS OF BULK AT MOST 1048576: true; the input reads as it did. -/
def exprBackUptoRow : OpenClaim := { program := "ytmbfpichaaanpaagreatdoor", sum := "19c4650be80107495b9db61bf7fe906e9b9316c8fd99b4ac72809b5925363ab7", func := "manometer/manometerlaw26.ExprBack", spec := "exprBack", inPlace := ["math.Float64bits", "math.Float64frombits", "math.archTrunc"], unfollowed := true, recurses := true, named := ["manometer/expr.calls", "manometer/expr.aggs", "unicode/utf8.first", "unicode/utf8.acceptRanges", "manometer/expr.cmps", "manometer/expr.bins", "manometer/expr.sets"], apart := false, laid := [("unicode/utf8.acceptRanges", laid_unicode_utf8_acceptRanges), ("manometer/expr.calls", laid_manometer_expr_calls), ("manometer/expr.aggs", laid_manometer_expr_aggs), ("manometer/expr.sets", laid_manometer_expr_sets), ("manometer/expr.cmps", laid_manometer_expr_cmps), ("manometer/expr.bins", laid_manometer_expr_bins), ("unicode/utf8.first", laid_unicode_utf8_first)], narrowed := true }
def ExprBackUptoSaid : Prop := exprBackUptoRow.holds Tryz.pinned (OpenSpec.upto exprBackSpec)

/-- 'manometerlaw26.ExprAgain', WHERE WHAT IT READS IS OF BULK AT MOST 1048576: true; the input reads as it did. -/
def exprAgainUptoRow : OpenClaim := { program := "ytmbfpichaaanpaagreatdoor", sum := "19c4650be80107495b9db61bf7fe906e9b9316c8fd99b4ac72809b5925363ab7", func := "manometer/manometerlaw26.ExprAgain", spec := "exprAgain", inPlace := ["math.Float64bits", "math.Float64frombits", "math.archTrunc"], unfollowed := true, recurses := true, named := ["manometer/expr.calls", "manometer/expr.aggs", "unicode/utf8.first", "unicode/utf8.acceptRanges", "manometer/expr.cmps", "manometer/expr.bins", "manometer/expr.sets"], apart := false, laid := [("unicode/utf8.acceptRanges", laid_unicode_utf8_acceptRanges), ("manometer/expr.calls", laid_manometer_expr_calls), ("manometer/expr.aggs", laid_manometer_expr_aggs), ("manometer/expr.sets", laid_manometer_expr_sets), ("manometer/expr.cmps", laid_manometer_expr_cmps), ("manometer/expr.bins", laid_manometer_expr_bins), ("unicode/utf8.first", laid_unicode_utf8_first)], narrowed := true }
def ExprAgainUptoSaid : Prop := exprAgainUptoRow.holds Tryz.pinned (OpenSpec.upto exprAgainSpec)

/-- 'manometerlaw26.ExprParts', WHERE WHAT IT READS IS OF BULK AT MOST 1048576: true; the input reads as it did. -/
def exprPartsUptoRow : OpenClaim := { program := "ytmbfpichaaanpaagreatdoor", sum := "19c4650be80107495b9db61bf7fe906e9b9316c8fd99b4ac72809b5925363ab7", func := "manometer/manometerlaw26.ExprParts", spec := "exprParts", inPlace := ["math.Float64bits", "math.Float64frombits", "math.archTrunc"], unfollowed := true, recurses := true, named := ["manometer/expr.calls", "manometer/expr.aggs", "unicode/utf8.first", "unicode/utf8.acceptRanges", "manometer/expr.cmps", "manometer/expr.bins", "manometer/expr.sets"], apart := false, laid := [("unicode/utf8.acceptRanges", laid_unicode_utf8_acceptRanges), ("manometer/expr.calls", laid_manometer_expr_calls), ("manometer/expr.aggs", laid_manometer_expr_aggs), ("manometer/expr.sets", laid_manometer_expr_sets), ("manometer/expr.cmps", laid_manometer_expr_cmps), ("manometer/expr.bins", laid_manometer_expr_bins), ("unicode/utf8.first", laid_unicode_utf8_first)], narrowed := true }
def ExprPartsUptoSaid : Prop := exprPartsUptoRow.holds Tryz.pinned (OpenSpec.upto exprPartsSpec)

/-- 'manometerlaw26.ExprChecks', WHERE WHAT IT READS IS OF BULK AT MOST 1048576: true; the input reads as it did. -/
def exprChecksUptoRow : OpenClaim := { program := "ytmbfpichaaanpaagreatdoor", sum := "19c4650be80107495b9db61bf7fe906e9b9316c8fd99b4ac72809b5925363ab7", func := "manometer/manometerlaw26.ExprChecks", spec := "exprChecks", inPlace := ["math.Float64bits", "math.Float64frombits", "math.archTrunc"], unfollowed := true, recurses := true, named := ["manometer/expr.calls", "manometer/expr.aggs", "unicode/utf8.first", "unicode/utf8.acceptRanges", "manometer/expr.cmps", "manometer/expr.bins", "manometer/expr.sets"], apart := false, laid := [("unicode/utf8.acceptRanges", laid_unicode_utf8_acceptRanges), ("manometer/expr.calls", laid_manometer_expr_calls), ("manometer/expr.aggs", laid_manometer_expr_aggs), ("manometer/expr.sets", laid_manometer_expr_sets), ("manometer/expr.cmps", laid_manometer_expr_cmps), ("manometer/expr.bins", laid_manometer_expr_bins), ("unicode/utf8.first", laid_unicode_utf8_first)], narrowed := true }
def ExprChecksUptoSaid : Prop := exprChecksUptoRow.holds Tryz.pinned (OpenSpec.upto exprChecksSpec)

/-- 'manometerlaw26.ExprPrints', WHERE WHAT IT READS IS OF BULK AT MOST 1048576: true; the input reads as it did. -/
def exprPrintsUptoRow : OpenClaim := { program := "ytmbfpichaaanpaagreatdoor", sum := "19c4650be80107495b9db61bf7fe906e9b9316c8fd99b4ac72809b5925363ab7", func := "manometer/manometerlaw26.ExprPrints", spec := "exprPrints", inPlace := ["math.Float64bits", "math.Float64frombits", "math.archTrunc", "math.archFloor"], unfollowed := true, recurses := true, named := ["manometer/expr.calls", "manometer/expr.aggs", "unicode/utf8.first", "unicode/utf8.acceptRanges", "manometer/expr.cmps", "manometer/expr.bins", "manometer/expr.sets"], apart := false, laid := [("unicode/utf8.acceptRanges", laid_unicode_utf8_acceptRanges), ("manometer/expr.calls", laid_manometer_expr_calls), ("manometer/expr.aggs", laid_manometer_expr_aggs), ("manometer/expr.sets", laid_manometer_expr_sets), ("manometer/expr.cmps", laid_manometer_expr_cmps), ("manometer/expr.bins", laid_manometer_expr_bins), ("unicode/utf8.first", laid_unicode_utf8_first)], narrowed := true }
def ExprPrintsUptoSaid : Prop := exprPrintsUptoRow.holds Tryz.pinned (OpenSpec.upto exprPrintsSpec)

end Rows
end Go.Proofs.YtmbfpichaaanpaaGreatDoor
