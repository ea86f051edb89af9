/-
  No cell of these rows narrows 'for every input' (looked for: loops, veiled, ifaces, maps, wideKeys, modest, calm, conditions, laid).
  DERIVED. THE GIVEN ROWS OF THIS SEAT. 10 by the template 'for every input the law returns true; each argument reads behind the call as it read before'; 0 by the template 'total and deterministic' (their statements: YtiieppaalffgjaaTotals.lean).
  GIVEN WITH THE SEED: the statements are not yours to turn. If you find one false, say at which input.
  Laid BY PROGRAM, IN A SANDBOX (cutbox-rows.mjs): the forced cells as the released guide's own fill.sh prints them over the translation ea11b8cc38fb39ef… (all of the seat's roots in one cut). By AI agents, Wed Nov 11 2026. No macro, syntax, notation, axiom, sorry.
-/
import Derived.Test.YtiieppaalffgjaaChecked
import GoSem.Claim
import GoSem.ClaimJoined
import GoSem.ClaimMapViews
import Derived.JoinedTies
import Derived.KernelRfl
namespace Go.Proofs.Ytiieppaalffgjaa
/- THE CELL 'sum', in the pinned program and in every row, IS THE sha256 OF THE DUMP (.gsa) THAT YtiieppaalffgjaaProg.lean LOADS. Nothing in Lean hashes anything: it is a label: what it is worth is what the hold of that sum in a sandbox is worth. -/
noncomputable def Try.pinned : Pinned := { name := "ytiieppaalffgjaa", sum := "ea11b8cc38fb39efb1eb332a8d12371711875fd6b475942a9d07942726bebdd0", checked := Try.checked }
namespace Rows
def none {H : Type} : Left H := { results := [], args := [] }

/-- 'manometerlaw04.RealKinds': WHATEVER THE INPUT: true; the input reads as it did. -/
def realKindsSpec : ChangeSpec := { name := "realKinds", fn := fun _ => fun
  | [d1, d2] => { results := [.lit (.bool true)], args := [d1, d2] }
  | _ => none }
def realKindsRow : OpenClaim := { program := "ytiieppaalffgjaa", sum := "ea11b8cc38fb39efb1eb332a8d12371711875fd6b475942a9d07942726bebdd0", func := "manometer/manometerlaw04.RealKinds", spec := "realKinds", inPlace := ["math.Float64bits", "math.Float64frombits", "math.archTrunc"], apart := false }
def RealKindsSaid : Prop := realKindsRow.holds Try.pinned (OpenSpec.ofChange realKindsSpec)

/-- ITS FALSE NEIGHBOUR: 'it returns false'. Refute it at one input. -/
def realKindsWrong : ChangeSpec := { name := "realKinds", fn := fun _ => fun
  | [d1, d2] => { results := [.lit (.bool false)], args := [d1, d2] }
  | _ => none }
def RealKindsWrongFalsely : Prop := realKindsRow.holds Try.pinned (OpenSpec.ofChange realKindsWrong)

/-- 'manometerlaw04.RealHolds': WHATEVER THE INPUT: true; the input reads as it did. -/
def realHoldsSpec : ChangeSpec := { name := "realHolds", fn := fun _ => fun
  | [d1, d2, d3] => { results := [.lit (.bool true)], args := [d1, d2, d3] }
  | _ => none }
def realHoldsRow : OpenClaim := { program := "ytiieppaalffgjaa", sum := "ea11b8cc38fb39efb1eb332a8d12371711875fd6b475942a9d07942726bebdd0", func := "manometer/manometerlaw04.RealHolds", spec := "realHolds", inPlace := ["math.Float64bits", "math.Float64frombits", "math.archTrunc"], apart := false }
def RealHoldsSaid : Prop := realHoldsRow.holds Try.pinned (OpenSpec.ofChange realHoldsSpec)

/-- ITS FALSE NEIGHBOUR: 'it returns false'. Refute it at one input. -/
def realHoldsWrong : ChangeSpec := { name := "realHolds", fn := fun _ => fun
  | [d1, d2, d3] => { results := [.lit (.bool false)], args := [d1, d2, d3] }
  | _ => none }
def RealHoldsWrongFalsely : Prop := realHoldsRow.holds Try.pinned (OpenSpec.ofChange realHoldsWrong)

/-- 'manometerlaw04.RealDoes': WHATEVER THE INPUT: true; the input reads as it did. -/
def realDoesSpec : ChangeSpec := { name := "realDoes", fn := fun _ => fun
  | [d1, d2, d3] => { results := [.lit (.bool true)], args := [d1, d2, d3] }
  | _ => none }
def realDoesRow : OpenClaim := { program := "ytiieppaalffgjaa", sum := "ea11b8cc38fb39efb1eb332a8d12371711875fd6b475942a9d07942726bebdd0", func := "manometer/manometerlaw04.RealDoes", spec := "realDoes", inPlace := ["math.Float64bits", "math.Float64frombits", "math.archTrunc"], apart := false }
def RealDoesSaid : Prop := realDoesRow.holds Try.pinned (OpenSpec.ofChange realDoesSpec)

/-- ITS FALSE NEIGHBOUR: 'it returns false'. Refute it at one input. -/
def realDoesWrong : ChangeSpec := { name := "realDoes", fn := fun _ => fun
  | [d1, d2, d3] => { results := [.lit (.bool false)], args := [d1, d2, d3] }
  | _ => none }
def RealDoesWrongFalsely : Prop := realDoesRow.holds Try.pinned (OpenSpec.ofChange realDoesWrong)

/-- 'manometerlaw04.RealSums': WHATEVER THE INPUT: true; the input reads as it did. -/
def realSumsSpec : ChangeSpec := { name := "realSums", fn := fun _ => fun
  | [d] => { results := [.lit (.bool true)], args := [d] }
  | _ => none }
def realSumsRow : OpenClaim := { program := "ytiieppaalffgjaa", sum := "ea11b8cc38fb39efb1eb332a8d12371711875fd6b475942a9d07942726bebdd0", func := "manometer/manometerlaw04.RealSums", spec := "realSums", inPlace := ["math.Float64bits", "math.Float64frombits", "math.archTrunc"], apart := false }
def RealSumsSaid : Prop := realSumsRow.holds Try.pinned (OpenSpec.ofChange realSumsSpec)

/-- ITS FALSE NEIGHBOUR: 'it returns false'. Refute it at one input. -/
def realSumsWrong : ChangeSpec := { name := "realSums", fn := fun _ => fun
  | [d] => { results := [.lit (.bool false)], args := [d] }
  | _ => none }
def RealSumsWrongFalsely : Prop := realSumsRow.holds Try.pinned (OpenSpec.ofChange realSumsWrong)

/-- 'manometerlaw04.RealTotal': WHATEVER THE INPUT: true; the input reads as it did. -/
def realTotalSpec : ChangeSpec := { name := "realTotal", fn := fun _ => fun
  | [d1, d2, d3] => { results := [.lit (.bool true)], args := [d1, d2, d3] }
  | _ => none }
def realTotalRow : OpenClaim := { program := "ytiieppaalffgjaa", sum := "ea11b8cc38fb39efb1eb332a8d12371711875fd6b475942a9d07942726bebdd0", func := "manometer/manometerlaw04.RealTotal", spec := "realTotal", inPlace := ["math.Float64bits", "math.Float64frombits", "math.archTrunc"], apart := false }
def RealTotalSaid : Prop := realTotalRow.holds Try.pinned (OpenSpec.ofChange realTotalSpec)

/-- ITS FALSE NEIGHBOUR: 'it returns false'. Refute it at one input. -/
def realTotalWrong : ChangeSpec := { name := "realTotal", fn := fun _ => fun
  | [d1, d2, d3] => { results := [.lit (.bool false)], args := [d1, d2, d3] }
  | _ => none }
def RealTotalWrongFalsely : Prop := realTotalRow.holds Try.pinned (OpenSpec.ofChange realTotalWrong)

/-- 'manometerlaw04.RealBoth': WHATEVER THE INPUT: true; the input reads as it did. -/
def realBothSpec : ChangeSpec := { name := "realBoth", fn := fun _ => fun
  | [d1, d2] => { results := [.lit (.bool true)], args := [d1, d2] }
  | _ => none }
def realBothRow : OpenClaim := { program := "ytiieppaalffgjaa", sum := "ea11b8cc38fb39efb1eb332a8d12371711875fd6b475942a9d07942726bebdd0", func := "manometer/manometerlaw04.RealBoth", spec := "realBoth", inPlace := ["math.Float64frombits", "math.Float64bits", "math.archTrunc"], apart := false }
def RealBothSaid : Prop := realBothRow.holds Try.pinned (OpenSpec.ofChange realBothSpec)

/-- ITS FALSE NEIGHBOUR: 'it returns false'. Refute it at one input. -/
def realBothWrong : ChangeSpec := { name := "realBoth", fn := fun _ => fun
  | [d1, d2] => { results := [.lit (.bool false)], args := [d1, d2] }
  | _ => none }
def RealBothWrongFalsely : Prop := realBothRow.holds Try.pinned (OpenSpec.ofChange realBothWrong)

/-- 'manometerlaw04.RealSorts': WHATEVER THE INPUT: true; the input reads as it did. -/
def realSortsSpec : ChangeSpec := { name := "realSorts", fn := fun _ => fun
  | [d] => { results := [.lit (.bool true)], args := [d] }
  | _ => none }
def realSortsRow : OpenClaim := { program := "ytiieppaalffgjaa", sum := "ea11b8cc38fb39efb1eb332a8d12371711875fd6b475942a9d07942726bebdd0", func := "manometer/manometerlaw04.RealSorts", spec := "realSorts", inPlace := ["math.Float64bits", "math.Float64frombits", "math.archTrunc"], unfollowed := true, recurses := true, apart := false }
def RealSortsSaid : Prop := realSortsRow.holds Try.pinned (OpenSpec.ofChange realSortsSpec)

/-- ITS FALSE NEIGHBOUR: 'it returns false'. Refute it at one input. -/
def realSortsWrong : ChangeSpec := { name := "realSorts", fn := fun _ => fun
  | [d] => { results := [.lit (.bool false)], args := [d] }
  | _ => none }
def RealSortsWrongFalsely : Prop := realSortsRow.holds Try.pinned (OpenSpec.ofChange realSortsWrong)

/-- 'manometerlaw04.RealOnes': WHATEVER THE INPUT: true; the input reads as it did. -/
def realOnesSpec : ChangeSpec := { name := "realOnes", fn := fun _ => fun
  | [d1, d2, d3] => { results := [.lit (.bool true)], args := [d1, d2, d3] }
  | _ => none }
def realOnesRow : OpenClaim := { program := "ytiieppaalffgjaa", sum := "ea11b8cc38fb39efb1eb332a8d12371711875fd6b475942a9d07942726bebdd0", func := "manometer/manometerlaw04.RealOnes", spec := "realOnes", inPlace := ["math.Float64frombits", "math.archTrunc", "math.Float64bits", "math.archFloor", "math.archCeil", "math.sqrt"], apart := false }
def RealOnesSaid : Prop := realOnesRow.holds Try.pinned (OpenSpec.ofChange realOnesSpec)

/-- ITS FALSE NEIGHBOUR: 'it returns false'. Refute it at one input. -/
def realOnesWrong : ChangeSpec := { name := "realOnes", fn := fun _ => fun
  | [d1, d2, d3] => { results := [.lit (.bool false)], args := [d1, d2, d3] }
  | _ => none }
def RealOnesWrongFalsely : Prop := realOnesRow.holds Try.pinned (OpenSpec.ofChange realOnesWrong)

/-- 'manometerlaw04.RealTurns': WHATEVER THE INPUT: true; the input reads as it did. -/
def realTurnsSpec : ChangeSpec := { name := "realTurns", fn := fun _ => fun
  | [d1, d2] => { results := [.lit (.bool true)], args := [d1, d2] }
  | _ => none }
def realTurnsRow : OpenClaim := { program := "ytiieppaalffgjaa", sum := "ea11b8cc38fb39efb1eb332a8d12371711875fd6b475942a9d07942726bebdd0", func := "manometer/manometerlaw04.RealTurns", spec := "realTurns", inPlace := ["math.Float64bits", "math.Float64frombits", "math.archTrunc", "math.archFloor", "math.archCeil", "math.sqrt"], apart := false }
def RealTurnsSaid : Prop := realTurnsRow.holds Try.pinned (OpenSpec.ofChange realTurnsSpec)

/-- ITS FALSE NEIGHBOUR: 'it returns false'. Refute it at one input. -/
def realTurnsWrong : ChangeSpec := { name := "realTurns", fn := fun _ => fun
  | [d1, d2] => { results := [.lit (.bool false)], args := [d1, d2] }
  | _ => none }
def RealTurnsWrongFalsely : Prop := realTurnsRow.holds Try.pinned (OpenSpec.ofChange realTurnsWrong)

/-- 'manometerlaw04.RealBack': WHATEVER THE INPUT: true; the input reads as it did. -/
def realBackSpec : ChangeSpec := { name := "realBack", fn := fun _ => fun
  | [d] => { results := [.lit (.bool true)], args := [d] }
  | _ => none }
def realBackRow : OpenClaim := { program := "ytiieppaalffgjaa", sum := "ea11b8cc38fb39efb1eb332a8d12371711875fd6b475942a9d07942726bebdd0", func := "manometer/manometerlaw04.RealBack", spec := "realBack", inPlace := ["math.Float64bits", "math.Float64frombits", "math.archTrunc", "math.archFloor", "math.archCeil", "math.sqrt"], apart := false }
def RealBackSaid : Prop := realBackRow.holds Try.pinned (OpenSpec.ofChange realBackSpec)

/-- ITS FALSE NEIGHBOUR: 'it returns false'. Refute it at one input. -/
def realBackWrong : ChangeSpec := { name := "realBack", fn := fun _ => fun
  | [d] => { results := [.lit (.bool false)], args := [d] }
  | _ => none }
def RealBackWrongFalsely : Prop := realBackRow.holds Try.pinned (OpenSpec.ofChange realBackWrong)

/- THE SECOND FORM. 'bulk': how many values and letters a reading holds, each counted each time it is reached (what is shared counts as often as it is met; a slice's spare places count too). A statement '..UptoSaid' is the law's where the arguments, and the package variables that the reading takes, are together of bulk at most 1048576: NARROWER than '..Said'. Prove '..Said' where nothing that the law and all that it calls make is longer than what came in: it says more and counts as full. Else prove '..UptoSaid'. A law counts once. -/
mutual
def uptoBulk {H : Type} : DataW H → Nat
  | .lit (.string bytes) => bytes.length + 1
  | .lit _ => 1
  | .nil => 1
  | .ptr d => uptoBulk d + 1
  | .slice elems spare => uptoBulkAll elems + uptoBulkAll spare + 1
  | .agg parts => uptoBulkAll parts + 1
  | .iface _ d => uptoBulk d + 1
  | .map entries => uptoBulkEntries entries + 1
  | .held _ => 1
def uptoBulkAll {H : Type} : List (DataW H) → Nat
  | [] => 0
  | d :: r => uptoBulk d + uptoBulkAll r
def uptoBulkEntries {H : Type} : List (Lit × DataW H) → Nat
  | [] => 0
  | x :: r => uptoBulkEntry x + uptoBulkEntries r
def uptoBulkEntry {H : Type} : Lit × DataW H → Nat
  | (.string bytes, d) => bytes.length + uptoBulk d + 1
  | (_, d) => uptoBulk d + 1
 end
def uptoSmall : (H : Type) → List (DataW H) → Bool := fun _ ds => decide (uptoBulkAll ds ≤ 1048576)
def OpenSpec.upto (s : _root_.Go.ChangeSpec) : _root_.Go.OpenSpec := { _root_.Go.OpenSpec.ofChange s with cond := some uptoSmall }

/-- 'manometerlaw04.RealKinds', WHERE WHAT IT READS IS OF BULK AT MOST 1048576: true; the input reads as it did. -/
def realKindsUptoRow : OpenClaim := { program := "ytiieppaalffgjaa", sum := "ea11b8cc38fb39efb1eb332a8d12371711875fd6b475942a9d07942726bebdd0", func := "manometer/manometerlaw04.RealKinds", spec := "realKinds", inPlace := ["math.Float64bits", "math.Float64frombits", "math.archTrunc"], apart := false, narrowed := true }
def RealKindsUptoSaid : Prop := realKindsUptoRow.holds Try.pinned (OpenSpec.upto realKindsSpec)

/-- 'manometerlaw04.RealHolds', WHERE WHAT IT READS IS OF BULK AT MOST 1048576: true; the input reads as it did. -/
def realHoldsUptoRow : OpenClaim := { program := "ytiieppaalffgjaa", sum := "ea11b8cc38fb39efb1eb332a8d12371711875fd6b475942a9d07942726bebdd0", func := "manometer/manometerlaw04.RealHolds", spec := "realHolds", inPlace := ["math.Float64bits", "math.Float64frombits", "math.archTrunc"], apart := false, narrowed := true }
def RealHoldsUptoSaid : Prop := realHoldsUptoRow.holds Try.pinned (OpenSpec.upto realHoldsSpec)

/-- 'manometerlaw04.RealDoes', WHERE WHAT IT READS IS OF BULK AT MOST 1048576: true; the input reads as it did. -/
def realDoesUptoRow : OpenClaim := { program := "ytiieppaalffgjaa", sum := "ea11b8cc38fb39efb1eb332a8d12371711875fd6b475942a9d07942726bebdd0", func := "manometer/manometerlaw04.RealDoes", spec := "realDoes", inPlace := ["math.Float64bits", "math.Float64frombits", "math.archTrunc"], apart := false, narrowed := true }
def RealDoesUptoSaid : Prop := realDoesUptoRow.holds Try.pinned (OpenSpec.upto realDoesSpec)

/-- 'manometerlaw04.RealSums', WHERE WHAT IT READS IS OF BULK AT MOST 1048576: true; the input reads as it did. -/
def realSumsUptoRow : OpenClaim := { program := "ytiieppaalffgjaa", sum := "ea11b8cc38fb39efb1eb332a8d12371711875fd6b475942a9d07942726bebdd0", func := "manometer/manometerlaw04.RealSums", spec := "realSums", inPlace := ["math.Float64bits", "math.Float64frombits", "math.archTrunc"], apart := false, narrowed := true }
def RealSumsUptoSaid : Prop := realSumsUptoRow.holds Try.pinned (OpenSpec.upto realSumsSpec)

/-- 'manometerlaw04.RealTotal', WHERE WHAT IT READS IS OF BULK AT MOST 1048576: true; the input reads as it did. -/
def realTotalUptoRow : OpenClaim := { program := "ytiieppaalffgjaa", sum := "ea11b8cc38fb39efb1eb332a8d12371711875fd6b475942a9d07942726bebdd0", func := "manometer/manometerlaw04.RealTotal", spec := "realTotal", inPlace := ["math.Float64bits", "math.Float64frombits", "math.archTrunc"], apart := false, narrowed := true }
def RealTotalUptoSaid : Prop := realTotalUptoRow.holds Try.pinned (OpenSpec.upto realTotalSpec)

/-- 'manometerlaw04.RealBoth', WHERE WHAT IT READS IS OF BULK AT MOST 1048576: true; the input reads as it did. -/
def realBothUptoRow : OpenClaim := { program := "ytiieppaalffgjaa", sum := "ea11b8cc38fb39efb1eb332a8d12371711875fd6b475942a9d07942726bebdd0", func := "manometer/manometerlaw04.RealBoth", spec := "realBoth", inPlace := ["math.Float64frombits", "math.Float64bits", "math.archTrunc"], apart := false, narrowed := true }
def RealBothUptoSaid : Prop := realBothUptoRow.holds Try.pinned (OpenSpec.upto realBothSpec)

/-- 'manometerlaw04.RealSorts', WHERE WHAT IT READS IS OF BULK AT MOST 1048576: true; the input reads as it did. -/
def realSortsUptoRow : OpenClaim := { program := "ytiieppaalffgjaa", sum := "ea11b8cc38fb39efb1eb332a8d12371711875fd6b475942a9d07942726bebdd0", func := "manometer/manometerlaw04.RealSorts", spec := "realSorts", inPlace := ["math.Float64bits", "math.Float64frombits", "math.archTrunc"], unfollowed := true, recurses := true, apart := false, narrowed := true }
def RealSortsUptoSaid : Prop := realSortsUptoRow.holds Try.pinned (OpenSpec.upto realSortsSpec)

/-- 'manometerlaw04.RealOnes', WHERE WHAT IT READS IS OF BULK AT MOST 1048576: true; the input reads as it did. -/
def realOnesUptoRow : OpenClaim := { program := "ytiieppaalffgjaa", sum := "ea11b8cc38fb39efb1eb332a8d12371711875fd6b475942a9d07942726bebdd0", func := "manometer/manometerlaw04.RealOnes", spec := "realOnes", inPlace := ["math.Float64frombits", "math.archTrunc", "math.Float64bits", "math.archFloor", "math.archCeil", "math.sqrt"], apart := false, narrowed := true }
def RealOnesUptoSaid : Prop := realOnesUptoRow.holds Try.pinned (OpenSpec.upto realOnesSpec)

/-- 'manometerlaw04.RealTurns', WHERE WHAT IT READS IS OF BULK AT MOST 1048576: true; the input reads as it did. -/
def realTurnsUptoRow : OpenClaim := { program := "ytiieppaalffgjaa", sum := "ea11b8cc38fb39efb1eb332a8d12371711875fd6b475942a9d07942726bebdd0", func := "manometer/manometerlaw04.RealTurns", spec := "realTurns", inPlace := ["math.Float64bits", "math.Float64frombits", "math.archTrunc", "math.archFloor", "math.archCeil", "math.sqrt"], apart := false, narrowed := true }
def RealTurnsUptoSaid : Prop := realTurnsUptoRow.holds Try.pinned (OpenSpec.upto realTurnsSpec)

/-- 'manometerlaw04.RealBack', WHERE WHAT IT READS IS OF BULK AT MOST 1048576: true; the input reads as it did. -/
def realBackUptoRow : OpenClaim := { program := "ytiieppaalffgjaa", sum := "ea11b8cc38fb39efb1eb332a8d12371711875fd6b475942a9d07942726bebdd0", func := "manometer/manometerlaw04.RealBack", spec := "realBack", inPlace := ["math.Float64bits", "math.Float64frombits", "math.archTrunc", "math.archFloor", "math.archCeil", "math.sqrt"], apart := false, narrowed := true }
def RealBackUptoSaid : Prop := realBackUptoRow.holds Try.pinned (OpenSpec.upto realBackSpec)

end Rows
end Go.Proofs.Ytiieppaalffgjaa
