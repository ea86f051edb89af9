/-
  NARROWER THAN 'FOR EVERY INPUT', by the rows' own cells (each row's printed sentence says how): MatchChecks: laid · MatchTexts: laid · MatchTold: laid · MatchNarrow: laid · MatchOnes: laid · MatchTurned: laid · MatchPlain: laid · MatchNone: laid · MatchAlls: laid.
  DERIVED. THE GIVEN ROWS OF THIS SEAT. 9 by the template 'for every input the law returns true; each argument reads behind the call as it read before'; 0 by the template 'total and deterministic' (their statements: YthlabaijaadocaaDoorTotals.lean).
  GIVEN WITH THE SEED: the statements are not yours to turn. If you find one false, say at which input.
  Laid BY PROGRAM, IN A SANDBOX (cutbox-rows.mjs): the forced cells as the released guide's own fill.sh prints them over the translation 4f677884dd3bb525… (all of the seat's roots in one cut). By AI agents, Wed Nov 11 2026. No macro, syntax, notation, axiom, sorry.
-/
import Derived.Test.YthlabaijaadocaaDoorChecked
import GoSem.PinnedTables
import GoSem.Claim
import GoSem.ClaimJoined
import GoSem.ClaimMapViews
import Derived.JoinedTies
import Derived.KernelRfl
namespace Go.Proofs.YthlabaijaadocaaDoor
/- THE CELL 'sum', in the pinned program and in every row, IS THE sha256 OF THE DUMP (.gsa) THAT YthlabaijaadocaaDoorProg.lean LOADS. Nothing in Lean hashes anything: it is a label: what it is worth is what the hold of that sum in a sandbox is worth. -/
noncomputable def Tryd.pinned : Pinned := { name := "ythlabaijaadocaadoor", sum := "4f677884dd3bb525110cc4d91a99be6f70a777934bf6709d6e4fbcf2cc1e4dbe", checked := Tryd.checked }
namespace Rows
def none {H : Type} : Left H := { results := [], args := [] }

/- WHAT THE LISTED PACKAGE-LEVEL VARIABLES READ AS WHEN THE CALL BEGINS. Each datum BY PROGRAM (the guide's laid-datum.mjs) off the statement by which the dump's own 'gosem.cut.vars' lays the variable. In a bare row this is a premise. The card (YthlabaijaadocaaDoorCards.lean) ties it to the program's text. -/
def laid_unicode_utf8_acceptRanges {H : Type} : DataW H := .agg [.agg [.lit (.int .u8 128), .lit (.int .u8 191)], .agg [.lit (.int .u8 160), .lit (.int .u8 191)], .agg [.lit (.int .u8 128), .lit (.int .u8 159)], .agg [.lit (.int .u8 144), .lit (.int .u8 191)], .agg [.lit (.int .u8 128), .lit (.int .u8 143)], .agg [.lit (.int .u8 0), .lit (.int .u8 0)], .agg [.lit (.int .u8 0), .lit (.int .u8 0)], .agg [.lit (.int .u8 0), .lit (.int .u8 0)], .agg [.lit (.int .u8 0), .lit (.int .u8 0)], .agg [.lit (.int .u8 0), .lit (.int .u8 0)], .agg [.lit (.int .u8 0), .lit (.int .u8 0)], .agg [.lit (.int .u8 0), .lit (.int .u8 0)], .agg [.lit (.int .u8 0), .lit (.int .u8 0)], .agg [.lit (.int .u8 0), .lit (.int .u8 0)], .agg [.lit (.int .u8 0), .lit (.int .u8 0)], .agg [.lit (.int .u8 0), .lit (.int .u8 0)]]
/-- One of Go's own tables, pinned by name: the form's constant. -/
def laid_unicode_utf8_first : DataW Unit := Go.Pinned.utf8First

/-- 'manometerlaw07.MatchChecks': WHATEVER THE INPUT: true; the input reads as it did. -/
def matchChecksSpec : ChangeSpec := { name := "matchChecks", fn := fun _ => fun
  | [d] => { results := [.lit (.bool true)], args := [d] }
  | _ => none }
def matchChecksRow : OpenClaim := { program := "ythlabaijaadocaadoor", sum := "4f677884dd3bb525110cc4d91a99be6f70a777934bf6709d6e4fbcf2cc1e4dbe", func := "manometer/manometerlaw07.MatchChecks", spec := "matchChecks", unfollowed := true, recurses := true, named := ["unicode/utf8.first", "unicode/utf8.acceptRanges"], apart := false, laid := [("unicode/utf8.acceptRanges", laid_unicode_utf8_acceptRanges), ("unicode/utf8.first", laid_unicode_utf8_first)] }
def MatchChecksSaid : Prop := matchChecksRow.holds Tryd.pinned (OpenSpec.ofChange matchChecksSpec)

/-- ITS FALSE NEIGHBOUR: 'it returns false'. Refute it at one input. -/
def matchChecksWrong : ChangeSpec := { name := "matchChecks", fn := fun _ => fun
  | [d] => { results := [.lit (.bool false)], args := [d] }
  | _ => none }
def MatchChecksWrongFalsely : Prop := matchChecksRow.holds Tryd.pinned (OpenSpec.ofChange matchChecksWrong)

/-- 'manometerlaw07.MatchTexts': WHATEVER THE INPUT: true; the input reads as it did. -/
def matchTextsSpec : ChangeSpec := { name := "matchTexts", fn := fun _ => fun
  | [d1, d2] => { results := [.lit (.bool true)], args := [d1, d2] }
  | _ => none }
def matchTextsRow : OpenClaim := { program := "ythlabaijaadocaadoor", sum := "4f677884dd3bb525110cc4d91a99be6f70a777934bf6709d6e4fbcf2cc1e4dbe", func := "manometer/manometerlaw07.MatchTexts", spec := "matchTexts", unfollowed := true, recurses := true, named := ["unicode/utf8.first", "unicode/utf8.acceptRanges"], apart := false, laid := [("unicode/utf8.acceptRanges", laid_unicode_utf8_acceptRanges), ("unicode/utf8.first", laid_unicode_utf8_first)] }
def MatchTextsSaid : Prop := matchTextsRow.holds Tryd.pinned (OpenSpec.ofChange matchTextsSpec)

/-- ITS FALSE NEIGHBOUR: 'it returns false'. Refute it at one input. -/
def matchTextsWrong : ChangeSpec := { name := "matchTexts", fn := fun _ => fun
  | [d1, d2] => { results := [.lit (.bool false)], args := [d1, d2] }
  | _ => none }
def MatchTextsWrongFalsely : Prop := matchTextsRow.holds Tryd.pinned (OpenSpec.ofChange matchTextsWrong)

/-- 'manometerlaw07.MatchTold': WHATEVER THE INPUT: true; the input reads as it did. -/
def matchToldSpec : ChangeSpec := { name := "matchTold", fn := fun _ => fun
  | [d] => { results := [.lit (.bool true)], args := [d] }
  | _ => none }
def matchToldRow : OpenClaim := { program := "ythlabaijaadocaadoor", sum := "4f677884dd3bb525110cc4d91a99be6f70a777934bf6709d6e4fbcf2cc1e4dbe", func := "manometer/manometerlaw07.MatchTold", spec := "matchTold", unfollowed := true, recurses := true, named := ["unicode/utf8.first", "unicode/utf8.acceptRanges"], apart := false, laid := [("unicode/utf8.acceptRanges", laid_unicode_utf8_acceptRanges), ("unicode/utf8.first", laid_unicode_utf8_first)] }
def MatchToldSaid : Prop := matchToldRow.holds Tryd.pinned (OpenSpec.ofChange matchToldSpec)

/-- ITS FALSE NEIGHBOUR: 'it returns false'. Refute it at one input. -/
def matchToldWrong : ChangeSpec := { name := "matchTold", fn := fun _ => fun
  | [d] => { results := [.lit (.bool false)], args := [d] }
  | _ => none }
def MatchToldWrongFalsely : Prop := matchToldRow.holds Tryd.pinned (OpenSpec.ofChange matchToldWrong)

/-- 'manometerlaw07.MatchNarrow': WHATEVER THE INPUT: true; the input reads as it did. -/
def matchNarrowSpec : ChangeSpec := { name := "matchNarrow", fn := fun _ => fun
  | [d1, d2, d3] => { results := [.lit (.bool true)], args := [d1, d2, d3] }
  | _ => none }
def matchNarrowRow : OpenClaim := { program := "ythlabaijaadocaadoor", sum := "4f677884dd3bb525110cc4d91a99be6f70a777934bf6709d6e4fbcf2cc1e4dbe", func := "manometer/manometerlaw07.MatchNarrow", spec := "matchNarrow", unfollowed := true, recurses := true, named := ["unicode/utf8.first", "unicode/utf8.acceptRanges"], apart := false, laid := [("unicode/utf8.acceptRanges", laid_unicode_utf8_acceptRanges), ("unicode/utf8.first", laid_unicode_utf8_first)] }
def MatchNarrowSaid : Prop := matchNarrowRow.holds Tryd.pinned (OpenSpec.ofChange matchNarrowSpec)

/-- ITS FALSE NEIGHBOUR: 'it returns false'. Refute it at one input. -/
def matchNarrowWrong : ChangeSpec := { name := "matchNarrow", fn := fun _ => fun
  | [d1, d2, d3] => { results := [.lit (.bool false)], args := [d1, d2, d3] }
  | _ => none }
def MatchNarrowWrongFalsely : Prop := matchNarrowRow.holds Tryd.pinned (OpenSpec.ofChange matchNarrowWrong)

/-- 'manometerlaw07.MatchOnes': WHATEVER THE INPUT: true; the input reads as it did. -/
def matchOnesSpec : ChangeSpec := { name := "matchOnes", fn := fun _ => fun
  | [d1, d2] => { results := [.lit (.bool true)], args := [d1, d2] }
  | _ => none }
def matchOnesRow : OpenClaim := { program := "ythlabaijaadocaadoor", sum := "4f677884dd3bb525110cc4d91a99be6f70a777934bf6709d6e4fbcf2cc1e4dbe", func := "manometer/manometerlaw07.MatchOnes", spec := "matchOnes", unfollowed := true, recurses := true, named := ["unicode/utf8.first", "unicode/utf8.acceptRanges"], apart := false, laid := [("unicode/utf8.acceptRanges", laid_unicode_utf8_acceptRanges), ("unicode/utf8.first", laid_unicode_utf8_first)] }
def MatchOnesSaid : Prop := matchOnesRow.holds Tryd.pinned (OpenSpec.ofChange matchOnesSpec)

/-- ITS FALSE NEIGHBOUR: 'it returns false'. Refute it at one input. -/
def matchOnesWrong : ChangeSpec := { name := "matchOnes", fn := fun _ => fun
  | [d1, d2] => { results := [.lit (.bool false)], args := [d1, d2] }
  | _ => none }
def MatchOnesWrongFalsely : Prop := matchOnesRow.holds Tryd.pinned (OpenSpec.ofChange matchOnesWrong)

/-- 'manometerlaw07.MatchTurned': WHATEVER THE INPUT: true; the input reads as it did. -/
def matchTurnedSpec : ChangeSpec := { name := "matchTurned", fn := fun _ => fun
  | [d1, d2] => { results := [.lit (.bool true)], args := [d1, d2] }
  | _ => none }
def matchTurnedRow : OpenClaim := { program := "ythlabaijaadocaadoor", sum := "4f677884dd3bb525110cc4d91a99be6f70a777934bf6709d6e4fbcf2cc1e4dbe", func := "manometer/manometerlaw07.MatchTurned", spec := "matchTurned", unfollowed := true, recurses := true, named := ["unicode/utf8.first", "unicode/utf8.acceptRanges"], apart := false, laid := [("unicode/utf8.acceptRanges", laid_unicode_utf8_acceptRanges), ("unicode/utf8.first", laid_unicode_utf8_first)] }
def MatchTurnedSaid : Prop := matchTurnedRow.holds Tryd.pinned (OpenSpec.ofChange matchTurnedSpec)

/-- ITS FALSE NEIGHBOUR: 'it returns false'. Refute it at one input. -/
def matchTurnedWrong : ChangeSpec := { name := "matchTurned", fn := fun _ => fun
  | [d1, d2] => { results := [.lit (.bool false)], args := [d1, d2] }
  | _ => none }
def MatchTurnedWrongFalsely : Prop := matchTurnedRow.holds Tryd.pinned (OpenSpec.ofChange matchTurnedWrong)

/-- 'manometerlaw07.MatchPlain': WHATEVER THE INPUT: true; the input reads as it did. -/
def matchPlainSpec : ChangeSpec := { name := "matchPlain", fn := fun _ => fun
  | [d1, d2, d3] => { results := [.lit (.bool true)], args := [d1, d2, d3] }
  | _ => none }
def matchPlainRow : OpenClaim := { program := "ythlabaijaadocaadoor", sum := "4f677884dd3bb525110cc4d91a99be6f70a777934bf6709d6e4fbcf2cc1e4dbe", func := "manometer/manometerlaw07.MatchPlain", spec := "matchPlain", unfollowed := true, recurses := true, named := ["unicode/utf8.first", "unicode/utf8.acceptRanges"], apart := false, laid := [("unicode/utf8.acceptRanges", laid_unicode_utf8_acceptRanges), ("unicode/utf8.first", laid_unicode_utf8_first)] }
def MatchPlainSaid : Prop := matchPlainRow.holds Tryd.pinned (OpenSpec.ofChange matchPlainSpec)

/-- ITS FALSE NEIGHBOUR: 'it returns false'. Refute it at one input. -/
def matchPlainWrong : ChangeSpec := { name := "matchPlain", fn := fun _ => fun
  | [d1, d2, d3] => { results := [.lit (.bool false)], args := [d1, d2, d3] }
  | _ => none }
def MatchPlainWrongFalsely : Prop := matchPlainRow.holds Tryd.pinned (OpenSpec.ofChange matchPlainWrong)

/-- 'manometerlaw07.MatchNone': WHATEVER THE INPUT: true; the input reads as it did. -/
def matchNoneSpec : ChangeSpec := { name := "matchNone", fn := fun _ => fun
  | [d] => { results := [.lit (.bool true)], args := [d] }
  | _ => none }
def matchNoneRow : OpenClaim := { program := "ythlabaijaadocaadoor", sum := "4f677884dd3bb525110cc4d91a99be6f70a777934bf6709d6e4fbcf2cc1e4dbe", func := "manometer/manometerlaw07.MatchNone", spec := "matchNone", unfollowed := true, recurses := true, named := ["unicode/utf8.first", "unicode/utf8.acceptRanges"], apart := false, laid := [("unicode/utf8.acceptRanges", laid_unicode_utf8_acceptRanges), ("unicode/utf8.first", laid_unicode_utf8_first)] }
def MatchNoneSaid : Prop := matchNoneRow.holds Tryd.pinned (OpenSpec.ofChange matchNoneSpec)

/-- ITS FALSE NEIGHBOUR: 'it returns false'. Refute it at one input. -/
def matchNoneWrong : ChangeSpec := { name := "matchNone", fn := fun _ => fun
  | [d] => { results := [.lit (.bool false)], args := [d] }
  | _ => none }
def MatchNoneWrongFalsely : Prop := matchNoneRow.holds Tryd.pinned (OpenSpec.ofChange matchNoneWrong)

/-- 'manometerlaw07.MatchAlls': WHATEVER THE INPUT: true; the input reads as it did. -/
def matchAllsSpec : ChangeSpec := { name := "matchAlls", fn := fun _ => fun
  | [d1, d2] => { results := [.lit (.bool true)], args := [d1, d2] }
  | _ => none }
def matchAllsRow : OpenClaim := { program := "ythlabaijaadocaadoor", sum := "4f677884dd3bb525110cc4d91a99be6f70a777934bf6709d6e4fbcf2cc1e4dbe", func := "manometer/manometerlaw07.MatchAlls", spec := "matchAlls", unfollowed := true, recurses := true, named := ["unicode/utf8.first", "unicode/utf8.acceptRanges"], apart := false, laid := [("unicode/utf8.acceptRanges", laid_unicode_utf8_acceptRanges), ("unicode/utf8.first", laid_unicode_utf8_first)] }
def MatchAllsSaid : Prop := matchAllsRow.holds Tryd.pinned (OpenSpec.ofChange matchAllsSpec)

/-- ITS FALSE NEIGHBOUR: 'it returns false'. Refute it at one input. -/
def matchAllsWrong : ChangeSpec := { name := "matchAlls", fn := fun _ => fun
  | [d1, d2] => { results := [.lit (.bool false)], args := [d1, d2] }
  | _ => none }
def MatchAllsWrongFalsely : Prop := matchAllsRow.holds Tryd.pinned (OpenSpec.ofChange matchAllsWrong)

/- THE SECOND FORM. 'bulk': how many values and letters a reading holds, each counted each time it is reached (what is shared counts as often as it is met; a slice's spare places count too). A statement '..UptoSaid' is the law's where the arguments, and the package variables that the reading takes, are together of bulk at most 1048576: NARROWER than '..Said'. Prove '..Said' where nothing that the law and all that it calls make is longer than what came in: it says more and counts as full. Else prove '..UptoSaid'. A law counts once. -/
mutual
def uptoBulk {H : Type} : DataW H → Nat
  | .lit (.string bytes) => bytes.length + 1
  | .lit _ => 1
  | .nil => 1
  | .ptr d => uptoBulk d + 1
  | .slice elems spare => uptoBulkAll elems + uptoBulkAll spare + 1
  | .agg parts => uptoBulkAll parts + 1
  | .iface _ d => uptoBulk d + 1
  | .map entries => uptoBulkEntries entries + 1
  | .held _ => 1
def uptoBulkAll {H : Type} : List (DataW H) → Nat
  | [] => 0
  | d :: r => uptoBulk d + uptoBulkAll r
def uptoBulkEntries {H : Type} : List (Lit × DataW H) → Nat
  | [] => 0
  | x :: r => uptoBulkEntry x + uptoBulkEntries r
def uptoBulkEntry {H : Type} : Lit × DataW H → Nat
  | (.string bytes, d) => bytes.length + uptoBulk d + 1
  | (_, d) => uptoBulk d + 1
 end
def uptoSmall : (H : Type) → List (DataW H) → Bool := fun _ ds => decide (uptoBulkAll ds ≤ 1048576)
def OpenSpec.upto (s : _root_.Go.ChangeSpec) : _root_.Go.OpenSpec := { _root_.Go.OpenSpec.ofChange s with cond := some uptoSmall }

/-- 'manometerlaw07.MatchChecks', WHERE WHAT IT READS IS OF BULK AT MOST 1048576: true; the input reads as it did. -/
def matchChecksUptoRow : OpenClaim := { program := "ythlabaijaadocaadoor", sum := "4f677884dd3bb525110cc4d91a99be6f70a777934bf6709d6e4fbcf2cc1e4dbe", func := "manometer/manometerlaw07.MatchChecks", spec := "matchChecks", unfollowed := true, recurses := true, named := ["unicode/utf8.first", "unicode/utf8.acceptRanges"], apart := false, laid := [("unicode/utf8.acceptRanges", laid_unicode_utf8_acceptRanges), ("unicode/utf8.first", laid_unicode_utf8_first)], narrowed := true }
def MatchChecksUptoSaid : Prop := matchChecksUptoRow.holds Tryd.pinned (OpenSpec.upto matchChecksSpec)

/-- 'manometerlaw07.MatchTexts', WHERE WHAT IT READS IS OF BULK AT MOST 1048576: true; the input reads as it did. -/
def matchTextsUptoRow : OpenClaim := { program := "ythlabaijaadocaadoor", sum := "4f677884dd3bb525110cc4d91a99be6f70a777934bf6709d6e4fbcf2cc1e4dbe", func := "manometer/manometerlaw07.MatchTexts", spec := "matchTexts", unfollowed := true, recurses := true, named := ["unicode/utf8.first", "unicode/utf8.acceptRanges"], apart := false, laid := [("unicode/utf8.acceptRanges", laid_unicode_utf8_acceptRanges), ("unicode/utf8.first", laid_unicode_utf8_first)], narrowed := true }
def MatchTextsUptoSaid : Prop := matchTextsUptoRow.holds Tryd.pinned (OpenSpec.upto matchTextsSpec)

/-- 'manometerlaw07.MatchTold', WHERE WHAT IT READS IS OF BULK AT MOST 1048576: true; the input reads as it did. -/
def matchToldUptoRow : OpenClaim := { program := "ythlabaijaadocaadoor", sum := "4f677884dd3bb525110cc4d91a99be6f70a777934bf6709d6e4fbcf2cc1e4dbe", func := "manometer/manometerlaw07.MatchTold", spec := "matchTold", unfollowed := true, recurses := true, named := ["unicode/utf8.first", "unicode/utf8.acceptRanges"], apart := false, laid := [("unicode/utf8.acceptRanges", laid_unicode_utf8_acceptRanges), ("unicode/utf8.first", laid_unicode_utf8_first)], narrowed := true }
def MatchToldUptoSaid : Prop := matchToldUptoRow.holds Tryd.pinned (OpenSpec.upto matchToldSpec)

/-- 'manometerlaw07.MatchNarrow', WHERE WHAT IT READS IS OF BULK AT MOST 1048576: true; the input reads as it did. -/
def matchNarrowUptoRow : OpenClaim := { program := "ythlabaijaadocaadoor", sum := "4f677884dd3bb525110cc4d91a99be6f70a777934bf6709d6e4fbcf2cc1e4dbe", func := "manometer/manometerlaw07.MatchNarrow", spec := "matchNarrow", unfollowed := true, recurses := true, named := ["unicode/utf8.first", "unicode/utf8.acceptRanges"], apart := false, laid := [("unicode/utf8.acceptRanges", laid_unicode_utf8_acceptRanges), ("unicode/utf8.first", laid_unicode_utf8_first)], narrowed := true }
def MatchNarrowUptoSaid : Prop := matchNarrowUptoRow.holds Tryd.pinned (OpenSpec.upto matchNarrowSpec)

/-- 'manometerlaw07.MatchOnes', WHERE WHAT IT READS IS OF BULK AT MOST 1048576: true; the input reads as it did. -/
def matchOnesUptoRow : OpenClaim := { program := "ythlabaijaadocaadoor", sum := "4f677884dd3bb525110cc4d91a99be6f70a777934bf6709d6e4fbcf2cc1e4dbe", func := "manometer/manometerlaw07.MatchOnes", spec := "matchOnes", unfollowed := true, recurses := true, named := ["unicode/utf8.first", "unicode/utf8.acceptRanges"], apart := false, laid := [("unicode/utf8.acceptRanges", laid_unicode_utf8_acceptRanges), ("unicode/utf8.first", laid_unicode_utf8_first)], narrowed := true }
def MatchOnesUptoSaid : Prop := matchOnesUptoRow.holds Tryd.pinned (OpenSpec.upto matchOnesSpec)

/-- 'manometerlaw07.MatchTurned', WHERE WHAT IT READS IS OF BULK AT MOST 1048576: true; the input reads as it did. -/
def matchTurnedUptoRow : OpenClaim := { program := "ythlabaijaadocaadoor", sum := "4f677884dd3bb525110cc4d91a99be6f70a777934bf6709d6e4fbcf2cc1e4dbe", func := "manometer/manometerlaw07.MatchTurned", spec := "matchTurned", unfollowed := true, recurses := true, named := ["unicode/utf8.first", "unicode/utf8.acceptRanges"], apart := false, laid := [("unicode/utf8.acceptRanges", laid_unicode_utf8_acceptRanges), ("unicode/utf8.first", laid_unicode_utf8_first)], narrowed := true }
def MatchTurnedUptoSaid : Prop := matchTurnedUptoRow.holds Tryd.pinned (OpenSpec.upto matchTurnedSpec)

/-- 'manometerlaw07.MatchPlain', WHERE WHAT IT READS IS OF BULK AT MOST 1048576: true; the input reads as it did. -/
def matchPlainUptoRow : OpenClaim := { program := "ythlabaijaadocaadoor", sum := "4f677884dd3bb525110cc4d91a99be6f70a777934bf6709d6e4fbcf2cc1e4dbe", func := "manometer/manometerlaw07.MatchPlain", spec := "matchPlain", unfollowed := true, recurses := true, named := ["unicode/utf8.first", "unicode/utf8.acceptRanges"], apart := false, laid := [("unicode/utf8.acceptRanges", laid_unicode_utf8_acceptRanges), ("unicode/utf8.first", laid_unicode_utf8_first)], narrowed := true }
def MatchPlainUptoSaid : Prop := matchPlainUptoRow.holds Tryd.pinned (OpenSpec.upto matchPlainSpec)

/-- 'manometerlaw07.MatchNone', WHERE WHAT IT READS IS OF BULK AT MOST 1048576: true; the input reads as it did. -/
def matchNoneUptoRow : OpenClaim := { program := "ythlabaijaadocaadoor", sum := "4f677884dd3bb525110cc4d91a99be6f70a777934bf6709d6e4fbcf2cc1e4dbe", func := "manometer/manometerlaw07.MatchNone", spec := "matchNone", unfollowed := true, recurses := true, named := ["unicode/utf8.first", "unicode/utf8.acceptRanges"], apart := false, laid := [("unicode/utf8.acceptRanges", laid_unicode_utf8_acceptRanges), ("unicode/utf8.first", laid_unicode_utf8_first)], narrowed := true }
def MatchNoneUptoSaid : Prop := matchNoneUptoRow.holds Tryd.pinned (OpenSpec.upto matchNoneSpec)

/-- 'manometerlaw07.MatchAlls', WHERE WHAT IT READS IS OF BULK AT MOST 1048576: true; the input reads as it did. -/
def matchAllsUptoRow : OpenClaim := { program := "ythlabaijaadocaadoor", sum := "4f677884dd3bb525110cc4d91a99be6f70a777934bf6709d6e4fbcf2cc1e4dbe", func := "manometer/manometerlaw07.MatchAlls", spec := "matchAlls", unfollowed := true, recurses := true, named := ["unicode/utf8.first", "unicode/utf8.acceptRanges"], apart := false, laid := [("unicode/utf8.acceptRanges", laid_unicode_utf8_acceptRanges), ("unicode/utf8.first", laid_unicode_utf8_first)], narrowed := true }
def MatchAllsUptoSaid : Prop := matchAllsUptoRow.holds Tryd.pinned (OpenSpec.upto matchAllsSpec)

end Rows
end Go.Proofs.YthlabaijaadocaaDoor
