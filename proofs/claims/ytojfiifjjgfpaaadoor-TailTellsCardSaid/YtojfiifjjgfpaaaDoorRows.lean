/-
  NARROWER THAN 'FOR EVERY INPUT', by the rows' own cells (each row's printed sentence says how): PlainWords: laid · PlainSigns: laid · PlainTells: laid · PlainParts: laid · TailMarkers: laid · TailRests: laid · TailTells: laid · TailComments: laid.
  DERIVED. THE GIVEN ROWS OF THIS SEAT. 8 by the template 'for every input the law returns true; each argument reads behind the call as it read before'; 0 by the template 'total and deterministic' (their statements: YtojfiifjjgfpaaaDoorTotals.lean).
  GIVEN WITH THE SEED: the statements are not yours to turn. If you find one false, say at which input.
  Laid BY PROGRAM, IN A SANDBOX (cutbox-rows.mjs): the forced cells as the released guide's own fill.sh prints them over the translation c5d313d1668192b3… (all of the seat's roots in one cut). By AI agents, Wed Nov 11 2026. No macro, syntax, notation, axiom, sorry.
-/
import Derived.Test.YtojfiifjjgfpaaaDoorChecked
import GoSem.PinnedTables
import GoSem.Claim
import GoSem.ClaimJoined
import GoSem.ClaimMapViews
import Derived.JoinedTies
import Derived.KernelRfl
namespace Go.Proofs.YtojfiifjjgfpaaaDoor
/- THE CELL 'sum', in the pinned program and in every row, IS THE sha256 OF THE DUMP (.gsa) THAT YtojfiifjjgfpaaaDoorProg.lean LOADS. Nothing in Lean hashes anything: it is a label: what it is worth is what the hold of that sum in a sandbox is worth. -/
noncomputable def Tryd.pinned : Pinned := { name := "ytojfiifjjgfpaaadoor", sum := "c5d313d1668192b3c1e24e7eec0292c274c7bc76ccab382aae94d08d17990a25", checked := Tryd.checked }
namespace Rows
def none {H : Type} : Left H := { results := [], args := [] }

/- WHAT THE LISTED PACKAGE-LEVEL VARIABLES READ AS WHEN THE CALL BEGINS. Each datum BY PROGRAM (the guide's laid-datum.mjs) off the statement by which the dump's own 'gosem.cut.vars' lays the variable. In a bare row this is a premise. The card (YtojfiifjjgfpaaaDoorCards.lean) ties it to the program's text. -/
def laid_unicode_utf8_acceptRanges {H : Type} : DataW H := .agg [.agg [.lit (.int .u8 128), .lit (.int .u8 191)], .agg [.lit (.int .u8 160), .lit (.int .u8 191)], .agg [.lit (.int .u8 128), .lit (.int .u8 159)], .agg [.lit (.int .u8 144), .lit (.int .u8 191)], .agg [.lit (.int .u8 128), .lit (.int .u8 143)], .agg [.lit (.int .u8 0), .lit (.int .u8 0)], .agg [.lit (.int .u8 0), .lit (.int .u8 0)], .agg [.lit (.int .u8 0), .lit (.int .u8 0)], .agg [.lit (.int .u8 0), .lit (.int .u8 0)], .agg [.lit (.int .u8 0), .lit (.int .u8 0)], .agg [.lit (.int .u8 0), .lit (.int .u8 0)], .agg [.lit (.int .u8 0), .lit (.int .u8 0)], .agg [.lit (.int .u8 0), .lit (.int .u8 0)], .agg [.lit (.int .u8 0), .lit (.int .u8 0)], .agg [.lit (.int .u8 0), .lit (.int .u8 0)], .agg [.lit (.int .u8 0), .lit (.int .u8 0)]]
/-- One of Go's own tables, pinned by name: the form's constant. -/
def laid_unicode_utf8_first : DataW Unit := Go.Pinned.utf8First

/-- 'scholiumlaw04.PlainWords': WHATEVER THE INPUT: true; the input reads as it did. -/
def plainWordsSpec : ChangeSpec := { name := "plainWords", fn := fun _ => fun
  | [d1, d2, d3, d4] => { results := [.lit (.bool true)], args := [d1, d2, d3, d4] }
  | _ => none }
def plainWordsRow : OpenClaim := { program := "ytojfiifjjgfpaaadoor", sum := "c5d313d1668192b3c1e24e7eec0292c274c7bc76ccab382aae94d08d17990a25", func := "scholium/scholiumlaw04.PlainWords", spec := "plainWords", inPlace := ["internal/bytealg.IndexByteString"], named := ["unicode/utf8.first", "unicode/utf8.acceptRanges"], apart := false, laid := [("unicode/utf8.acceptRanges", laid_unicode_utf8_acceptRanges), ("unicode/utf8.first", laid_unicode_utf8_first)] }
def PlainWordsSaid : Prop := plainWordsRow.holds Tryd.pinned (OpenSpec.ofChange plainWordsSpec)

/-- ITS FALSE NEIGHBOUR: 'it returns false'. Refute it at one input. -/
def plainWordsWrong : ChangeSpec := { name := "plainWords", fn := fun _ => fun
  | [d1, d2, d3, d4] => { results := [.lit (.bool false)], args := [d1, d2, d3, d4] }
  | _ => none }
def PlainWordsWrongFalsely : Prop := plainWordsRow.holds Tryd.pinned (OpenSpec.ofChange plainWordsWrong)

/-- 'scholiumlaw04.PlainSigns': WHATEVER THE INPUT: true; the input reads as it did. -/
def plainSignsSpec : ChangeSpec := { name := "plainSigns", fn := fun _ => fun
  | [d1, d2] => { results := [.lit (.bool true)], args := [d1, d2] }
  | _ => none }
def plainSignsRow : OpenClaim := { program := "ytojfiifjjgfpaaadoor", sum := "c5d313d1668192b3c1e24e7eec0292c274c7bc76ccab382aae94d08d17990a25", func := "scholium/scholiumlaw04.PlainSigns", spec := "plainSigns", inPlace := ["internal/bytealg.IndexByteString"], named := ["unicode/utf8.first", "unicode/utf8.acceptRanges"], apart := false, laid := [("unicode/utf8.acceptRanges", laid_unicode_utf8_acceptRanges), ("unicode/utf8.first", laid_unicode_utf8_first)] }
def PlainSignsSaid : Prop := plainSignsRow.holds Tryd.pinned (OpenSpec.ofChange plainSignsSpec)

/-- ITS FALSE NEIGHBOUR: 'it returns false'. Refute it at one input. -/
def plainSignsWrong : ChangeSpec := { name := "plainSigns", fn := fun _ => fun
  | [d1, d2] => { results := [.lit (.bool false)], args := [d1, d2] }
  | _ => none }
def PlainSignsWrongFalsely : Prop := plainSignsRow.holds Tryd.pinned (OpenSpec.ofChange plainSignsWrong)

/-- 'scholiumlaw04.PlainTells': WHATEVER THE INPUT: true; the input reads as it did. -/
def plainTellsSpec : ChangeSpec := { name := "plainTells", fn := fun _ => fun
  | [d1, d2] => { results := [.lit (.bool true)], args := [d1, d2] }
  | _ => none }
def plainTellsRow : OpenClaim := { program := "ytojfiifjjgfpaaadoor", sum := "c5d313d1668192b3c1e24e7eec0292c274c7bc76ccab382aae94d08d17990a25", func := "scholium/scholiumlaw04.PlainTells", spec := "plainTells", inPlace := ["internal/bytealg.IndexByteString"], named := ["unicode/utf8.first", "unicode/utf8.acceptRanges"], apart := false, laid := [("unicode/utf8.acceptRanges", laid_unicode_utf8_acceptRanges), ("unicode/utf8.first", laid_unicode_utf8_first)] }
def PlainTellsSaid : Prop := plainTellsRow.holds Tryd.pinned (OpenSpec.ofChange plainTellsSpec)

/-- ITS FALSE NEIGHBOUR: 'it returns false'. Refute it at one input. -/
def plainTellsWrong : ChangeSpec := { name := "plainTells", fn := fun _ => fun
  | [d1, d2] => { results := [.lit (.bool false)], args := [d1, d2] }
  | _ => none }
def PlainTellsWrongFalsely : Prop := plainTellsRow.holds Tryd.pinned (OpenSpec.ofChange plainTellsWrong)

/-- 'scholiumlaw04.PlainParts': WHATEVER THE INPUT: true; the input reads as it did. -/
def plainPartsSpec : ChangeSpec := { name := "plainParts", fn := fun _ => fun
  | [d1, d2] => { results := [.lit (.bool true)], args := [d1, d2] }
  | _ => none }
def plainPartsRow : OpenClaim := { program := "ytojfiifjjgfpaaadoor", sum := "c5d313d1668192b3c1e24e7eec0292c274c7bc76ccab382aae94d08d17990a25", func := "scholium/scholiumlaw04.PlainParts", spec := "plainParts", inPlace := ["internal/bytealg.IndexByteString"], named := ["unicode/utf8.first", "unicode/utf8.acceptRanges"], apart := false, laid := [("unicode/utf8.acceptRanges", laid_unicode_utf8_acceptRanges), ("unicode/utf8.first", laid_unicode_utf8_first)] }
def PlainPartsSaid : Prop := plainPartsRow.holds Tryd.pinned (OpenSpec.ofChange plainPartsSpec)

/-- ITS FALSE NEIGHBOUR: 'it returns false'. Refute it at one input. -/
def plainPartsWrong : ChangeSpec := { name := "plainParts", fn := fun _ => fun
  | [d1, d2] => { results := [.lit (.bool false)], args := [d1, d2] }
  | _ => none }
def PlainPartsWrongFalsely : Prop := plainPartsRow.holds Tryd.pinned (OpenSpec.ofChange plainPartsWrong)

/-- 'scholiumlaw11.TailMarkers': WHATEVER THE INPUT: true; the input reads as it did. -/
def tailMarkersSpec : ChangeSpec := { name := "tailMarkers", fn := fun _ => fun
  | [d1, d2, d3] => { results := [.lit (.bool true)], args := [d1, d2, d3] }
  | _ => none }
def tailMarkersRow : OpenClaim := { program := "ytojfiifjjgfpaaadoor", sum := "c5d313d1668192b3c1e24e7eec0292c274c7bc76ccab382aae94d08d17990a25", func := "scholium/scholiumlaw11.TailMarkers", spec := "tailMarkers", named := ["unicode/utf8.first", "unicode/utf8.acceptRanges"], apart := false, laid := [("unicode/utf8.acceptRanges", laid_unicode_utf8_acceptRanges), ("unicode/utf8.first", laid_unicode_utf8_first)] }
def TailMarkersSaid : Prop := tailMarkersRow.holds Tryd.pinned (OpenSpec.ofChange tailMarkersSpec)

/-- ITS FALSE NEIGHBOUR: 'it returns false'. Refute it at one input. -/
def tailMarkersWrong : ChangeSpec := { name := "tailMarkers", fn := fun _ => fun
  | [d1, d2, d3] => { results := [.lit (.bool false)], args := [d1, d2, d3] }
  | _ => none }
def TailMarkersWrongFalsely : Prop := tailMarkersRow.holds Tryd.pinned (OpenSpec.ofChange tailMarkersWrong)

/-- 'scholiumlaw11.TailRests': WHATEVER THE INPUT: true; the input reads as it did. -/
def tailRestsSpec : ChangeSpec := { name := "tailRests", fn := fun _ => fun
  | [d1, d2] => { results := [.lit (.bool true)], args := [d1, d2] }
  | _ => none }
def tailRestsRow : OpenClaim := { program := "ytojfiifjjgfpaaadoor", sum := "c5d313d1668192b3c1e24e7eec0292c274c7bc76ccab382aae94d08d17990a25", func := "scholium/scholiumlaw11.TailRests", spec := "tailRests", named := ["unicode/utf8.first", "unicode/utf8.acceptRanges"], apart := false, laid := [("unicode/utf8.acceptRanges", laid_unicode_utf8_acceptRanges), ("unicode/utf8.first", laid_unicode_utf8_first)] }
def TailRestsSaid : Prop := tailRestsRow.holds Tryd.pinned (OpenSpec.ofChange tailRestsSpec)

/-- ITS FALSE NEIGHBOUR: 'it returns false'. Refute it at one input. -/
def tailRestsWrong : ChangeSpec := { name := "tailRests", fn := fun _ => fun
  | [d1, d2] => { results := [.lit (.bool false)], args := [d1, d2] }
  | _ => none }
def TailRestsWrongFalsely : Prop := tailRestsRow.holds Tryd.pinned (OpenSpec.ofChange tailRestsWrong)

/-- 'scholiumlaw11.TailTells': WHATEVER THE INPUT: true; the input reads as it did. -/
def tailTellsSpec : ChangeSpec := { name := "tailTells", fn := fun _ => fun
  | [d1, d2] => { results := [.lit (.bool true)], args := [d1, d2] }
  | _ => none }
def tailTellsRow : OpenClaim := { program := "ytojfiifjjgfpaaadoor", sum := "c5d313d1668192b3c1e24e7eec0292c274c7bc76ccab382aae94d08d17990a25", func := "scholium/scholiumlaw11.TailTells", spec := "tailTells", named := ["unicode/utf8.first", "unicode/utf8.acceptRanges"], apart := false, laid := [("unicode/utf8.acceptRanges", laid_unicode_utf8_acceptRanges), ("unicode/utf8.first", laid_unicode_utf8_first)] }
def TailTellsSaid : Prop := tailTellsRow.holds Tryd.pinned (OpenSpec.ofChange tailTellsSpec)

/-- ITS FALSE NEIGHBOUR: 'it returns false'. Refute it at one input. -/
def tailTellsWrong : ChangeSpec := { name := "tailTells", fn := fun _ => fun
  | [d1, d2] => { results := [.lit (.bool false)], args := [d1, d2] }
  | _ => none }
def TailTellsWrongFalsely : Prop := tailTellsRow.holds Tryd.pinned (OpenSpec.ofChange tailTellsWrong)

/-- 'scholiumlaw11.TailComments': WHATEVER THE INPUT: true; the input reads as it did. -/
def tailCommentsSpec : ChangeSpec := { name := "tailComments", fn := fun _ => fun
  | [d1, d2, d3] => { results := [.lit (.bool true)], args := [d1, d2, d3] }
  | _ => none }
def tailCommentsRow : OpenClaim := { program := "ytojfiifjjgfpaaadoor", sum := "c5d313d1668192b3c1e24e7eec0292c274c7bc76ccab382aae94d08d17990a25", func := "scholium/scholiumlaw11.TailComments", spec := "tailComments", named := ["unicode/utf8.first", "unicode/utf8.acceptRanges"], apart := false, laid := [("unicode/utf8.acceptRanges", laid_unicode_utf8_acceptRanges), ("unicode/utf8.first", laid_unicode_utf8_first)] }
def TailCommentsSaid : Prop := tailCommentsRow.holds Tryd.pinned (OpenSpec.ofChange tailCommentsSpec)

/-- ITS FALSE NEIGHBOUR: 'it returns false'. Refute it at one input. -/
def tailCommentsWrong : ChangeSpec := { name := "tailComments", fn := fun _ => fun
  | [d1, d2, d3] => { results := [.lit (.bool false)], args := [d1, d2, d3] }
  | _ => none }
def TailCommentsWrongFalsely : Prop := tailCommentsRow.holds Tryd.pinned (OpenSpec.ofChange tailCommentsWrong)

/- THE SECOND FORM. 'bulk': how many values and letters a reading holds, each counted each time it is reached (what is shared counts as often as it is met; a slice's spare places count too). A statement '..UptoSaid' is the law's where the arguments, and the package variables that the reading takes, are together of bulk at most 1048576: NARROWER than '..Said'. Prove '..Said' where nothing that the law and all that it calls make is longer than what came in: it says more and counts as full. Else prove '..UptoSaid'. A law counts once. -/
mutual
def uptoBulk {H : Type} : DataW H → Nat
  | .lit (.string bytes) => bytes.length + 1
  | .lit _ => 1
  | .nil => 1
  | .ptr d => uptoBulk d + 1
  | .slice elems spare => uptoBulkAll elems + uptoBulkAll spare + 1
  | .agg parts => uptoBulkAll parts + 1
  | .iface _ d => uptoBulk d + 1
  | .map entries => uptoBulkEntries entries + 1
  | .held _ => 1
def uptoBulkAll {H : Type} : List (DataW H) → Nat
  | [] => 0
  | d :: r => uptoBulk d + uptoBulkAll r
def uptoBulkEntries {H : Type} : List (Lit × DataW H) → Nat
  | [] => 0
  | x :: r => uptoBulkEntry x + uptoBulkEntries r
def uptoBulkEntry {H : Type} : Lit × DataW H → Nat
  | (.string bytes, d) => bytes.length + uptoBulk d + 1
  | (_, d) => uptoBulk d + 1
 end
def uptoSmall : (H : Type) → List (DataW H) → Bool := fun _ ds => decide (uptoBulkAll ds ≤ 1048576)
def OpenSpec.upto (s : _root_.Go.ChangeSpec) : _root_.Go.OpenSpec := { _root_.Go.OpenSpec.ofChange s with cond := some uptoSmall }

/-- 'scholiumlaw04.PlainWords', WHERE WHAT IT READS IS OF BULK AT MOST 1048576: true; the input reads as it did. -/
def plainWordsUptoRow : OpenClaim := { program := "ytojfiifjjgfpaaadoor", sum := "c5d313d1668192b3c1e24e7eec0292c274c7bc76ccab382aae94d08d17990a25", func := "scholium/scholiumlaw04.PlainWords", spec := "plainWords", inPlace := ["internal/bytealg.IndexByteString"], named := ["unicode/utf8.first", "unicode/utf8.acceptRanges"], apart := false, laid := [("unicode/utf8.acceptRanges", laid_unicode_utf8_acceptRanges), ("unicode/utf8.first", laid_unicode_utf8_first)], narrowed := true }
def PlainWordsUptoSaid : Prop := plainWordsUptoRow.holds Tryd.pinned (OpenSpec.upto plainWordsSpec)

/-- 'scholiumlaw04.PlainSigns', WHERE WHAT IT READS IS OF BULK AT MOST 1048576: true; the input reads as it did. -/
def plainSignsUptoRow : OpenClaim := { program := "ytojfiifjjgfpaaadoor", sum := "c5d313d1668192b3c1e24e7eec0292c274c7bc76ccab382aae94d08d17990a25", func := "scholium/scholiumlaw04.PlainSigns", spec := "plainSigns", inPlace := ["internal/bytealg.IndexByteString"], named := ["unicode/utf8.first", "unicode/utf8.acceptRanges"], apart := false, laid := [("unicode/utf8.acceptRanges", laid_unicode_utf8_acceptRanges), ("unicode/utf8.first", laid_unicode_utf8_first)], narrowed := true }
def PlainSignsUptoSaid : Prop := plainSignsUptoRow.holds Tryd.pinned (OpenSpec.upto plainSignsSpec)

/-- 'scholiumlaw04.PlainTells', WHERE WHAT IT READS IS OF BULK AT MOST 1048576: true; the input reads as it did. -/
def plainTellsUptoRow : OpenClaim := { program := "ytojfiifjjgfpaaadoor", sum := "c5d313d1668192b3c1e24e7eec0292c274c7bc76ccab382aae94d08d17990a25", func := "scholium/scholiumlaw04.PlainTells", spec := "plainTells", inPlace := ["internal/bytealg.IndexByteString"], named := ["unicode/utf8.first", "unicode/utf8.acceptRanges"], apart := false, laid := [("unicode/utf8.acceptRanges", laid_unicode_utf8_acceptRanges), ("unicode/utf8.first", laid_unicode_utf8_first)], narrowed := true }
def PlainTellsUptoSaid : Prop := plainTellsUptoRow.holds Tryd.pinned (OpenSpec.upto plainTellsSpec)

/-- 'scholiumlaw04.PlainParts', WHERE WHAT IT READS IS OF BULK AT MOST 1048576: true; the input reads as it did. -/
def plainPartsUptoRow : OpenClaim := { program := "ytojfiifjjgfpaaadoor", sum := "c5d313d1668192b3c1e24e7eec0292c274c7bc76ccab382aae94d08d17990a25", func := "scholium/scholiumlaw04.PlainParts", spec := "plainParts", inPlace := ["internal/bytealg.IndexByteString"], named := ["unicode/utf8.first", "unicode/utf8.acceptRanges"], apart := false, laid := [("unicode/utf8.acceptRanges", laid_unicode_utf8_acceptRanges), ("unicode/utf8.first", laid_unicode_utf8_first)], narrowed := true }
def PlainPartsUptoSaid : Prop := plainPartsUptoRow.holds Tryd.pinned (OpenSpec.upto plainPartsSpec)

/-- 'scholiumlaw11.TailMarkers', WHERE WHAT IT READS IS OF BULK AT MOST 1048576: true; the input reads as it did. -/
def tailMarkersUptoRow : OpenClaim := { program := "ytojfiifjjgfpaaadoor", sum := "c5d313d1668192b3c1e24e7eec0292c274c7bc76ccab382aae94d08d17990a25", func := "scholium/scholiumlaw11.TailMarkers", spec := "tailMarkers", named := ["unicode/utf8.first", "unicode/utf8.acceptRanges"], apart := false, laid := [("unicode/utf8.acceptRanges", laid_unicode_utf8_acceptRanges), ("unicode/utf8.first", laid_unicode_utf8_first)], narrowed := true }
def TailMarkersUptoSaid : Prop := tailMarkersUptoRow.holds Tryd.pinned (OpenSpec.upto tailMarkersSpec)

/-- 'scholiumlaw11.TailRests', WHERE WHAT IT READS IS OF BULK AT MOST 1048576: true; the input reads as it did. -/
def tailRestsUptoRow : OpenClaim := { program := "ytojfiifjjgfpaaadoor", sum := "c5d313d1668192b3c1e24e7eec0292c274c7bc76ccab382aae94d08d17990a25", func := "scholium/scholiumlaw11.TailRests", spec := "tailRests", named := ["unicode/utf8.first", "unicode/utf8.acceptRanges"], apart := false, laid := [("unicode/utf8.acceptRanges", laid_unicode_utf8_acceptRanges), ("unicode/utf8.first", laid_unicode_utf8_first)], narrowed := true }
def TailRestsUptoSaid : Prop := tailRestsUptoRow.holds Tryd.pinned (OpenSpec.upto tailRestsSpec)

/-- 'scholiumlaw11.TailTells', WHERE WHAT IT READS IS OF BULK AT MOST 1048576: true; the input reads as it did. -/
def tailTellsUptoRow : OpenClaim := { program := "ytojfiifjjgfpaaadoor", sum := "c5d313d1668192b3c1e24e7eec0292c274c7bc76ccab382aae94d08d17990a25", func := "scholium/scholiumlaw11.TailTells", spec := "tailTells", named := ["unicode/utf8.first", "unicode/utf8.acceptRanges"], apart := false, laid := [("unicode/utf8.acceptRanges", laid_unicode_utf8_acceptRanges), ("unicode/utf8.first", laid_unicode_utf8_first)], narrowed := true }
def TailTellsUptoSaid : Prop := tailTellsUptoRow.holds Tryd.pinned (OpenSpec.upto tailTellsSpec)

/-- 'scholiumlaw11.TailComments', WHERE WHAT IT READS IS OF BULK AT MOST 1048576: true; the input reads as it did. -/
def tailCommentsUptoRow : OpenClaim := { program := "ytojfiifjjgfpaaadoor", sum := "c5d313d1668192b3c1e24e7eec0292c274c7bc76ccab382aae94d08d17990a25", func := "scholium/scholiumlaw11.TailComments", spec := "tailComments", named := ["unicode/utf8.first", "unicode/utf8.acceptRanges"], apart := false, laid := [("unicode/utf8.acceptRanges", laid_unicode_utf8_acceptRanges), ("unicode/utf8.first", laid_unicode_utf8_first)], narrowed := true }
def TailCommentsUptoSaid : Prop := tailCommentsUptoRow.holds Tryd.pinned (OpenSpec.upto tailCommentsSpec)

end Rows
end Go.Proofs.YtojfiifjjgfpaaaDoor
