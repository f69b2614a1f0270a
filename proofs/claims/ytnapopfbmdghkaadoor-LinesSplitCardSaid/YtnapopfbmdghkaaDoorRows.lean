/-
  NARROWER THAN 'FOR EVERY INPUT', by the rows' own cells (each row's printed sentence says how): CharsBack: laid · CharsReturns: laid · CharsNames: laid · CharsRunes: laid · CharsWhole: laid · CharsLong: laid · CharsKinds: laid · CharsChecks: laid · LinesBlanks: laid · LinesSplit: laid.
  DERIVED. THE GIVEN ROWS OF THIS SEAT. 10 by the template 'for every input the law returns true; each argument reads behind the call as it read before'; 0 by the template 'total and deterministic' (their statements: YtnapopfbmdghkaaDoorTotals.lean).
  GIVEN WITH THE SEED: the statements are not yours to turn. If you find one false, say at which input.
  Laid BY PROGRAM, IN A SANDBOX (cutbox-rows.mjs): the forced cells as the released guide's own fill.sh prints them over the translation 9f594be8edbe43e3… (all of the seat's roots in one cut). By AI agents, Wed Nov 11 2026. No macro, syntax, notation, axiom, sorry.
-/
import Derived.Test.YtnapopfbmdghkaaDoorChecked
import GoSem.PinnedTables
import GoSem.Claim
import GoSem.ClaimJoined
import GoSem.ClaimMapViews
import Derived.JoinedTies
import Derived.KernelRfl
namespace Go.Proofs.YtnapopfbmdghkaaDoor
/- THE CELL 'sum', in the pinned program and in every row, IS THE sha256 OF THE DUMP (.gsa) THAT YtnapopfbmdghkaaDoorProg.lean LOADS. Nothing in Lean hashes anything: it is a label: what it is worth is what the hold of that sum in a sandbox is worth. -/
noncomputable def Tryd.pinned : Pinned := { name := "ytnapopfbmdghkaadoor", sum := "9f594be8edbe43e37bcb01e794d29ac738c1c2775c69c9cf2182e1d80b781544", checked := Tryd.checked }
namespace Rows
def none {H : Type} : Left H := { results := [], args := [] }

/- WHAT THE LISTED PACKAGE-LEVEL VARIABLES READ AS WHEN THE CALL BEGINS. Each datum BY PROGRAM (the guide's laid-datum.mjs) off the statement by which the dump's own 'gosem.cut.vars' lays the variable. In a bare row this is a premise. The card (YtnapopfbmdghkaaDoorCards.lean) ties it to the program's text. -/
def laid_unicode_utf8_acceptRanges {H : Type} : DataW H := .agg [.agg [.lit (.int .u8 128), .lit (.int .u8 191)], .agg [.lit (.int .u8 160), .lit (.int .u8 191)], .agg [.lit (.int .u8 128), .lit (.int .u8 159)], .agg [.lit (.int .u8 144), .lit (.int .u8 191)], .agg [.lit (.int .u8 128), .lit (.int .u8 143)], .agg [.lit (.int .u8 0), .lit (.int .u8 0)], .agg [.lit (.int .u8 0), .lit (.int .u8 0)], .agg [.lit (.int .u8 0), .lit (.int .u8 0)], .agg [.lit (.int .u8 0), .lit (.int .u8 0)], .agg [.lit (.int .u8 0), .lit (.int .u8 0)], .agg [.lit (.int .u8 0), .lit (.int .u8 0)], .agg [.lit (.int .u8 0), .lit (.int .u8 0)], .agg [.lit (.int .u8 0), .lit (.int .u8 0)], .agg [.lit (.int .u8 0), .lit (.int .u8 0)], .agg [.lit (.int .u8 0), .lit (.int .u8 0)], .agg [.lit (.int .u8 0), .lit (.int .u8 0)]]
/-- One of Go's own tables, pinned by name: the form's constant. -/
def laid_unicode_utf8_first : DataW Unit := Go.Pinned.utf8First

/-- 'scholiumlaw01.CharsBack': WHATEVER THE INPUT: true; the input reads as it did. -/
def charsBackSpec : ChangeSpec := { name := "charsBack", fn := fun _ => fun
  | [d1, d2, d3] => { results := [.lit (.bool true)], args := [d1, d2, d3] }
  | _ => none }
def charsBackRow : OpenClaim := { program := "ytnapopfbmdghkaadoor", sum := "9f594be8edbe43e37bcb01e794d29ac738c1c2775c69c9cf2182e1d80b781544", func := "scholium/scholiumlaw01.CharsBack", spec := "charsBack", named := ["unicode/utf8.first", "unicode/utf8.acceptRanges"], apart := false, laid := [("unicode/utf8.acceptRanges", laid_unicode_utf8_acceptRanges), ("unicode/utf8.first", laid_unicode_utf8_first)] }
def CharsBackSaid : Prop := charsBackRow.holds Tryd.pinned (OpenSpec.ofChange charsBackSpec)

/-- ITS FALSE NEIGHBOUR: 'it returns false'. Refute it at one input. -/
def charsBackWrong : ChangeSpec := { name := "charsBack", fn := fun _ => fun
  | [d1, d2, d3] => { results := [.lit (.bool false)], args := [d1, d2, d3] }
  | _ => none }
def CharsBackWrongFalsely : Prop := charsBackRow.holds Tryd.pinned (OpenSpec.ofChange charsBackWrong)

/-- 'scholiumlaw01.CharsReturns': WHATEVER THE INPUT: true; the input reads as it did. -/
def charsReturnsSpec : ChangeSpec := { name := "charsReturns", fn := fun _ => fun
  | [d1, d2] => { results := [.lit (.bool true)], args := [d1, d2] }
  | _ => none }
def charsReturnsRow : OpenClaim := { program := "ytnapopfbmdghkaadoor", sum := "9f594be8edbe43e37bcb01e794d29ac738c1c2775c69c9cf2182e1d80b781544", func := "scholium/scholiumlaw01.CharsReturns", spec := "charsReturns", named := ["unicode/utf8.first", "unicode/utf8.acceptRanges"], apart := false, laid := [("unicode/utf8.acceptRanges", laid_unicode_utf8_acceptRanges), ("unicode/utf8.first", laid_unicode_utf8_first)] }
def CharsReturnsSaid : Prop := charsReturnsRow.holds Tryd.pinned (OpenSpec.ofChange charsReturnsSpec)

/-- ITS FALSE NEIGHBOUR: 'it returns false'. Refute it at one input. -/
def charsReturnsWrong : ChangeSpec := { name := "charsReturns", fn := fun _ => fun
  | [d1, d2] => { results := [.lit (.bool false)], args := [d1, d2] }
  | _ => none }
def CharsReturnsWrongFalsely : Prop := charsReturnsRow.holds Tryd.pinned (OpenSpec.ofChange charsReturnsWrong)

/-- 'scholiumlaw01.CharsNames': WHATEVER THE INPUT: true; the input reads as it did. -/
def charsNamesSpec : ChangeSpec := { name := "charsNames", fn := fun _ => fun
  | [d1, d2, d3] => { results := [.lit (.bool true)], args := [d1, d2, d3] }
  | _ => none }
def charsNamesRow : OpenClaim := { program := "ytnapopfbmdghkaadoor", sum := "9f594be8edbe43e37bcb01e794d29ac738c1c2775c69c9cf2182e1d80b781544", func := "scholium/scholiumlaw01.CharsNames", spec := "charsNames", named := ["unicode/utf8.first", "unicode/utf8.acceptRanges"], apart := false, laid := [("unicode/utf8.acceptRanges", laid_unicode_utf8_acceptRanges), ("unicode/utf8.first", laid_unicode_utf8_first)] }
def CharsNamesSaid : Prop := charsNamesRow.holds Tryd.pinned (OpenSpec.ofChange charsNamesSpec)

/-- ITS FALSE NEIGHBOUR: 'it returns false'. Refute it at one input. -/
def charsNamesWrong : ChangeSpec := { name := "charsNames", fn := fun _ => fun
  | [d1, d2, d3] => { results := [.lit (.bool false)], args := [d1, d2, d3] }
  | _ => none }
def CharsNamesWrongFalsely : Prop := charsNamesRow.holds Tryd.pinned (OpenSpec.ofChange charsNamesWrong)

/-- 'scholiumlaw01.CharsRunes': WHATEVER THE INPUT: true; the input reads as it did. -/
def charsRunesSpec : ChangeSpec := { name := "charsRunes", fn := fun _ => fun
  | [d1, d2] => { results := [.lit (.bool true)], args := [d1, d2] }
  | _ => none }
def charsRunesRow : OpenClaim := { program := "ytnapopfbmdghkaadoor", sum := "9f594be8edbe43e37bcb01e794d29ac738c1c2775c69c9cf2182e1d80b781544", func := "scholium/scholiumlaw01.CharsRunes", spec := "charsRunes", named := ["unicode/utf8.first", "unicode/utf8.acceptRanges"], apart := false, laid := [("unicode/utf8.acceptRanges", laid_unicode_utf8_acceptRanges), ("unicode/utf8.first", laid_unicode_utf8_first)] }
def CharsRunesSaid : Prop := charsRunesRow.holds Tryd.pinned (OpenSpec.ofChange charsRunesSpec)

/-- ITS FALSE NEIGHBOUR: 'it returns false'. Refute it at one input. -/
def charsRunesWrong : ChangeSpec := { name := "charsRunes", fn := fun _ => fun
  | [d1, d2] => { results := [.lit (.bool false)], args := [d1, d2] }
  | _ => none }
def CharsRunesWrongFalsely : Prop := charsRunesRow.holds Tryd.pinned (OpenSpec.ofChange charsRunesWrong)

/-- 'scholiumlaw01.CharsWhole': WHATEVER THE INPUT: true; the input reads as it did. -/
def charsWholeSpec : ChangeSpec := { name := "charsWhole", fn := fun _ => fun
  | [d1, d2, d3] => { results := [.lit (.bool true)], args := [d1, d2, d3] }
  | _ => none }
def charsWholeRow : OpenClaim := { program := "ytnapopfbmdghkaadoor", sum := "9f594be8edbe43e37bcb01e794d29ac738c1c2775c69c9cf2182e1d80b781544", func := "scholium/scholiumlaw01.CharsWhole", spec := "charsWhole", named := ["unicode/utf8.first", "unicode/utf8.acceptRanges"], apart := false, laid := [("unicode/utf8.acceptRanges", laid_unicode_utf8_acceptRanges), ("unicode/utf8.first", laid_unicode_utf8_first)] }
def CharsWholeSaid : Prop := charsWholeRow.holds Tryd.pinned (OpenSpec.ofChange charsWholeSpec)

/-- ITS FALSE NEIGHBOUR: 'it returns false'. Refute it at one input. -/
def charsWholeWrong : ChangeSpec := { name := "charsWhole", fn := fun _ => fun
  | [d1, d2, d3] => { results := [.lit (.bool false)], args := [d1, d2, d3] }
  | _ => none }
def CharsWholeWrongFalsely : Prop := charsWholeRow.holds Tryd.pinned (OpenSpec.ofChange charsWholeWrong)

/-- 'scholiumlaw01.CharsLong': WHATEVER THE INPUT: true; the input reads as it did. -/
def charsLongSpec : ChangeSpec := { name := "charsLong", fn := fun _ => fun
  | [d] => { results := [.lit (.bool true)], args := [d] }
  | _ => none }
def charsLongRow : OpenClaim := { program := "ytnapopfbmdghkaadoor", sum := "9f594be8edbe43e37bcb01e794d29ac738c1c2775c69c9cf2182e1d80b781544", func := "scholium/scholiumlaw01.CharsLong", spec := "charsLong", named := ["unicode/utf8.first", "unicode/utf8.acceptRanges"], apart := false, laid := [("unicode/utf8.acceptRanges", laid_unicode_utf8_acceptRanges), ("unicode/utf8.first", laid_unicode_utf8_first)] }
def CharsLongSaid : Prop := charsLongRow.holds Tryd.pinned (OpenSpec.ofChange charsLongSpec)

/-- ITS FALSE NEIGHBOUR: 'it returns false'. Refute it at one input. -/
def charsLongWrong : ChangeSpec := { name := "charsLong", fn := fun _ => fun
  | [d] => { results := [.lit (.bool false)], args := [d] }
  | _ => none }
def CharsLongWrongFalsely : Prop := charsLongRow.holds Tryd.pinned (OpenSpec.ofChange charsLongWrong)

/-- 'scholiumlaw01.CharsKinds': WHATEVER THE INPUT: true; the input reads as it did. -/
def charsKindsSpec : ChangeSpec := { name := "charsKinds", fn := fun _ => fun
  | [d] => { results := [.lit (.bool true)], args := [d] }
  | _ => none }
def charsKindsRow : OpenClaim := { program := "ytnapopfbmdghkaadoor", sum := "9f594be8edbe43e37bcb01e794d29ac738c1c2775c69c9cf2182e1d80b781544", func := "scholium/scholiumlaw01.CharsKinds", spec := "charsKinds", named := ["unicode/utf8.first", "unicode/utf8.acceptRanges"], apart := false, laid := [("unicode/utf8.acceptRanges", laid_unicode_utf8_acceptRanges), ("unicode/utf8.first", laid_unicode_utf8_first)] }
def CharsKindsSaid : Prop := charsKindsRow.holds Tryd.pinned (OpenSpec.ofChange charsKindsSpec)

/-- ITS FALSE NEIGHBOUR: 'it returns false'. Refute it at one input. -/
def charsKindsWrong : ChangeSpec := { name := "charsKinds", fn := fun _ => fun
  | [d] => { results := [.lit (.bool false)], args := [d] }
  | _ => none }
def CharsKindsWrongFalsely : Prop := charsKindsRow.holds Tryd.pinned (OpenSpec.ofChange charsKindsWrong)

/-- 'scholiumlaw01.CharsChecks': WHATEVER THE INPUT: true; the input reads as it did. -/
def charsChecksSpec : ChangeSpec := { name := "charsChecks", fn := fun _ => fun
  | [d1, d2, d3, d4] => { results := [.lit (.bool true)], args := [d1, d2, d3, d4] }
  | _ => none }
def charsChecksRow : OpenClaim := { program := "ytnapopfbmdghkaadoor", sum := "9f594be8edbe43e37bcb01e794d29ac738c1c2775c69c9cf2182e1d80b781544", func := "scholium/scholiumlaw01.CharsChecks", spec := "charsChecks", named := ["unicode/utf8.first", "unicode/utf8.acceptRanges"], apart := false, laid := [("unicode/utf8.acceptRanges", laid_unicode_utf8_acceptRanges), ("unicode/utf8.first", laid_unicode_utf8_first)] }
def CharsChecksSaid : Prop := charsChecksRow.holds Tryd.pinned (OpenSpec.ofChange charsChecksSpec)

/-- ITS FALSE NEIGHBOUR: 'it returns false'. Refute it at one input. -/
def charsChecksWrong : ChangeSpec := { name := "charsChecks", fn := fun _ => fun
  | [d1, d2, d3, d4] => { results := [.lit (.bool false)], args := [d1, d2, d3, d4] }
  | _ => none }
def CharsChecksWrongFalsely : Prop := charsChecksRow.holds Tryd.pinned (OpenSpec.ofChange charsChecksWrong)

/-- 'scholiumlaw02.LinesBlanks': WHATEVER THE INPUT: true; the input reads as it did. -/
def linesBlanksSpec : ChangeSpec := { name := "linesBlanks", fn := fun _ => fun
  | [d1, d2, d3] => { results := [.lit (.bool true)], args := [d1, d2, d3] }
  | _ => none }
def linesBlanksRow : OpenClaim := { program := "ytnapopfbmdghkaadoor", sum := "9f594be8edbe43e37bcb01e794d29ac738c1c2775c69c9cf2182e1d80b781544", func := "scholium/scholiumlaw02.LinesBlanks", spec := "linesBlanks", inPlace := ["internal/bytealg.IndexByte"], named := ["unicode/utf8.first", "unicode/utf8.acceptRanges"], apart := false, laid := [("unicode/utf8.acceptRanges", laid_unicode_utf8_acceptRanges), ("unicode/utf8.first", laid_unicode_utf8_first)] }
def LinesBlanksSaid : Prop := linesBlanksRow.holds Tryd.pinned (OpenSpec.ofChange linesBlanksSpec)

/-- ITS FALSE NEIGHBOUR: 'it returns false'. Refute it at one input. -/
def linesBlanksWrong : ChangeSpec := { name := "linesBlanks", fn := fun _ => fun
  | [d1, d2, d3] => { results := [.lit (.bool false)], args := [d1, d2, d3] }
  | _ => none }
def LinesBlanksWrongFalsely : Prop := linesBlanksRow.holds Tryd.pinned (OpenSpec.ofChange linesBlanksWrong)

/-- 'scholiumlaw02.LinesSplit': WHATEVER THE INPUT: true; the input reads as it did. -/
def linesSplitSpec : ChangeSpec := { name := "linesSplit", fn := fun _ => fun
  | [d1, d2] => { results := [.lit (.bool true)], args := [d1, d2] }
  | _ => none }
def linesSplitRow : OpenClaim := { program := "ytnapopfbmdghkaadoor", sum := "9f594be8edbe43e37bcb01e794d29ac738c1c2775c69c9cf2182e1d80b781544", func := "scholium/scholiumlaw02.LinesSplit", spec := "linesSplit", inPlace := ["internal/bytealg.IndexByte"], named := ["unicode/utf8.first", "unicode/utf8.acceptRanges"], apart := false, laid := [("unicode/utf8.acceptRanges", laid_unicode_utf8_acceptRanges), ("unicode/utf8.first", laid_unicode_utf8_first)] }
def LinesSplitSaid : Prop := linesSplitRow.holds Tryd.pinned (OpenSpec.ofChange linesSplitSpec)

/-- ITS FALSE NEIGHBOUR: 'it returns false'. Refute it at one input. -/
def linesSplitWrong : ChangeSpec := { name := "linesSplit", fn := fun _ => fun
  | [d1, d2] => { results := [.lit (.bool false)], args := [d1, d2] }
  | _ => none }
def LinesSplitWrongFalsely : Prop := linesSplitRow.holds Tryd.pinned (OpenSpec.ofChange linesSplitWrong)

/- THE SECOND FORM. 'bulk': how many values and letters a reading holds, each counted each time it is reached (what is shared counts as often as it is met; a slice's spare places count too). A statement '..UptoSaid' is the law's where the arguments, and the package variables that the reading takes, are together of bulk at most 1048576: NARROWER than '..Said'. Prove '..Said' where nothing that the law and all that it calls make is longer than what came in: it says more and counts as full. Else prove '..UptoSaid'. A law counts once. -/
mutual
def uptoBulk {H : Type} : DataW H → Nat
  | .lit (.string bytes) => bytes.length + 1
  | .lit _ => 1
  | .nil => 1
  | .ptr d => uptoBulk d + 1
  | .slice elems spare => uptoBulkAll elems + uptoBulkAll spare + 1
  | .agg parts => uptoBulkAll parts + 1
  | .iface _ d => uptoBulk d + 1
  | .map entries => uptoBulkEntries entries + 1
  | .held _ => 1
def uptoBulkAll {H : Type} : List (DataW H) → Nat
  | [] => 0
  | d :: r => uptoBulk d + uptoBulkAll r
def uptoBulkEntries {H : Type} : List (Lit × DataW H) → Nat
  | [] => 0
  | x :: r => uptoBulkEntry x + uptoBulkEntries r
def uptoBulkEntry {H : Type} : Lit × DataW H → Nat
  | (.string bytes, d) => bytes.length + uptoBulk d + 1
  | (_, d) => uptoBulk d + 1
 end
def uptoSmall : (H : Type) → List (DataW H) → Bool := fun _ ds => decide (uptoBulkAll ds ≤ 1048576)
def OpenSpec.upto (s : _root_.Go.ChangeSpec) : _root_.Go.OpenSpec := { _root_.Go.OpenSpec.ofChange s with cond := some uptoSmall }

/-- 'scholiumlaw01.CharsBack', WHERE WHAT IT READS IS OF BULK AT MOST 1048576: true; the input reads as it did. -/
def charsBackUptoRow : OpenClaim := { program := "ytnapopfbmdghkaadoor", sum := "9f594be8edbe43e37bcb01e794d29ac738c1c2775c69c9cf2182e1d80b781544", func := "scholium/scholiumlaw01.CharsBack", spec := "charsBack", named := ["unicode/utf8.first", "unicode/utf8.acceptRanges"], apart := false, laid := [("unicode/utf8.acceptRanges", laid_unicode_utf8_acceptRanges), ("unicode/utf8.first", laid_unicode_utf8_first)], narrowed := true }
def CharsBackUptoSaid : Prop := charsBackUptoRow.holds Tryd.pinned (OpenSpec.upto charsBackSpec)

/-- 'scholiumlaw01.CharsReturns', WHERE WHAT IT READS IS OF BULK AT MOST 1048576: true; the input reads as it did. -/
def charsReturnsUptoRow : OpenClaim := { program := "ytnapopfbmdghkaadoor", sum := "9f594be8edbe43e37bcb01e794d29ac738c1c2775c69c9cf2182e1d80b781544", func := "scholium/scholiumlaw01.CharsReturns", spec := "charsReturns", named := ["unicode/utf8.first", "unicode/utf8.acceptRanges"], apart := false, laid := [("unicode/utf8.acceptRanges", laid_unicode_utf8_acceptRanges), ("unicode/utf8.first", laid_unicode_utf8_first)], narrowed := true }
def CharsReturnsUptoSaid : Prop := charsReturnsUptoRow.holds Tryd.pinned (OpenSpec.upto charsReturnsSpec)

/-- 'scholiumlaw01.CharsNames', WHERE WHAT IT READS IS OF BULK AT MOST 1048576: true; the input reads as it did. -/
def charsNamesUptoRow : OpenClaim := { program := "ytnapopfbmdghkaadoor", sum := "9f594be8edbe43e37bcb01e794d29ac738c1c2775c69c9cf2182e1d80b781544", func := "scholium/scholiumlaw01.CharsNames", spec := "charsNames", named := ["unicode/utf8.first", "unicode/utf8.acceptRanges"], apart := false, laid := [("unicode/utf8.acceptRanges", laid_unicode_utf8_acceptRanges), ("unicode/utf8.first", laid_unicode_utf8_first)], narrowed := true }
def CharsNamesUptoSaid : Prop := charsNamesUptoRow.holds Tryd.pinned (OpenSpec.upto charsNamesSpec)

/-- 'scholiumlaw01.CharsRunes', WHERE WHAT IT READS IS OF BULK AT MOST 1048576: true; the input reads as it did. -/
def charsRunesUptoRow : OpenClaim := { program := "ytnapopfbmdghkaadoor", sum := "9f594be8edbe43e37bcb01e794d29ac738c1c2775c69c9cf2182e1d80b781544", func := "scholium/scholiumlaw01.CharsRunes", spec := "charsRunes", named := ["unicode/utf8.first", "unicode/utf8.acceptRanges"], apart := false, laid := [("unicode/utf8.acceptRanges", laid_unicode_utf8_acceptRanges), ("unicode/utf8.first", laid_unicode_utf8_first)], narrowed := true }
def CharsRunesUptoSaid : Prop := charsRunesUptoRow.holds Tryd.pinned (OpenSpec.upto charsRunesSpec)

/-- 'scholiumlaw01.CharsWhole', WHERE WHAT IT READS IS OF BULK AT MOST 1048576: true; the input reads as it did. -/
def charsWholeUptoRow : OpenClaim := { program := "ytnapopfbmdghkaadoor", sum := "9f594be8edbe43e37bcb01e794d29ac738c1c2775c69c9cf2182e1d80b781544", func := "scholium/scholiumlaw01.CharsWhole", spec := "charsWhole", named := ["unicode/utf8.first", "unicode/utf8.acceptRanges"], apart := false, laid := [("unicode/utf8.acceptRanges", laid_unicode_utf8_acceptRanges), ("unicode/utf8.first", laid_unicode_utf8_first)], narrowed := true }
def CharsWholeUptoSaid : Prop := charsWholeUptoRow.holds Tryd.pinned (OpenSpec.upto charsWholeSpec)

/-- 'scholiumlaw01.CharsLong', WHERE WHAT IT READS IS OF BULK AT MOST 1048576: true; the input reads as it did. -/
def charsLongUptoRow : OpenClaim := { program := "ytnapopfbmdghkaadoor", sum := "9f594be8edbe43e37bcb01e794d29ac738c1c2775c69c9cf2182e1d80b781544", func := "scholium/scholiumlaw01.CharsLong", spec := "charsLong", named := ["unicode/utf8.first", "unicode/utf8.acceptRanges"], apart := false, laid := [("unicode/utf8.acceptRanges", laid_unicode_utf8_acceptRanges), ("unicode/utf8.first", laid_unicode_utf8_first)], narrowed := true }
def CharsLongUptoSaid : Prop := charsLongUptoRow.holds Tryd.pinned (OpenSpec.upto charsLongSpec)

/-- 'scholiumlaw01.CharsKinds', WHERE WHAT IT READS IS OF BULK AT MOST 1048576: true; the input reads as it did. -/
def charsKindsUptoRow : OpenClaim := { program := "ytnapopfbmdghkaadoor", sum := "9f594be8edbe43e37bcb01e794d29ac738c1c2775c69c9cf2182e1d80b781544", func := "scholium/scholiumlaw01.CharsKinds", spec := "charsKinds", named := ["unicode/utf8.first", "unicode/utf8.acceptRanges"], apart := false, laid := [("unicode/utf8.acceptRanges", laid_unicode_utf8_acceptRanges), ("unicode/utf8.first", laid_unicode_utf8_first)], narrowed := true }
def CharsKindsUptoSaid : Prop := charsKindsUptoRow.holds Tryd.pinned (OpenSpec.upto charsKindsSpec)

/-- 'scholiumlaw01.CharsChecks', WHERE WHAT IT READS IS OF BULK AT MOST 1048576: true; the input reads as it did. -/
def charsChecksUptoRow : OpenClaim := { program := "ytnapopfbmdghkaadoor", sum := "9f594be8edbe43e37bcb01e794d29ac738c1c2775c69c9cf2182e1d80b781544", func := "scholium/scholiumlaw01.CharsChecks", spec := "charsChecks", named := ["unicode/utf8.first", "unicode/utf8.acceptRanges"], apart := false, laid := [("unicode/utf8.acceptRanges", laid_unicode_utf8_acceptRanges), ("unicode/utf8.first", laid_unicode_utf8_first)], narrowed := true }
def CharsChecksUptoSaid : Prop := charsChecksUptoRow.holds Tryd.pinned (OpenSpec.upto charsChecksSpec)

/-- 'scholiumlaw02.LinesBlanks', WHERE WHAT IT READS IS OF BULK AT MOST 1048576: true; the input reads as it did. -/
def linesBlanksUptoRow : OpenClaim := { program := "ytnapopfbmdghkaadoor", sum := "9f594be8edbe43e37bcb01e794d29ac738c1c2775c69c9cf2182e1d80b781544", func := "scholium/scholiumlaw02.LinesBlanks", spec := "linesBlanks", inPlace := ["internal/bytealg.IndexByte"], named := ["unicode/utf8.first", "unicode/utf8.acceptRanges"], apart := false, laid := [("unicode/utf8.acceptRanges", laid_unicode_utf8_acceptRanges), ("unicode/utf8.first", laid_unicode_utf8_first)], narrowed := true }
def LinesBlanksUptoSaid : Prop := linesBlanksUptoRow.holds Tryd.pinned (OpenSpec.upto linesBlanksSpec)

/-- 'scholiumlaw02.LinesSplit', WHERE WHAT IT READS IS OF BULK AT MOST 1048576: true; the input reads as it did. -/
def linesSplitUptoRow : OpenClaim := { program := "ytnapopfbmdghkaadoor", sum := "9f594be8edbe43e37bcb01e794d29ac738c1c2775c69c9cf2182e1d80b781544", func := "scholium/scholiumlaw02.LinesSplit", spec := "linesSplit", inPlace := ["internal/bytealg.IndexByte"], named := ["unicode/utf8.first", "unicode/utf8.acceptRanges"], apart := false, laid := [("unicode/utf8.acceptRanges", laid_unicode_utf8_acceptRanges), ("unicode/utf8.first", laid_unicode_utf8_first)], narrowed := true }
def LinesSplitUptoSaid : Prop := linesSplitUptoRow.holds Tryd.pinned (OpenSpec.upto linesSplitSpec)

end Rows
end Go.Proofs.YtnapopfbmdghkaaDoor
