/-
  NARROWER THAN 'FOR EVERY INPUT', by the rows' own cells (each row's printed sentence says how): DoubleHex: laid · DoubleEscapes: laid · DoubleForms: laid · DoubleTells: laid · DoubleBack: laid · DoubleRunes: laid · DoubleApart: laid · SingleQuotes: laid · SingleForms: laid · SingleTells: laid · SingleBack: laid · SingleApart: laid.
  DERIVED. THE GIVEN ROWS OF THIS SEAT. 12 by the template 'for every input the law returns true; each argument reads behind the call as it read before'; 0 by the template 'total and deterministic' (their statements: YtpgcjcggnfagfaaDoorTotals.lean).
  GIVEN WITH THE SEED: the statements are not yours to turn. If you find one false, say at which input.
  Laid BY PROGRAM, IN A SANDBOX (cutbox-rows.mjs): the forced cells as the released guide's own fill.sh prints them over the translation b5b507fbc2c9c9a6… (all of the seat's roots in one cut). By AI agents, Wed Nov 11 2026. No macro, syntax, notation, axiom, sorry.
-/
import Derived.Test.YtpgcjcggnfagfaaDoorChecked
import GoSem.PinnedTables
import GoSem.Claim
import GoSem.ClaimJoined
import GoSem.ClaimMapViews
import Derived.JoinedTies
import Derived.KernelRfl
namespace Go.Proofs.YtpgcjcggnfagfaaDoor
/- THE CELL 'sum', in the pinned program and in every row, IS THE sha256 OF THE DUMP (.gsa) THAT YtpgcjcggnfagfaaDoorProg.lean LOADS. Nothing in Lean hashes anything: it is a label: what it is worth is what the hold of that sum in a sandbox is worth. -/
noncomputable def Tryd.pinned : Pinned := { name := "ytpgcjcggnfagfaadoor", sum := "b5b507fbc2c9c9a684838fa5b093bcfe1d53b82f91b9c3ddbaf69bc05454793e", checked := Tryd.checked }
namespace Rows
def none {H : Type} : Left H := { results := [], args := [] }

/- WHAT THE LISTED PACKAGE-LEVEL VARIABLES READ AS WHEN THE CALL BEGINS. Each datum BY PROGRAM (the guide's laid-datum.mjs) off the statement by which the dump's own 'gosem.cut.vars' lays the variable. In a bare row this is a premise. The card (YtpgcjcggnfagfaaDoorCards.lean) ties it to the program's text. -/
def laid_unicode_utf8_acceptRanges {H : Type} : DataW H := .agg [.agg [.lit (.int .u8 128), .lit (.int .u8 191)], .agg [.lit (.int .u8 160), .lit (.int .u8 191)], .agg [.lit (.int .u8 128), .lit (.int .u8 159)], .agg [.lit (.int .u8 144), .lit (.int .u8 191)], .agg [.lit (.int .u8 128), .lit (.int .u8 143)], .agg [.lit (.int .u8 0), .lit (.int .u8 0)], .agg [.lit (.int .u8 0), .lit (.int .u8 0)], .agg [.lit (.int .u8 0), .lit (.int .u8 0)], .agg [.lit (.int .u8 0), .lit (.int .u8 0)], .agg [.lit (.int .u8 0), .lit (.int .u8 0)], .agg [.lit (.int .u8 0), .lit (.int .u8 0)], .agg [.lit (.int .u8 0), .lit (.int .u8 0)], .agg [.lit (.int .u8 0), .lit (.int .u8 0)], .agg [.lit (.int .u8 0), .lit (.int .u8 0)], .agg [.lit (.int .u8 0), .lit (.int .u8 0)], .agg [.lit (.int .u8 0), .lit (.int .u8 0)]]
/-- One of Go's own tables, pinned by name: the form's constant. -/
def laid_unicode_utf8_first : DataW Unit := Go.Pinned.utf8First

/-- 'scholiumlaw06.DoubleHex': WHATEVER THE INPUT: true; the input reads as it did. -/
def doubleHexSpec : ChangeSpec := { name := "doubleHex", fn := fun _ => fun
  | [d1, d2] => { results := [.lit (.bool true)], args := [d1, d2] }
  | _ => none }
def doubleHexRow : OpenClaim := { program := "ytpgcjcggnfagfaadoor", sum := "b5b507fbc2c9c9a684838fa5b093bcfe1d53b82f91b9c3ddbaf69bc05454793e", func := "scholium/scholiumlaw06.DoubleHex", spec := "doubleHex", inPlace := ["internal/abi.NoEscape"], named := ["unicode/utf8.first", "unicode/utf8.acceptRanges"], apart := false, laid := [("unicode/utf8.acceptRanges", laid_unicode_utf8_acceptRanges), ("unicode/utf8.first", laid_unicode_utf8_first)] }
def DoubleHexSaid : Prop := doubleHexRow.holds Tryd.pinned (OpenSpec.ofChange doubleHexSpec)

/-- ITS FALSE NEIGHBOUR: 'it returns false'. Refute it at one input. -/
def doubleHexWrong : ChangeSpec := { name := "doubleHex", fn := fun _ => fun
  | [d1, d2] => { results := [.lit (.bool false)], args := [d1, d2] }
  | _ => none }
def DoubleHexWrongFalsely : Prop := doubleHexRow.holds Tryd.pinned (OpenSpec.ofChange doubleHexWrong)

/-- 'scholiumlaw06.DoubleEscapes': WHATEVER THE INPUT: true; the input reads as it did. -/
def doubleEscapesSpec : ChangeSpec := { name := "doubleEscapes", fn := fun _ => fun
  | [d] => { results := [.lit (.bool true)], args := [d] }
  | _ => none }
def doubleEscapesRow : OpenClaim := { program := "ytpgcjcggnfagfaadoor", sum := "b5b507fbc2c9c9a684838fa5b093bcfe1d53b82f91b9c3ddbaf69bc05454793e", func := "scholium/scholiumlaw06.DoubleEscapes", spec := "doubleEscapes", inPlace := ["internal/bytealg.IndexByteString", "internal/abi.NoEscape"], named := ["unicode/utf8.first", "unicode/utf8.acceptRanges"], apart := false, laid := [("unicode/utf8.acceptRanges", laid_unicode_utf8_acceptRanges), ("unicode/utf8.first", laid_unicode_utf8_first)] }
def DoubleEscapesSaid : Prop := doubleEscapesRow.holds Tryd.pinned (OpenSpec.ofChange doubleEscapesSpec)

/-- ITS FALSE NEIGHBOUR: 'it returns false'. Refute it at one input. -/
def doubleEscapesWrong : ChangeSpec := { name := "doubleEscapes", fn := fun _ => fun
  | [d] => { results := [.lit (.bool false)], args := [d] }
  | _ => none }
def DoubleEscapesWrongFalsely : Prop := doubleEscapesRow.holds Tryd.pinned (OpenSpec.ofChange doubleEscapesWrong)

/-- 'scholiumlaw06.DoubleForms': WHATEVER THE INPUT: true; the input reads as it did. -/
def doubleFormsSpec : ChangeSpec := { name := "doubleForms", fn := fun _ => fun
  | [d] => { results := [.lit (.bool true)], args := [d] }
  | _ => none }
def doubleFormsRow : OpenClaim := { program := "ytpgcjcggnfagfaadoor", sum := "b5b507fbc2c9c9a684838fa5b093bcfe1d53b82f91b9c3ddbaf69bc05454793e", func := "scholium/scholiumlaw06.DoubleForms", spec := "doubleForms", inPlace := ["internal/bytealg.IndexByteString", "internal/abi.NoEscape"], named := ["unicode/utf8.first", "unicode/utf8.acceptRanges"], apart := false, laid := [("unicode/utf8.acceptRanges", laid_unicode_utf8_acceptRanges), ("unicode/utf8.first", laid_unicode_utf8_first)] }
def DoubleFormsSaid : Prop := doubleFormsRow.holds Tryd.pinned (OpenSpec.ofChange doubleFormsSpec)

/-- ITS FALSE NEIGHBOUR: 'it returns false'. Refute it at one input. -/
def doubleFormsWrong : ChangeSpec := { name := "doubleForms", fn := fun _ => fun
  | [d] => { results := [.lit (.bool false)], args := [d] }
  | _ => none }
def DoubleFormsWrongFalsely : Prop := doubleFormsRow.holds Tryd.pinned (OpenSpec.ofChange doubleFormsWrong)

/-- 'scholiumlaw06.DoubleTells': WHATEVER THE INPUT: true; the input reads as it did. -/
def doubleTellsSpec : ChangeSpec := { name := "doubleTells", fn := fun _ => fun
  | [d1, d2, d3, d4] => { results := [.lit (.bool true)], args := [d1, d2, d3, d4] }
  | _ => none }
def doubleTellsRow : OpenClaim := { program := "ytpgcjcggnfagfaadoor", sum := "b5b507fbc2c9c9a684838fa5b093bcfe1d53b82f91b9c3ddbaf69bc05454793e", func := "scholium/scholiumlaw06.DoubleTells", spec := "doubleTells", inPlace := ["internal/bytealg.IndexByteString", "internal/abi.NoEscape"], named := ["unicode/utf8.first", "unicode/utf8.acceptRanges"], apart := false, laid := [("unicode/utf8.acceptRanges", laid_unicode_utf8_acceptRanges), ("unicode/utf8.first", laid_unicode_utf8_first)] }
def DoubleTellsSaid : Prop := doubleTellsRow.holds Tryd.pinned (OpenSpec.ofChange doubleTellsSpec)

/-- ITS FALSE NEIGHBOUR: 'it returns false'. Refute it at one input. -/
def doubleTellsWrong : ChangeSpec := { name := "doubleTells", fn := fun _ => fun
  | [d1, d2, d3, d4] => { results := [.lit (.bool false)], args := [d1, d2, d3, d4] }
  | _ => none }
def DoubleTellsWrongFalsely : Prop := doubleTellsRow.holds Tryd.pinned (OpenSpec.ofChange doubleTellsWrong)

/-- 'scholiumlaw06.DoubleBack': WHATEVER THE INPUT: true; the input reads as it did. -/
def doubleBackSpec : ChangeSpec := { name := "doubleBack", fn := fun _ => fun
  | [d1, d2] => { results := [.lit (.bool true)], args := [d1, d2] }
  | _ => none }
def doubleBackRow : OpenClaim := { program := "ytpgcjcggnfagfaadoor", sum := "b5b507fbc2c9c9a684838fa5b093bcfe1d53b82f91b9c3ddbaf69bc05454793e", func := "scholium/scholiumlaw06.DoubleBack", spec := "doubleBack", inPlace := ["internal/abi.NoEscape", "internal/bytealg.IndexByteString"], named := ["unicode/utf8.first", "unicode/utf8.acceptRanges"], apart := false, laid := [("unicode/utf8.acceptRanges", laid_unicode_utf8_acceptRanges), ("unicode/utf8.first", laid_unicode_utf8_first)] }
def DoubleBackSaid : Prop := doubleBackRow.holds Tryd.pinned (OpenSpec.ofChange doubleBackSpec)

/-- ITS FALSE NEIGHBOUR: 'it returns false'. Refute it at one input. -/
def doubleBackWrong : ChangeSpec := { name := "doubleBack", fn := fun _ => fun
  | [d1, d2] => { results := [.lit (.bool false)], args := [d1, d2] }
  | _ => none }
def DoubleBackWrongFalsely : Prop := doubleBackRow.holds Tryd.pinned (OpenSpec.ofChange doubleBackWrong)

/-- 'scholiumlaw06.DoubleRunes': WHATEVER THE INPUT: true; the input reads as it did. -/
def doubleRunesSpec : ChangeSpec := { name := "doubleRunes", fn := fun _ => fun
  | [d1, d2] => { results := [.lit (.bool true)], args := [d1, d2] }
  | _ => none }
def doubleRunesRow : OpenClaim := { program := "ytpgcjcggnfagfaadoor", sum := "b5b507fbc2c9c9a684838fa5b093bcfe1d53b82f91b9c3ddbaf69bc05454793e", func := "scholium/scholiumlaw06.DoubleRunes", spec := "doubleRunes", inPlace := ["internal/bytealg.IndexByteString", "internal/abi.NoEscape"], named := ["unicode/utf8.first", "unicode/utf8.acceptRanges"], apart := false, laid := [("unicode/utf8.acceptRanges", laid_unicode_utf8_acceptRanges), ("unicode/utf8.first", laid_unicode_utf8_first)] }
def DoubleRunesSaid : Prop := doubleRunesRow.holds Tryd.pinned (OpenSpec.ofChange doubleRunesSpec)

/-- ITS FALSE NEIGHBOUR: 'it returns false'. Refute it at one input. -/
def doubleRunesWrong : ChangeSpec := { name := "doubleRunes", fn := fun _ => fun
  | [d1, d2] => { results := [.lit (.bool false)], args := [d1, d2] }
  | _ => none }
def DoubleRunesWrongFalsely : Prop := doubleRunesRow.holds Tryd.pinned (OpenSpec.ofChange doubleRunesWrong)

/-- 'scholiumlaw06.DoubleApart': WHATEVER THE INPUT: true; the input reads as it did. -/
def doubleApartSpec : ChangeSpec := { name := "doubleApart", fn := fun _ => fun
  | [d1, d2] => { results := [.lit (.bool true)], args := [d1, d2] }
  | _ => none }
def doubleApartRow : OpenClaim := { program := "ytpgcjcggnfagfaadoor", sum := "b5b507fbc2c9c9a684838fa5b093bcfe1d53b82f91b9c3ddbaf69bc05454793e", func := "scholium/scholiumlaw06.DoubleApart", spec := "doubleApart", inPlace := ["internal/abi.NoEscape", "internal/bytealg.IndexByteString"], named := ["unicode/utf8.first", "unicode/utf8.acceptRanges"], apart := false, laid := [("unicode/utf8.acceptRanges", laid_unicode_utf8_acceptRanges), ("unicode/utf8.first", laid_unicode_utf8_first)] }
def DoubleApartSaid : Prop := doubleApartRow.holds Tryd.pinned (OpenSpec.ofChange doubleApartSpec)

/-- ITS FALSE NEIGHBOUR: 'it returns false'. Refute it at one input. -/
def doubleApartWrong : ChangeSpec := { name := "doubleApart", fn := fun _ => fun
  | [d1, d2] => { results := [.lit (.bool false)], args := [d1, d2] }
  | _ => none }
def DoubleApartWrongFalsely : Prop := doubleApartRow.holds Tryd.pinned (OpenSpec.ofChange doubleApartWrong)

/-- 'scholiumlaw05.SingleQuotes': WHATEVER THE INPUT: true; the input reads as it did. -/
def singleQuotesSpec : ChangeSpec := { name := "singleQuotes", fn := fun _ => fun
  | [d1, d2] => { results := [.lit (.bool true)], args := [d1, d2] }
  | _ => none }
def singleQuotesRow : OpenClaim := { program := "ytpgcjcggnfagfaadoor", sum := "b5b507fbc2c9c9a684838fa5b093bcfe1d53b82f91b9c3ddbaf69bc05454793e", func := "scholium/scholiumlaw05.SingleQuotes", spec := "singleQuotes", inPlace := ["internal/bytealg.CountString", "internal/bytealg.IndexByteString", "internal/bytealg.IndexString", "internal/abi.NoEscape", "internal/bytealg.MakeNoZero"], named := ["unicode/utf8.first", "unicode/utf8.acceptRanges", "internal/bytealg.MaxLen"], apart := false, laid := [("unicode/utf8.acceptRanges", laid_unicode_utf8_acceptRanges), ("unicode/utf8.first", laid_unicode_utf8_first)] }
def SingleQuotesSaid : Prop := singleQuotesRow.holds Tryd.pinned (OpenSpec.ofChange singleQuotesSpec)

/-- ITS FALSE NEIGHBOUR: 'it returns false'. Refute it at one input. -/
def singleQuotesWrong : ChangeSpec := { name := "singleQuotes", fn := fun _ => fun
  | [d1, d2] => { results := [.lit (.bool false)], args := [d1, d2] }
  | _ => none }
def SingleQuotesWrongFalsely : Prop := singleQuotesRow.holds Tryd.pinned (OpenSpec.ofChange singleQuotesWrong)

/-- 'scholiumlaw05.SingleForms': WHATEVER THE INPUT: true; the input reads as it did. -/
def singleFormsSpec : ChangeSpec := { name := "singleForms", fn := fun _ => fun
  | [d] => { results := [.lit (.bool true)], args := [d] }
  | _ => none }
def singleFormsRow : OpenClaim := { program := "ytpgcjcggnfagfaadoor", sum := "b5b507fbc2c9c9a684838fa5b093bcfe1d53b82f91b9c3ddbaf69bc05454793e", func := "scholium/scholiumlaw05.SingleForms", spec := "singleForms", inPlace := ["internal/bytealg.CountString", "internal/bytealg.IndexByteString", "internal/bytealg.IndexString", "internal/abi.NoEscape", "internal/bytealg.MakeNoZero"], named := ["unicode/utf8.first", "unicode/utf8.acceptRanges", "internal/bytealg.MaxLen"], apart := false, laid := [("unicode/utf8.acceptRanges", laid_unicode_utf8_acceptRanges), ("unicode/utf8.first", laid_unicode_utf8_first)] }
def SingleFormsSaid : Prop := singleFormsRow.holds Tryd.pinned (OpenSpec.ofChange singleFormsSpec)

/-- ITS FALSE NEIGHBOUR: 'it returns false'. Refute it at one input. -/
def singleFormsWrong : ChangeSpec := { name := "singleForms", fn := fun _ => fun
  | [d] => { results := [.lit (.bool false)], args := [d] }
  | _ => none }
def SingleFormsWrongFalsely : Prop := singleFormsRow.holds Tryd.pinned (OpenSpec.ofChange singleFormsWrong)

/-- 'scholiumlaw05.SingleTells': WHATEVER THE INPUT: true; the input reads as it did. -/
def singleTellsSpec : ChangeSpec := { name := "singleTells", fn := fun _ => fun
  | [d1, d2] => { results := [.lit (.bool true)], args := [d1, d2] }
  | _ => none }
def singleTellsRow : OpenClaim := { program := "ytpgcjcggnfagfaadoor", sum := "b5b507fbc2c9c9a684838fa5b093bcfe1d53b82f91b9c3ddbaf69bc05454793e", func := "scholium/scholiumlaw05.SingleTells", spec := "singleTells", inPlace := ["internal/bytealg.CountString", "internal/bytealg.IndexByteString", "internal/bytealg.IndexString", "internal/abi.NoEscape", "internal/bytealg.MakeNoZero"], named := ["unicode/utf8.first", "unicode/utf8.acceptRanges", "internal/bytealg.MaxLen"], apart := false, laid := [("unicode/utf8.acceptRanges", laid_unicode_utf8_acceptRanges), ("unicode/utf8.first", laid_unicode_utf8_first)] }
def SingleTellsSaid : Prop := singleTellsRow.holds Tryd.pinned (OpenSpec.ofChange singleTellsSpec)

/-- ITS FALSE NEIGHBOUR: 'it returns false'. Refute it at one input. -/
def singleTellsWrong : ChangeSpec := { name := "singleTells", fn := fun _ => fun
  | [d1, d2] => { results := [.lit (.bool false)], args := [d1, d2] }
  | _ => none }
def SingleTellsWrongFalsely : Prop := singleTellsRow.holds Tryd.pinned (OpenSpec.ofChange singleTellsWrong)

/-- 'scholiumlaw05.SingleBack': WHATEVER THE INPUT: true; the input reads as it did. -/
def singleBackSpec : ChangeSpec := { name := "singleBack", fn := fun _ => fun
  | [d1, d2] => { results := [.lit (.bool true)], args := [d1, d2] }
  | _ => none }
def singleBackRow : OpenClaim := { program := "ytpgcjcggnfagfaadoor", sum := "b5b507fbc2c9c9a684838fa5b093bcfe1d53b82f91b9c3ddbaf69bc05454793e", func := "scholium/scholiumlaw05.SingleBack", spec := "singleBack", inPlace := ["internal/bytealg.CountString", "internal/bytealg.IndexByteString", "internal/bytealg.IndexString", "internal/abi.NoEscape", "internal/bytealg.MakeNoZero"], named := ["unicode/utf8.first", "unicode/utf8.acceptRanges", "internal/bytealg.MaxLen"], apart := false, laid := [("unicode/utf8.acceptRanges", laid_unicode_utf8_acceptRanges), ("unicode/utf8.first", laid_unicode_utf8_first)] }
def SingleBackSaid : Prop := singleBackRow.holds Tryd.pinned (OpenSpec.ofChange singleBackSpec)

/-- ITS FALSE NEIGHBOUR: 'it returns false'. Refute it at one input. -/
def singleBackWrong : ChangeSpec := { name := "singleBack", fn := fun _ => fun
  | [d1, d2] => { results := [.lit (.bool false)], args := [d1, d2] }
  | _ => none }
def SingleBackWrongFalsely : Prop := singleBackRow.holds Tryd.pinned (OpenSpec.ofChange singleBackWrong)

/-- 'scholiumlaw05.SingleApart': WHATEVER THE INPUT: true; the input reads as it did. -/
def singleApartSpec : ChangeSpec := { name := "singleApart", fn := fun _ => fun
  | [d1, d2] => { results := [.lit (.bool true)], args := [d1, d2] }
  | _ => none }
def singleApartRow : OpenClaim := { program := "ytpgcjcggnfagfaadoor", sum := "b5b507fbc2c9c9a684838fa5b093bcfe1d53b82f91b9c3ddbaf69bc05454793e", func := "scholium/scholiumlaw05.SingleApart", spec := "singleApart", inPlace := ["internal/bytealg.CountString", "internal/bytealg.IndexByteString", "internal/bytealg.IndexString", "internal/abi.NoEscape", "internal/bytealg.MakeNoZero"], named := ["unicode/utf8.first", "unicode/utf8.acceptRanges", "internal/bytealg.MaxLen"], apart := false, laid := [("unicode/utf8.acceptRanges", laid_unicode_utf8_acceptRanges), ("unicode/utf8.first", laid_unicode_utf8_first)] }
def SingleApartSaid : Prop := singleApartRow.holds Tryd.pinned (OpenSpec.ofChange singleApartSpec)

/-- ITS FALSE NEIGHBOUR: 'it returns false'. Refute it at one input. -/
def singleApartWrong : ChangeSpec := { name := "singleApart", fn := fun _ => fun
  | [d1, d2] => { results := [.lit (.bool false)], args := [d1, d2] }
  | _ => none }
def SingleApartWrongFalsely : Prop := singleApartRow.holds Tryd.pinned (OpenSpec.ofChange singleApartWrong)

/- THE SECOND FORM. 'bulk': how many values and letters a reading holds, each counted each time it is reached (what is shared counts as often as it is met; a slice's spare places count too). A statement '..UptoSaid' is the law's where the arguments, and the package variables that the reading takes, are together of bulk at most 1048576: NARROWER than '..Said'. Prove '..Said' where nothing that the law and all that it calls make is longer than what came in: it says more and counts as full. Else prove '..UptoSaid'. A law counts once. -/
mutual
def uptoBulk {H : Type} : DataW H → Nat
  | .lit (.string bytes) => bytes.length + 1
  | .lit _ => 1
  | .nil => 1
  | .ptr d => uptoBulk d + 1
  | .slice elems spare => uptoBulkAll elems + uptoBulkAll spare + 1
  | .agg parts => uptoBulkAll parts + 1
  | .iface _ d => uptoBulk d + 1
  | .map entries => uptoBulkEntries entries + 1
  | .held _ => 1
def uptoBulkAll {H : Type} : List (DataW H) → Nat
  | [] => 0
  | d :: r => uptoBulk d + uptoBulkAll r
def uptoBulkEntries {H : Type} : List (Lit × DataW H) → Nat
  | [] => 0
  | x :: r => uptoBulkEntry x + uptoBulkEntries r
def uptoBulkEntry {H : Type} : Lit × DataW H → Nat
  | (.string bytes, d) => bytes.length + uptoBulk d + 1
  | (_, d) => uptoBulk d + 1
 end
def uptoSmall : (H : Type) → List (DataW H) → Bool := fun _ ds => decide (uptoBulkAll ds ≤ 1048576)
def OpenSpec.upto (s : _root_.Go.ChangeSpec) : _root_.Go.OpenSpec := { _root_.Go.OpenSpec.ofChange s with cond := some uptoSmall }

/-- 'scholiumlaw06.DoubleHex', WHERE WHAT IT READS IS OF BULK AT MOST 1048576: true; the input reads as it did. -/
def doubleHexUptoRow : OpenClaim := { program := "ytpgcjcggnfagfaadoor", sum := "b5b507fbc2c9c9a684838fa5b093bcfe1d53b82f91b9c3ddbaf69bc05454793e", func := "scholium/scholiumlaw06.DoubleHex", spec := "doubleHex", inPlace := ["internal/abi.NoEscape"], named := ["unicode/utf8.first", "unicode/utf8.acceptRanges"], apart := false, laid := [("unicode/utf8.acceptRanges", laid_unicode_utf8_acceptRanges), ("unicode/utf8.first", laid_unicode_utf8_first)], narrowed := true }
def DoubleHexUptoSaid : Prop := doubleHexUptoRow.holds Tryd.pinned (OpenSpec.upto doubleHexSpec)

/-- 'scholiumlaw06.DoubleEscapes', WHERE WHAT IT READS IS OF BULK AT MOST 1048576: true; the input reads as it did. -/
def doubleEscapesUptoRow : OpenClaim := { program := "ytpgcjcggnfagfaadoor", sum := "b5b507fbc2c9c9a684838fa5b093bcfe1d53b82f91b9c3ddbaf69bc05454793e", func := "scholium/scholiumlaw06.DoubleEscapes", spec := "doubleEscapes", inPlace := ["internal/bytealg.IndexByteString", "internal/abi.NoEscape"], named := ["unicode/utf8.first", "unicode/utf8.acceptRanges"], apart := false, laid := [("unicode/utf8.acceptRanges", laid_unicode_utf8_acceptRanges), ("unicode/utf8.first", laid_unicode_utf8_first)], narrowed := true }
def DoubleEscapesUptoSaid : Prop := doubleEscapesUptoRow.holds Tryd.pinned (OpenSpec.upto doubleEscapesSpec)

/-- 'scholiumlaw06.DoubleForms', WHERE WHAT IT READS IS OF BULK AT MOST 1048576: true; the input reads as it did. -/
def doubleFormsUptoRow : OpenClaim := { program := "ytpgcjcggnfagfaadoor", sum := "b5b507fbc2c9c9a684838fa5b093bcfe1d53b82f91b9c3ddbaf69bc05454793e", func := "scholium/scholiumlaw06.DoubleForms", spec := "doubleForms", inPlace := ["internal/bytealg.IndexByteString", "internal/abi.NoEscape"], named := ["unicode/utf8.first", "unicode/utf8.acceptRanges"], apart := false, laid := [("unicode/utf8.acceptRanges", laid_unicode_utf8_acceptRanges), ("unicode/utf8.first", laid_unicode_utf8_first)], narrowed := true }
def DoubleFormsUptoSaid : Prop := doubleFormsUptoRow.holds Tryd.pinned (OpenSpec.upto doubleFormsSpec)

/-- 'scholiumlaw06.DoubleTells', WHERE WHAT IT READS IS OF BULK AT MOST 1048576: true; the input reads as it did. -/
def doubleTellsUptoRow : OpenClaim := { program := "ytpgcjcggnfagfaadoor", sum := "b5b507fbc2c9c9a684838fa5b093bcfe1d53b82f91b9c3ddbaf69bc05454793e", func := "scholium/scholiumlaw06.DoubleTells", spec := "doubleTells", inPlace := ["internal/bytealg.IndexByteString", "internal/abi.NoEscape"], named := ["unicode/utf8.first", "unicode/utf8.acceptRanges"], apart := false, laid := [("unicode/utf8.acceptRanges", laid_unicode_utf8_acceptRanges), ("unicode/utf8.first", laid_unicode_utf8_first)], narrowed := true }
def DoubleTellsUptoSaid : Prop := doubleTellsUptoRow.holds Tryd.pinned (OpenSpec.upto doubleTellsSpec)

/-- 'scholiumlaw06.DoubleBack', WHERE WHAT IT READS IS OF BULK AT MOST 1048576: true; the input reads as it did. -/
def doubleBackUptoRow : OpenClaim := { program := "ytpgcjcggnfagfaadoor", sum := "b5b507fbc2c9c9a684838fa5b093bcfe1d53b82f91b9c3ddbaf69bc05454793e", func := "scholium/scholiumlaw06.DoubleBack", spec := "doubleBack", inPlace := ["internal/abi.NoEscape", "internal/bytealg.IndexByteString"], named := ["unicode/utf8.first", "unicode/utf8.acceptRanges"], apart := false, laid := [("unicode/utf8.acceptRanges", laid_unicode_utf8_acceptRanges), ("unicode/utf8.first", laid_unicode_utf8_first)], narrowed := true }
def DoubleBackUptoSaid : Prop := doubleBackUptoRow.holds Tryd.pinned (OpenSpec.upto doubleBackSpec)

/-- 'scholiumlaw06.DoubleRunes', WHERE WHAT IT READS IS OF BULK AT MOST 1048576: true; the input reads as it did. -/
def doubleRunesUptoRow : OpenClaim := { program := "ytpgcjcggnfagfaadoor", sum := "b5b507fbc2c9c9a684838fa5b093bcfe1d53b82f91b9c3ddbaf69bc05454793e", func := "scholium/scholiumlaw06.DoubleRunes", spec := "doubleRunes", inPlace := ["internal/bytealg.IndexByteString", "internal/abi.NoEscape"], named := ["unicode/utf8.first", "unicode/utf8.acceptRanges"], apart := false, laid := [("unicode/utf8.acceptRanges", laid_unicode_utf8_acceptRanges), ("unicode/utf8.first", laid_unicode_utf8_first)], narrowed := true }
def DoubleRunesUptoSaid : Prop := doubleRunesUptoRow.holds Tryd.pinned (OpenSpec.upto doubleRunesSpec)

/-- 'scholiumlaw06.DoubleApart', WHERE WHAT IT READS IS OF BULK AT MOST 1048576: true; the input reads as it did. -/
def doubleApartUptoRow : OpenClaim := { program := "ytpgcjcggnfagfaadoor", sum := "b5b507fbc2c9c9a684838fa5b093bcfe1d53b82f91b9c3ddbaf69bc05454793e", func := "scholium/scholiumlaw06.DoubleApart", spec := "doubleApart", inPlace := ["internal/abi.NoEscape", "internal/bytealg.IndexByteString"], named := ["unicode/utf8.first", "unicode/utf8.acceptRanges"], apart := false, laid := [("unicode/utf8.acceptRanges", laid_unicode_utf8_acceptRanges), ("unicode/utf8.first", laid_unicode_utf8_first)], narrowed := true }
def DoubleApartUptoSaid : Prop := doubleApartUptoRow.holds Tryd.pinned (OpenSpec.upto doubleApartSpec)

/-- 'scholiumlaw05.SingleQuotes', WHERE WHAT IT READS IS OF BULK AT MOST 1048576: true; the input reads as it did. -/
def singleQuotesUptoRow : OpenClaim := { program := "ytpgcjcggnfagfaadoor", sum := "b5b507fbc2c9c9a684838fa5b093bcfe1d53b82f91b9c3ddbaf69bc05454793e", func := "scholium/scholiumlaw05.SingleQuotes", spec := "singleQuotes", inPlace := ["internal/bytealg.CountString", "internal/bytealg.IndexByteString", "internal/bytealg.IndexString", "internal/abi.NoEscape", "internal/bytealg.MakeNoZero"], named := ["unicode/utf8.first", "unicode/utf8.acceptRanges", "internal/bytealg.MaxLen"], apart := false, laid := [("unicode/utf8.acceptRanges", laid_unicode_utf8_acceptRanges), ("unicode/utf8.first", laid_unicode_utf8_first)], narrowed := true }
def SingleQuotesUptoSaid : Prop := singleQuotesUptoRow.holds Tryd.pinned (OpenSpec.upto singleQuotesSpec)

/-- 'scholiumlaw05.SingleForms', WHERE WHAT IT READS IS OF BULK AT MOST 1048576: true; the input reads as it did. -/
def singleFormsUptoRow : OpenClaim := { program := "ytpgcjcggnfagfaadoor", sum := "b5b507fbc2c9c9a684838fa5b093bcfe1d53b82f91b9c3ddbaf69bc05454793e", func := "scholium/scholiumlaw05.SingleForms", spec := "singleForms", inPlace := ["internal/bytealg.CountString", "internal/bytealg.IndexByteString", "internal/bytealg.IndexString", "internal/abi.NoEscape", "internal/bytealg.MakeNoZero"], named := ["unicode/utf8.first", "unicode/utf8.acceptRanges", "internal/bytealg.MaxLen"], apart := false, laid := [("unicode/utf8.acceptRanges", laid_unicode_utf8_acceptRanges), ("unicode/utf8.first", laid_unicode_utf8_first)], narrowed := true }
def SingleFormsUptoSaid : Prop := singleFormsUptoRow.holds Tryd.pinned (OpenSpec.upto singleFormsSpec)

/-- 'scholiumlaw05.SingleTells', WHERE WHAT IT READS IS OF BULK AT MOST 1048576: true; the input reads as it did. -/
def singleTellsUptoRow : OpenClaim := { program := "ytpgcjcggnfagfaadoor", sum := "b5b507fbc2c9c9a684838fa5b093bcfe1d53b82f91b9c3ddbaf69bc05454793e", func := "scholium/scholiumlaw05.SingleTells", spec := "singleTells", inPlace := ["internal/bytealg.CountString", "internal/bytealg.IndexByteString", "internal/bytealg.IndexString", "internal/abi.NoEscape", "internal/bytealg.MakeNoZero"], named := ["unicode/utf8.first", "unicode/utf8.acceptRanges", "internal/bytealg.MaxLen"], apart := false, laid := [("unicode/utf8.acceptRanges", laid_unicode_utf8_acceptRanges), ("unicode/utf8.first", laid_unicode_utf8_first)], narrowed := true }
def SingleTellsUptoSaid : Prop := singleTellsUptoRow.holds Tryd.pinned (OpenSpec.upto singleTellsSpec)

/-- 'scholiumlaw05.SingleBack', WHERE WHAT IT READS IS OF BULK AT MOST 1048576: true; the input reads as it did. -/
def singleBackUptoRow : OpenClaim := { program := "ytpgcjcggnfagfaadoor", sum := "b5b507fbc2c9c9a684838fa5b093bcfe1d53b82f91b9c3ddbaf69bc05454793e", func := "scholium/scholiumlaw05.SingleBack", spec := "singleBack", inPlace := ["internal/bytealg.CountString", "internal/bytealg.IndexByteString", "internal/bytealg.IndexString", "internal/abi.NoEscape", "internal/bytealg.MakeNoZero"], named := ["unicode/utf8.first", "unicode/utf8.acceptRanges", "internal/bytealg.MaxLen"], apart := false, laid := [("unicode/utf8.acceptRanges", laid_unicode_utf8_acceptRanges), ("unicode/utf8.first", laid_unicode_utf8_first)], narrowed := true }
def SingleBackUptoSaid : Prop := singleBackUptoRow.holds Tryd.pinned (OpenSpec.upto singleBackSpec)

/-- 'scholiumlaw05.SingleApart', WHERE WHAT IT READS IS OF BULK AT MOST 1048576: true; the input reads as it did. -/
def singleApartUptoRow : OpenClaim := { program := "ytpgcjcggnfagfaadoor", sum := "b5b507fbc2c9c9a684838fa5b093bcfe1d53b82f91b9c3ddbaf69bc05454793e", func := "scholium/scholiumlaw05.SingleApart", spec := "singleApart", inPlace := ["internal/bytealg.CountString", "internal/bytealg.IndexByteString", "internal/bytealg.IndexString", "internal/abi.NoEscape", "internal/bytealg.MakeNoZero"], named := ["unicode/utf8.first", "unicode/utf8.acceptRanges", "internal/bytealg.MaxLen"], apart := false, laid := [("unicode/utf8.acceptRanges", laid_unicode_utf8_acceptRanges), ("unicode/utf8.first", laid_unicode_utf8_first)], narrowed := true }
def SingleApartUptoSaid : Prop := singleApartUptoRow.holds Tryd.pinned (OpenSpec.upto singleApartSpec)

end Rows
end Go.Proofs.YtpgcjcggnfagfaaDoor
