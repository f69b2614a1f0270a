/-
  NARROWER THAN 'FOR EVERY INPUT', by the rows' own cells (each row's printed sentence says how): PropsForms: laid · PropsLong: laid · PropsAliases: laid · IsoForms: laid · IsoSame: laid · IsoTurns: laid · IsoApart: laid · IsoTells: laid · IsoShares: laid · PropsBack: laid · PropsTell: laid.
  DERIVED. THE GIVEN ROWS OF THIS SEAT. 11 by the template 'for every input the law returns true; each argument reads behind the call as it read before'; 0 by the template 'total and deterministic' (their statements: YtmpjohnbddnehaaDoorTotals.lean).
  GIVEN WITH THE SEED: the statements are not yours to turn. If you find one false, say at which input.
  Laid BY PROGRAM, IN A SANDBOX (cutbox-rows.mjs): the forced cells as the released guide's own fill.sh prints them over the translation c23389d365fd48ba… (all of the seat's roots in one cut). By AI agents, Wed Nov 11 2026. No macro, syntax, notation, axiom, sorry.
-/
import Derived.Test.YtmpjohnbddnehaaDoorChecked
import GoSem.PinnedTables
import GoSem.Claim
import GoSem.ClaimJoined
import GoSem.ClaimMapViews
import Derived.JoinedTies
import Derived.KernelRfl
namespace Go.Proofs.YtmpjohnbddnehaaDoor
/- THE CELL 'sum', in the pinned program and in every row, IS THE sha256 OF THE DUMP (.gsa) THAT YtmpjohnbddnehaaDoorProg.lean LOADS. Nothing in Lean hashes anything: it is a label: what it is worth is what the hold of that sum in a sandbox is worth. -/
noncomputable def Tryd.pinned : Pinned := { name := "ytmpjohnbddnehaadoor", sum := "c23389d365fd48ba94c5ba0d367e3901a337b94717d7f8150c52b79781b15f05", checked := Tryd.checked }
namespace Rows
def none {H : Type} : Left H := { results := [], args := [] }

/- WHAT THE LISTED PACKAGE-LEVEL VARIABLES READ AS WHEN THE CALL BEGINS. Each datum BY PROGRAM (the guide's laid-datum.mjs) off the statement by which the dump's own 'gosem.cut.vars' lays the variable. In a bare row this is a premise. The card (YtmpjohnbddnehaaDoorCards.lean) ties it to the program's text. -/
def laid_unicode_utf8_acceptRanges {H : Type} : DataW H := .agg [.agg [.lit (.int .u8 128), .lit (.int .u8 191)], .agg [.lit (.int .u8 160), .lit (.int .u8 191)], .agg [.lit (.int .u8 128), .lit (.int .u8 159)], .agg [.lit (.int .u8 144), .lit (.int .u8 191)], .agg [.lit (.int .u8 128), .lit (.int .u8 143)], .agg [.lit (.int .u8 0), .lit (.int .u8 0)], .agg [.lit (.int .u8 0), .lit (.int .u8 0)], .agg [.lit (.int .u8 0), .lit (.int .u8 0)], .agg [.lit (.int .u8 0), .lit (.int .u8 0)], .agg [.lit (.int .u8 0), .lit (.int .u8 0)], .agg [.lit (.int .u8 0), .lit (.int .u8 0)], .agg [.lit (.int .u8 0), .lit (.int .u8 0)], .agg [.lit (.int .u8 0), .lit (.int .u8 0)], .agg [.lit (.int .u8 0), .lit (.int .u8 0)], .agg [.lit (.int .u8 0), .lit (.int .u8 0)], .agg [.lit (.int .u8 0), .lit (.int .u8 0)]]
/-- One of Go's own tables, pinned by name: the form's constant. -/
def laid_unicode_utf8_first : DataW Unit := Go.Pinned.utf8First

/-- 'scholiumlaw10.PropsForms': WHATEVER THE INPUT: true; the input reads as it did. -/
def propsFormsSpec : ChangeSpec := { name := "propsForms", fn := fun _ => fun
  | [d] => { results := [.lit (.bool true)], args := [d] }
  | _ => none }
def propsFormsRow : OpenClaim := { program := "ytmpjohnbddnehaadoor", sum := "c23389d365fd48ba94c5ba0d367e3901a337b94717d7f8150c52b79781b15f05", func := "scholium/scholiumlaw10.PropsForms", spec := "propsForms", inPlace := ["internal/bytealg.IndexByte"], named := ["unicode/utf8.first", "unicode/utf8.acceptRanges"], plainKeys := false, apart := false, laid := [("unicode/utf8.acceptRanges", laid_unicode_utf8_acceptRanges), ("unicode/utf8.first", laid_unicode_utf8_first)] }
def PropsFormsSaid : Prop := propsFormsRow.holds Tryd.pinned (OpenSpec.ofChange propsFormsSpec)

/-- ITS FALSE NEIGHBOUR: 'it returns false'. Refute it at one input. -/
def propsFormsWrong : ChangeSpec := { name := "propsForms", fn := fun _ => fun
  | [d] => { results := [.lit (.bool false)], args := [d] }
  | _ => none }
def PropsFormsWrongFalsely : Prop := propsFormsRow.holds Tryd.pinned (OpenSpec.ofChange propsFormsWrong)

/-- 'scholiumlaw10.PropsLong': WHATEVER THE INPUT: true; the input reads as it did. -/
def propsLongSpec : ChangeSpec := { name := "propsLong", fn := fun _ => fun
  | [d1, d2, d3] => { results := [.lit (.bool true)], args := [d1, d2, d3] }
  | _ => none }
def propsLongRow : OpenClaim := { program := "ytmpjohnbddnehaadoor", sum := "c23389d365fd48ba94c5ba0d367e3901a337b94717d7f8150c52b79781b15f05", func := "scholium/scholiumlaw10.PropsLong", spec := "propsLong", inPlace := ["internal/bytealg.IndexByte"], named := ["unicode/utf8.first", "unicode/utf8.acceptRanges"], plainKeys := false, apart := false, laid := [("unicode/utf8.acceptRanges", laid_unicode_utf8_acceptRanges), ("unicode/utf8.first", laid_unicode_utf8_first)] }
def PropsLongSaid : Prop := propsLongRow.holds Tryd.pinned (OpenSpec.ofChange propsLongSpec)

/-- ITS FALSE NEIGHBOUR: 'it returns false'. Refute it at one input. -/
def propsLongWrong : ChangeSpec := { name := "propsLong", fn := fun _ => fun
  | [d1, d2, d3] => { results := [.lit (.bool false)], args := [d1, d2, d3] }
  | _ => none }
def PropsLongWrongFalsely : Prop := propsLongRow.holds Tryd.pinned (OpenSpec.ofChange propsLongWrong)

/-- 'scholiumlaw10.PropsAliases': WHATEVER THE INPUT: true; the input reads as it did. -/
def propsAliasesSpec : ChangeSpec := { name := "propsAliases", fn := fun _ => fun
  | [d1, d2] => { results := [.lit (.bool true)], args := [d1, d2] }
  | _ => none }
def propsAliasesRow : OpenClaim := { program := "ytmpjohnbddnehaadoor", sum := "c23389d365fd48ba94c5ba0d367e3901a337b94717d7f8150c52b79781b15f05", func := "scholium/scholiumlaw10.PropsAliases", spec := "propsAliases", inPlace := ["internal/bytealg.IndexByte"], named := ["unicode/utf8.first", "unicode/utf8.acceptRanges"], plainKeys := false, apart := false, laid := [("unicode/utf8.acceptRanges", laid_unicode_utf8_acceptRanges), ("unicode/utf8.first", laid_unicode_utf8_first)] }
def PropsAliasesSaid : Prop := propsAliasesRow.holds Tryd.pinned (OpenSpec.ofChange propsAliasesSpec)

/-- ITS FALSE NEIGHBOUR: 'it returns false'. Refute it at one input. -/
def propsAliasesWrong : ChangeSpec := { name := "propsAliases", fn := fun _ => fun
  | [d1, d2] => { results := [.lit (.bool false)], args := [d1, d2] }
  | _ => none }
def PropsAliasesWrongFalsely : Prop := propsAliasesRow.holds Tryd.pinned (OpenSpec.ofChange propsAliasesWrong)

/-- 'scholiumlaw18.IsoForms': WHATEVER THE INPUT: true; the input reads as it did. -/
def isoFormsSpec : ChangeSpec := { name := "isoForms", fn := fun _ => fun
  | [d] => { results := [.lit (.bool true)], args := [d] }
  | _ => none }
def isoFormsRow : OpenClaim := { program := "ytmpjohnbddnehaadoor", sum := "c23389d365fd48ba94c5ba0d367e3901a337b94717d7f8150c52b79781b15f05", func := "scholium/scholiumlaw18.IsoForms", spec := "isoForms", unfollowed := true, recurses := true, named := ["unicode/utf8.first", "unicode/utf8.acceptRanges"], plainKeys := false, apart := false, laid := [("unicode/utf8.acceptRanges", laid_unicode_utf8_acceptRanges), ("unicode/utf8.first", laid_unicode_utf8_first)] }
def IsoFormsSaid : Prop := isoFormsRow.holds Tryd.pinned (OpenSpec.ofChange isoFormsSpec)

/-- ITS FALSE NEIGHBOUR: 'it returns false'. Refute it at one input. -/
def isoFormsWrong : ChangeSpec := { name := "isoForms", fn := fun _ => fun
  | [d] => { results := [.lit (.bool false)], args := [d] }
  | _ => none }
def IsoFormsWrongFalsely : Prop := isoFormsRow.holds Tryd.pinned (OpenSpec.ofChange isoFormsWrong)

/-- 'scholiumlaw18.IsoSame': WHATEVER THE INPUT: true; the input reads as it did. -/
def isoSameSpec : ChangeSpec := { name := "isoSame", fn := fun _ => fun
  | [d1, d2, d3] => { results := [.lit (.bool true)], args := [d1, d2, d3] }
  | _ => none }
def isoSameRow : OpenClaim := { program := "ytmpjohnbddnehaadoor", sum := "c23389d365fd48ba94c5ba0d367e3901a337b94717d7f8150c52b79781b15f05", func := "scholium/scholiumlaw18.IsoSame", spec := "isoSame", unfollowed := true, recurses := true, named := ["unicode/utf8.first", "unicode/utf8.acceptRanges"], plainKeys := false, apart := false, laid := [("unicode/utf8.acceptRanges", laid_unicode_utf8_acceptRanges), ("unicode/utf8.first", laid_unicode_utf8_first)] }
def IsoSameSaid : Prop := isoSameRow.holds Tryd.pinned (OpenSpec.ofChange isoSameSpec)

/-- ITS FALSE NEIGHBOUR: 'it returns false'. Refute it at one input. -/
def isoSameWrong : ChangeSpec := { name := "isoSame", fn := fun _ => fun
  | [d1, d2, d3] => { results := [.lit (.bool false)], args := [d1, d2, d3] }
  | _ => none }
def IsoSameWrongFalsely : Prop := isoSameRow.holds Tryd.pinned (OpenSpec.ofChange isoSameWrong)

/-- 'scholiumlaw18.IsoTurns': WHATEVER THE INPUT: true; the input reads as it did. -/
def isoTurnsSpec : ChangeSpec := { name := "isoTurns", fn := fun _ => fun
  | [d1, d2] => { results := [.lit (.bool true)], args := [d1, d2] }
  | _ => none }
def isoTurnsRow : OpenClaim := { program := "ytmpjohnbddnehaadoor", sum := "c23389d365fd48ba94c5ba0d367e3901a337b94717d7f8150c52b79781b15f05", func := "scholium/scholiumlaw18.IsoTurns", spec := "isoTurns", unfollowed := true, recurses := true, named := ["unicode/utf8.first", "unicode/utf8.acceptRanges"], plainKeys := false, apart := false, laid := [("unicode/utf8.acceptRanges", laid_unicode_utf8_acceptRanges), ("unicode/utf8.first", laid_unicode_utf8_first)] }
def IsoTurnsSaid : Prop := isoTurnsRow.holds Tryd.pinned (OpenSpec.ofChange isoTurnsSpec)

/-- ITS FALSE NEIGHBOUR: 'it returns false'. Refute it at one input. -/
def isoTurnsWrong : ChangeSpec := { name := "isoTurns", fn := fun _ => fun
  | [d1, d2] => { results := [.lit (.bool false)], args := [d1, d2] }
  | _ => none }
def IsoTurnsWrongFalsely : Prop := isoTurnsRow.holds Tryd.pinned (OpenSpec.ofChange isoTurnsWrong)

/-- 'scholiumlaw18.IsoApart': WHATEVER THE INPUT: true; the input reads as it did. -/
def isoApartSpec : ChangeSpec := { name := "isoApart", fn := fun _ => fun
  | [d1, d2] => { results := [.lit (.bool true)], args := [d1, d2] }
  | _ => none }
def isoApartRow : OpenClaim := { program := "ytmpjohnbddnehaadoor", sum := "c23389d365fd48ba94c5ba0d367e3901a337b94717d7f8150c52b79781b15f05", func := "scholium/scholiumlaw18.IsoApart", spec := "isoApart", unfollowed := true, recurses := true, named := ["unicode/utf8.first", "unicode/utf8.acceptRanges"], plainKeys := false, apart := false, laid := [("unicode/utf8.acceptRanges", laid_unicode_utf8_acceptRanges), ("unicode/utf8.first", laid_unicode_utf8_first)] }
def IsoApartSaid : Prop := isoApartRow.holds Tryd.pinned (OpenSpec.ofChange isoApartSpec)

/-- ITS FALSE NEIGHBOUR: 'it returns false'. Refute it at one input. -/
def isoApartWrong : ChangeSpec := { name := "isoApart", fn := fun _ => fun
  | [d1, d2] => { results := [.lit (.bool false)], args := [d1, d2] }
  | _ => none }
def IsoApartWrongFalsely : Prop := isoApartRow.holds Tryd.pinned (OpenSpec.ofChange isoApartWrong)

/-- 'scholiumlaw18.IsoTells': WHATEVER THE INPUT: true; the input reads as it did. -/
def isoTellsSpec : ChangeSpec := { name := "isoTells", fn := fun _ => fun
  | [d1, d2] => { results := [.lit (.bool true)], args := [d1, d2] }
  | _ => none }
def isoTellsRow : OpenClaim := { program := "ytmpjohnbddnehaadoor", sum := "c23389d365fd48ba94c5ba0d367e3901a337b94717d7f8150c52b79781b15f05", func := "scholium/scholiumlaw18.IsoTells", spec := "isoTells", unfollowed := true, recurses := true, named := ["unicode/utf8.first", "unicode/utf8.acceptRanges"], plainKeys := false, apart := false, laid := [("unicode/utf8.acceptRanges", laid_unicode_utf8_acceptRanges), ("unicode/utf8.first", laid_unicode_utf8_first)] }
def IsoTellsSaid : Prop := isoTellsRow.holds Tryd.pinned (OpenSpec.ofChange isoTellsSpec)

/-- ITS FALSE NEIGHBOUR: 'it returns false'. Refute it at one input. -/
def isoTellsWrong : ChangeSpec := { name := "isoTells", fn := fun _ => fun
  | [d1, d2] => { results := [.lit (.bool false)], args := [d1, d2] }
  | _ => none }
def IsoTellsWrongFalsely : Prop := isoTellsRow.holds Tryd.pinned (OpenSpec.ofChange isoTellsWrong)

/-- 'scholiumlaw18.IsoShares': WHATEVER THE INPUT: true; the input reads as it did. -/
def isoSharesSpec : ChangeSpec := { name := "isoShares", fn := fun _ => fun
  | [d] => { results := [.lit (.bool true)], args := [d] }
  | _ => none }
def isoSharesRow : OpenClaim := { program := "ytmpjohnbddnehaadoor", sum := "c23389d365fd48ba94c5ba0d367e3901a337b94717d7f8150c52b79781b15f05", func := "scholium/scholiumlaw18.IsoShares", spec := "isoShares", unfollowed := true, recurses := true, named := ["unicode/utf8.first", "unicode/utf8.acceptRanges"], plainKeys := false, apart := false, laid := [("unicode/utf8.acceptRanges", laid_unicode_utf8_acceptRanges), ("unicode/utf8.first", laid_unicode_utf8_first)] }
def IsoSharesSaid : Prop := isoSharesRow.holds Tryd.pinned (OpenSpec.ofChange isoSharesSpec)

/-- ITS FALSE NEIGHBOUR: 'it returns false'. Refute it at one input. -/
def isoSharesWrong : ChangeSpec := { name := "isoShares", fn := fun _ => fun
  | [d] => { results := [.lit (.bool false)], args := [d] }
  | _ => none }
def IsoSharesWrongFalsely : Prop := isoSharesRow.holds Tryd.pinned (OpenSpec.ofChange isoSharesWrong)

/-- 'scholiumlaw10.PropsBack': WHATEVER THE INPUT: true; the input reads as it did. -/
def propsBackSpec : ChangeSpec := { name := "propsBack", fn := fun _ => fun
  | [d1, d2, d3, d4] => { results := [.lit (.bool true)], args := [d1, d2, d3, d4] }
  | _ => none }
def propsBackRow : OpenClaim := { program := "ytmpjohnbddnehaadoor", sum := "c23389d365fd48ba94c5ba0d367e3901a337b94717d7f8150c52b79781b15f05", func := "scholium/scholiumlaw10.PropsBack", spec := "propsBack", inPlace := ["internal/abi.NoEscape", "internal/bytealg.MakeNoZero", "internal/bytealg.IndexByte"], named := ["unicode/utf8.first", "unicode/utf8.acceptRanges"], plainKeys := false, apart := false, laid := [("unicode/utf8.acceptRanges", laid_unicode_utf8_acceptRanges), ("unicode/utf8.first", laid_unicode_utf8_first)] }
def PropsBackSaid : Prop := propsBackRow.holds Tryd.pinned (OpenSpec.ofChange propsBackSpec)

/-- ITS FALSE NEIGHBOUR: 'it returns false'. Refute it at one input. -/
def propsBackWrong : ChangeSpec := { name := "propsBack", fn := fun _ => fun
  | [d1, d2, d3, d4] => { results := [.lit (.bool false)], args := [d1, d2, d3, d4] }
  | _ => none }
def PropsBackWrongFalsely : Prop := propsBackRow.holds Tryd.pinned (OpenSpec.ofChange propsBackWrong)

/-- 'scholiumlaw10.PropsTell': WHATEVER THE INPUT: true; the input reads as it did. -/
def propsTellSpec : ChangeSpec := { name := "propsTell", fn := fun _ => fun
  | [d1, d2, d3, d4, d5] => { results := [.lit (.bool true)], args := [d1, d2, d3, d4, d5] }
  | _ => none }
def propsTellRow : OpenClaim := { program := "ytmpjohnbddnehaadoor", sum := "c23389d365fd48ba94c5ba0d367e3901a337b94717d7f8150c52b79781b15f05", func := "scholium/scholiumlaw10.PropsTell", spec := "propsTell", inPlace := ["internal/bytealg.IndexByte", "internal/abi.NoEscape", "internal/bytealg.MakeNoZero"], named := ["unicode/utf8.first", "unicode/utf8.acceptRanges"], plainKeys := false, apart := false, laid := [("unicode/utf8.acceptRanges", laid_unicode_utf8_acceptRanges), ("unicode/utf8.first", laid_unicode_utf8_first)] }
def PropsTellSaid : Prop := propsTellRow.holds Tryd.pinned (OpenSpec.ofChange propsTellSpec)

/-- ITS FALSE NEIGHBOUR: 'it returns false'. Refute it at one input. -/
def propsTellWrong : ChangeSpec := { name := "propsTell", fn := fun _ => fun
  | [d1, d2, d3, d4, d5] => { results := [.lit (.bool false)], args := [d1, d2, d3, d4, d5] }
  | _ => none }
def PropsTellWrongFalsely : Prop := propsTellRow.holds Tryd.pinned (OpenSpec.ofChange propsTellWrong)

/- THE SECOND FORM. 'bulk': how many values and letters a reading holds, each counted each time it is reached (what is shared counts as often as it is met; a slice's spare places count too). A statement '..UptoSaid' is the law's where the arguments, and the package variables that the reading takes, are together of bulk at most 1048576: NARROWER than '..Said'. Prove '..Said' where nothing that the law and all that it calls make is longer than what came in: it says more and counts as full. Else prove '..UptoSaid'. A law counts once. -/
mutual
def uptoBulk {H : Type} : DataW H → Nat
  | .lit (.string bytes) => bytes.length + 1
  | .lit _ => 1
  | .nil => 1
  | .ptr d => uptoBulk d + 1
  | .slice elems spare => uptoBulkAll elems + uptoBulkAll spare + 1
  | .agg parts => uptoBulkAll parts + 1
  | .iface _ d => uptoBulk d + 1
  | .map entries => uptoBulkEntries entries + 1
  | .held _ => 1
def uptoBulkAll {H : Type} : List (DataW H) → Nat
  | [] => 0
  | d :: r => uptoBulk d + uptoBulkAll r
def uptoBulkEntries {H : Type} : List (Lit × DataW H) → Nat
  | [] => 0
  | x :: r => uptoBulkEntry x + uptoBulkEntries r
def uptoBulkEntry {H : Type} : Lit × DataW H → Nat
  | (.string bytes, d) => bytes.length + uptoBulk d + 1
  | (_, d) => uptoBulk d + 1
 end
def uptoSmall : (H : Type) → List (DataW H) → Bool := fun _ ds => decide (uptoBulkAll ds ≤ 1048576)
def OpenSpec.upto (s : _root_.Go.ChangeSpec) : _root_.Go.OpenSpec := { _root_.Go.OpenSpec.ofChange s with cond := some uptoSmall }

/-- 'scholiumlaw10.PropsForms', WHERE WHAT IT READS IS OF BULK AT MOST 1048576: true; the input reads as it did. -/
def propsFormsUptoRow : OpenClaim := { program := "ytmpjohnbddnehaadoor", sum := "c23389d365fd48ba94c5ba0d367e3901a337b94717d7f8150c52b79781b15f05", func := "scholium/scholiumlaw10.PropsForms", spec := "propsForms", inPlace := ["internal/bytealg.IndexByte"], named := ["unicode/utf8.first", "unicode/utf8.acceptRanges"], plainKeys := false, apart := false, laid := [("unicode/utf8.acceptRanges", laid_unicode_utf8_acceptRanges), ("unicode/utf8.first", laid_unicode_utf8_first)], narrowed := true }
def PropsFormsUptoSaid : Prop := propsFormsUptoRow.holds Tryd.pinned (OpenSpec.upto propsFormsSpec)

/-- 'scholiumlaw10.PropsLong', WHERE WHAT IT READS IS OF BULK AT MOST 1048576: true; the input reads as it did. -/
def propsLongUptoRow : OpenClaim := { program := "ytmpjohnbddnehaadoor", sum := "c23389d365fd48ba94c5ba0d367e3901a337b94717d7f8150c52b79781b15f05", func := "scholium/scholiumlaw10.PropsLong", spec := "propsLong", inPlace := ["internal/bytealg.IndexByte"], named := ["unicode/utf8.first", "unicode/utf8.acceptRanges"], plainKeys := false, apart := false, laid := [("unicode/utf8.acceptRanges", laid_unicode_utf8_acceptRanges), ("unicode/utf8.first", laid_unicode_utf8_first)], narrowed := true }
def PropsLongUptoSaid : Prop := propsLongUptoRow.holds Tryd.pinned (OpenSpec.upto propsLongSpec)

/-- 'scholiumlaw10.PropsAliases', WHERE WHAT IT READS IS OF BULK AT MOST 1048576: true; the input reads as it did. -/
def propsAliasesUptoRow : OpenClaim := { program := "ytmpjohnbddnehaadoor", sum := "c23389d365fd48ba94c5ba0d367e3901a337b94717d7f8150c52b79781b15f05", func := "scholium/scholiumlaw10.PropsAliases", spec := "propsAliases", inPlace := ["internal/bytealg.IndexByte"], named := ["unicode/utf8.first", "unicode/utf8.acceptRanges"], plainKeys := false, apart := false, laid := [("unicode/utf8.acceptRanges", laid_unicode_utf8_acceptRanges), ("unicode/utf8.first", laid_unicode_utf8_first)], narrowed := true }
def PropsAliasesUptoSaid : Prop := propsAliasesUptoRow.holds Tryd.pinned (OpenSpec.upto propsAliasesSpec)

/-- 'scholiumlaw18.IsoForms', WHERE WHAT IT READS IS OF BULK AT MOST 1048576: true; the input reads as it did. -/
def isoFormsUptoRow : OpenClaim := { program := "ytmpjohnbddnehaadoor", sum := "c23389d365fd48ba94c5ba0d367e3901a337b94717d7f8150c52b79781b15f05", func := "scholium/scholiumlaw18.IsoForms", spec := "isoForms", unfollowed := true, recurses := true, named := ["unicode/utf8.first", "unicode/utf8.acceptRanges"], plainKeys := false, apart := false, laid := [("unicode/utf8.acceptRanges", laid_unicode_utf8_acceptRanges), ("unicode/utf8.first", laid_unicode_utf8_first)], narrowed := true }
def IsoFormsUptoSaid : Prop := isoFormsUptoRow.holds Tryd.pinned (OpenSpec.upto isoFormsSpec)

/-- 'scholiumlaw18.IsoSame', WHERE WHAT IT READS IS OF BULK AT MOST 1048576: true; the input reads as it did. -/
def isoSameUptoRow : OpenClaim := { program := "ytmpjohnbddnehaadoor", sum := "c23389d365fd48ba94c5ba0d367e3901a337b94717d7f8150c52b79781b15f05", func := "scholium/scholiumlaw18.IsoSame", spec := "isoSame", unfollowed := true, recurses := true, named := ["unicode/utf8.first", "unicode/utf8.acceptRanges"], plainKeys := false, apart := false, laid := [("unicode/utf8.acceptRanges", laid_unicode_utf8_acceptRanges), ("unicode/utf8.first", laid_unicode_utf8_first)], narrowed := true }
def IsoSameUptoSaid : Prop := isoSameUptoRow.holds Tryd.pinned (OpenSpec.upto isoSameSpec)

/-- 'scholiumlaw18.IsoTurns', WHERE WHAT IT READS IS OF BULK AT MOST 1048576: true; the input reads as it did. -/
def isoTurnsUptoRow : OpenClaim := { program := "ytmpjohnbddnehaadoor", sum := "c23389d365fd48ba94c5ba0d367e3901a337b94717d7f8150c52b79781b15f05", func := "scholium/scholiumlaw18.IsoTurns", spec := "isoTurns", unfollowed := true, recurses := true, named := ["unicode/utf8.first", "unicode/utf8.acceptRanges"], plainKeys := false, apart := false, laid := [("unicode/utf8.acceptRanges", laid_unicode_utf8_acceptRanges), ("unicode/utf8.first", laid_unicode_utf8_first)], narrowed := true }
def IsoTurnsUptoSaid : Prop := isoTurnsUptoRow.holds Tryd.pinned (OpenSpec.upto isoTurnsSpec)

/-- 'scholiumlaw18.IsoApart', WHERE WHAT IT READS IS OF BULK AT MOST 1048576: true; the input reads as it did. -/
def isoApartUptoRow : OpenClaim := { program := "ytmpjohnbddnehaadoor", sum := "c23389d365fd48ba94c5ba0d367e3901a337b94717d7f8150c52b79781b15f05", func := "scholium/scholiumlaw18.IsoApart", spec := "isoApart", unfollowed := true, recurses := true, named := ["unicode/utf8.first", "unicode/utf8.acceptRanges"], plainKeys := false, apart := false, laid := [("unicode/utf8.acceptRanges", laid_unicode_utf8_acceptRanges), ("unicode/utf8.first", laid_unicode_utf8_first)], narrowed := true }
def IsoApartUptoSaid : Prop := isoApartUptoRow.holds Tryd.pinned (OpenSpec.upto isoApartSpec)

/-- 'scholiumlaw18.IsoTells', WHERE WHAT IT READS IS OF BULK AT MOST 1048576: true; the input reads as it did. -/
def isoTellsUptoRow : OpenClaim := { program := "ytmpjohnbddnehaadoor", sum := "c23389d365fd48ba94c5ba0d367e3901a337b94717d7f8150c52b79781b15f05", func := "scholium/scholiumlaw18.IsoTells", spec := "isoTells", unfollowed := true, recurses := true, named := ["unicode/utf8.first", "unicode/utf8.acceptRanges"], plainKeys := false, apart := false, laid := [("unicode/utf8.acceptRanges", laid_unicode_utf8_acceptRanges), ("unicode/utf8.first", laid_unicode_utf8_first)], narrowed := true }
def IsoTellsUptoSaid : Prop := isoTellsUptoRow.holds Tryd.pinned (OpenSpec.upto isoTellsSpec)

/-- 'scholiumlaw18.IsoShares', WHERE WHAT IT READS IS OF BULK AT MOST 1048576: true; the input reads as it did. -/
def isoSharesUptoRow : OpenClaim := { program := "ytmpjohnbddnehaadoor", sum := "c23389d365fd48ba94c5ba0d367e3901a337b94717d7f8150c52b79781b15f05", func := "scholium/scholiumlaw18.IsoShares", spec := "isoShares", unfollowed := true, recurses := true, named := ["unicode/utf8.first", "unicode/utf8.acceptRanges"], plainKeys := false, apart := false, laid := [("unicode/utf8.acceptRanges", laid_unicode_utf8_acceptRanges), ("unicode/utf8.first", laid_unicode_utf8_first)], narrowed := true }
def IsoSharesUptoSaid : Prop := isoSharesUptoRow.holds Tryd.pinned (OpenSpec.upto isoSharesSpec)

/-- 'scholiumlaw10.PropsBack', WHERE WHAT IT READS IS OF BULK AT MOST 1048576: true; the input reads as it did. -/
def propsBackUptoRow : OpenClaim := { program := "ytmpjohnbddnehaadoor", sum := "c23389d365fd48ba94c5ba0d367e3901a337b94717d7f8150c52b79781b15f05", func := "scholium/scholiumlaw10.PropsBack", spec := "propsBack", inPlace := ["internal/abi.NoEscape", "internal/bytealg.MakeNoZero", "internal/bytealg.IndexByte"], named := ["unicode/utf8.first", "unicode/utf8.acceptRanges"], plainKeys := false, apart := false, laid := [("unicode/utf8.acceptRanges", laid_unicode_utf8_acceptRanges), ("unicode/utf8.first", laid_unicode_utf8_first)], narrowed := true }
def PropsBackUptoSaid : Prop := propsBackUptoRow.holds Tryd.pinned (OpenSpec.upto propsBackSpec)

/-- 'scholiumlaw10.PropsTell', WHERE WHAT IT READS IS OF BULK AT MOST 1048576: true; the input reads as it did. -/
def propsTellUptoRow : OpenClaim := { program := "ytmpjohnbddnehaadoor", sum := "c23389d365fd48ba94c5ba0d367e3901a337b94717d7f8150c52b79781b15f05", func := "scholium/scholiumlaw10.PropsTell", spec := "propsTell", inPlace := ["internal/bytealg.IndexByte", "internal/abi.NoEscape", "internal/bytealg.MakeNoZero"], named := ["unicode/utf8.first", "unicode/utf8.acceptRanges"], plainKeys := false, apart := false, laid := [("unicode/utf8.acceptRanges", laid_unicode_utf8_acceptRanges), ("unicode/utf8.first", laid_unicode_utf8_first)], narrowed := true }
def PropsTellUptoSaid : Prop := propsTellUptoRow.holds Tryd.pinned (OpenSpec.upto propsTellSpec)

end Rows
end Go.Proofs.YtmpjohnbddnehaaDoor
