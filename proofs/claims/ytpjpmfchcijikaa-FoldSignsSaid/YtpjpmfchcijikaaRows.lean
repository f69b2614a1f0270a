/-
  No cell of these rows narrows 'for every input' (looked for: loops, veiled, ifaces, maps, wideKeys, modest, calm, conditions, laid).
  DERIVED. THE GIVEN ROWS OF THIS SEAT. 7 by the template 'for every input the law returns true; each argument reads behind the call as it read before'; 0 by the template 'total and deterministic' (their statements: YtpjpmfchcijikaaTotals.lean).
  GIVEN WITH THE SEED: the statements are not yours to turn. If you find one false, say at which input.
  Laid BY PROGRAM, IN A SANDBOX (cutbox-rows.mjs): the forced cells as the released guide's own fill.sh prints them over the translation c2390220a82944b7… (all of the seat's roots in one cut). By AI agents, Wed Nov 11 2026. No macro, syntax, notation, axiom, sorry.
-/
import Derived.Test.YtpjpmfchcijikaaChecked
import GoSem.Claim
import GoSem.ClaimJoined
import GoSem.ClaimMapViews
import Derived.JoinedTies
import Derived.KernelRfl
namespace Go.Proofs.Ytpjpmfchcijikaa
/- THE CELL 'sum', in the pinned program and in every row, IS THE sha256 OF THE DUMP (.gsa) THAT YtpjpmfchcijikaaProg.lean LOADS. Nothing in Lean hashes anything: it is a label: what it is worth is what the hold of that sum in a sandbox is worth. -/
noncomputable def Try.pinned : Pinned := { name := "ytpjpmfchcijikaa", sum := "c2390220a82944b7345954c322f4079efd5edfe8f9287ddf8578f4627130c9f0", checked := Try.checked }
namespace Rows
def none {H : Type} : Left H := { results := [], args := [] }

/-- 'scholiumlaw07.FoldDeeper': WHATEVER THE INPUT: true; the input reads as it did. -/
def foldDeeperSpec : ChangeSpec := { name := "foldDeeper", fn := fun _ => fun
  | [d] => { results := [.lit (.bool true)], args := [d] }
  | _ => none }
def foldDeeperRow : OpenClaim := { program := "ytpjpmfchcijikaa", sum := "c2390220a82944b7345954c322f4079efd5edfe8f9287ddf8578f4627130c9f0", func := "scholium/scholiumlaw07.FoldDeeper", spec := "foldDeeper", inPlace := ["internal/abi.NoEscape", "internal/bytealg.MakeNoZero"], apart := false }
def FoldDeeperSaid : Prop := foldDeeperRow.holds Try.pinned (OpenSpec.ofChange foldDeeperSpec)

/-- ITS FALSE NEIGHBOUR: 'it returns false'. Refute it at one input. -/
def foldDeeperWrong : ChangeSpec := { name := "foldDeeper", fn := fun _ => fun
  | [d] => { results := [.lit (.bool false)], args := [d] }
  | _ => none }
def FoldDeeperWrongFalsely : Prop := foldDeeperRow.holds Try.pinned (OpenSpec.ofChange foldDeeperWrong)

/-- 'scholiumlaw07.FoldValues': WHATEVER THE INPUT: true; the input reads as it did. -/
def foldValuesSpec : ChangeSpec := { name := "foldValues", fn := fun _ => fun
  | [d1, d2, d3, d4] => { results := [.lit (.bool true)], args := [d1, d2, d3, d4] }
  | _ => none }
def foldValuesRow : OpenClaim := { program := "ytpjpmfchcijikaa", sum := "c2390220a82944b7345954c322f4079efd5edfe8f9287ddf8578f4627130c9f0", func := "scholium/scholiumlaw07.FoldValues", spec := "foldValues", inPlace := ["internal/abi.NoEscape", "internal/bytealg.MakeNoZero"], apart := false }
def FoldValuesSaid : Prop := foldValuesRow.holds Try.pinned (OpenSpec.ofChange foldValuesSpec)

/-- ITS FALSE NEIGHBOUR: 'it returns false'. Refute it at one input. -/
def foldValuesWrong : ChangeSpec := { name := "foldValues", fn := fun _ => fun
  | [d1, d2, d3, d4] => { results := [.lit (.bool false)], args := [d1, d2, d3, d4] }
  | _ => none }
def FoldValuesWrongFalsely : Prop := foldValuesRow.holds Try.pinned (OpenSpec.ofChange foldValuesWrong)

/-- 'scholiumlaw07.FoldLiteral': WHATEVER THE INPUT: true; the input reads as it did. -/
def foldLiteralSpec : ChangeSpec := { name := "foldLiteral", fn := fun _ => fun
  | [d1, d2] => { results := [.lit (.bool true)], args := [d1, d2] }
  | _ => none }
def foldLiteralRow : OpenClaim := { program := "ytpjpmfchcijikaa", sum := "c2390220a82944b7345954c322f4079efd5edfe8f9287ddf8578f4627130c9f0", func := "scholium/scholiumlaw07.FoldLiteral", spec := "foldLiteral", inPlace := ["internal/abi.NoEscape", "internal/bytealg.MakeNoZero"], apart := false }
def FoldLiteralSaid : Prop := foldLiteralRow.holds Try.pinned (OpenSpec.ofChange foldLiteralSpec)

/-- ITS FALSE NEIGHBOUR: 'it returns false'. Refute it at one input. -/
def foldLiteralWrong : ChangeSpec := { name := "foldLiteral", fn := fun _ => fun
  | [d1, d2] => { results := [.lit (.bool false)], args := [d1, d2] }
  | _ => none }
def FoldLiteralWrongFalsely : Prop := foldLiteralRow.holds Try.pinned (OpenSpec.ofChange foldLiteralWrong)

/-- 'scholiumlaw07.FoldWords': WHATEVER THE INPUT: true; the input reads as it did. -/
def foldWordsSpec : ChangeSpec := { name := "foldWords", fn := fun _ => fun
  | [d1, d2] => { results := [.lit (.bool true)], args := [d1, d2] }
  | _ => none }
def foldWordsRow : OpenClaim := { program := "ytpjpmfchcijikaa", sum := "c2390220a82944b7345954c322f4079efd5edfe8f9287ddf8578f4627130c9f0", func := "scholium/scholiumlaw07.FoldWords", spec := "foldWords", inPlace := ["internal/abi.NoEscape", "internal/bytealg.MakeNoZero"], apart := false }
def FoldWordsSaid : Prop := foldWordsRow.holds Try.pinned (OpenSpec.ofChange foldWordsSpec)

/-- ITS FALSE NEIGHBOUR: 'it returns false'. Refute it at one input. -/
def foldWordsWrong : ChangeSpec := { name := "foldWords", fn := fun _ => fun
  | [d1, d2] => { results := [.lit (.bool false)], args := [d1, d2] }
  | _ => none }
def FoldWordsWrongFalsely : Prop := foldWordsRow.holds Try.pinned (OpenSpec.ofChange foldWordsWrong)

/-- 'scholiumlaw07.FoldChomps': WHATEVER THE INPUT: true; the input reads as it did. -/
def foldChompsSpec : ChangeSpec := { name := "foldChomps", fn := fun _ => fun
  | [d1, d2, d3] => { results := [.lit (.bool true)], args := [d1, d2, d3] }
  | _ => none }
def foldChompsRow : OpenClaim := { program := "ytpjpmfchcijikaa", sum := "c2390220a82944b7345954c322f4079efd5edfe8f9287ddf8578f4627130c9f0", func := "scholium/scholiumlaw07.FoldChomps", spec := "foldChomps", inPlace := ["internal/abi.NoEscape", "internal/bytealg.MakeNoZero"], apart := false }
def FoldChompsSaid : Prop := foldChompsRow.holds Try.pinned (OpenSpec.ofChange foldChompsSpec)

/-- ITS FALSE NEIGHBOUR: 'it returns false'. Refute it at one input. -/
def foldChompsWrong : ChangeSpec := { name := "foldChomps", fn := fun _ => fun
  | [d1, d2, d3] => { results := [.lit (.bool false)], args := [d1, d2, d3] }
  | _ => none }
def FoldChompsWrongFalsely : Prop := foldChompsRow.holds Try.pinned (OpenSpec.ofChange foldChompsWrong)

/-- 'scholiumlaw07.FoldSigns': WHATEVER THE INPUT: true; the input reads as it did. -/
def foldSignsSpec : ChangeSpec := { name := "foldSigns", fn := fun _ => fun
  | [d1, d2, d3] => { results := [.lit (.bool true)], args := [d1, d2, d3] }
  | _ => none }
def foldSignsRow : OpenClaim := { program := "ytpjpmfchcijikaa", sum := "c2390220a82944b7345954c322f4079efd5edfe8f9287ddf8578f4627130c9f0", func := "scholium/scholiumlaw07.FoldSigns", spec := "foldSigns", inPlace := ["internal/abi.NoEscape", "internal/bytealg.MakeNoZero"], apart := false }
def FoldSignsSaid : Prop := foldSignsRow.holds Try.pinned (OpenSpec.ofChange foldSignsSpec)

/-- ITS FALSE NEIGHBOUR: 'it returns false'. Refute it at one input. -/
def foldSignsWrong : ChangeSpec := { name := "foldSigns", fn := fun _ => fun
  | [d1, d2, d3] => { results := [.lit (.bool false)], args := [d1, d2, d3] }
  | _ => none }
def FoldSignsWrongFalsely : Prop := foldSignsRow.holds Try.pinned (OpenSpec.ofChange foldSignsWrong)

/-- 'scholiumlaw07.FoldHeaders': WHATEVER THE INPUT: true; the input reads as it did. -/
def foldHeadersSpec : ChangeSpec := { name := "foldHeaders", fn := fun _ => fun
  | [d1, d2] => { results := [.lit (.bool true)], args := [d1, d2] }
  | _ => none }
def foldHeadersRow : OpenClaim := { program := "ytpjpmfchcijikaa", sum := "c2390220a82944b7345954c322f4079efd5edfe8f9287ddf8578f4627130c9f0", func := "scholium/scholiumlaw07.FoldHeaders", spec := "foldHeaders", inPlace := ["internal/abi.NoEscape", "internal/bytealg.MakeNoZero"], apart := false }
def FoldHeadersSaid : Prop := foldHeadersRow.holds Try.pinned (OpenSpec.ofChange foldHeadersSpec)

/-- ITS FALSE NEIGHBOUR: 'it returns false'. Refute it at one input. -/
def foldHeadersWrong : ChangeSpec := { name := "foldHeaders", fn := fun _ => fun
  | [d1, d2] => { results := [.lit (.bool false)], args := [d1, d2] }
  | _ => none }
def FoldHeadersWrongFalsely : Prop := foldHeadersRow.holds Try.pinned (OpenSpec.ofChange foldHeadersWrong)

/- THE SECOND FORM. 'bulk': how many values and letters a reading holds, each counted each time it is reached (what is shared counts as often as it is met; a slice's spare places count too). A statement '..UptoSaid' is the law's where the arguments, and the package variables that the reading takes, are together of bulk at most 1048576: NARROWER than '..Said'. Prove '..Said' where nothing that the law and all that it calls make is longer than what came in: it says more and counts as full. Else prove '..UptoSaid'. A law counts once. -/
mutual
def uptoBulk {H : Type} : DataW H → Nat
  | .lit (.string bytes) => bytes.length + 1
  | .lit _ => 1
  | .nil => 1
  | .ptr d => uptoBulk d + 1
  | .slice elems spare => uptoBulkAll elems + uptoBulkAll spare + 1
  | .agg parts => uptoBulkAll parts + 1
  | .iface _ d => uptoBulk d + 1
  | .map entries => uptoBulkEntries entries + 1
  | .held _ => 1
def uptoBulkAll {H : Type} : List (DataW H) → Nat
  | [] => 0
  | d :: r => uptoBulk d + uptoBulkAll r
def uptoBulkEntries {H : Type} : List (Lit × DataW H) → Nat
  | [] => 0
  | x :: r => uptoBulkEntry x + uptoBulkEntries r
def uptoBulkEntry {H : Type} : Lit × DataW H → Nat
  | (.string bytes, d) => bytes.length + uptoBulk d + 1
  | (_, d) => uptoBulk d + 1
 end
def uptoSmall : (H : Type) → List (DataW H) → Bool := fun _ ds => decide (uptoBulkAll ds ≤ 1048576)
def OpenSpec.upto (s : _root_.Go.ChangeSpec) : _root_.Go.OpenSpec := { _root_.Go.OpenSpec.ofChange s with cond := some uptoSmall }

/-- 'scholiumlaw07.FoldDeeper', WHERE WHAT IT READS IS OF BULK AT MOST 1048576: true; the input reads as it did. -/
def foldDeeperUptoRow : OpenClaim := { program := "ytpjpmfchcijikaa", sum := "c2390220a82944b7345954c322f4079efd5edfe8f9287ddf8578f4627130c9f0", func := "scholium/scholiumlaw07.FoldDeeper", spec := "foldDeeper", inPlace := ["internal/abi.NoEscape", "internal/bytealg.MakeNoZero"], apart := false, narrowed := true }
def FoldDeeperUptoSaid : Prop := foldDeeperUptoRow.holds Try.pinned (OpenSpec.upto foldDeeperSpec)

/-- 'scholiumlaw07.FoldValues', WHERE WHAT IT READS IS OF BULK AT MOST 1048576: true; the input reads as it did. -/
def foldValuesUptoRow : OpenClaim := { program := "ytpjpmfchcijikaa", sum := "c2390220a82944b7345954c322f4079efd5edfe8f9287ddf8578f4627130c9f0", func := "scholium/scholiumlaw07.FoldValues", spec := "foldValues", inPlace := ["internal/abi.NoEscape", "internal/bytealg.MakeNoZero"], apart := false, narrowed := true }
def FoldValuesUptoSaid : Prop := foldValuesUptoRow.holds Try.pinned (OpenSpec.upto foldValuesSpec)

/-- 'scholiumlaw07.FoldLiteral', WHERE WHAT IT READS IS OF BULK AT MOST 1048576: true; the input reads as it did. -/
def foldLiteralUptoRow : OpenClaim := { program := "ytpjpmfchcijikaa", sum := "c2390220a82944b7345954c322f4079efd5edfe8f9287ddf8578f4627130c9f0", func := "scholium/scholiumlaw07.FoldLiteral", spec := "foldLiteral", inPlace := ["internal/abi.NoEscape", "internal/bytealg.MakeNoZero"], apart := false, narrowed := true }
def FoldLiteralUptoSaid : Prop := foldLiteralUptoRow.holds Try.pinned (OpenSpec.upto foldLiteralSpec)

/-- 'scholiumlaw07.FoldWords', WHERE WHAT IT READS IS OF BULK AT MOST 1048576: true; the input reads as it did. -/
def foldWordsUptoRow : OpenClaim := { program := "ytpjpmfchcijikaa", sum := "c2390220a82944b7345954c322f4079efd5edfe8f9287ddf8578f4627130c9f0", func := "scholium/scholiumlaw07.FoldWords", spec := "foldWords", inPlace := ["internal/abi.NoEscape", "internal/bytealg.MakeNoZero"], apart := false, narrowed := true }
def FoldWordsUptoSaid : Prop := foldWordsUptoRow.holds Try.pinned (OpenSpec.upto foldWordsSpec)

/-- 'scholiumlaw07.FoldChomps', WHERE WHAT IT READS IS OF BULK AT MOST 1048576: true; the input reads as it did. -/
def foldChompsUptoRow : OpenClaim := { program := "ytpjpmfchcijikaa", sum := "c2390220a82944b7345954c322f4079efd5edfe8f9287ddf8578f4627130c9f0", func := "scholium/scholiumlaw07.FoldChomps", spec := "foldChomps", inPlace := ["internal/abi.NoEscape", "internal/bytealg.MakeNoZero"], apart := false, narrowed := true }
def FoldChompsUptoSaid : Prop := foldChompsUptoRow.holds Try.pinned (OpenSpec.upto foldChompsSpec)

/-- 'scholiumlaw07.FoldSigns', WHERE WHAT IT READS IS OF BULK AT MOST 1048576: true; the input reads as it did. -/
def foldSignsUptoRow : OpenClaim := { program := "ytpjpmfchcijikaa", sum := "c2390220a82944b7345954c322f4079efd5edfe8f9287ddf8578f4627130c9f0", func := "scholium/scholiumlaw07.FoldSigns", spec := "foldSigns", inPlace := ["internal/abi.NoEscape", "internal/bytealg.MakeNoZero"], apart := false, narrowed := true }
def FoldSignsUptoSaid : Prop := foldSignsUptoRow.holds Try.pinned (OpenSpec.upto foldSignsSpec)

/-- 'scholiumlaw07.FoldHeaders', WHERE WHAT IT READS IS OF BULK AT MOST 1048576: true; the input reads as it did. -/
def foldHeadersUptoRow : OpenClaim := { program := "ytpjpmfchcijikaa", sum := "c2390220a82944b7345954c322f4079efd5edfe8f9287ddf8578f4627130c9f0", func := "scholium/scholiumlaw07.FoldHeaders", spec := "foldHeaders", inPlace := ["internal/abi.NoEscape", "internal/bytealg.MakeNoZero"], apart := false, narrowed := true }
def FoldHeadersUptoSaid : Prop := foldHeadersUptoRow.holds Try.pinned (OpenSpec.upto foldHeadersSpec)

end Rows
end Go.Proofs.Ytpjpmfchcijikaa
