/-
  DERIVED. GIVEN WITH THE SEED: THE CARDS: each row of YtpjpmfchcijikaaDoorRows.lean that lists a variable, with what it lists TIED to the program's text (the seventh form; the later family's looks); each row that meets fmt, with fmt's text TOLD by the authors' own Lean function (tested against real Go, not proved from fmt's source: count such statements apart). THE CARD IS WHAT COUNTS. Prove the row's statement (the work); the ties are given (YtpjpmfchcijikaaDoorTie.lean); close each card by the builder's one call (the guide's Derived/Test/ToyasCard.lean, 'card_holds'). Laid BY PROGRAM, IN A SANDBOX (cutbox-door.mjs). By AI agents, Wed Nov 11 2026. No macro, syntax, notation, axiom, sorry.
-/
import Derived.Test.YtpjpmfchcijikaaDoorRows
import GoSem.ClaimSeven
namespace Go.Proofs.YtpjpmfchcijikaaDoor
namespace Rows

/-- THE TIED CARD OF 'scholiumlaw07.FoldBlocks'. -/
def foldBlocksCard : Claim7 := { stood := { row := foldBlocksRow, standIns := [], harness := (true, "1d9a582eff7dfb86a5c3169cf54d06e22624961b1a1103bbf18e1bda6bd54c75"), looks := false }, kinds := [], alts := [], laidByText := true, laidKinds := [.data, .pinned], laidTests := true, laidLooks := .later }
def FoldBlocksCardSaid : Prop := Claim7.holds Tryd.pinned (.plain (OpenSpec.ofChange foldBlocksSpec)) foldBlocksCard

/-- THE TIED CARD OF 'scholiumlaw07.FoldBodies'. -/
def foldBodiesCard : Claim7 := { stood := { row := foldBodiesRow, standIns := [], harness := (true, "1d9a582eff7dfb86a5c3169cf54d06e22624961b1a1103bbf18e1bda6bd54c75"), looks := false }, kinds := [], alts := [], laidByText := true, laidKinds := [.data, .pinned], laidTests := true, laidLooks := .later }
def FoldBodiesCardSaid : Prop := Claim7.holds Tryd.pinned (.plain (OpenSpec.ofChange foldBodiesSpec)) foldBodiesCard

/-- THE SECOND FORM's CARD OF 'scholiumlaw07.FoldBlocks'. -/
def foldBlocksUptoCard : Claim7 := { stood := { row := foldBlocksUptoRow, standIns := [], harness := (true, "1d9a582eff7dfb86a5c3169cf54d06e22624961b1a1103bbf18e1bda6bd54c75"), looks := false }, kinds := [], alts := [], laidByText := true, laidKinds := [.data, .pinned], laidTests := true, laidLooks := .later }
def FoldBlocksUptoCardSaid : Prop := Claim7.holds Tryd.pinned (.plain (OpenSpec.upto foldBlocksSpec)) foldBlocksUptoCard

/-- THE SECOND FORM's CARD OF 'scholiumlaw07.FoldBodies'. -/
def foldBodiesUptoCard : Claim7 := { stood := { row := foldBodiesUptoRow, standIns := [], harness := (true, "1d9a582eff7dfb86a5c3169cf54d06e22624961b1a1103bbf18e1bda6bd54c75"), looks := false }, kinds := [], alts := [], laidByText := true, laidKinds := [.data, .pinned], laidTests := true, laidLooks := .later }
def FoldBodiesUptoCardSaid : Prop := Claim7.holds Tryd.pinned (.plain (OpenSpec.upto foldBodiesSpec)) foldBodiesUptoCard
end Rows
end Go.Proofs.YtpjpmfchcijikaaDoor
