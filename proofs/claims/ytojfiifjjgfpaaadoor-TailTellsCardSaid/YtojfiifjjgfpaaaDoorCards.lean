/-
  DERIVED. GIVEN WITH THE SEED: THE CARDS: each row of YtojfiifjjgfpaaaDoorRows.lean that lists a variable, with what it lists TIED to the program's text (the seventh form; the later family's looks); each row that meets fmt, with fmt's text TOLD by the authors' own Lean function (tested against real Go, not proved from fmt's source: count such statements apart). THE CARD IS WHAT COUNTS. Prove the row's statement (the work); the ties are given (YtojfiifjjgfpaaaDoorTie.lean); close each card by the builder's one call (the guide's Derived/Test/ToyasCard.lean, 'card_holds'). Laid BY PROGRAM, IN A SANDBOX (cutbox-door.mjs). By AI agents, Wed Nov 11 2026. No macro, syntax, notation, axiom, sorry.
-/
import Derived.Test.YtojfiifjjgfpaaaDoorRows
import GoSem.ClaimSeven
namespace Go.Proofs.YtojfiifjjgfpaaaDoor
namespace Rows

/-- THE TIED CARD OF 'scholiumlaw04.PlainWords'. -/
def plainWordsCard : Claim7 := { stood := { row := plainWordsRow, standIns := [], harness := (true, "1d6a6781b828617d0dbe69f0df74b35f4d0be2014773fb36df6757de96b32702"), looks := false }, kinds := [], alts := [], laidByText := true, laidKinds := [.data, .pinned], laidTests := true, laidLooks := .later }
def PlainWordsCardSaid : Prop := Claim7.holds Tryd.pinned (.plain (OpenSpec.ofChange plainWordsSpec)) plainWordsCard

/-- THE TIED CARD OF 'scholiumlaw04.PlainSigns'. -/
def plainSignsCard : Claim7 := { stood := { row := plainSignsRow, standIns := [], harness := (true, "1d6a6781b828617d0dbe69f0df74b35f4d0be2014773fb36df6757de96b32702"), looks := false }, kinds := [], alts := [], laidByText := true, laidKinds := [.data, .pinned], laidTests := true, laidLooks := .later }
def PlainSignsCardSaid : Prop := Claim7.holds Tryd.pinned (.plain (OpenSpec.ofChange plainSignsSpec)) plainSignsCard

/-- THE TIED CARD OF 'scholiumlaw04.PlainTells'. -/
def plainTellsCard : Claim7 := { stood := { row := plainTellsRow, standIns := [], harness := (true, "1d6a6781b828617d0dbe69f0df74b35f4d0be2014773fb36df6757de96b32702"), looks := false }, kinds := [], alts := [], laidByText := true, laidKinds := [.data, .pinned], laidTests := true, laidLooks := .later }
def PlainTellsCardSaid : Prop := Claim7.holds Tryd.pinned (.plain (OpenSpec.ofChange plainTellsSpec)) plainTellsCard

/-- THE TIED CARD OF 'scholiumlaw04.PlainParts'. -/
def plainPartsCard : Claim7 := { stood := { row := plainPartsRow, standIns := [], harness := (true, "1d6a6781b828617d0dbe69f0df74b35f4d0be2014773fb36df6757de96b32702"), looks := false }, kinds := [], alts := [], laidByText := true, laidKinds := [.data, .pinned], laidTests := true, laidLooks := .later }
def PlainPartsCardSaid : Prop := Claim7.holds Tryd.pinned (.plain (OpenSpec.ofChange plainPartsSpec)) plainPartsCard

/-- THE TIED CARD OF 'scholiumlaw11.TailMarkers'. -/
def tailMarkersCard : Claim7 := { stood := { row := tailMarkersRow, standIns := [], harness := (true, "1d6a6781b828617d0dbe69f0df74b35f4d0be2014773fb36df6757de96b32702"), looks := false }, kinds := [], alts := [], laidByText := true, laidKinds := [.data, .pinned], laidTests := true, laidLooks := .later }
def TailMarkersCardSaid : Prop := Claim7.holds Tryd.pinned (.plain (OpenSpec.ofChange tailMarkersSpec)) tailMarkersCard

/-- THE TIED CARD OF 'scholiumlaw11.TailRests'. -/
def tailRestsCard : Claim7 := { stood := { row := tailRestsRow, standIns := [], harness := (true, "1d6a6781b828617d0dbe69f0df74b35f4d0be2014773fb36df6757de96b32702"), looks := false }, kinds := [], alts := [], laidByText := true, laidKinds := [.data, .pinned], laidTests := true, laidLooks := .later }
def TailRestsCardSaid : Prop := Claim7.holds Tryd.pinned (.plain (OpenSpec.ofChange tailRestsSpec)) tailRestsCard

/-- THE TIED CARD OF 'scholiumlaw11.TailTells'. -/
def tailTellsCard : Claim7 := { stood := { row := tailTellsRow, standIns := [], harness := (true, "1d6a6781b828617d0dbe69f0df74b35f4d0be2014773fb36df6757de96b32702"), looks := false }, kinds := [], alts := [], laidByText := true, laidKinds := [.data, .pinned], laidTests := true, laidLooks := .later }
def TailTellsCardSaid : Prop := Claim7.holds Tryd.pinned (.plain (OpenSpec.ofChange tailTellsSpec)) tailTellsCard

/-- THE TIED CARD OF 'scholiumlaw11.TailComments'. -/
def tailCommentsCard : Claim7 := { stood := { row := tailCommentsRow, standIns := [], harness := (true, "1d6a6781b828617d0dbe69f0df74b35f4d0be2014773fb36df6757de96b32702"), looks := false }, kinds := [], alts := [], laidByText := true, laidKinds := [.data, .pinned], laidTests := true, laidLooks := .later }
def TailCommentsCardSaid : Prop := Claim7.holds Tryd.pinned (.plain (OpenSpec.ofChange tailCommentsSpec)) tailCommentsCard

/-- THE SECOND FORM's CARD OF 'scholiumlaw04.PlainWords'. -/
def plainWordsUptoCard : Claim7 := { stood := { row := plainWordsUptoRow, standIns := [], harness := (true, "1d6a6781b828617d0dbe69f0df74b35f4d0be2014773fb36df6757de96b32702"), looks := false }, kinds := [], alts := [], laidByText := true, laidKinds := [.data, .pinned], laidTests := true, laidLooks := .later }
def PlainWordsUptoCardSaid : Prop := Claim7.holds Tryd.pinned (.plain (OpenSpec.upto plainWordsSpec)) plainWordsUptoCard

/-- THE SECOND FORM's CARD OF 'scholiumlaw04.PlainSigns'. -/
def plainSignsUptoCard : Claim7 := { stood := { row := plainSignsUptoRow, standIns := [], harness := (true, "1d6a6781b828617d0dbe69f0df74b35f4d0be2014773fb36df6757de96b32702"), looks := false }, kinds := [], alts := [], laidByText := true, laidKinds := [.data, .pinned], laidTests := true, laidLooks := .later }
def PlainSignsUptoCardSaid : Prop := Claim7.holds Tryd.pinned (.plain (OpenSpec.upto plainSignsSpec)) plainSignsUptoCard

/-- THE SECOND FORM's CARD OF 'scholiumlaw04.PlainTells'. -/
def plainTellsUptoCard : Claim7 := { stood := { row := plainTellsUptoRow, standIns := [], harness := (true, "1d6a6781b828617d0dbe69f0df74b35f4d0be2014773fb36df6757de96b32702"), looks := false }, kinds := [], alts := [], laidByText := true, laidKinds := [.data, .pinned], laidTests := true, laidLooks := .later }
def PlainTellsUptoCardSaid : Prop := Claim7.holds Tryd.pinned (.plain (OpenSpec.upto plainTellsSpec)) plainTellsUptoCard

/-- THE SECOND FORM's CARD OF 'scholiumlaw04.PlainParts'. -/
def plainPartsUptoCard : Claim7 := { stood := { row := plainPartsUptoRow, standIns := [], harness := (true, "1d6a6781b828617d0dbe69f0df74b35f4d0be2014773fb36df6757de96b32702"), looks := false }, kinds := [], alts := [], laidByText := true, laidKinds := [.data, .pinned], laidTests := true, laidLooks := .later }
def PlainPartsUptoCardSaid : Prop := Claim7.holds Tryd.pinned (.plain (OpenSpec.upto plainPartsSpec)) plainPartsUptoCard

/-- THE SECOND FORM's CARD OF 'scholiumlaw11.TailMarkers'. -/
def tailMarkersUptoCard : Claim7 := { stood := { row := tailMarkersUptoRow, standIns := [], harness := (true, "1d6a6781b828617d0dbe69f0df74b35f4d0be2014773fb36df6757de96b32702"), looks := false }, kinds := [], alts := [], laidByText := true, laidKinds := [.data, .pinned], laidTests := true, laidLooks := .later }
def TailMarkersUptoCardSaid : Prop := Claim7.holds Tryd.pinned (.plain (OpenSpec.upto tailMarkersSpec)) tailMarkersUptoCard

/-- THE SECOND FORM's CARD OF 'scholiumlaw11.TailRests'. -/
def tailRestsUptoCard : Claim7 := { stood := { row := tailRestsUptoRow, standIns := [], harness := (true, "1d6a6781b828617d0dbe69f0df74b35f4d0be2014773fb36df6757de96b32702"), looks := false }, kinds := [], alts := [], laidByText := true, laidKinds := [.data, .pinned], laidTests := true, laidLooks := .later }
def TailRestsUptoCardSaid : Prop := Claim7.holds Tryd.pinned (.plain (OpenSpec.upto tailRestsSpec)) tailRestsUptoCard

/-- THE SECOND FORM's CARD OF 'scholiumlaw11.TailTells'. -/
def tailTellsUptoCard : Claim7 := { stood := { row := tailTellsUptoRow, standIns := [], harness := (true, "1d6a6781b828617d0dbe69f0df74b35f4d0be2014773fb36df6757de96b32702"), looks := false }, kinds := [], alts := [], laidByText := true, laidKinds := [.data, .pinned], laidTests := true, laidLooks := .later }
def TailTellsUptoCardSaid : Prop := Claim7.holds Tryd.pinned (.plain (OpenSpec.upto tailTellsSpec)) tailTellsUptoCard

/-- THE SECOND FORM's CARD OF 'scholiumlaw11.TailComments'. -/
def tailCommentsUptoCard : Claim7 := { stood := { row := tailCommentsUptoRow, standIns := [], harness := (true, "1d6a6781b828617d0dbe69f0df74b35f4d0be2014773fb36df6757de96b32702"), looks := false }, kinds := [], alts := [], laidByText := true, laidKinds := [.data, .pinned], laidTests := true, laidLooks := .later }
def TailCommentsUptoCardSaid : Prop := Claim7.holds Tryd.pinned (.plain (OpenSpec.upto tailCommentsSpec)) tailCommentsUptoCard
end Rows
end Go.Proofs.YtojfiifjjgfpaaaDoor
