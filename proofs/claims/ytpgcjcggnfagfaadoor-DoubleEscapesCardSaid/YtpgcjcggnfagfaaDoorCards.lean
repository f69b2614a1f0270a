/-
  DERIVED. GIVEN WITH THE SEED: THE CARDS: each row of YtpgcjcggnfagfaaDoorRows.lean that lists a variable, with what it lists TIED to the program's text (the seventh form; the later family's looks); each row that meets fmt, with fmt's text TOLD by the authors' own Lean function (tested against real Go, not proved from fmt's source: count such statements apart). THE CARD IS WHAT COUNTS. Prove the row's statement (the work); the ties are given (YtpgcjcggnfagfaaDoorTie.lean); close each card by the builder's one call (the guide's Derived/Test/ToyasCard.lean, 'card_holds'). Laid BY PROGRAM, IN A SANDBOX (cutbox-door.mjs). By AI agents, Wed Nov 11 2026. No macro, syntax, notation, axiom, sorry.
-/
import Derived.Test.YtpgcjcggnfagfaaDoorRows
import GoSem.ClaimSeven
namespace Go.Proofs.YtpgcjcggnfagfaaDoor
namespace Rows

/-- THE TIED CARD OF 'scholiumlaw06.DoubleHex'. -/
def doubleHexCard : Claim7 := { stood := { row := doubleHexRow, standIns := [], harness := (true, "cd92a6de0725e45cb5dc8d3e9263ab809cdb190996c0487655795660f4ef588a"), looks := false }, kinds := [], alts := [], laidByText := true, laidKinds := [.data, .pinned], laidTests := true, laidLooks := .later }
def DoubleHexCardSaid : Prop := Claim7.holds Tryd.pinned (.plain (OpenSpec.ofChange doubleHexSpec)) doubleHexCard

/-- THE TIED CARD OF 'scholiumlaw06.DoubleEscapes'. -/
def doubleEscapesCard : Claim7 := { stood := { row := doubleEscapesRow, standIns := [], harness := (true, "cd92a6de0725e45cb5dc8d3e9263ab809cdb190996c0487655795660f4ef588a"), looks := false }, kinds := [], alts := [], laidByText := true, laidKinds := [.data, .pinned], laidTests := true, laidLooks := .later }
def DoubleEscapesCardSaid : Prop := Claim7.holds Tryd.pinned (.plain (OpenSpec.ofChange doubleEscapesSpec)) doubleEscapesCard

/-- THE TIED CARD OF 'scholiumlaw06.DoubleForms'. -/
def doubleFormsCard : Claim7 := { stood := { row := doubleFormsRow, standIns := [], harness := (true, "cd92a6de0725e45cb5dc8d3e9263ab809cdb190996c0487655795660f4ef588a"), looks := false }, kinds := [], alts := [], laidByText := true, laidKinds := [.data, .pinned], laidTests := true, laidLooks := .later }
def DoubleFormsCardSaid : Prop := Claim7.holds Tryd.pinned (.plain (OpenSpec.ofChange doubleFormsSpec)) doubleFormsCard

/-- THE TIED CARD OF 'scholiumlaw06.DoubleTells'. -/
def doubleTellsCard : Claim7 := { stood := { row := doubleTellsRow, standIns := [], harness := (true, "cd92a6de0725e45cb5dc8d3e9263ab809cdb190996c0487655795660f4ef588a"), looks := false }, kinds := [], alts := [], laidByText := true, laidKinds := [.data, .pinned], laidTests := true, laidLooks := .later }
def DoubleTellsCardSaid : Prop := Claim7.holds Tryd.pinned (.plain (OpenSpec.ofChange doubleTellsSpec)) doubleTellsCard

/-- THE TIED CARD OF 'scholiumlaw06.DoubleBack'. -/
def doubleBackCard : Claim7 := { stood := { row := doubleBackRow, standIns := [], harness := (true, "cd92a6de0725e45cb5dc8d3e9263ab809cdb190996c0487655795660f4ef588a"), looks := false }, kinds := [], alts := [], laidByText := true, laidKinds := [.data, .pinned], laidTests := true, laidLooks := .later }
def DoubleBackCardSaid : Prop := Claim7.holds Tryd.pinned (.plain (OpenSpec.ofChange doubleBackSpec)) doubleBackCard

/-- THE TIED CARD OF 'scholiumlaw06.DoubleRunes'. -/
def doubleRunesCard : Claim7 := { stood := { row := doubleRunesRow, standIns := [], harness := (true, "cd92a6de0725e45cb5dc8d3e9263ab809cdb190996c0487655795660f4ef588a"), looks := false }, kinds := [], alts := [], laidByText := true, laidKinds := [.data, .pinned], laidTests := true, laidLooks := .later }
def DoubleRunesCardSaid : Prop := Claim7.holds Tryd.pinned (.plain (OpenSpec.ofChange doubleRunesSpec)) doubleRunesCard

/-- THE TIED CARD OF 'scholiumlaw06.DoubleApart'. -/
def doubleApartCard : Claim7 := { stood := { row := doubleApartRow, standIns := [], harness := (true, "cd92a6de0725e45cb5dc8d3e9263ab809cdb190996c0487655795660f4ef588a"), looks := false }, kinds := [], alts := [], laidByText := true, laidKinds := [.data, .pinned], laidTests := true, laidLooks := .later }
def DoubleApartCardSaid : Prop := Claim7.holds Tryd.pinned (.plain (OpenSpec.ofChange doubleApartSpec)) doubleApartCard

/-- THE TIED CARD OF 'scholiumlaw05.SingleQuotes'. -/
def singleQuotesCard : Claim7 := { stood := { row := singleQuotesRow, standIns := [], harness := (true, "cd92a6de0725e45cb5dc8d3e9263ab809cdb190996c0487655795660f4ef588a"), looks := false }, kinds := [], alts := [], laidByText := true, laidKinds := [.data, .pinned], laidTests := true, laidLooks := .later }
def SingleQuotesCardSaid : Prop := Claim7.holds Tryd.pinned (.plain (OpenSpec.ofChange singleQuotesSpec)) singleQuotesCard

/-- THE TIED CARD OF 'scholiumlaw05.SingleForms'. -/
def singleFormsCard : Claim7 := { stood := { row := singleFormsRow, standIns := [], harness := (true, "cd92a6de0725e45cb5dc8d3e9263ab809cdb190996c0487655795660f4ef588a"), looks := false }, kinds := [], alts := [], laidByText := true, laidKinds := [.data, .pinned], laidTests := true, laidLooks := .later }
def SingleFormsCardSaid : Prop := Claim7.holds Tryd.pinned (.plain (OpenSpec.ofChange singleFormsSpec)) singleFormsCard

/-- THE TIED CARD OF 'scholiumlaw05.SingleTells'. -/
def singleTellsCard : Claim7 := { stood := { row := singleTellsRow, standIns := [], harness := (true, "cd92a6de0725e45cb5dc8d3e9263ab809cdb190996c0487655795660f4ef588a"), looks := false }, kinds := [], alts := [], laidByText := true, laidKinds := [.data, .pinned], laidTests := true, laidLooks := .later }
def SingleTellsCardSaid : Prop := Claim7.holds Tryd.pinned (.plain (OpenSpec.ofChange singleTellsSpec)) singleTellsCard

/-- THE TIED CARD OF 'scholiumlaw05.SingleBack'. -/
def singleBackCard : Claim7 := { stood := { row := singleBackRow, standIns := [], harness := (true, "cd92a6de0725e45cb5dc8d3e9263ab809cdb190996c0487655795660f4ef588a"), looks := false }, kinds := [], alts := [], laidByText := true, laidKinds := [.data, .pinned], laidTests := true, laidLooks := .later }
def SingleBackCardSaid : Prop := Claim7.holds Tryd.pinned (.plain (OpenSpec.ofChange singleBackSpec)) singleBackCard

/-- THE TIED CARD OF 'scholiumlaw05.SingleApart'. -/
def singleApartCard : Claim7 := { stood := { row := singleApartRow, standIns := [], harness := (true, "cd92a6de0725e45cb5dc8d3e9263ab809cdb190996c0487655795660f4ef588a"), looks := false }, kinds := [], alts := [], laidByText := true, laidKinds := [.data, .pinned], laidTests := true, laidLooks := .later }
def SingleApartCardSaid : Prop := Claim7.holds Tryd.pinned (.plain (OpenSpec.ofChange singleApartSpec)) singleApartCard

/-- THE SECOND FORM's CARD OF 'scholiumlaw06.DoubleHex'. -/
def doubleHexUptoCard : Claim7 := { stood := { row := doubleHexUptoRow, standIns := [], harness := (true, "cd92a6de0725e45cb5dc8d3e9263ab809cdb190996c0487655795660f4ef588a"), looks := false }, kinds := [], alts := [], laidByText := true, laidKinds := [.data, .pinned], laidTests := true, laidLooks := .later }
def DoubleHexUptoCardSaid : Prop := Claim7.holds Tryd.pinned (.plain (OpenSpec.upto doubleHexSpec)) doubleHexUptoCard

/-- THE SECOND FORM's CARD OF 'scholiumlaw06.DoubleEscapes'. -/
def doubleEscapesUptoCard : Claim7 := { stood := { row := doubleEscapesUptoRow, standIns := [], harness := (true, "cd92a6de0725e45cb5dc8d3e9263ab809cdb190996c0487655795660f4ef588a"), looks := false }, kinds := [], alts := [], laidByText := true, laidKinds := [.data, .pinned], laidTests := true, laidLooks := .later }
def DoubleEscapesUptoCardSaid : Prop := Claim7.holds Tryd.pinned (.plain (OpenSpec.upto doubleEscapesSpec)) doubleEscapesUptoCard

/-- THE SECOND FORM's CARD OF 'scholiumlaw06.DoubleForms'. -/
def doubleFormsUptoCard : Claim7 := { stood := { row := doubleFormsUptoRow, standIns := [], harness := (true, "cd92a6de0725e45cb5dc8d3e9263ab809cdb190996c0487655795660f4ef588a"), looks := false }, kinds := [], alts := [], laidByText := true, laidKinds := [.data, .pinned], laidTests := true, laidLooks := .later }
def DoubleFormsUptoCardSaid : Prop := Claim7.holds Tryd.pinned (.plain (OpenSpec.upto doubleFormsSpec)) doubleFormsUptoCard

/-- THE SECOND FORM's CARD OF 'scholiumlaw06.DoubleTells'. -/
def doubleTellsUptoCard : Claim7 := { stood := { row := doubleTellsUptoRow, standIns := [], harness := (true, "cd92a6de0725e45cb5dc8d3e9263ab809cdb190996c0487655795660f4ef588a"), looks := false }, kinds := [], alts := [], laidByText := true, laidKinds := [.data, .pinned], laidTests := true, laidLooks := .later }
def DoubleTellsUptoCardSaid : Prop := Claim7.holds Tryd.pinned (.plain (OpenSpec.upto doubleTellsSpec)) doubleTellsUptoCard

/-- THE SECOND FORM's CARD OF 'scholiumlaw06.DoubleBack'. -/
def doubleBackUptoCard : Claim7 := { stood := { row := doubleBackUptoRow, standIns := [], harness := (true, "cd92a6de0725e45cb5dc8d3e9263ab809cdb190996c0487655795660f4ef588a"), looks := false }, kinds := [], alts := [], laidByText := true, laidKinds := [.data, .pinned], laidTests := true, laidLooks := .later }
def DoubleBackUptoCardSaid : Prop := Claim7.holds Tryd.pinned (.plain (OpenSpec.upto doubleBackSpec)) doubleBackUptoCard

/-- THE SECOND FORM's CARD OF 'scholiumlaw06.DoubleRunes'. -/
def doubleRunesUptoCard : Claim7 := { stood := { row := doubleRunesUptoRow, standIns := [], harness := (true, "cd92a6de0725e45cb5dc8d3e9263ab809cdb190996c0487655795660f4ef588a"), looks := false }, kinds := [], alts := [], laidByText := true, laidKinds := [.data, .pinned], laidTests := true, laidLooks := .later }
def DoubleRunesUptoCardSaid : Prop := Claim7.holds Tryd.pinned (.plain (OpenSpec.upto doubleRunesSpec)) doubleRunesUptoCard

/-- THE SECOND FORM's CARD OF 'scholiumlaw06.DoubleApart'. -/
def doubleApartUptoCard : Claim7 := { stood := { row := doubleApartUptoRow, standIns := [], harness := (true, "cd92a6de0725e45cb5dc8d3e9263ab809cdb190996c0487655795660f4ef588a"), looks := false }, kinds := [], alts := [], laidByText := true, laidKinds := [.data, .pinned], laidTests := true, laidLooks := .later }
def DoubleApartUptoCardSaid : Prop := Claim7.holds Tryd.pinned (.plain (OpenSpec.upto doubleApartSpec)) doubleApartUptoCard

/-- THE SECOND FORM's CARD OF 'scholiumlaw05.SingleQuotes'. -/
def singleQuotesUptoCard : Claim7 := { stood := { row := singleQuotesUptoRow, standIns := [], harness := (true, "cd92a6de0725e45cb5dc8d3e9263ab809cdb190996c0487655795660f4ef588a"), looks := false }, kinds := [], alts := [], laidByText := true, laidKinds := [.data, .pinned], laidTests := true, laidLooks := .later }
def SingleQuotesUptoCardSaid : Prop := Claim7.holds Tryd.pinned (.plain (OpenSpec.upto singleQuotesSpec)) singleQuotesUptoCard

/-- THE SECOND FORM's CARD OF 'scholiumlaw05.SingleForms'. -/
def singleFormsUptoCard : Claim7 := { stood := { row := singleFormsUptoRow, standIns := [], harness := (true, "cd92a6de0725e45cb5dc8d3e9263ab809cdb190996c0487655795660f4ef588a"), looks := false }, kinds := [], alts := [], laidByText := true, laidKinds := [.data, .pinned], laidTests := true, laidLooks := .later }
def SingleFormsUptoCardSaid : Prop := Claim7.holds Tryd.pinned (.plain (OpenSpec.upto singleFormsSpec)) singleFormsUptoCard

/-- THE SECOND FORM's CARD OF 'scholiumlaw05.SingleTells'. -/
def singleTellsUptoCard : Claim7 := { stood := { row := singleTellsUptoRow, standIns := [], harness := (true, "cd92a6de0725e45cb5dc8d3e9263ab809cdb190996c0487655795660f4ef588a"), looks := false }, kinds := [], alts := [], laidByText := true, laidKinds := [.data, .pinned], laidTests := true, laidLooks := .later }
def SingleTellsUptoCardSaid : Prop := Claim7.holds Tryd.pinned (.plain (OpenSpec.upto singleTellsSpec)) singleTellsUptoCard

/-- THE SECOND FORM's CARD OF 'scholiumlaw05.SingleBack'. -/
def singleBackUptoCard : Claim7 := { stood := { row := singleBackUptoRow, standIns := [], harness := (true, "cd92a6de0725e45cb5dc8d3e9263ab809cdb190996c0487655795660f4ef588a"), looks := false }, kinds := [], alts := [], laidByText := true, laidKinds := [.data, .pinned], laidTests := true, laidLooks := .later }
def SingleBackUptoCardSaid : Prop := Claim7.holds Tryd.pinned (.plain (OpenSpec.upto singleBackSpec)) singleBackUptoCard

/-- THE SECOND FORM's CARD OF 'scholiumlaw05.SingleApart'. -/
def singleApartUptoCard : Claim7 := { stood := { row := singleApartUptoRow, standIns := [], harness := (true, "cd92a6de0725e45cb5dc8d3e9263ab809cdb190996c0487655795660f4ef588a"), looks := false }, kinds := [], alts := [], laidByText := true, laidKinds := [.data, .pinned], laidTests := true, laidLooks := .later }
def SingleApartUptoCardSaid : Prop := Claim7.holds Tryd.pinned (.plain (OpenSpec.upto singleApartSpec)) singleApartUptoCard
end Rows
end Go.Proofs.YtpgcjcggnfagfaaDoor
