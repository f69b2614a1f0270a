/-
  DERIVED. GIVEN WITH THE SEED: THE CARDS: each row of YtnapopfbmdghkaaDoorRows.lean that lists a variable, with what it lists TIED to the program's text (the seventh form; the later family's looks); each row that meets fmt, with fmt's text TOLD by the authors' own Lean function (tested against real Go, not proved from fmt's source: count such statements apart). THE CARD IS WHAT COUNTS. Prove the row's statement (the work); the ties are given (YtnapopfbmdghkaaDoorTie.lean); close each card by the builder's one call (the guide's Derived/Test/ToyasCard.lean, 'card_holds'). Laid BY PROGRAM, IN A SANDBOX (cutbox-door.mjs). By AI agents, Wed Nov 11 2026. No macro, syntax, notation, axiom, sorry.
-/
import Derived.Test.YtnapopfbmdghkaaDoorRows
import GoSem.ClaimSeven
namespace Go.Proofs.YtnapopfbmdghkaaDoor
namespace Rows

/-- THE TIED CARD OF 'scholiumlaw01.CharsBack'. -/
def charsBackCard : Claim7 := { stood := { row := charsBackRow, standIns := [], harness := (true, "5d9449411322f9da09e11eb00819cb6f718df6f666a22fb8a745e4b594554d8f"), looks := false }, kinds := [], alts := [], laidByText := true, laidKinds := [.data, .pinned], laidTests := true, laidLooks := .later }
def CharsBackCardSaid : Prop := Claim7.holds Tryd.pinned (.plain (OpenSpec.ofChange charsBackSpec)) charsBackCard

/-- THE TIED CARD OF 'scholiumlaw01.CharsReturns'. -/
def charsReturnsCard : Claim7 := { stood := { row := charsReturnsRow, standIns := [], harness := (true, "5d9449411322f9da09e11eb00819cb6f718df6f666a22fb8a745e4b594554d8f"), looks := false }, kinds := [], alts := [], laidByText := true, laidKinds := [.data, .pinned], laidTests := true, laidLooks := .later }
def CharsReturnsCardSaid : Prop := Claim7.holds Tryd.pinned (.plain (OpenSpec.ofChange charsReturnsSpec)) charsReturnsCard

/-- THE TIED CARD OF 'scholiumlaw01.CharsNames'. -/
def charsNamesCard : Claim7 := { stood := { row := charsNamesRow, standIns := [], harness := (true, "5d9449411322f9da09e11eb00819cb6f718df6f666a22fb8a745e4b594554d8f"), looks := false }, kinds := [], alts := [], laidByText := true, laidKinds := [.data, .pinned], laidTests := true, laidLooks := .later }
def CharsNamesCardSaid : Prop := Claim7.holds Tryd.pinned (.plain (OpenSpec.ofChange charsNamesSpec)) charsNamesCard

/-- THE TIED CARD OF 'scholiumlaw01.CharsRunes'. -/
def charsRunesCard : Claim7 := { stood := { row := charsRunesRow, standIns := [], harness := (true, "5d9449411322f9da09e11eb00819cb6f718df6f666a22fb8a745e4b594554d8f"), looks := false }, kinds := [], alts := [], laidByText := true, laidKinds := [.data, .pinned], laidTests := true, laidLooks := .later }
def CharsRunesCardSaid : Prop := Claim7.holds Tryd.pinned (.plain (OpenSpec.ofChange charsRunesSpec)) charsRunesCard

/-- THE TIED CARD OF 'scholiumlaw01.CharsWhole'. -/
def charsWholeCard : Claim7 := { stood := { row := charsWholeRow, standIns := [], harness := (true, "5d9449411322f9da09e11eb00819cb6f718df6f666a22fb8a745e4b594554d8f"), looks := false }, kinds := [], alts := [], laidByText := true, laidKinds := [.data, .pinned], laidTests := true, laidLooks := .later }
def CharsWholeCardSaid : Prop := Claim7.holds Tryd.pinned (.plain (OpenSpec.ofChange charsWholeSpec)) charsWholeCard

/-- THE TIED CARD OF 'scholiumlaw01.CharsLong'. -/
def charsLongCard : Claim7 := { stood := { row := charsLongRow, standIns := [], harness := (true, "5d9449411322f9da09e11eb00819cb6f718df6f666a22fb8a745e4b594554d8f"), looks := false }, kinds := [], alts := [], laidByText := true, laidKinds := [.data, .pinned], laidTests := true, laidLooks := .later }
def CharsLongCardSaid : Prop := Claim7.holds Tryd.pinned (.plain (OpenSpec.ofChange charsLongSpec)) charsLongCard

/-- THE TIED CARD OF 'scholiumlaw01.CharsKinds'. -/
def charsKindsCard : Claim7 := { stood := { row := charsKindsRow, standIns := [], harness := (true, "5d9449411322f9da09e11eb00819cb6f718df6f666a22fb8a745e4b594554d8f"), looks := false }, kinds := [], alts := [], laidByText := true, laidKinds := [.data, .pinned], laidTests := true, laidLooks := .later }
def CharsKindsCardSaid : Prop := Claim7.holds Tryd.pinned (.plain (OpenSpec.ofChange charsKindsSpec)) charsKindsCard

/-- THE TIED CARD OF 'scholiumlaw01.CharsChecks'. -/
def charsChecksCard : Claim7 := { stood := { row := charsChecksRow, standIns := [], harness := (true, "5d9449411322f9da09e11eb00819cb6f718df6f666a22fb8a745e4b594554d8f"), looks := false }, kinds := [], alts := [], laidByText := true, laidKinds := [.data, .pinned], laidTests := true, laidLooks := .later }
def CharsChecksCardSaid : Prop := Claim7.holds Tryd.pinned (.plain (OpenSpec.ofChange charsChecksSpec)) charsChecksCard

/-- THE TIED CARD OF 'scholiumlaw02.LinesBlanks'. -/
def linesBlanksCard : Claim7 := { stood := { row := linesBlanksRow, standIns := [], harness := (true, "5d9449411322f9da09e11eb00819cb6f718df6f666a22fb8a745e4b594554d8f"), looks := false }, kinds := [], alts := [], laidByText := true, laidKinds := [.data, .pinned], laidTests := true, laidLooks := .later }
def LinesBlanksCardSaid : Prop := Claim7.holds Tryd.pinned (.plain (OpenSpec.ofChange linesBlanksSpec)) linesBlanksCard

/-- THE TIED CARD OF 'scholiumlaw02.LinesSplit'. -/
def linesSplitCard : Claim7 := { stood := { row := linesSplitRow, standIns := [], harness := (true, "5d9449411322f9da09e11eb00819cb6f718df6f666a22fb8a745e4b594554d8f"), looks := false }, kinds := [], alts := [], laidByText := true, laidKinds := [.data, .pinned], laidTests := true, laidLooks := .later }
def LinesSplitCardSaid : Prop := Claim7.holds Tryd.pinned (.plain (OpenSpec.ofChange linesSplitSpec)) linesSplitCard

/-- THE SECOND FORM's CARD OF 'scholiumlaw01.CharsBack'. -/
def charsBackUptoCard : Claim7 := { stood := { row := charsBackUptoRow, standIns := [], harness := (true, "5d9449411322f9da09e11eb00819cb6f718df6f666a22fb8a745e4b594554d8f"), looks := false }, kinds := [], alts := [], laidByText := true, laidKinds := [.data, .pinned], laidTests := true, laidLooks := .later }
def CharsBackUptoCardSaid : Prop := Claim7.holds Tryd.pinned (.plain (OpenSpec.upto charsBackSpec)) charsBackUptoCard

/-- THE SECOND FORM's CARD OF 'scholiumlaw01.CharsReturns'. -/
def charsReturnsUptoCard : Claim7 := { stood := { row := charsReturnsUptoRow, standIns := [], harness := (true, "5d9449411322f9da09e11eb00819cb6f718df6f666a22fb8a745e4b594554d8f"), looks := false }, kinds := [], alts := [], laidByText := true, laidKinds := [.data, .pinned], laidTests := true, laidLooks := .later }
def CharsReturnsUptoCardSaid : Prop := Claim7.holds Tryd.pinned (.plain (OpenSpec.upto charsReturnsSpec)) charsReturnsUptoCard

/-- THE SECOND FORM's CARD OF 'scholiumlaw01.CharsNames'. -/
def charsNamesUptoCard : Claim7 := { stood := { row := charsNamesUptoRow, standIns := [], harness := (true, "5d9449411322f9da09e11eb00819cb6f718df6f666a22fb8a745e4b594554d8f"), looks := false }, kinds := [], alts := [], laidByText := true, laidKinds := [.data, .pinned], laidTests := true, laidLooks := .later }
def CharsNamesUptoCardSaid : Prop := Claim7.holds Tryd.pinned (.plain (OpenSpec.upto charsNamesSpec)) charsNamesUptoCard

/-- THE SECOND FORM's CARD OF 'scholiumlaw01.CharsRunes'. -/
def charsRunesUptoCard : Claim7 := { stood := { row := charsRunesUptoRow, standIns := [], harness := (true, "5d9449411322f9da09e11eb00819cb6f718df6f666a22fb8a745e4b594554d8f"), looks := false }, kinds := [], alts := [], laidByText := true, laidKinds := [.data, .pinned], laidTests := true, laidLooks := .later }
def CharsRunesUptoCardSaid : Prop := Claim7.holds Tryd.pinned (.plain (OpenSpec.upto charsRunesSpec)) charsRunesUptoCard

/-- THE SECOND FORM's CARD OF 'scholiumlaw01.CharsWhole'. -/
def charsWholeUptoCard : Claim7 := { stood := { row := charsWholeUptoRow, standIns := [], harness := (true, "5d9449411322f9da09e11eb00819cb6f718df6f666a22fb8a745e4b594554d8f"), looks := false }, kinds := [], alts := [], laidByText := true, laidKinds := [.data, .pinned], laidTests := true, laidLooks := .later }
def CharsWholeUptoCardSaid : Prop := Claim7.holds Tryd.pinned (.plain (OpenSpec.upto charsWholeSpec)) charsWholeUptoCard

/-- THE SECOND FORM's CARD OF 'scholiumlaw01.CharsLong'. -/
def charsLongUptoCard : Claim7 := { stood := { row := charsLongUptoRow, standIns := [], harness := (true, "5d9449411322f9da09e11eb00819cb6f718df6f666a22fb8a745e4b594554d8f"), looks := false }, kinds := [], alts := [], laidByText := true, laidKinds := [.data, .pinned], laidTests := true, laidLooks := .later }
def CharsLongUptoCardSaid : Prop := Claim7.holds Tryd.pinned (.plain (OpenSpec.upto charsLongSpec)) charsLongUptoCard

/-- THE SECOND FORM's CARD OF 'scholiumlaw01.CharsKinds'. -/
def charsKindsUptoCard : Claim7 := { stood := { row := charsKindsUptoRow, standIns := [], harness := (true, "5d9449411322f9da09e11eb00819cb6f718df6f666a22fb8a745e4b594554d8f"), looks := false }, kinds := [], alts := [], laidByText := true, laidKinds := [.data, .pinned], laidTests := true, laidLooks := .later }
def CharsKindsUptoCardSaid : Prop := Claim7.holds Tryd.pinned (.plain (OpenSpec.upto charsKindsSpec)) charsKindsUptoCard

/-- THE SECOND FORM's CARD OF 'scholiumlaw01.CharsChecks'. -/
def charsChecksUptoCard : Claim7 := { stood := { row := charsChecksUptoRow, standIns := [], harness := (true, "5d9449411322f9da09e11eb00819cb6f718df6f666a22fb8a745e4b594554d8f"), looks := false }, kinds := [], alts := [], laidByText := true, laidKinds := [.data, .pinned], laidTests := true, laidLooks := .later }
def CharsChecksUptoCardSaid : Prop := Claim7.holds Tryd.pinned (.plain (OpenSpec.upto charsChecksSpec)) charsChecksUptoCard

/-- THE SECOND FORM's CARD OF 'scholiumlaw02.LinesBlanks'. -/
def linesBlanksUptoCard : Claim7 := { stood := { row := linesBlanksUptoRow, standIns := [], harness := (true, "5d9449411322f9da09e11eb00819cb6f718df6f666a22fb8a745e4b594554d8f"), looks := false }, kinds := [], alts := [], laidByText := true, laidKinds := [.data, .pinned], laidTests := true, laidLooks := .later }
def LinesBlanksUptoCardSaid : Prop := Claim7.holds Tryd.pinned (.plain (OpenSpec.upto linesBlanksSpec)) linesBlanksUptoCard

/-- THE SECOND FORM's CARD OF 'scholiumlaw02.LinesSplit'. -/
def linesSplitUptoCard : Claim7 := { stood := { row := linesSplitUptoRow, standIns := [], harness := (true, "5d9449411322f9da09e11eb00819cb6f718df6f666a22fb8a745e4b594554d8f"), looks := false }, kinds := [], alts := [], laidByText := true, laidKinds := [.data, .pinned], laidTests := true, laidLooks := .later }
def LinesSplitUptoCardSaid : Prop := Claim7.holds Tryd.pinned (.plain (OpenSpec.upto linesSplitSpec)) linesSplitUptoCard
end Rows
end Go.Proofs.YtnapopfbmdghkaaDoor
