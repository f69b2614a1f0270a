/-
  DERIVED. GIVEN WITH THE SEED: THE CARDS: each row of YtmpjohnbddnehaaDoorRows.lean that lists a variable, with what it lists TIED to the program's text (the seventh form; the later family's looks); each row that meets fmt, with fmt's text TOLD by the authors' own Lean function (tested against real Go, not proved from fmt's source: count such statements apart). THE CARD IS WHAT COUNTS. Prove the row's statement (the work); the ties are given (YtmpjohnbddnehaaDoorTie.lean); close each card by the builder's one call (the guide's Derived/Test/ToyasCard.lean, 'card_holds'). Laid BY PROGRAM, IN A SANDBOX (cutbox-door.mjs). By AI agents, Wed Nov 11 2026. No macro, syntax, notation, axiom, sorry.
-/
import Derived.Test.YtmpjohnbddnehaaDoorRows
import GoSem.ClaimSeven
namespace Go.Proofs.YtmpjohnbddnehaaDoor
namespace Rows

/-- THE TIED CARD OF 'scholiumlaw10.PropsForms'. -/
def propsFormsCard : Claim7 := { stood := { row := propsFormsRow, standIns := [], harness := (true, "93720f291da6f137a7c92a73f2500cf25d60113bfe44248cb0cc8baaebb5b976"), looks := false }, kinds := [], alts := [], laidByText := true, laidKinds := [.data, .pinned], laidTests := true, laidLooks := .later }
def PropsFormsCardSaid : Prop := Claim7.holds Tryd.pinned (.plain (OpenSpec.ofChange propsFormsSpec)) propsFormsCard

/-- THE TIED CARD OF 'scholiumlaw10.PropsLong'. -/
def propsLongCard : Claim7 := { stood := { row := propsLongRow, standIns := [], harness := (true, "93720f291da6f137a7c92a73f2500cf25d60113bfe44248cb0cc8baaebb5b976"), looks := false }, kinds := [], alts := [], laidByText := true, laidKinds := [.data, .pinned], laidTests := true, laidLooks := .later }
def PropsLongCardSaid : Prop := Claim7.holds Tryd.pinned (.plain (OpenSpec.ofChange propsLongSpec)) propsLongCard

/-- THE TIED CARD OF 'scholiumlaw10.PropsAliases'. -/
def propsAliasesCard : Claim7 := { stood := { row := propsAliasesRow, standIns := [], harness := (true, "93720f291da6f137a7c92a73f2500cf25d60113bfe44248cb0cc8baaebb5b976"), looks := false }, kinds := [], alts := [], laidByText := true, laidKinds := [.data, .pinned], laidTests := true, laidLooks := .later }
def PropsAliasesCardSaid : Prop := Claim7.holds Tryd.pinned (.plain (OpenSpec.ofChange propsAliasesSpec)) propsAliasesCard

/-- THE TIED CARD OF 'scholiumlaw18.IsoForms'. -/
def isoFormsCard : Claim7 := { stood := { row := isoFormsRow, standIns := [], harness := (true, "93720f291da6f137a7c92a73f2500cf25d60113bfe44248cb0cc8baaebb5b976"), looks := false }, kinds := [], alts := [], laidByText := true, laidKinds := [.data, .pinned], laidTests := true, laidLooks := .later }
def IsoFormsCardSaid : Prop := Claim7.holds Tryd.pinned (.plain (OpenSpec.ofChange isoFormsSpec)) isoFormsCard

/-- THE TIED CARD OF 'scholiumlaw18.IsoSame'. -/
def isoSameCard : Claim7 := { stood := { row := isoSameRow, standIns := [], harness := (true, "93720f291da6f137a7c92a73f2500cf25d60113bfe44248cb0cc8baaebb5b976"), looks := false }, kinds := [], alts := [], laidByText := true, laidKinds := [.data, .pinned], laidTests := true, laidLooks := .later }
def IsoSameCardSaid : Prop := Claim7.holds Tryd.pinned (.plain (OpenSpec.ofChange isoSameSpec)) isoSameCard

/-- THE TIED CARD OF 'scholiumlaw18.IsoTurns'. -/
def isoTurnsCard : Claim7 := { stood := { row := isoTurnsRow, standIns := [], harness := (true, "93720f291da6f137a7c92a73f2500cf25d60113bfe44248cb0cc8baaebb5b976"), looks := false }, kinds := [], alts := [], laidByText := true, laidKinds := [.data, .pinned], laidTests := true, laidLooks := .later }
def IsoTurnsCardSaid : Prop := Claim7.holds Tryd.pinned (.plain (OpenSpec.ofChange isoTurnsSpec)) isoTurnsCard

/-- THE TIED CARD OF 'scholiumlaw18.IsoApart'. -/
def isoApartCard : Claim7 := { stood := { row := isoApartRow, standIns := [], harness := (true, "93720f291da6f137a7c92a73f2500cf25d60113bfe44248cb0cc8baaebb5b976"), looks := false }, kinds := [], alts := [], laidByText := true, laidKinds := [.data, .pinned], laidTests := true, laidLooks := .later }
def IsoApartCardSaid : Prop := Claim7.holds Tryd.pinned (.plain (OpenSpec.ofChange isoApartSpec)) isoApartCard

/-- THE TIED CARD OF 'scholiumlaw18.IsoTells'. -/
def isoTellsCard : Claim7 := { stood := { row := isoTellsRow, standIns := [], harness := (true, "93720f291da6f137a7c92a73f2500cf25d60113bfe44248cb0cc8baaebb5b976"), looks := false }, kinds := [], alts := [], laidByText := true, laidKinds := [.data, .pinned], laidTests := true, laidLooks := .later }
def IsoTellsCardSaid : Prop := Claim7.holds Tryd.pinned (.plain (OpenSpec.ofChange isoTellsSpec)) isoTellsCard

/-- THE TIED CARD OF 'scholiumlaw18.IsoShares'. -/
def isoSharesCard : Claim7 := { stood := { row := isoSharesRow, standIns := [], harness := (true, "93720f291da6f137a7c92a73f2500cf25d60113bfe44248cb0cc8baaebb5b976"), looks := false }, kinds := [], alts := [], laidByText := true, laidKinds := [.data, .pinned], laidTests := true, laidLooks := .later }
def IsoSharesCardSaid : Prop := Claim7.holds Tryd.pinned (.plain (OpenSpec.ofChange isoSharesSpec)) isoSharesCard

/-- THE TIED CARD OF 'scholiumlaw10.PropsBack'. -/
def propsBackCard : Claim7 := { stood := { row := propsBackRow, standIns := [], harness := (true, "93720f291da6f137a7c92a73f2500cf25d60113bfe44248cb0cc8baaebb5b976"), looks := false }, kinds := [], alts := [], laidByText := true, laidKinds := [.data, .pinned], laidTests := true, laidLooks := .later }
def PropsBackCardSaid : Prop := Claim7.holds Tryd.pinned (.plain (OpenSpec.ofChange propsBackSpec)) propsBackCard

/-- THE TIED CARD OF 'scholiumlaw10.PropsTell'. -/
def propsTellCard : Claim7 := { stood := { row := propsTellRow, standIns := [], harness := (true, "93720f291da6f137a7c92a73f2500cf25d60113bfe44248cb0cc8baaebb5b976"), looks := false }, kinds := [], alts := [], laidByText := true, laidKinds := [.data, .pinned], laidTests := true, laidLooks := .later }
def PropsTellCardSaid : Prop := Claim7.holds Tryd.pinned (.plain (OpenSpec.ofChange propsTellSpec)) propsTellCard

/-- THE SECOND FORM's CARD OF 'scholiumlaw10.PropsForms'. -/
def propsFormsUptoCard : Claim7 := { stood := { row := propsFormsUptoRow, standIns := [], harness := (true, "93720f291da6f137a7c92a73f2500cf25d60113bfe44248cb0cc8baaebb5b976"), looks := false }, kinds := [], alts := [], laidByText := true, laidKinds := [.data, .pinned], laidTests := true, laidLooks := .later }
def PropsFormsUptoCardSaid : Prop := Claim7.holds Tryd.pinned (.plain (OpenSpec.upto propsFormsSpec)) propsFormsUptoCard

/-- THE SECOND FORM's CARD OF 'scholiumlaw10.PropsLong'. -/
def propsLongUptoCard : Claim7 := { stood := { row := propsLongUptoRow, standIns := [], harness := (true, "93720f291da6f137a7c92a73f2500cf25d60113bfe44248cb0cc8baaebb5b976"), looks := false }, kinds := [], alts := [], laidByText := true, laidKinds := [.data, .pinned], laidTests := true, laidLooks := .later }
def PropsLongUptoCardSaid : Prop := Claim7.holds Tryd.pinned (.plain (OpenSpec.upto propsLongSpec)) propsLongUptoCard

/-- THE SECOND FORM's CARD OF 'scholiumlaw10.PropsAliases'. -/
def propsAliasesUptoCard : Claim7 := { stood := { row := propsAliasesUptoRow, standIns := [], harness := (true, "93720f291da6f137a7c92a73f2500cf25d60113bfe44248cb0cc8baaebb5b976"), looks := false }, kinds := [], alts := [], laidByText := true, laidKinds := [.data, .pinned], laidTests := true, laidLooks := .later }
def PropsAliasesUptoCardSaid : Prop := Claim7.holds Tryd.pinned (.plain (OpenSpec.upto propsAliasesSpec)) propsAliasesUptoCard

/-- THE SECOND FORM's CARD OF 'scholiumlaw18.IsoForms'. -/
def isoFormsUptoCard : Claim7 := { stood := { row := isoFormsUptoRow, standIns := [], harness := (true, "93720f291da6f137a7c92a73f2500cf25d60113bfe44248cb0cc8baaebb5b976"), looks := false }, kinds := [], alts := [], laidByText := true, laidKinds := [.data, .pinned], laidTests := true, laidLooks := .later }
def IsoFormsUptoCardSaid : Prop := Claim7.holds Tryd.pinned (.plain (OpenSpec.upto isoFormsSpec)) isoFormsUptoCard

/-- THE SECOND FORM's CARD OF 'scholiumlaw18.IsoSame'. -/
def isoSameUptoCard : Claim7 := { stood := { row := isoSameUptoRow, standIns := [], harness := (true, "93720f291da6f137a7c92a73f2500cf25d60113bfe44248cb0cc8baaebb5b976"), looks := false }, kinds := [], alts := [], laidByText := true, laidKinds := [.data, .pinned], laidTests := true, laidLooks := .later }
def IsoSameUptoCardSaid : Prop := Claim7.holds Tryd.pinned (.plain (OpenSpec.upto isoSameSpec)) isoSameUptoCard

/-- THE SECOND FORM's CARD OF 'scholiumlaw18.IsoTurns'. -/
def isoTurnsUptoCard : Claim7 := { stood := { row := isoTurnsUptoRow, standIns := [], harness := (true, "93720f291da6f137a7c92a73f2500cf25d60113bfe44248cb0cc8baaebb5b976"), looks := false }, kinds := [], alts := [], laidByText := true, laidKinds := [.data, .pinned], laidTests := true, laidLooks := .later }
def IsoTurnsUptoCardSaid : Prop := Claim7.holds Tryd.pinned (.plain (OpenSpec.upto isoTurnsSpec)) isoTurnsUptoCard

/-- THE SECOND FORM's CARD OF 'scholiumlaw18.IsoApart'. -/
def isoApartUptoCard : Claim7 := { stood := { row := isoApartUptoRow, standIns := [], harness := (true, "93720f291da6f137a7c92a73f2500cf25d60113bfe44248cb0cc8baaebb5b976"), looks := false }, kinds := [], alts := [], laidByText := true, laidKinds := [.data, .pinned], laidTests := true, laidLooks := .later }
def IsoApartUptoCardSaid : Prop := Claim7.holds Tryd.pinned (.plain (OpenSpec.upto isoApartSpec)) isoApartUptoCard

/-- THE SECOND FORM's CARD OF 'scholiumlaw18.IsoTells'. -/
def isoTellsUptoCard : Claim7 := { stood := { row := isoTellsUptoRow, standIns := [], harness := (true, "93720f291da6f137a7c92a73f2500cf25d60113bfe44248cb0cc8baaebb5b976"), looks := false }, kinds := [], alts := [], laidByText := true, laidKinds := [.data, .pinned], laidTests := true, laidLooks := .later }
def IsoTellsUptoCardSaid : Prop := Claim7.holds Tryd.pinned (.plain (OpenSpec.upto isoTellsSpec)) isoTellsUptoCard

/-- THE SECOND FORM's CARD OF 'scholiumlaw18.IsoShares'. -/
def isoSharesUptoCard : Claim7 := { stood := { row := isoSharesUptoRow, standIns := [], harness := (true, "93720f291da6f137a7c92a73f2500cf25d60113bfe44248cb0cc8baaebb5b976"), looks := false }, kinds := [], alts := [], laidByText := true, laidKinds := [.data, .pinned], laidTests := true, laidLooks := .later }
def IsoSharesUptoCardSaid : Prop := Claim7.holds Tryd.pinned (.plain (OpenSpec.upto isoSharesSpec)) isoSharesUptoCard

/-- THE SECOND FORM's CARD OF 'scholiumlaw10.PropsBack'. -/
def propsBackUptoCard : Claim7 := { stood := { row := propsBackUptoRow, standIns := [], harness := (true, "93720f291da6f137a7c92a73f2500cf25d60113bfe44248cb0cc8baaebb5b976"), looks := false }, kinds := [], alts := [], laidByText := true, laidKinds := [.data, .pinned], laidTests := true, laidLooks := .later }
def PropsBackUptoCardSaid : Prop := Claim7.holds Tryd.pinned (.plain (OpenSpec.upto propsBackSpec)) propsBackUptoCard

/-- THE SECOND FORM's CARD OF 'scholiumlaw10.PropsTell'. -/
def propsTellUptoCard : Claim7 := { stood := { row := propsTellUptoRow, standIns := [], harness := (true, "93720f291da6f137a7c92a73f2500cf25d60113bfe44248cb0cc8baaebb5b976"), looks := false }, kinds := [], alts := [], laidByText := true, laidKinds := [.data, .pinned], laidTests := true, laidLooks := .later }
def PropsTellUptoCardSaid : Prop := Claim7.holds Tryd.pinned (.plain (OpenSpec.upto propsTellSpec)) propsTellUptoCard
end Rows
end Go.Proofs.YtmpjohnbddnehaaDoor
