/-
  DERIVED. GIVEN WITH THE SEED: THE CARDS: each row of YtlojfbmngippaaaDoorRows.lean that lists a variable, with what it lists TIED to the program's text (the seventh form; the later family's looks); each row that meets fmt, with fmt's text TOLD by the authors' own Lean function (tested against real Go, not proved from fmt's source: count such statements apart). THE CARD IS WHAT COUNTS. Prove the row's statement (the work); the ties are given (YtlojfbmngippaaaDoorTie.lean); close each card by the builder's one call (the guide's Derived/Test/ToyasCard.lean, 'card_holds'). Laid BY PROGRAM, IN A SANDBOX (cutbox-door.mjs). By AI agents, Wed Nov 11 2026. No macro, syntax, notation, axiom, sorry.
-/
import Derived.Test.YtlojfbmngippaaaDoorRows
import GoSem.ClaimSeven
namespace Go.Proofs.YtlojfbmngippaaaDoor
namespace Rows

/-- THE TIED CARD OF 'nomenclatorlaw03.NameBack'. -/
def nameBackCard : Claim7 := { stood := { row := nameBackRow, standIns := [], harness := (true, "8012ad7f1e618e987655223dd6e40973e5088448971bb0c68dffb7c498c0cd98"), looks := false }, kinds := [], alts := [], laidByText := true, laidKinds := [.data, .data, .data, .pinned, .pinned], laidTests := true, laidLooks := .later }
def NameBackCardSaid : Prop := Claim7.holds Tryd.pinned (.plain (OpenSpec.ofChange nameBackSpec)) nameBackCard

/-- THE TIED CARD OF 'nomenclatorlaw03.NamePlain'. -/
def namePlainCard : Claim7 := { stood := { row := namePlainRow, standIns := [], harness := (true, "8012ad7f1e618e987655223dd6e40973e5088448971bb0c68dffb7c498c0cd98"), looks := false }, kinds := [], alts := [], laidByText := true, laidKinds := [.data, .data, .data, .pinned, .pinned], laidTests := true, laidLooks := .later }
def NamePlainCardSaid : Prop := Claim7.holds Tryd.pinned (.plain (OpenSpec.ofChange namePlainSpec)) namePlainCard

/-- THE TIED CARD OF 'nomenclatorlaw03.NameRunes'. -/
def nameRunesCard : Claim7 := { stood := { row := nameRunesRow, standIns := [], harness := (true, "8012ad7f1e618e987655223dd6e40973e5088448971bb0c68dffb7c498c0cd98"), looks := false }, kinds := [], alts := [], laidByText := true, laidKinds := [.data, .data, .data, .pinned, .pinned], laidTests := true, laidLooks := .later }
def NameRunesCardSaid : Prop := Claim7.holds Tryd.pinned (.plain (OpenSpec.ofChange nameRunesSpec)) nameRunesCard

/-- THE TIED CARD OF 'nomenclatorlaw03.NameCapitals'. -/
def nameCapitalsCard : Claim7 := { stood := { row := nameCapitalsRow, standIns := [], harness := (true, "8012ad7f1e618e987655223dd6e40973e5088448971bb0c68dffb7c498c0cd98"), looks := false }, kinds := [], alts := [], laidByText := true, laidKinds := [.data, .data, .data, .pinned, .pinned], laidTests := true, laidLooks := .later }
def NameCapitalsCardSaid : Prop := Claim7.holds Tryd.pinned (.plain (OpenSpec.ofChange nameCapitalsSpec)) nameCapitalsCard

/-- THE TIED CARD OF 'nomenclatorlaw03.NameParts'. -/
def namePartsCard : Claim7 := { stood := { row := namePartsRow, standIns := [], harness := (true, "8012ad7f1e618e987655223dd6e40973e5088448971bb0c68dffb7c498c0cd98"), looks := false }, kinds := [], alts := [], laidByText := true, laidKinds := [.data, .data, .data, .pinned, .pinned], laidTests := true, laidLooks := .later }
def NamePartsCardSaid : Prop := Claim7.holds Tryd.pinned (.plain (OpenSpec.ofChange namePartsSpec)) namePartsCard

/-- THE TIED CARD OF 'nomenclatorlaw03.NameReads'. -/
def nameReadsCard : Claim7 := { stood := { row := nameReadsRow, standIns := [], harness := (true, "8012ad7f1e618e987655223dd6e40973e5088448971bb0c68dffb7c498c0cd98"), looks := false }, kinds := [], alts := [], laidByText := true, laidKinds := [.data, .data, .data, .pinned, .pinned], laidTests := true, laidLooks := .later }
def NameReadsCardSaid : Prop := Claim7.holds Tryd.pinned (.plain (OpenSpec.ofChange nameReadsSpec)) nameReadsCard

/-- THE TIED CARD OF 'nomenclatorlaw03.NameLong'. -/
def nameLongCard : Claim7 := { stood := { row := nameLongRow, standIns := [], harness := (true, "8012ad7f1e618e987655223dd6e40973e5088448971bb0c68dffb7c498c0cd98"), looks := false }, kinds := [], alts := [], laidByText := true, laidKinds := [.data, .data, .data, .pinned, .pinned], laidTests := true, laidLooks := .later }
def NameLongCardSaid : Prop := Claim7.holds Tryd.pinned (.plain (OpenSpec.ofChange nameLongSpec)) nameLongCard

/-- THE TIED CARD OF 'nomenclatorlaw03.NameRight'. -/
def nameRightCard : Claim7 := { stood := { row := nameRightRow, standIns := [], harness := (true, "8012ad7f1e618e987655223dd6e40973e5088448971bb0c68dffb7c498c0cd98"), looks := false }, kinds := [], alts := [], laidByText := true, laidKinds := [.data, .data, .data, .pinned, .pinned], laidTests := true, laidLooks := .later }
def NameRightCardSaid : Prop := Claim7.holds Tryd.pinned (.plain (OpenSpec.ofChange nameRightSpec)) nameRightCard

/-- THE TIED CARD OF 'nomenclatorlaw12.CandLists'. -/
def candListsCard : Claim7 := { stood := { row := candListsRow, standIns := [], harness := (true, "8012ad7f1e618e987655223dd6e40973e5088448971bb0c68dffb7c498c0cd98"), looks := false }, kinds := [], alts := [], laidByText := true, laidKinds := [.data, .data, .data, .pinned, .pinned], laidTests := true, laidLooks := .later }
def CandListsCardSaid : Prop := Claim7.holds Tryd.pinned (.plain (OpenSpec.ofChange candListsSpec)) candListsCard

/-- THE TIED CARD OF 'nomenclatorlaw12.CandNames'. -/
def candNamesCard : Claim7 := { stood := { row := candNamesRow, standIns := [], harness := (true, "8012ad7f1e618e987655223dd6e40973e5088448971bb0c68dffb7c498c0cd98"), looks := false }, kinds := [], alts := [], laidByText := true, laidKinds := [.data, .data, .data, .pinned, .pinned], laidTests := true, laidLooks := .later }
def CandNamesCardSaid : Prop := Claim7.holds Tryd.pinned (.plain (OpenSpec.ofChange candNamesSpec)) candNamesCard

/-- THE TIED CARD OF 'nomenclatorlaw12.CandDots'. -/
def candDotsCard : Claim7 := { stood := { row := candDotsRow, standIns := [], harness := (true, "8012ad7f1e618e987655223dd6e40973e5088448971bb0c68dffb7c498c0cd98"), looks := false }, kinds := [], alts := [], laidByText := true, laidKinds := [.data, .data, .data, .pinned, .pinned], laidTests := true, laidLooks := .later }
def CandDotsCardSaid : Prop := Claim7.holds Tryd.pinned (.plain (OpenSpec.ofChange candDotsSpec)) candDotsCard

/-- THE TIED CARD OF 'nomenclatorlaw12.CandLong'. -/
def candLongCard : Claim7 := { stood := { row := candLongRow, standIns := [], harness := (true, "8012ad7f1e618e987655223dd6e40973e5088448971bb0c68dffb7c498c0cd98"), looks := false }, kinds := [], alts := [], laidByText := true, laidKinds := [.data, .data, .data, .pinned, .pinned], laidTests := true, laidLooks := .later }
def CandLongCardSaid : Prop := Claim7.holds Tryd.pinned (.plain (OpenSpec.ofChange candLongSpec)) candLongCard

/-- THE SECOND FORM's CARD OF 'nomenclatorlaw03.NameBack'. -/
def nameBackUptoCard : Claim7 := { stood := { row := nameBackUptoRow, standIns := [], harness := (true, "8012ad7f1e618e987655223dd6e40973e5088448971bb0c68dffb7c498c0cd98"), looks := false }, kinds := [], alts := [], laidByText := true, laidKinds := [.data, .data, .data, .pinned, .pinned], laidTests := true, laidLooks := .later }
def NameBackUptoCardSaid : Prop := Claim7.holds Tryd.pinned (.plain (OpenSpec.upto nameBackSpec)) nameBackUptoCard

/-- THE SECOND FORM's CARD OF 'nomenclatorlaw03.NamePlain'. -/
def namePlainUptoCard : Claim7 := { stood := { row := namePlainUptoRow, standIns := [], harness := (true, "8012ad7f1e618e987655223dd6e40973e5088448971bb0c68dffb7c498c0cd98"), looks := false }, kinds := [], alts := [], laidByText := true, laidKinds := [.data, .data, .data, .pinned, .pinned], laidTests := true, laidLooks := .later }
def NamePlainUptoCardSaid : Prop := Claim7.holds Tryd.pinned (.plain (OpenSpec.upto namePlainSpec)) namePlainUptoCard

/-- THE SECOND FORM's CARD OF 'nomenclatorlaw03.NameRunes'. -/
def nameRunesUptoCard : Claim7 := { stood := { row := nameRunesUptoRow, standIns := [], harness := (true, "8012ad7f1e618e987655223dd6e40973e5088448971bb0c68dffb7c498c0cd98"), looks := false }, kinds := [], alts := [], laidByText := true, laidKinds := [.data, .data, .data, .pinned, .pinned], laidTests := true, laidLooks := .later }
def NameRunesUptoCardSaid : Prop := Claim7.holds Tryd.pinned (.plain (OpenSpec.upto nameRunesSpec)) nameRunesUptoCard

/-- THE SECOND FORM's CARD OF 'nomenclatorlaw03.NameCapitals'. -/
def nameCapitalsUptoCard : Claim7 := { stood := { row := nameCapitalsUptoRow, standIns := [], harness := (true, "8012ad7f1e618e987655223dd6e40973e5088448971bb0c68dffb7c498c0cd98"), looks := false }, kinds := [], alts := [], laidByText := true, laidKinds := [.data, .data, .data, .pinned, .pinned], laidTests := true, laidLooks := .later }
def NameCapitalsUptoCardSaid : Prop := Claim7.holds Tryd.pinned (.plain (OpenSpec.upto nameCapitalsSpec)) nameCapitalsUptoCard

/-- THE SECOND FORM's CARD OF 'nomenclatorlaw03.NameParts'. -/
def namePartsUptoCard : Claim7 := { stood := { row := namePartsUptoRow, standIns := [], harness := (true, "8012ad7f1e618e987655223dd6e40973e5088448971bb0c68dffb7c498c0cd98"), looks := false }, kinds := [], alts := [], laidByText := true, laidKinds := [.data, .data, .data, .pinned, .pinned], laidTests := true, laidLooks := .later }
def NamePartsUptoCardSaid : Prop := Claim7.holds Tryd.pinned (.plain (OpenSpec.upto namePartsSpec)) namePartsUptoCard

/-- THE SECOND FORM's CARD OF 'nomenclatorlaw03.NameReads'. -/
def nameReadsUptoCard : Claim7 := { stood := { row := nameReadsUptoRow, standIns := [], harness := (true, "8012ad7f1e618e987655223dd6e40973e5088448971bb0c68dffb7c498c0cd98"), looks := false }, kinds := [], alts := [], laidByText := true, laidKinds := [.data, .data, .data, .pinned, .pinned], laidTests := true, laidLooks := .later }
def NameReadsUptoCardSaid : Prop := Claim7.holds Tryd.pinned (.plain (OpenSpec.upto nameReadsSpec)) nameReadsUptoCard

/-- THE SECOND FORM's CARD OF 'nomenclatorlaw03.NameLong'. -/
def nameLongUptoCard : Claim7 := { stood := { row := nameLongUptoRow, standIns := [], harness := (true, "8012ad7f1e618e987655223dd6e40973e5088448971bb0c68dffb7c498c0cd98"), looks := false }, kinds := [], alts := [], laidByText := true, laidKinds := [.data, .data, .data, .pinned, .pinned], laidTests := true, laidLooks := .later }
def NameLongUptoCardSaid : Prop := Claim7.holds Tryd.pinned (.plain (OpenSpec.upto nameLongSpec)) nameLongUptoCard

/-- THE SECOND FORM's CARD OF 'nomenclatorlaw03.NameRight'. -/
def nameRightUptoCard : Claim7 := { stood := { row := nameRightUptoRow, standIns := [], harness := (true, "8012ad7f1e618e987655223dd6e40973e5088448971bb0c68dffb7c498c0cd98"), looks := false }, kinds := [], alts := [], laidByText := true, laidKinds := [.data, .data, .data, .pinned, .pinned], laidTests := true, laidLooks := .later }
def NameRightUptoCardSaid : Prop := Claim7.holds Tryd.pinned (.plain (OpenSpec.upto nameRightSpec)) nameRightUptoCard

/-- THE SECOND FORM's CARD OF 'nomenclatorlaw12.CandLists'. -/
def candListsUptoCard : Claim7 := { stood := { row := candListsUptoRow, standIns := [], harness := (true, "8012ad7f1e618e987655223dd6e40973e5088448971bb0c68dffb7c498c0cd98"), looks := false }, kinds := [], alts := [], laidByText := true, laidKinds := [.data, .data, .data, .pinned, .pinned], laidTests := true, laidLooks := .later }
def CandListsUptoCardSaid : Prop := Claim7.holds Tryd.pinned (.plain (OpenSpec.upto candListsSpec)) candListsUptoCard

/-- THE SECOND FORM's CARD OF 'nomenclatorlaw12.CandNames'. -/
def candNamesUptoCard : Claim7 := { stood := { row := candNamesUptoRow, standIns := [], harness := (true, "8012ad7f1e618e987655223dd6e40973e5088448971bb0c68dffb7c498c0cd98"), looks := false }, kinds := [], alts := [], laidByText := true, laidKinds := [.data, .data, .data, .pinned, .pinned], laidTests := true, laidLooks := .later }
def CandNamesUptoCardSaid : Prop := Claim7.holds Tryd.pinned (.plain (OpenSpec.upto candNamesSpec)) candNamesUptoCard

/-- THE SECOND FORM's CARD OF 'nomenclatorlaw12.CandDots'. -/
def candDotsUptoCard : Claim7 := { stood := { row := candDotsUptoRow, standIns := [], harness := (true, "8012ad7f1e618e987655223dd6e40973e5088448971bb0c68dffb7c498c0cd98"), looks := false }, kinds := [], alts := [], laidByText := true, laidKinds := [.data, .data, .data, .pinned, .pinned], laidTests := true, laidLooks := .later }
def CandDotsUptoCardSaid : Prop := Claim7.holds Tryd.pinned (.plain (OpenSpec.upto candDotsSpec)) candDotsUptoCard

/-- THE SECOND FORM's CARD OF 'nomenclatorlaw12.CandLong'. -/
def candLongUptoCard : Claim7 := { stood := { row := candLongUptoRow, standIns := [], harness := (true, "8012ad7f1e618e987655223dd6e40973e5088448971bb0c68dffb7c498c0cd98"), looks := false }, kinds := [], alts := [], laidByText := true, laidKinds := [.data, .data, .data, .pinned, .pinned], laidTests := true, laidLooks := .later }
def CandLongUptoCardSaid : Prop := Claim7.holds Tryd.pinned (.plain (OpenSpec.upto candLongSpec)) candLongUptoCard
end Rows
end Go.Proofs.YtlojfbmngippaaaDoor
