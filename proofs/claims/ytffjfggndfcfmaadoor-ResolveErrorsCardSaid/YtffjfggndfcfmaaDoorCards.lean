/-
  DERIVED. GIVEN WITH THE SEED: THE CARDS: each row of YtffjfggndfcfmaaDoorRows.lean that lists a variable, with what it lists TIED to the program's text (the seventh form; the later family's looks); each row that meets fmt, with fmt's text TOLD by the authors' own Lean function (tested against real Go, not proved from fmt's source: count such statements apart). THE CARD IS WHAT COUNTS. Prove the row's statement (the work); the ties are given (YtffjfggndfcfmaaDoorTie.lean); close each card by the builder's one call (the guide's Derived/Test/ToyasCard.lean, 'card_holds'). Laid BY PROGRAM, IN A SANDBOX (cutbox-door.mjs). By AI agents, Wed Nov 11 2026. No macro, syntax, notation, axiom, sorry.
-/
import Derived.Test.YtffjfggndfcfmaaDoorRows
import GoSem.ClaimSeven
namespace Go.Proofs.YtffjfggndfcfmaaDoor
namespace Rows

/-- THE TIED CARD OF 'nomenclatorlaw16.ResolveErrors'. -/
def resolveErrorsCard : Claim7 := { stood := { row := resolveErrorsRow, standIns := [], harness := (true, "4c281357f232de82e160fe313ae1f138804fb93a6b797f2e910d086cf8c41d79"), looks := true }, kinds := [], alts := [], laidByText := true, laidKinds := [.data, .data, .data, .handle], laidTests := true, laidLooks := .later }
def ResolveErrorsCardSaid : Prop := Claim7.holds Tryd.pinned (.plain (OpenSpec.ofChange resolveErrorsSpec)) resolveErrorsCard

/-- THE TIED CARD OF 'nomenclatorlaw12.CandLists'. -/
def candListsCard : Claim7 := { stood := { row := candListsRow, standIns := [], harness := (true, "4c281357f232de82e160fe313ae1f138804fb93a6b797f2e910d086cf8c41d79"), looks := true }, kinds := [], alts := [], laidByText := true, laidKinds := [.data, .data, .data, .pinned, .pinned], laidTests := true, laidLooks := .later }
def CandListsCardSaid : Prop := Claim7.holds Tryd.pinned (.plain (OpenSpec.ofChange candListsSpec)) candListsCard

/-- THE TIED CARD OF 'nomenclatorlaw12.CandNames'. -/
def candNamesCard : Claim7 := { stood := { row := candNamesRow, standIns := [], harness := (true, "4c281357f232de82e160fe313ae1f138804fb93a6b797f2e910d086cf8c41d79"), looks := true }, kinds := [], alts := [], laidByText := true, laidKinds := [.data, .data, .data, .pinned, .pinned], laidTests := true, laidLooks := .later }
def CandNamesCardSaid : Prop := Claim7.holds Tryd.pinned (.plain (OpenSpec.ofChange candNamesSpec)) candNamesCard

/-- THE TIED CARD OF 'nomenclatorlaw12.CandDots'. -/
def candDotsCard : Claim7 := { stood := { row := candDotsRow, standIns := [], harness := (true, "4c281357f232de82e160fe313ae1f138804fb93a6b797f2e910d086cf8c41d79"), looks := true }, kinds := [], alts := [], laidByText := true, laidKinds := [.data, .data, .data, .pinned, .pinned], laidTests := true, laidLooks := .later }
def CandDotsCardSaid : Prop := Claim7.holds Tryd.pinned (.plain (OpenSpec.ofChange candDotsSpec)) candDotsCard

/-- THE TIED CARD OF 'nomenclatorlaw12.CandLong'. -/
def candLongCard : Claim7 := { stood := { row := candLongRow, standIns := [], harness := (true, "4c281357f232de82e160fe313ae1f138804fb93a6b797f2e910d086cf8c41d79"), looks := true }, kinds := [], alts := [], laidByText := true, laidKinds := [.data, .data, .data, .pinned, .pinned], laidTests := true, laidLooks := .later }
def CandLongCardSaid : Prop := Claim7.holds Tryd.pinned (.plain (OpenSpec.ofChange candLongSpec)) candLongCard

/-- THE SECOND FORM's CARD OF 'nomenclatorlaw16.ResolveErrors'. -/
def resolveErrorsUptoCard : Claim7 := { stood := { row := resolveErrorsUptoRow, standIns := [], harness := (true, "4c281357f232de82e160fe313ae1f138804fb93a6b797f2e910d086cf8c41d79"), looks := true }, kinds := [], alts := [], laidByText := true, laidKinds := [.data, .data, .data, .handle], laidTests := true, laidLooks := .later }
def ResolveErrorsUptoCardSaid : Prop := Claim7.holds Tryd.pinned (.plain (OpenSpec.upto resolveErrorsSpec)) resolveErrorsUptoCard

/-- THE SECOND FORM's CARD OF 'nomenclatorlaw12.CandLists'. -/
def candListsUptoCard : Claim7 := { stood := { row := candListsUptoRow, standIns := [], harness := (true, "4c281357f232de82e160fe313ae1f138804fb93a6b797f2e910d086cf8c41d79"), looks := true }, kinds := [], alts := [], laidByText := true, laidKinds := [.data, .data, .data, .pinned, .pinned], laidTests := true, laidLooks := .later }
def CandListsUptoCardSaid : Prop := Claim7.holds Tryd.pinned (.plain (OpenSpec.upto candListsSpec)) candListsUptoCard

/-- THE SECOND FORM's CARD OF 'nomenclatorlaw12.CandNames'. -/
def candNamesUptoCard : Claim7 := { stood := { row := candNamesUptoRow, standIns := [], harness := (true, "4c281357f232de82e160fe313ae1f138804fb93a6b797f2e910d086cf8c41d79"), looks := true }, kinds := [], alts := [], laidByText := true, laidKinds := [.data, .data, .data, .pinned, .pinned], laidTests := true, laidLooks := .later }
def CandNamesUptoCardSaid : Prop := Claim7.holds Tryd.pinned (.plain (OpenSpec.upto candNamesSpec)) candNamesUptoCard

/-- THE SECOND FORM's CARD OF 'nomenclatorlaw12.CandDots'. -/
def candDotsUptoCard : Claim7 := { stood := { row := candDotsUptoRow, standIns := [], harness := (true, "4c281357f232de82e160fe313ae1f138804fb93a6b797f2e910d086cf8c41d79"), looks := true }, kinds := [], alts := [], laidByText := true, laidKinds := [.data, .data, .data, .pinned, .pinned], laidTests := true, laidLooks := .later }
def CandDotsUptoCardSaid : Prop := Claim7.holds Tryd.pinned (.plain (OpenSpec.upto candDotsSpec)) candDotsUptoCard

/-- THE SECOND FORM's CARD OF 'nomenclatorlaw12.CandLong'. -/
def candLongUptoCard : Claim7 := { stood := { row := candLongUptoRow, standIns := [], harness := (true, "4c281357f232de82e160fe313ae1f138804fb93a6b797f2e910d086cf8c41d79"), looks := true }, kinds := [], alts := [], laidByText := true, laidKinds := [.data, .data, .data, .pinned, .pinned], laidTests := true, laidLooks := .later }
def CandLongUptoCardSaid : Prop := Claim7.holds Tryd.pinned (.plain (OpenSpec.upto candLongSpec)) candLongUptoCard
end Rows
end Go.Proofs.YtffjfggndfcfmaaDoor
