/-
  DERIVED. GIVEN WITH THE SEED: THE CARDS: each row of YtodkmhamaahjmaaGreatDoorRows.lean that lists a variable, with what it lists TIED to the program's text (the seventh form; the later family's looks); each row that meets fmt, with fmt's text TOLD by the authors' own Lean function (tested against real Go, not proved from fmt's source: count such statements apart). THE CARD IS WHAT COUNTS. Prove the row's statement (the work); the ties are given (YtodkmhamaahjmaaGreatDoorTie.lean); close each card by the builder's one call (the guide's Derived/Test/ToyasCard.lean, 'card_holds'). Laid BY PROGRAM, IN A SANDBOX (cutbox-door.mjs). By AI agents, Wed Nov 11 2026. No macro, syntax, notation, axiom, sorry.
-/
import Derived.Test.YtodkmhamaahjmaaGreatDoorRows
import GoSem.ClaimSeven
namespace Go.Proofs.YtodkmhamaahjmaaGreatDoor
namespace Rows

/-- THE TIED CARD OF 'glacislaw9.EditAll'. -/
def editAllCard : Claim7 := { stood := { row := editAllRow, standIns := [], harness := (true, "ef10e94eefbe9696cebf03dbd27976ff566c058e841d22a14882e868c2be2dc8"), looks := true }, kinds := [], alts := [], laidByText := true, laidKinds := [.data, .pinned], laidTests := true, laidLooks := .later }
def EditAllCardSaid : Prop := Claim7.holds Tryz.pinned (.plain (OpenSpec.ofChange editAllSpec)) editAllCard

/-- THE TIED CARD OF 'glacislaw9.EditMay'. -/
def editMayCard : Claim7 := { stood := { row := editMayRow, standIns := [], harness := (true, "ef10e94eefbe9696cebf03dbd27976ff566c058e841d22a14882e868c2be2dc8"), looks := true }, kinds := [], alts := [], laidByText := true, laidKinds := [.data, .pinned], laidTests := true, laidLooks := .later }
def EditMayCardSaid : Prop := Claim7.holds Tryz.pinned (.plain (OpenSpec.ofChange editMaySpec)) editMayCard

/-- THE TIED CARD OF 'glacislaw9.EditMoves'. -/
def editMovesCard : Claim7 := { stood := { row := editMovesRow, standIns := [], harness := (true, "ef10e94eefbe9696cebf03dbd27976ff566c058e841d22a14882e868c2be2dc8"), looks := true }, kinds := [], alts := [], laidByText := true, laidKinds := [.data, .pinned], laidTests := true, laidLooks := .later }
def EditMovesCardSaid : Prop := Claim7.holds Tryz.pinned (.plain (OpenSpec.ofChange editMovesSpec)) editMovesCard

/-- THE TIED CARD OF 'glacislaw9.EditMakes'. -/
def editMakesCard : Claim7 := { stood := { row := editMakesRow, standIns := [], harness := (true, "ef10e94eefbe9696cebf03dbd27976ff566c058e841d22a14882e868c2be2dc8"), looks := true }, kinds := [], alts := [], laidByText := true, laidKinds := [.data, .pinned], laidTests := true, laidLooks := .later }
def EditMakesCardSaid : Prop := Claim7.holds Tryz.pinned (.plain (OpenSpec.ofChange editMakesSpec)) editMakesCard

/-- THE TIED CARD OF 'glacislaw9.EditDrops'. -/
def editDropsCard : Claim7 := { stood := { row := editDropsRow, standIns := [], harness := (true, "ef10e94eefbe9696cebf03dbd27976ff566c058e841d22a14882e868c2be2dc8"), looks := true }, kinds := [], alts := [], laidByText := true, laidKinds := [.data, .pinned], laidTests := true, laidLooks := .later }
def EditDropsCardSaid : Prop := Claim7.holds Tryz.pinned (.plain (OpenSpec.ofChange editDropsSpec)) editDropsCard

/-- THE SECOND FORM's CARD OF 'glacislaw9.EditAll'. -/
def editAllUptoCard : Claim7 := { stood := { row := editAllUptoRow, standIns := [], harness := (true, "ef10e94eefbe9696cebf03dbd27976ff566c058e841d22a14882e868c2be2dc8"), looks := true }, kinds := [], alts := [], laidByText := true, laidKinds := [.data, .pinned], laidTests := true, laidLooks := .later }
def EditAllUptoCardSaid : Prop := Claim7.holds Tryz.pinned (.plain (OpenSpec.upto editAllSpec)) editAllUptoCard

/-- THE SECOND FORM's CARD OF 'glacislaw9.EditMay'. -/
def editMayUptoCard : Claim7 := { stood := { row := editMayUptoRow, standIns := [], harness := (true, "ef10e94eefbe9696cebf03dbd27976ff566c058e841d22a14882e868c2be2dc8"), looks := true }, kinds := [], alts := [], laidByText := true, laidKinds := [.data, .pinned], laidTests := true, laidLooks := .later }
def EditMayUptoCardSaid : Prop := Claim7.holds Tryz.pinned (.plain (OpenSpec.upto editMaySpec)) editMayUptoCard

/-- THE SECOND FORM's CARD OF 'glacislaw9.EditMoves'. -/
def editMovesUptoCard : Claim7 := { stood := { row := editMovesUptoRow, standIns := [], harness := (true, "ef10e94eefbe9696cebf03dbd27976ff566c058e841d22a14882e868c2be2dc8"), looks := true }, kinds := [], alts := [], laidByText := true, laidKinds := [.data, .pinned], laidTests := true, laidLooks := .later }
def EditMovesUptoCardSaid : Prop := Claim7.holds Tryz.pinned (.plain (OpenSpec.upto editMovesSpec)) editMovesUptoCard

/-- THE SECOND FORM's CARD OF 'glacislaw9.EditMakes'. -/
def editMakesUptoCard : Claim7 := { stood := { row := editMakesUptoRow, standIns := [], harness := (true, "ef10e94eefbe9696cebf03dbd27976ff566c058e841d22a14882e868c2be2dc8"), looks := true }, kinds := [], alts := [], laidByText := true, laidKinds := [.data, .pinned], laidTests := true, laidLooks := .later }
def EditMakesUptoCardSaid : Prop := Claim7.holds Tryz.pinned (.plain (OpenSpec.upto editMakesSpec)) editMakesUptoCard

/-- THE SECOND FORM's CARD OF 'glacislaw9.EditDrops'. -/
def editDropsUptoCard : Claim7 := { stood := { row := editDropsUptoRow, standIns := [], harness := (true, "ef10e94eefbe9696cebf03dbd27976ff566c058e841d22a14882e868c2be2dc8"), looks := true }, kinds := [], alts := [], laidByText := true, laidKinds := [.data, .pinned], laidTests := true, laidLooks := .later }
def EditDropsUptoCardSaid : Prop := Claim7.holds Tryz.pinned (.plain (OpenSpec.upto editDropsSpec)) editDropsUptoCard
end Rows
end Go.Proofs.YtodkmhamaahjmaaGreatDoor
