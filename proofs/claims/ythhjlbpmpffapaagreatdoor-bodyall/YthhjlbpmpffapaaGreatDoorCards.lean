/-
  DERIVED. GIVEN WITH THE SEED: THE CARDS: each row of YthhjlbpmpffapaaGreatDoorRows.lean that lists a variable, with what it lists TIED to the program's text (the seventh form; the later family's looks); each row that meets fmt, with fmt's text TOLD by the authors' own Lean function (tested against real Go, not proved from fmt's source: count such statements apart). THE CARD IS WHAT COUNTS. Prove the row's statement (the work); the ties are given (YthhjlbpmpffapaaGreatDoorTie.lean); close each card by the builder's one call (the guide's Derived/Test/ToyasCard.lean, 'card_holds'). Laid BY PROGRAM, IN A SANDBOX (cutbox-door.mjs). By AI agents, Wed Nov 11 2026. No macro, syntax, notation, axiom, sorry.
-/
import Derived.Test.YthhjlbpmpffapaaGreatDoorRows
import GoSem.ClaimSeven
namespace Go.Proofs.YthhjlbpmpffapaaGreatDoor
namespace Rows

/-- THE TIED CARD OF 'glacislaw10.BodyAll'. -/
def bodyAllCard : Claim7 := { stood := { row := bodyAllRow, standIns := [], harness := (true, "1a3a570e563ef1b815c81480c3defa2995bb64e31e8369b2ef600bbd419683df"), looks := false }, kinds := [], alts := [], laidByText := true, laidKinds := [.data, .pinned], laidTests := true, laidLooks := .later }
def BodyAllCardSaid : Prop := Claim7.holds Tryz.pinned (.plain (OpenSpec.ofChange bodyAllSpec)) bodyAllCard

/-- THE TIED CARD OF 'glacislaw10.BodyStats'. -/
def bodyStatsCard : Claim7 := { stood := { row := bodyStatsRow, standIns := [], harness := (true, "1a3a570e563ef1b815c81480c3defa2995bb64e31e8369b2ef600bbd419683df"), looks := false }, kinds := [], alts := [], laidByText := true, laidKinds := [.data, .pinned], laidTests := true, laidLooks := .later }
def BodyStatsCardSaid : Prop := Claim7.holds Tryz.pinned (.plain (OpenSpec.ofChange bodyStatsSpec)) bodyStatsCard

/-- THE SECOND FORM's CARD OF 'glacislaw10.BodyAll'. -/
def bodyAllUptoCard : Claim7 := { stood := { row := bodyAllUptoRow, standIns := [], harness := (true, "1a3a570e563ef1b815c81480c3defa2995bb64e31e8369b2ef600bbd419683df"), looks := false }, kinds := [], alts := [], laidByText := true, laidKinds := [.data, .pinned], laidTests := true, laidLooks := .later }
def BodyAllUptoCardSaid : Prop := Claim7.holds Tryz.pinned (.plain (OpenSpec.upto bodyAllSpec)) bodyAllUptoCard

/-- THE SECOND FORM's CARD OF 'glacislaw10.BodyStats'. -/
def bodyStatsUptoCard : Claim7 := { stood := { row := bodyStatsUptoRow, standIns := [], harness := (true, "1a3a570e563ef1b815c81480c3defa2995bb64e31e8369b2ef600bbd419683df"), looks := false }, kinds := [], alts := [], laidByText := true, laidKinds := [.data, .pinned], laidTests := true, laidLooks := .later }
def BodyStatsUptoCardSaid : Prop := Claim7.holds Tryz.pinned (.plain (OpenSpec.upto bodyStatsSpec)) bodyStatsUptoCard
end Rows
end Go.Proofs.YthhjlbpmpffapaaGreatDoor
