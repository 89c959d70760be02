/-
  DERIVED. GIVEN WITH THE SEED: THE CARDS: each row of YthhjlbpmpffapaaDoorRows.lean that lists a variable, with what it lists TIED to the program's text (the seventh form; the later family's looks); each row that meets fmt, with fmt's text TOLD by the authors' own Lean function (tested against real Go, not proved from fmt's source: count such statements apart). THE CARD IS WHAT COUNTS. Prove the row's statement (the work); the ties are given (YthhjlbpmpffapaaDoorTie.lean); close each card by the builder's one call (the guide's Derived/Test/ToyasCard.lean, 'card_holds'). Laid BY PROGRAM, IN A SANDBOX (cutbox-door.mjs). By AI agents, Wed Nov 11 2026. No macro, syntax, notation, axiom, sorry.
-/
import Derived.Test.YthhjlbpmpffapaaDoorRows
import GoSem.ClaimSeven
namespace Go.Proofs.YthhjlbpmpffapaaDoor
namespace Rows

/-- THE TIED CARD OF 'glacislaw10.BodyBytes'. -/
def bodyBytesCard : Claim7 := { stood := { row := bodyBytesRow, standIns := [], harness := (true, "2f21cd1ace779a2a30f20ab4c474c736ba39e81dd5d548c2e9e04abe5d4529b5"), looks := false }, kinds := [], alts := [], laidByText := true, laidKinds := [.data, .pinned], laidTests := true, laidLooks := .later }
def BodyBytesCardSaid : Prop := Claim7.holds Tryd.pinned (.plain (OpenSpec.ofChange bodyBytesSpec)) bodyBytesCard

/-- THE TIED CARD OF 'glacislaw10.BodyForms'. -/
def bodyFormsCard : Claim7 := { stood := { row := bodyFormsRow, standIns := [], harness := (true, "2f21cd1ace779a2a30f20ab4c474c736ba39e81dd5d548c2e9e04abe5d4529b5"), looks := false }, kinds := [], alts := [], laidByText := true, laidKinds := [.data, .pinned], laidTests := true, laidLooks := .later }
def BodyFormsCardSaid : Prop := Claim7.holds Tryd.pinned (.plain (OpenSpec.ofChange bodyFormsSpec)) bodyFormsCard

/-- THE SECOND FORM's CARD OF 'glacislaw10.BodyBytes'. -/
def bodyBytesUptoCard : Claim7 := { stood := { row := bodyBytesUptoRow, standIns := [], harness := (true, "2f21cd1ace779a2a30f20ab4c474c736ba39e81dd5d548c2e9e04abe5d4529b5"), looks := false }, kinds := [], alts := [], laidByText := true, laidKinds := [.data, .pinned], laidTests := true, laidLooks := .later }
def BodyBytesUptoCardSaid : Prop := Claim7.holds Tryd.pinned (.plain (OpenSpec.upto bodyBytesSpec)) bodyBytesUptoCard

/-- THE SECOND FORM's CARD OF 'glacislaw10.BodyForms'. -/
def bodyFormsUptoCard : Claim7 := { stood := { row := bodyFormsUptoRow, standIns := [], harness := (true, "2f21cd1ace779a2a30f20ab4c474c736ba39e81dd5d548c2e9e04abe5d4529b5"), looks := false }, kinds := [], alts := [], laidByText := true, laidKinds := [.data, .pinned], laidTests := true, laidLooks := .later }
def BodyFormsUptoCardSaid : Prop := Claim7.holds Tryd.pinned (.plain (OpenSpec.upto bodyFormsSpec)) bodyFormsUptoCard
end Rows
end Go.Proofs.YthhjlbpmpffapaaDoor
