/-
  DERIVED. GIVEN WITH THE SEED: THE CARDS: each row of YtecijnlpickncaaDoorRows.lean that lists a variable, with what it lists TIED to the program's text (the seventh form; the later family's looks); each row that meets fmt, with fmt's text TOLD by the authors' own Lean function (tested against real Go, not proved from fmt's source: count such statements apart). THE CARD IS WHAT COUNTS. Prove the row's statement (the work); the ties are given (YtecijnlpickncaaDoorTie.lean); close each card by the builder's one call (the guide's Derived/Test/ToyasCard.lean, 'card_holds'). Laid BY PROGRAM, IN A SANDBOX (cutbox-door.mjs). By AI agents, Wed Nov 11 2026. No macro, syntax, notation, axiom, sorry.
-/
import Derived.Test.YtecijnlpickncaaDoorRows
import GoSem.ClaimSeven
namespace Go.Proofs.YtecijnlpickncaaDoor
namespace Rows

/-- THE TIED CARD OF 'glacislaw6.NameAll'. -/
def nameAllCard : Claim7 := { stood := { row := nameAllRow, standIns := [], harness := (true, "c750b59a910bf284a8381c20305f1403a20d5f11c74a2799344a3ee87700e7fd"), looks := false }, kinds := [], alts := [], laidByText := true, laidKinds := [.data, .pinned], laidTests := true, laidLooks := .later }
def NameAllCardSaid : Prop := Claim7.holds Tryd.pinned (.plain (OpenSpec.ofChange nameAllSpec)) nameAllCard

/-- THE TIED CARD OF 'glacislaw6.NameBack'. -/
def nameBackCard : Claim7 := { stood := { row := nameBackRow, standIns := [], harness := (true, "c750b59a910bf284a8381c20305f1403a20d5f11c74a2799344a3ee87700e7fd"), looks := false }, kinds := [], alts := [], laidByText := true, laidKinds := [.data, .pinned], laidTests := true, laidLooks := .later }
def NameBackCardSaid : Prop := Claim7.holds Tryd.pinned (.plain (OpenSpec.ofChange nameBackSpec)) nameBackCard

/-- THE TIED CARD OF 'glacislaw6.NameForms'. -/
def nameFormsCard : Claim7 := { stood := { row := nameFormsRow, standIns := [], harness := (true, "c750b59a910bf284a8381c20305f1403a20d5f11c74a2799344a3ee87700e7fd"), looks := false }, kinds := [], alts := [], laidByText := true, laidKinds := [.data, .pinned], laidTests := true, laidLooks := .later }
def NameFormsCardSaid : Prop := Claim7.holds Tryd.pinned (.plain (OpenSpec.ofChange nameFormsSpec)) nameFormsCard

/-- THE TIED CARD OF 'glacislaw6.NameCut'. -/
def nameCutCard : Claim7 := { stood := { row := nameCutRow, standIns := [], harness := (true, "c750b59a910bf284a8381c20305f1403a20d5f11c74a2799344a3ee87700e7fd"), looks := false }, kinds := [], alts := [], laidByText := true, laidKinds := [.data, .pinned], laidTests := true, laidLooks := .later }
def NameCutCardSaid : Prop := Claim7.holds Tryd.pinned (.plain (OpenSpec.ofChange nameCutSpec)) nameCutCard

/-- THE SECOND FORM's CARD OF 'glacislaw6.NameAll'. -/
def nameAllUptoCard : Claim7 := { stood := { row := nameAllUptoRow, standIns := [], harness := (true, "c750b59a910bf284a8381c20305f1403a20d5f11c74a2799344a3ee87700e7fd"), looks := false }, kinds := [], alts := [], laidByText := true, laidKinds := [.data, .pinned], laidTests := true, laidLooks := .later }
def NameAllUptoCardSaid : Prop := Claim7.holds Tryd.pinned (.plain (OpenSpec.upto nameAllSpec)) nameAllUptoCard

/-- THE SECOND FORM's CARD OF 'glacislaw6.NameBack'. -/
def nameBackUptoCard : Claim7 := { stood := { row := nameBackUptoRow, standIns := [], harness := (true, "c750b59a910bf284a8381c20305f1403a20d5f11c74a2799344a3ee87700e7fd"), looks := false }, kinds := [], alts := [], laidByText := true, laidKinds := [.data, .pinned], laidTests := true, laidLooks := .later }
def NameBackUptoCardSaid : Prop := Claim7.holds Tryd.pinned (.plain (OpenSpec.upto nameBackSpec)) nameBackUptoCard

/-- THE SECOND FORM's CARD OF 'glacislaw6.NameForms'. -/
def nameFormsUptoCard : Claim7 := { stood := { row := nameFormsUptoRow, standIns := [], harness := (true, "c750b59a910bf284a8381c20305f1403a20d5f11c74a2799344a3ee87700e7fd"), looks := false }, kinds := [], alts := [], laidByText := true, laidKinds := [.data, .pinned], laidTests := true, laidLooks := .later }
def NameFormsUptoCardSaid : Prop := Claim7.holds Tryd.pinned (.plain (OpenSpec.upto nameFormsSpec)) nameFormsUptoCard

/-- THE SECOND FORM's CARD OF 'glacislaw6.NameCut'. -/
def nameCutUptoCard : Claim7 := { stood := { row := nameCutUptoRow, standIns := [], harness := (true, "c750b59a910bf284a8381c20305f1403a20d5f11c74a2799344a3ee87700e7fd"), looks := false }, kinds := [], alts := [], laidByText := true, laidKinds := [.data, .pinned], laidTests := true, laidLooks := .later }
def NameCutUptoCardSaid : Prop := Claim7.holds Tryd.pinned (.plain (OpenSpec.upto nameCutSpec)) nameCutUptoCard
end Rows
end Go.Proofs.YtecijnlpickncaaDoor
