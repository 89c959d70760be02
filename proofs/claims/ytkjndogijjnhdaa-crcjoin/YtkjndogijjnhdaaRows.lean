/-
  No cell of these rows narrows 'for every input' (looked for: loops, veiled, ifaces, maps, wideKeys, modest, calm, conditions, laid).
  DERIVED. THE GIVEN ROWS OF THIS SEAT. 5 by the template 'for every input the law returns true; each argument reads behind the call as it read before'; 0 by the template 'total and deterministic' (their statements: YtkjndogijjnhdaaTotals.lean).
  GIVEN WITH THE SEED: the statements are not yours to turn. If you find one false, say at which input.
  Laid BY PROGRAM, IN A SANDBOX (cutbox-rows.mjs): the forced cells as the released guide's own fill.sh prints them over the translation ffd399f41045a7fc… (all of the seat's roots in one cut). By AI agents, Wed Nov 11 2026. No macro, syntax, notation, axiom, sorry.
-/
import Derived.Test.YtkjndogijjnhdaaChecked
import GoSem.Claim
import GoSem.ClaimJoined
import GoSem.ClaimMapViews
import Derived.JoinedTies
import Derived.KernelRfl
namespace Go.Proofs.Ytkjndogijjnhdaa
/- THE CELL 'sum', in the pinned program and in every row, IS THE sha256 OF THE DUMP (.gsa) THAT YtkjndogijjnhdaaProg.lean LOADS. Nothing in Lean hashes anything: it is a label: what it is worth is what the hold of that sum in a sandbox is worth. -/
noncomputable def Try.pinned : Pinned := { name := "ytkjndogijjnhdaa", sum := "ffd399f41045a7fca30323943f030ae089917fff6cb2fe0e7d6d1a6d54a9c1ef", checked := Try.checked }
namespace Rows
def none {H : Type} : Left H := { results := [], args := [] }

/-- 'glacislaw2.CrcAll': WHATEVER THE INPUT: true; the input reads as it did. -/
def crcAllSpec : ChangeSpec := { name := "crcAll", fn := fun _ => fun
  | [d1, d2, d3] => { results := [.lit (.bool true)], args := [d1, d2, d3] }
  | _ => none }
def crcAllRow : OpenClaim := { program := "ytkjndogijjnhdaa", sum := "ffd399f41045a7fca30323943f030ae089917fff6cb2fe0e7d6d1a6d54a9c1ef", func := "glacis/glacislaw2.CrcAll", spec := "crcAll", apart := false }
def CrcAllSaid : Prop := crcAllRow.holds Try.pinned (OpenSpec.ofChange crcAllSpec)

/-- ITS FALSE NEIGHBOUR: 'it returns false'. Refute it at one input. -/
def crcAllWrong : ChangeSpec := { name := "crcAll", fn := fun _ => fun
  | [d1, d2, d3] => { results := [.lit (.bool false)], args := [d1, d2, d3] }
  | _ => none }
def CrcAllWrongFalsely : Prop := crcAllRow.holds Try.pinned (OpenSpec.ofChange crcAllWrong)

/-- 'glacislaw2.CrcTurned': WHATEVER THE INPUT: true; the input reads as it did. -/
def crcTurnedSpec : ChangeSpec := { name := "crcTurned", fn := fun _ => fun
  | [d1, d2, d3] => { results := [.lit (.bool true)], args := [d1, d2, d3] }
  | _ => none }
def crcTurnedRow : OpenClaim := { program := "ytkjndogijjnhdaa", sum := "ffd399f41045a7fca30323943f030ae089917fff6cb2fe0e7d6d1a6d54a9c1ef", func := "glacis/glacislaw2.CrcTurned", spec := "crcTurned", apart := false }
def CrcTurnedSaid : Prop := crcTurnedRow.holds Try.pinned (OpenSpec.ofChange crcTurnedSpec)

/-- ITS FALSE NEIGHBOUR: 'it returns false'. Refute it at one input. -/
def crcTurnedWrong : ChangeSpec := { name := "crcTurned", fn := fun _ => fun
  | [d1, d2, d3] => { results := [.lit (.bool false)], args := [d1, d2, d3] }
  | _ => none }
def CrcTurnedWrongFalsely : Prop := crcTurnedRow.holds Try.pinned (OpenSpec.ofChange crcTurnedWrong)

/-- 'glacislaw2.CrcJoin': WHATEVER THE INPUT: true; the input reads as it did. -/
def crcJoinSpec : ChangeSpec := { name := "crcJoin", fn := fun _ => fun
  | [d1, d2, d3] => { results := [.lit (.bool true)], args := [d1, d2, d3] }
  | _ => none }
def crcJoinRow : OpenClaim := { program := "ytkjndogijjnhdaa", sum := "ffd399f41045a7fca30323943f030ae089917fff6cb2fe0e7d6d1a6d54a9c1ef", func := "glacis/glacislaw2.CrcJoin", spec := "crcJoin", apart := false }
def CrcJoinSaid : Prop := crcJoinRow.holds Try.pinned (OpenSpec.ofChange crcJoinSpec)

/-- ITS FALSE NEIGHBOUR: 'it returns false'. Refute it at one input. -/
def crcJoinWrong : ChangeSpec := { name := "crcJoin", fn := fun _ => fun
  | [d1, d2, d3] => { results := [.lit (.bool false)], args := [d1, d2, d3] }
  | _ => none }
def CrcJoinWrongFalsely : Prop := crcJoinRow.holds Try.pinned (OpenSpec.ofChange crcJoinWrong)

/-- 'glacislaw2.CrcForms': WHATEVER THE INPUT: true; the input reads as it did. -/
def crcFormsSpec : ChangeSpec := { name := "crcForms", fn := fun _ => fun
  | [] => { results := [.lit (.bool true)], args := [] }
  | _ => none }
def crcFormsRow : OpenClaim := { program := "ytkjndogijjnhdaa", sum := "ffd399f41045a7fca30323943f030ae089917fff6cb2fe0e7d6d1a6d54a9c1ef", func := "glacis/glacislaw2.CrcForms", spec := "crcForms", apart := false }
def CrcFormsSaid : Prop := crcFormsRow.holds Try.pinned (OpenSpec.ofChange crcFormsSpec)

/-- ITS FALSE NEIGHBOUR: 'it returns false'. Refute it at one input. -/
def crcFormsWrong : ChangeSpec := { name := "crcForms", fn := fun _ => fun
  | [] => { results := [.lit (.bool false)], args := [] }
  | _ => none }
def CrcFormsWrongFalsely : Prop := crcFormsRow.holds Try.pinned (OpenSpec.ofChange crcFormsWrong)

/-- 'glacislaw2.CrcPieces': WHATEVER THE INPUT: true; the input reads as it did. -/
def crcPiecesSpec : ChangeSpec := { name := "crcPieces", fn := fun _ => fun
  | [d1, d2, d3] => { results := [.lit (.bool true)], args := [d1, d2, d3] }
  | _ => none }
def crcPiecesRow : OpenClaim := { program := "ytkjndogijjnhdaa", sum := "ffd399f41045a7fca30323943f030ae089917fff6cb2fe0e7d6d1a6d54a9c1ef", func := "glacis/glacislaw2.CrcPieces", spec := "crcPieces", apart := false }
def CrcPiecesSaid : Prop := crcPiecesRow.holds Try.pinned (OpenSpec.ofChange crcPiecesSpec)

/-- ITS FALSE NEIGHBOUR: 'it returns false'. Refute it at one input. -/
def crcPiecesWrong : ChangeSpec := { name := "crcPieces", fn := fun _ => fun
  | [d1, d2, d3] => { results := [.lit (.bool false)], args := [d1, d2, d3] }
  | _ => none }
def CrcPiecesWrongFalsely : Prop := crcPiecesRow.holds Try.pinned (OpenSpec.ofChange crcPiecesWrong)

/- THE SECOND FORM. 'bulk': how many values and letters a reading holds, each counted each time it is reached (what is shared counts as often as it is met; a slice's spare places count too). A statement '..UptoSaid' is the law's where the arguments, and the package variables that the reading takes, are together of bulk at most 1048576: NARROWER than '..Said'. Prove '..Said' where nothing that the law and all that it calls make is longer than what came in: it says more and counts as full. Else prove '..UptoSaid'. A law counts once. -/
mutual
def uptoBulk {H : Type} : DataW H → Nat
  | .lit (.string bytes) => bytes.length + 1
  | .lit _ => 1
  | .nil => 1
  | .ptr d => uptoBulk d + 1
  | .slice elems spare => uptoBulkAll elems + uptoBulkAll spare + 1
  | .agg parts => uptoBulkAll parts + 1
  | .iface _ d => uptoBulk d + 1
  | .map entries => uptoBulkEntries entries + 1
  | .held _ => 1
def uptoBulkAll {H : Type} : List (DataW H) → Nat
  | [] => 0
  | d :: r => uptoBulk d + uptoBulkAll r
def uptoBulkEntries {H : Type} : List (Lit × DataW H) → Nat
  | [] => 0
  | x :: r => uptoBulkEntry x + uptoBulkEntries r
def uptoBulkEntry {H : Type} : Lit × DataW H → Nat
  | (.string bytes, d) => bytes.length + uptoBulk d + 1
  | (_, d) => uptoBulk d + 1
 end
def uptoSmall : (H : Type) → List (DataW H) → Bool := fun _ ds => decide (uptoBulkAll ds ≤ 1048576)
def OpenSpec.upto (s : _root_.Go.ChangeSpec) : _root_.Go.OpenSpec := { _root_.Go.OpenSpec.ofChange s with cond := some uptoSmall }

/-- 'glacislaw2.CrcAll', WHERE WHAT IT READS IS OF BULK AT MOST 1048576: true; the input reads as it did. -/
def crcAllUptoRow : OpenClaim := { program := "ytkjndogijjnhdaa", sum := "ffd399f41045a7fca30323943f030ae089917fff6cb2fe0e7d6d1a6d54a9c1ef", func := "glacis/glacislaw2.CrcAll", spec := "crcAll", apart := false, narrowed := true }
def CrcAllUptoSaid : Prop := crcAllUptoRow.holds Try.pinned (OpenSpec.upto crcAllSpec)

/-- 'glacislaw2.CrcTurned', WHERE WHAT IT READS IS OF BULK AT MOST 1048576: true; the input reads as it did. -/
def crcTurnedUptoRow : OpenClaim := { program := "ytkjndogijjnhdaa", sum := "ffd399f41045a7fca30323943f030ae089917fff6cb2fe0e7d6d1a6d54a9c1ef", func := "glacis/glacislaw2.CrcTurned", spec := "crcTurned", apart := false, narrowed := true }
def CrcTurnedUptoSaid : Prop := crcTurnedUptoRow.holds Try.pinned (OpenSpec.upto crcTurnedSpec)

/-- 'glacislaw2.CrcJoin', WHERE WHAT IT READS IS OF BULK AT MOST 1048576: true; the input reads as it did. -/
def crcJoinUptoRow : OpenClaim := { program := "ytkjndogijjnhdaa", sum := "ffd399f41045a7fca30323943f030ae089917fff6cb2fe0e7d6d1a6d54a9c1ef", func := "glacis/glacislaw2.CrcJoin", spec := "crcJoin", apart := false, narrowed := true }
def CrcJoinUptoSaid : Prop := crcJoinUptoRow.holds Try.pinned (OpenSpec.upto crcJoinSpec)

/-- 'glacislaw2.CrcForms', WHERE WHAT IT READS IS OF BULK AT MOST 1048576: true; the input reads as it did. -/
def crcFormsUptoRow : OpenClaim := { program := "ytkjndogijjnhdaa", sum := "ffd399f41045a7fca30323943f030ae089917fff6cb2fe0e7d6d1a6d54a9c1ef", func := "glacis/glacislaw2.CrcForms", spec := "crcForms", apart := false, narrowed := true }
def CrcFormsUptoSaid : Prop := crcFormsUptoRow.holds Try.pinned (OpenSpec.upto crcFormsSpec)

/-- 'glacislaw2.CrcPieces', WHERE WHAT IT READS IS OF BULK AT MOST 1048576: true; the input reads as it did. -/
def crcPiecesUptoRow : OpenClaim := { program := "ytkjndogijjnhdaa", sum := "ffd399f41045a7fca30323943f030ae089917fff6cb2fe0e7d6d1a6d54a9c1ef", func := "glacis/glacislaw2.CrcPieces", spec := "crcPieces", apart := false, narrowed := true }
def CrcPiecesUptoSaid : Prop := crcPiecesUptoRow.holds Try.pinned (OpenSpec.upto crcPiecesSpec)

end Rows
end Go.Proofs.Ytkjndogijjnhdaa
