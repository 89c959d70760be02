/-
  No cell of these rows narrows 'for every input' (looked for: loops, veiled, ifaces, maps, wideKeys, modest, calm, conditions, laid).
  DERIVED. THE GIVEN ROWS OF THIS SEAT. 6 by the template 'for every input the law returns true; each argument reads behind the call as it read before'; 0 by the template 'total and deterministic' (their statements: YtmcemcdjfodchaaTotals.lean).
  GIVEN WITH THE SEED: the statements are not yours to turn. If you find one false, say at which input.
  Laid BY PROGRAM, IN A SANDBOX (cutbox-rows.mjs): the forced cells as the released guide's own fill.sh prints them over the translation e9c7a6d6ace9e978… (all of the seat's roots in one cut). By AI agents, Wed Nov 11 2026. No macro, syntax, notation, axiom, sorry.
-/
import Derived.Test.YtmcemcdjfodchaaChecked
import GoSem.Claim
import GoSem.ClaimJoined
import GoSem.ClaimMapViews
import Derived.JoinedTies
import Derived.KernelRfl
namespace Go.Proofs.Ytmcemcdjfodchaa
/- THE CELL 'sum', in the pinned program and in every row, IS THE sha256 OF THE DUMP (.gsa) THAT YtmcemcdjfodchaaProg.lean LOADS. Nothing in Lean hashes anything: it is a label: what it is worth is what the hold of that sum in a sandbox is worth. -/
noncomputable def Try.pinned : Pinned := { name := "ytmcemcdjfodchaa", sum := "e9c7a6d6ace9e97827c1bddadf0c0ae0630a15587d73b292925396cbee25cce4", checked := Try.checked }
namespace Rows
def none {H : Type} : Left H := { results := [], args := [] }

/-- 'glacislaw25.OpsAll': WHATEVER THE INPUT: true; the input reads as it did. -/
def opsAllSpec : ChangeSpec := { name := "opsAll", fn := fun _ => fun
  | [d1, d2, d3] => { results := [.lit (.bool true)], args := [d1, d2, d3] }
  | _ => none }
def opsAllRow : OpenClaim := { program := "ytmcemcdjfodchaa", sum := "e9c7a6d6ace9e97827c1bddadf0c0ae0630a15587d73b292925396cbee25cce4", func := "glacis/glacislaw25.OpsAll", spec := "opsAll", apart := false }
def OpsAllSaid : Prop := opsAllRow.holds Try.pinned (OpenSpec.ofChange opsAllSpec)

/-- ITS FALSE NEIGHBOUR: 'it returns false'. Refute it at one input. -/
def opsAllWrong : ChangeSpec := { name := "opsAll", fn := fun _ => fun
  | [d1, d2, d3] => { results := [.lit (.bool false)], args := [d1, d2, d3] }
  | _ => none }
def OpsAllWrongFalsely : Prop := opsAllRow.holds Try.pinned (OpenSpec.ofChange opsAllWrong)

/-- 'glacislaw25.OpsBack': WHATEVER THE INPUT: true; the input reads as it did. -/
def opsBackSpec : ChangeSpec := { name := "opsBack", fn := fun _ => fun
  | [d1, d2] => { results := [.lit (.bool true)], args := [d1, d2] }
  | _ => none }
def opsBackRow : OpenClaim := { program := "ytmcemcdjfodchaa", sum := "e9c7a6d6ace9e97827c1bddadf0c0ae0630a15587d73b292925396cbee25cce4", func := "glacis/glacislaw25.OpsBack", spec := "opsBack", apart := false }
def OpsBackSaid : Prop := opsBackRow.holds Try.pinned (OpenSpec.ofChange opsBackSpec)

/-- ITS FALSE NEIGHBOUR: 'it returns false'. Refute it at one input. -/
def opsBackWrong : ChangeSpec := { name := "opsBack", fn := fun _ => fun
  | [d1, d2] => { results := [.lit (.bool false)], args := [d1, d2] }
  | _ => none }
def OpsBackWrongFalsely : Prop := opsBackRow.holds Try.pinned (OpenSpec.ofChange opsBackWrong)

/-- 'glacislaw25.OpsJoins': WHATEVER THE INPUT: true; the input reads as it did. -/
def opsJoinsSpec : ChangeSpec := { name := "opsJoins", fn := fun _ => fun
  | [d1, d2, d3] => { results := [.lit (.bool true)], args := [d1, d2, d3] }
  | _ => none }
def opsJoinsRow : OpenClaim := { program := "ytmcemcdjfodchaa", sum := "e9c7a6d6ace9e97827c1bddadf0c0ae0630a15587d73b292925396cbee25cce4", func := "glacis/glacislaw25.OpsJoins", spec := "opsJoins", apart := false }
def OpsJoinsSaid : Prop := opsJoinsRow.holds Try.pinned (OpenSpec.ofChange opsJoinsSpec)

/-- ITS FALSE NEIGHBOUR: 'it returns false'. Refute it at one input. -/
def opsJoinsWrong : ChangeSpec := { name := "opsJoins", fn := fun _ => fun
  | [d1, d2, d3] => { results := [.lit (.bool false)], args := [d1, d2, d3] }
  | _ => none }
def OpsJoinsWrongFalsely : Prop := opsJoinsRow.holds Try.pinned (OpenSpec.ofChange opsJoinsWrong)

/-- 'glacislaw25.OpsForms': WHATEVER THE INPUT: true; the input reads as it did. -/
def opsFormsSpec : ChangeSpec := { name := "opsForms", fn := fun _ => fun
  | [] => { results := [.lit (.bool true)], args := [] }
  | _ => none }
def opsFormsRow : OpenClaim := { program := "ytmcemcdjfodchaa", sum := "e9c7a6d6ace9e97827c1bddadf0c0ae0630a15587d73b292925396cbee25cce4", func := "glacis/glacislaw25.OpsForms", spec := "opsForms", apart := false }
def OpsFormsSaid : Prop := opsFormsRow.holds Try.pinned (OpenSpec.ofChange opsFormsSpec)

/-- ITS FALSE NEIGHBOUR: 'it returns false'. Refute it at one input. -/
def opsFormsWrong : ChangeSpec := { name := "opsForms", fn := fun _ => fun
  | [] => { results := [.lit (.bool false)], args := [] }
  | _ => none }
def OpsFormsWrongFalsely : Prop := opsFormsRow.holds Try.pinned (OpenSpec.ofChange opsFormsWrong)

/-- 'glacislaw25.OpsOne': WHATEVER THE INPUT: true; the input reads as it did. -/
def opsOneSpec : ChangeSpec := { name := "opsOne", fn := fun _ => fun
  | [d1, d2, d3, d4, d5, d6, d7, d8, d9] => { results := [.lit (.bool true)], args := [d1, d2, d3, d4, d5, d6, d7, d8, d9] }
  | _ => none }
def opsOneRow : OpenClaim := { program := "ytmcemcdjfodchaa", sum := "e9c7a6d6ace9e97827c1bddadf0c0ae0630a15587d73b292925396cbee25cce4", func := "glacis/glacislaw25.OpsOne", spec := "opsOne", apart := false }
def OpsOneSaid : Prop := opsOneRow.holds Try.pinned (OpenSpec.ofChange opsOneSpec)

/-- ITS FALSE NEIGHBOUR: 'it returns false'. Refute it at one input. -/
def opsOneWrong : ChangeSpec := { name := "opsOne", fn := fun _ => fun
  | [d1, d2, d3, d4, d5, d6, d7, d8, d9] => { results := [.lit (.bool false)], args := [d1, d2, d3, d4, d5, d6, d7, d8, d9] }
  | _ => none }
def OpsOneWrongFalsely : Prop := opsOneRow.holds Try.pinned (OpenSpec.ofChange opsOneWrong)

/-- 'glacislaw25.OpsKinds': WHATEVER THE INPUT: true; the input reads as it did. -/
def opsKindsSpec : ChangeSpec := { name := "opsKinds", fn := fun _ => fun
  | [d1, d2] => { results := [.lit (.bool true)], args := [d1, d2] }
  | _ => none }
def opsKindsRow : OpenClaim := { program := "ytmcemcdjfodchaa", sum := "e9c7a6d6ace9e97827c1bddadf0c0ae0630a15587d73b292925396cbee25cce4", func := "glacis/glacislaw25.OpsKinds", spec := "opsKinds", apart := false }
def OpsKindsSaid : Prop := opsKindsRow.holds Try.pinned (OpenSpec.ofChange opsKindsSpec)

/-- ITS FALSE NEIGHBOUR: 'it returns false'. Refute it at one input. -/
def opsKindsWrong : ChangeSpec := { name := "opsKinds", fn := fun _ => fun
  | [d1, d2] => { results := [.lit (.bool false)], args := [d1, d2] }
  | _ => none }
def OpsKindsWrongFalsely : Prop := opsKindsRow.holds Try.pinned (OpenSpec.ofChange opsKindsWrong)

/- THE SECOND FORM. 'bulk': how many values and letters a reading holds, each counted each time it is reached (what is shared counts as often as it is met; a slice's spare places count too). A statement '..UptoSaid' is the law's where the arguments, and the package variables that the reading takes, are together of bulk at most 1048576: NARROWER than '..Said'. Prove '..Said' where nothing that the law and all that it calls make is longer than what came in: it says more and counts as full. Else prove '..UptoSaid'. A law counts once. -/
mutual
def uptoBulk {H : Type} : DataW H → Nat
  | .lit (.string bytes) => bytes.length + 1
  | .lit _ => 1
  | .nil => 1
  | .ptr d => uptoBulk d + 1
  | .slice elems spare => uptoBulkAll elems + uptoBulkAll spare + 1
  | .agg parts => uptoBulkAll parts + 1
  | .iface _ d => uptoBulk d + 1
  | .map entries => uptoBulkEntries entries + 1
  | .held _ => 1
def uptoBulkAll {H : Type} : List (DataW H) → Nat
  | [] => 0
  | d :: r => uptoBulk d + uptoBulkAll r
def uptoBulkEntries {H : Type} : List (Lit × DataW H) → Nat
  | [] => 0
  | x :: r => uptoBulkEntry x + uptoBulkEntries r
def uptoBulkEntry {H : Type} : Lit × DataW H → Nat
  | (.string bytes, d) => bytes.length + uptoBulk d + 1
  | (_, d) => uptoBulk d + 1
 end
def uptoSmall : (H : Type) → List (DataW H) → Bool := fun _ ds => decide (uptoBulkAll ds ≤ 1048576)
def OpenSpec.upto (s : _root_.Go.ChangeSpec) : _root_.Go.OpenSpec := { _root_.Go.OpenSpec.ofChange s with cond := some uptoSmall }

/-- 'glacislaw25.OpsAll', WHERE WHAT IT READS IS OF BULK AT MOST 1048576: true; the input reads as it did. -/
def opsAllUptoRow : OpenClaim := { program := "ytmcemcdjfodchaa", sum := "e9c7a6d6ace9e97827c1bddadf0c0ae0630a15587d73b292925396cbee25cce4", func := "glacis/glacislaw25.OpsAll", spec := "opsAll", apart := false, narrowed := true }
def OpsAllUptoSaid : Prop := opsAllUptoRow.holds Try.pinned (OpenSpec.upto opsAllSpec)

/-- 'glacislaw25.OpsBack', WHERE WHAT IT READS IS OF BULK AT MOST 1048576: true; the input reads as it did. -/
def opsBackUptoRow : OpenClaim := { program := "ytmcemcdjfodchaa", sum := "e9c7a6d6ace9e97827c1bddadf0c0ae0630a15587d73b292925396cbee25cce4", func := "glacis/glacislaw25.OpsBack", spec := "opsBack", apart := false, narrowed := true }
def OpsBackUptoSaid : Prop := opsBackUptoRow.holds Try.pinned (OpenSpec.upto opsBackSpec)

/-- 'glacislaw25.OpsJoins', WHERE WHAT IT READS IS OF BULK AT MOST 1048576: true; the input reads as it did. -/
def opsJoinsUptoRow : OpenClaim := { program := "ytmcemcdjfodchaa", sum := "e9c7a6d6ace9e97827c1bddadf0c0ae0630a15587d73b292925396cbee25cce4", func := "glacis/glacislaw25.OpsJoins", spec := "opsJoins", apart := false, narrowed := true }
def OpsJoinsUptoSaid : Prop := opsJoinsUptoRow.holds Try.pinned (OpenSpec.upto opsJoinsSpec)

/-- 'glacislaw25.OpsForms', WHERE WHAT IT READS IS OF BULK AT MOST 1048576: true; the input reads as it did. -/
def opsFormsUptoRow : OpenClaim := { program := "ytmcemcdjfodchaa", sum := "e9c7a6d6ace9e97827c1bddadf0c0ae0630a15587d73b292925396cbee25cce4", func := "glacis/glacislaw25.OpsForms", spec := "opsForms", apart := false, narrowed := true }
def OpsFormsUptoSaid : Prop := opsFormsUptoRow.holds Try.pinned (OpenSpec.upto opsFormsSpec)

/-- 'glacislaw25.OpsOne', WHERE WHAT IT READS IS OF BULK AT MOST 1048576: true; the input reads as it did. -/
def opsOneUptoRow : OpenClaim := { program := "ytmcemcdjfodchaa", sum := "e9c7a6d6ace9e97827c1bddadf0c0ae0630a15587d73b292925396cbee25cce4", func := "glacis/glacislaw25.OpsOne", spec := "opsOne", apart := false, narrowed := true }
def OpsOneUptoSaid : Prop := opsOneUptoRow.holds Try.pinned (OpenSpec.upto opsOneSpec)

/-- 'glacislaw25.OpsKinds', WHERE WHAT IT READS IS OF BULK AT MOST 1048576: true; the input reads as it did. -/
def opsKindsUptoRow : OpenClaim := { program := "ytmcemcdjfodchaa", sum := "e9c7a6d6ace9e97827c1bddadf0c0ae0630a15587d73b292925396cbee25cce4", func := "glacis/glacislaw25.OpsKinds", spec := "opsKinds", apart := false, narrowed := true }
def OpsKindsUptoSaid : Prop := opsKindsUptoRow.holds Try.pinned (OpenSpec.upto opsKindsSpec)

end Rows
end Go.Proofs.Ytmcemcdjfodchaa
