/-
  No cell of these rows narrows 'for every input' (looked for: loops, veiled, ifaces, maps, wideKeys, modest, calm, conditions, laid).
  DERIVED. THE GIVEN ROWS OF THIS SEAT. 4 by the template 'for every input the law returns true; each argument reads behind the call as it read before'; 0 by the template 'total and deterministic' (their statements: YtfjbfopomepnoaaTotals.lean).
  GIVEN WITH THE SEED: the statements are not yours to turn. If you find one false, say at which input.
  Laid BY PROGRAM, IN A SANDBOX (cutbox-rows.mjs): the forced cells as the released guide's own fill.sh prints them over the translation 2b6f7af0bc99fd20… (all of the seat's roots in one cut). By AI agents, Wed Nov 11 2026. No macro, syntax, notation, axiom, sorry.
-/
import Derived.Test.YtfjbfopomepnoaaChecked
import GoSem.Claim
import GoSem.ClaimJoined
import GoSem.ClaimMapViews
import Derived.JoinedTies
import Derived.KernelRfl
namespace Go.Proofs.Ytfjbfopomepnoaa
/- THE CELL 'sum', in the pinned program and in every row, IS THE sha256 OF THE DUMP (.gsa) THAT YtfjbfopomepnoaaProg.lean LOADS. Nothing in Lean hashes anything: it is a label: what it is worth is what the hold of that sum in a sandbox is worth. -/
noncomputable def Try.pinned : Pinned := { name := "ytfjbfopomepnoaa", sum := "2b6f7af0bc99fd20086eb7763afeb340d6b7b3935faefba0a2bebf8881073a76", checked := Try.checked }
namespace Rows
def none {H : Type} : Left H := { results := [], args := [] }

/-- 'glacislaw7.DirAll': WHATEVER THE INPUT: true; the input reads as it did. -/
def dirAllSpec : ChangeSpec := { name := "dirAll", fn := fun _ => fun
  | [d1, d2, d3, d4, d5, d6] => { results := [.lit (.bool true)], args := [d1, d2, d3, d4, d5, d6] }
  | _ => none }
def dirAllRow : OpenClaim := { program := "ytfjbfopomepnoaa", sum := "2b6f7af0bc99fd20086eb7763afeb340d6b7b3935faefba0a2bebf8881073a76", func := "glacis/glacislaw7.DirAll", spec := "dirAll", inPlace := ["slices.overlaps[glacis/api.Entry]"], unfollowed := true, recurses := true, apart := false }
def DirAllSaid : Prop := dirAllRow.holds Try.pinned (OpenSpec.ofChange dirAllSpec)

/-- ITS FALSE NEIGHBOUR: 'it returns false'. Refute it at one input. -/
def dirAllWrong : ChangeSpec := { name := "dirAll", fn := fun _ => fun
  | [d1, d2, d3, d4, d5, d6] => { results := [.lit (.bool false)], args := [d1, d2, d3, d4, d5, d6] }
  | _ => none }
def DirAllWrongFalsely : Prop := dirAllRow.holds Try.pinned (OpenSpec.ofChange dirAllWrong)

/-- 'glacislaw7.DirBack': WHATEVER THE INPUT: true; the input reads as it did. -/
def dirBackSpec : ChangeSpec := { name := "dirBack", fn := fun _ => fun
  | [d1, d2] => { results := [.lit (.bool true)], args := [d1, d2] }
  | _ => none }
def dirBackRow : OpenClaim := { program := "ytfjbfopomepnoaa", sum := "2b6f7af0bc99fd20086eb7763afeb340d6b7b3935faefba0a2bebf8881073a76", func := "glacis/glacislaw7.DirBack", spec := "dirBack", inPlace := ["slices.overlaps[glacis/api.Entry]"], unfollowed := true, recurses := true, apart := false }
def DirBackSaid : Prop := dirBackRow.holds Try.pinned (OpenSpec.ofChange dirBackSpec)

/-- ITS FALSE NEIGHBOUR: 'it returns false'. Refute it at one input. -/
def dirBackWrong : ChangeSpec := { name := "dirBack", fn := fun _ => fun
  | [d1, d2] => { results := [.lit (.bool false)], args := [d1, d2] }
  | _ => none }
def DirBackWrongFalsely : Prop := dirBackRow.holds Try.pinned (OpenSpec.ofChange dirBackWrong)

/-- 'glacislaw7.DirForms': WHATEVER THE INPUT: true; the input reads as it did. -/
def dirFormsSpec : ChangeSpec := { name := "dirForms", fn := fun _ => fun
  | [] => { results := [.lit (.bool true)], args := [] }
  | _ => none }
def dirFormsRow : OpenClaim := { program := "ytfjbfopomepnoaa", sum := "2b6f7af0bc99fd20086eb7763afeb340d6b7b3935faefba0a2bebf8881073a76", func := "glacis/glacislaw7.DirForms", spec := "dirForms", inPlace := ["slices.overlaps[glacis/api.Entry]"], unfollowed := true, recurses := true, apart := false }
def DirFormsSaid : Prop := dirFormsRow.holds Try.pinned (OpenSpec.ofChange dirFormsSpec)

/-- ITS FALSE NEIGHBOUR: 'it returns false'. Refute it at one input. -/
def dirFormsWrong : ChangeSpec := { name := "dirForms", fn := fun _ => fun
  | [] => { results := [.lit (.bool false)], args := [] }
  | _ => none }
def DirFormsWrongFalsely : Prop := dirFormsRow.holds Try.pinned (OpenSpec.ofChange dirFormsWrong)

/-- 'glacislaw7.DirLong': WHATEVER THE INPUT: true; the input reads as it did. -/
def dirLongSpec : ChangeSpec := { name := "dirLong", fn := fun _ => fun
  | [d] => { results := [.lit (.bool true)], args := [d] }
  | _ => none }
def dirLongRow : OpenClaim := { program := "ytfjbfopomepnoaa", sum := "2b6f7af0bc99fd20086eb7763afeb340d6b7b3935faefba0a2bebf8881073a76", func := "glacis/glacislaw7.DirLong", spec := "dirLong", inPlace := ["slices.overlaps[glacis/api.Entry]"], unfollowed := true, recurses := true, apart := false }
def DirLongSaid : Prop := dirLongRow.holds Try.pinned (OpenSpec.ofChange dirLongSpec)

/-- ITS FALSE NEIGHBOUR: 'it returns false'. Refute it at one input. -/
def dirLongWrong : ChangeSpec := { name := "dirLong", fn := fun _ => fun
  | [d] => { results := [.lit (.bool false)], args := [d] }
  | _ => none }
def DirLongWrongFalsely : Prop := dirLongRow.holds Try.pinned (OpenSpec.ofChange dirLongWrong)

/- THE SECOND FORM. 'bulk': how many values and letters a reading holds, each counted each time it is reached (what is shared counts as often as it is met; a slice's spare places count too). A statement '..UptoSaid' is the law's where the arguments, and the package variables that the reading takes, are together of bulk at most 1048576: NARROWER than '..Said'. Prove '..Said' where nothing that the law and all that it calls make is longer than what came in: it says more and counts as full. Else prove '..UptoSaid'. A law counts once. -/
mutual
def uptoBulk {H : Type} : DataW H → Nat
  | .lit (.string bytes) => bytes.length + 1
  | .lit _ => 1
  | .nil => 1
  | .ptr d => uptoBulk d + 1
  | .slice elems spare => uptoBulkAll elems + uptoBulkAll spare + 1
  | .agg parts => uptoBulkAll parts + 1
  | .iface _ d => uptoBulk d + 1
  | .map entries => uptoBulkEntries entries + 1
  | .held _ => 1
def uptoBulkAll {H : Type} : List (DataW H) → Nat
  | [] => 0
  | d :: r => uptoBulk d + uptoBulkAll r
def uptoBulkEntries {H : Type} : List (Lit × DataW H) → Nat
  | [] => 0
  | x :: r => uptoBulkEntry x + uptoBulkEntries r
def uptoBulkEntry {H : Type} : Lit × DataW H → Nat
  | (.string bytes, d) => bytes.length + uptoBulk d + 1
  | (_, d) => uptoBulk d + 1
 end
def uptoSmall : (H : Type) → List (DataW H) → Bool := fun _ ds => decide (uptoBulkAll ds ≤ 1048576)
def OpenSpec.upto (s : _root_.Go.ChangeSpec) : _root_.Go.OpenSpec := { _root_.Go.OpenSpec.ofChange s with cond := some uptoSmall }

/-- 'glacislaw7.DirAll', WHERE WHAT IT READS IS OF BULK AT MOST 1048576: true; the input reads as it did. -/
def dirAllUptoRow : OpenClaim := { program := "ytfjbfopomepnoaa", sum := "2b6f7af0bc99fd20086eb7763afeb340d6b7b3935faefba0a2bebf8881073a76", func := "glacis/glacislaw7.DirAll", spec := "dirAll", inPlace := ["slices.overlaps[glacis/api.Entry]"], unfollowed := true, recurses := true, apart := false, narrowed := true }
def DirAllUptoSaid : Prop := dirAllUptoRow.holds Try.pinned (OpenSpec.upto dirAllSpec)

/-- 'glacislaw7.DirBack', WHERE WHAT IT READS IS OF BULK AT MOST 1048576: true; the input reads as it did. -/
def dirBackUptoRow : OpenClaim := { program := "ytfjbfopomepnoaa", sum := "2b6f7af0bc99fd20086eb7763afeb340d6b7b3935faefba0a2bebf8881073a76", func := "glacis/glacislaw7.DirBack", spec := "dirBack", inPlace := ["slices.overlaps[glacis/api.Entry]"], unfollowed := true, recurses := true, apart := false, narrowed := true }
def DirBackUptoSaid : Prop := dirBackUptoRow.holds Try.pinned (OpenSpec.upto dirBackSpec)

/-- 'glacislaw7.DirForms', WHERE WHAT IT READS IS OF BULK AT MOST 1048576: true; the input reads as it did. -/
def dirFormsUptoRow : OpenClaim := { program := "ytfjbfopomepnoaa", sum := "2b6f7af0bc99fd20086eb7763afeb340d6b7b3935faefba0a2bebf8881073a76", func := "glacis/glacislaw7.DirForms", spec := "dirForms", inPlace := ["slices.overlaps[glacis/api.Entry]"], unfollowed := true, recurses := true, apart := false, narrowed := true }
def DirFormsUptoSaid : Prop := dirFormsUptoRow.holds Try.pinned (OpenSpec.upto dirFormsSpec)

/-- 'glacislaw7.DirLong', WHERE WHAT IT READS IS OF BULK AT MOST 1048576: true; the input reads as it did. -/
def dirLongUptoRow : OpenClaim := { program := "ytfjbfopomepnoaa", sum := "2b6f7af0bc99fd20086eb7763afeb340d6b7b3935faefba0a2bebf8881073a76", func := "glacis/glacislaw7.DirLong", spec := "dirLong", inPlace := ["slices.overlaps[glacis/api.Entry]"], unfollowed := true, recurses := true, apart := false, narrowed := true }
def DirLongUptoSaid : Prop := dirLongUptoRow.holds Try.pinned (OpenSpec.upto dirLongSpec)

end Rows
end Go.Proofs.Ytfjbfopomepnoaa
