/-
  No cell of these rows narrows 'for every input' (looked for: loops, veiled, ifaces, maps, wideKeys, modest, calm, conditions, laid).
  DERIVED. THE GIVEN ROWS OF THIS SEAT. 6 by the template 'for every input the law returns true; each argument reads behind the call as it read before'; 0 by the template 'total and deterministic' (their statements: YtahefjfkfmoplaaTotals.lean).
  GIVEN WITH THE SEED: the statements are not yours to turn. If you find one false, say at which input.
  Laid BY PROGRAM, IN A SANDBOX (cutbox-rows.mjs): the forced cells as the released guide's own fill.sh prints them over the translation 3dcbb3603b1872b3… (all of the seat's roots in one cut). By AI agents, Wed Nov 11 2026. No macro, syntax, notation, axiom, sorry.
-/
import Derived.Test.YtahefjfkfmoplaaChecked
import GoSem.Claim
import GoSem.ClaimJoined
import GoSem.ClaimMapViews
import Derived.JoinedTies
import Derived.KernelRfl
namespace Go.Proofs.Ytahefjfkfmoplaa
/- THE CELL 'sum', in the pinned program and in every row, IS THE sha256 OF THE DUMP (.gsa) THAT YtahefjfkfmoplaaProg.lean LOADS. Nothing in Lean hashes anything: it is a label: what it is worth is what the hold of that sum in a sandbox is worth. -/
noncomputable def Try.pinned : Pinned := { name := "ytahefjfkfmoplaa", sum := "3dcbb3603b1872b3c32380b345b9fbffbc7027a18d02c1add5983c2f3a9223d6", checked := Try.checked }
namespace Rows
def none {H : Type} : Left H := { results := [], args := [] }

/-- 'glacislaw20.DiffAll': WHATEVER THE INPUT: true; the input reads as it did. -/
def diffAllSpec : ChangeSpec := { name := "diffAll", fn := fun _ => fun
  | [d1, d2, d3] => { results := [.lit (.bool true)], args := [d1, d2, d3] }
  | _ => none }
def diffAllRow : OpenClaim := { program := "ytahefjfkfmoplaa", sum := "3dcbb3603b1872b3c32380b345b9fbffbc7027a18d02c1add5983c2f3a9223d6", func := "glacis/glacislaw20.DiffAll", spec := "diffAll", unfollowed := true, recurses := true, apart := false }
def DiffAllSaid : Prop := diffAllRow.holds Try.pinned (OpenSpec.ofChange diffAllSpec)

/-- ITS FALSE NEIGHBOUR: 'it returns false'. Refute it at one input. -/
def diffAllWrong : ChangeSpec := { name := "diffAll", fn := fun _ => fun
  | [d1, d2, d3] => { results := [.lit (.bool false)], args := [d1, d2, d3] }
  | _ => none }
def DiffAllWrongFalsely : Prop := diffAllRow.holds Try.pinned (OpenSpec.ofChange diffAllWrong)

/-- 'glacislaw20.DiffNone': WHATEVER THE INPUT: true; the input reads as it did. -/
def diffNoneSpec : ChangeSpec := { name := "diffNone", fn := fun _ => fun
  | [d1, d2] => { results := [.lit (.bool true)], args := [d1, d2] }
  | _ => none }
def diffNoneRow : OpenClaim := { program := "ytahefjfkfmoplaa", sum := "3dcbb3603b1872b3c32380b345b9fbffbc7027a18d02c1add5983c2f3a9223d6", func := "glacis/glacislaw20.DiffNone", spec := "diffNone", unfollowed := true, recurses := true, apart := false }
def DiffNoneSaid : Prop := diffNoneRow.holds Try.pinned (OpenSpec.ofChange diffNoneSpec)

/-- ITS FALSE NEIGHBOUR: 'it returns false'. Refute it at one input. -/
def diffNoneWrong : ChangeSpec := { name := "diffNone", fn := fun _ => fun
  | [d1, d2] => { results := [.lit (.bool false)], args := [d1, d2] }
  | _ => none }
def DiffNoneWrongFalsely : Prop := diffNoneRow.holds Try.pinned (OpenSpec.ofChange diffNoneWrong)

/-- 'glacislaw20.DiffCounts': WHATEVER THE INPUT: true; the input reads as it did. -/
def diffCountsSpec : ChangeSpec := { name := "diffCounts", fn := fun _ => fun
  | [d1, d2] => { results := [.lit (.bool true)], args := [d1, d2] }
  | _ => none }
def diffCountsRow : OpenClaim := { program := "ytahefjfkfmoplaa", sum := "3dcbb3603b1872b3c32380b345b9fbffbc7027a18d02c1add5983c2f3a9223d6", func := "glacis/glacislaw20.DiffCounts", spec := "diffCounts", unfollowed := true, recurses := true, apart := false }
def DiffCountsSaid : Prop := diffCountsRow.holds Try.pinned (OpenSpec.ofChange diffCountsSpec)

/-- ITS FALSE NEIGHBOUR: 'it returns false'. Refute it at one input. -/
def diffCountsWrong : ChangeSpec := { name := "diffCounts", fn := fun _ => fun
  | [d1, d2] => { results := [.lit (.bool false)], args := [d1, d2] }
  | _ => none }
def DiffCountsWrongFalsely : Prop := diffCountsRow.holds Try.pinned (OpenSpec.ofChange diffCountsWrong)

/-- 'glacislaw20.DiffForms': WHATEVER THE INPUT: true; the input reads as it did. -/
def diffFormsSpec : ChangeSpec := { name := "diffForms", fn := fun _ => fun
  | [] => { results := [.lit (.bool true)], args := [] }
  | _ => none }
def diffFormsRow : OpenClaim := { program := "ytahefjfkfmoplaa", sum := "3dcbb3603b1872b3c32380b345b9fbffbc7027a18d02c1add5983c2f3a9223d6", func := "glacis/glacislaw20.DiffForms", spec := "diffForms", unfollowed := true, recurses := true, apart := false }
def DiffFormsSaid : Prop := diffFormsRow.holds Try.pinned (OpenSpec.ofChange diffFormsSpec)

/-- ITS FALSE NEIGHBOUR: 'it returns false'. Refute it at one input. -/
def diffFormsWrong : ChangeSpec := { name := "diffForms", fn := fun _ => fun
  | [] => { results := [.lit (.bool false)], args := [] }
  | _ => none }
def DiffFormsWrongFalsely : Prop := diffFormsRow.holds Try.pinned (OpenSpec.ofChange diffFormsWrong)

/-- 'glacislaw20.DiffFits': WHATEVER THE INPUT: true; the input reads as it did. -/
def diffFitsSpec : ChangeSpec := { name := "diffFits", fn := fun _ => fun
  | [d1, d2] => { results := [.lit (.bool true)], args := [d1, d2] }
  | _ => none }
def diffFitsRow : OpenClaim := { program := "ytahefjfkfmoplaa", sum := "3dcbb3603b1872b3c32380b345b9fbffbc7027a18d02c1add5983c2f3a9223d6", func := "glacis/glacislaw20.DiffFits", spec := "diffFits", unfollowed := true, recurses := true, apart := false }
def DiffFitsSaid : Prop := diffFitsRow.holds Try.pinned (OpenSpec.ofChange diffFitsSpec)

/-- ITS FALSE NEIGHBOUR: 'it returns false'. Refute it at one input. -/
def diffFitsWrong : ChangeSpec := { name := "diffFits", fn := fun _ => fun
  | [d1, d2] => { results := [.lit (.bool false)], args := [d1, d2] }
  | _ => none }
def DiffFitsWrongFalsely : Prop := diffFitsRow.holds Try.pinned (OpenSpec.ofChange diffFitsWrong)

/-- 'glacislaw20.DiffBack': WHATEVER THE INPUT: true; the input reads as it did. -/
def diffBackSpec : ChangeSpec := { name := "diffBack", fn := fun _ => fun
  | [d1, d2] => { results := [.lit (.bool true)], args := [d1, d2] }
  | _ => none }
def diffBackRow : OpenClaim := { program := "ytahefjfkfmoplaa", sum := "3dcbb3603b1872b3c32380b345b9fbffbc7027a18d02c1add5983c2f3a9223d6", func := "glacis/glacislaw20.DiffBack", spec := "diffBack", unfollowed := true, recurses := true, apart := false }
def DiffBackSaid : Prop := diffBackRow.holds Try.pinned (OpenSpec.ofChange diffBackSpec)

/-- ITS FALSE NEIGHBOUR: 'it returns false'. Refute it at one input. -/
def diffBackWrong : ChangeSpec := { name := "diffBack", fn := fun _ => fun
  | [d1, d2] => { results := [.lit (.bool false)], args := [d1, d2] }
  | _ => none }
def DiffBackWrongFalsely : Prop := diffBackRow.holds Try.pinned (OpenSpec.ofChange diffBackWrong)

/- THE SECOND FORM. 'bulk': how many values and letters a reading holds, each counted each time it is reached (what is shared counts as often as it is met; a slice's spare places count too). A statement '..UptoSaid' is the law's where the arguments, and the package variables that the reading takes, are together of bulk at most 1048576: NARROWER than '..Said'. Prove '..Said' where nothing that the law and all that it calls make is longer than what came in: it says more and counts as full. Else prove '..UptoSaid'. A law counts once. -/
mutual
def uptoBulk {H : Type} : DataW H → Nat
  | .lit (.string bytes) => bytes.length + 1
  | .lit _ => 1
  | .nil => 1
  | .ptr d => uptoBulk d + 1
  | .slice elems spare => uptoBulkAll elems + uptoBulkAll spare + 1
  | .agg parts => uptoBulkAll parts + 1
  | .iface _ d => uptoBulk d + 1
  | .map entries => uptoBulkEntries entries + 1
  | .held _ => 1
def uptoBulkAll {H : Type} : List (DataW H) → Nat
  | [] => 0
  | d :: r => uptoBulk d + uptoBulkAll r
def uptoBulkEntries {H : Type} : List (Lit × DataW H) → Nat
  | [] => 0
  | x :: r => uptoBulkEntry x + uptoBulkEntries r
def uptoBulkEntry {H : Type} : Lit × DataW H → Nat
  | (.string bytes, d) => bytes.length + uptoBulk d + 1
  | (_, d) => uptoBulk d + 1
 end
def uptoSmall : (H : Type) → List (DataW H) → Bool := fun _ ds => decide (uptoBulkAll ds ≤ 1048576)
def OpenSpec.upto (s : _root_.Go.ChangeSpec) : _root_.Go.OpenSpec := { _root_.Go.OpenSpec.ofChange s with cond := some uptoSmall }

/-- 'glacislaw20.DiffAll', WHERE WHAT IT READS IS OF BULK AT MOST 1048576: true; the input reads as it did. -/
def diffAllUptoRow : OpenClaim := { program := "ytahefjfkfmoplaa", sum := "3dcbb3603b1872b3c32380b345b9fbffbc7027a18d02c1add5983c2f3a9223d6", func := "glacis/glacislaw20.DiffAll", spec := "diffAll", unfollowed := true, recurses := true, apart := false, narrowed := true }
def DiffAllUptoSaid : Prop := diffAllUptoRow.holds Try.pinned (OpenSpec.upto diffAllSpec)

/-- 'glacislaw20.DiffNone', WHERE WHAT IT READS IS OF BULK AT MOST 1048576: true; the input reads as it did. -/
def diffNoneUptoRow : OpenClaim := { program := "ytahefjfkfmoplaa", sum := "3dcbb3603b1872b3c32380b345b9fbffbc7027a18d02c1add5983c2f3a9223d6", func := "glacis/glacislaw20.DiffNone", spec := "diffNone", unfollowed := true, recurses := true, apart := false, narrowed := true }
def DiffNoneUptoSaid : Prop := diffNoneUptoRow.holds Try.pinned (OpenSpec.upto diffNoneSpec)

/-- 'glacislaw20.DiffCounts', WHERE WHAT IT READS IS OF BULK AT MOST 1048576: true; the input reads as it did. -/
def diffCountsUptoRow : OpenClaim := { program := "ytahefjfkfmoplaa", sum := "3dcbb3603b1872b3c32380b345b9fbffbc7027a18d02c1add5983c2f3a9223d6", func := "glacis/glacislaw20.DiffCounts", spec := "diffCounts", unfollowed := true, recurses := true, apart := false, narrowed := true }
def DiffCountsUptoSaid : Prop := diffCountsUptoRow.holds Try.pinned (OpenSpec.upto diffCountsSpec)

/-- 'glacislaw20.DiffForms', WHERE WHAT IT READS IS OF BULK AT MOST 1048576: true; the input reads as it did. -/
def diffFormsUptoRow : OpenClaim := { program := "ytahefjfkfmoplaa", sum := "3dcbb3603b1872b3c32380b345b9fbffbc7027a18d02c1add5983c2f3a9223d6", func := "glacis/glacislaw20.DiffForms", spec := "diffForms", unfollowed := true, recurses := true, apart := false, narrowed := true }
def DiffFormsUptoSaid : Prop := diffFormsUptoRow.holds Try.pinned (OpenSpec.upto diffFormsSpec)

/-- 'glacislaw20.DiffFits', WHERE WHAT IT READS IS OF BULK AT MOST 1048576: true; the input reads as it did. -/
def diffFitsUptoRow : OpenClaim := { program := "ytahefjfkfmoplaa", sum := "3dcbb3603b1872b3c32380b345b9fbffbc7027a18d02c1add5983c2f3a9223d6", func := "glacis/glacislaw20.DiffFits", spec := "diffFits", unfollowed := true, recurses := true, apart := false, narrowed := true }
def DiffFitsUptoSaid : Prop := diffFitsUptoRow.holds Try.pinned (OpenSpec.upto diffFitsSpec)

/-- 'glacislaw20.DiffBack', WHERE WHAT IT READS IS OF BULK AT MOST 1048576: true; the input reads as it did. -/
def diffBackUptoRow : OpenClaim := { program := "ytahefjfkfmoplaa", sum := "3dcbb3603b1872b3c32380b345b9fbffbc7027a18d02c1add5983c2f3a9223d6", func := "glacis/glacislaw20.DiffBack", spec := "diffBack", unfollowed := true, recurses := true, apart := false, narrowed := true }
def DiffBackUptoSaid : Prop := diffBackUptoRow.holds Try.pinned (OpenSpec.upto diffBackSpec)

end Rows
end Go.Proofs.Ytahefjfkfmoplaa
