/- What differs between some trees. -/
import Derived.Test.YtahefjfkfmoplaaRows
import Derived.Test.YtahefjfkfmoplaaDiffForms
import Derived.WalkKit
import Derived.ProofKit
import Derived.ShutString
set_option maxRecDepth 100000
namespace Go.Proofs.Ytahefjfkfmoplaa.diffFormsRowed
open Go.Tm Go.ChangeShapes Go.WideShapes Go.ChangeAt Go.RowKit
theorem own : ownKnob Try.prog.godebug = none := by kernel_rfl
theorem laidOut : laidOutB Try.prog = true := by kernel_rfl
def us : List Ty := []
theorem con : ConOK Try.prog 6 (lawC us) := law_con tab_ok ΓdiffForms_ok (by kernel_rfl) Try.func6 (by kernel_rfl) (by decide) diffForms_ex
theorem lifted (os : Os) (started : os.Started) (H : Type) (enc : TypeId × Value → H) :
    ReturnsInHanded {} Try.checked os 6 .any (Rows.diffFormsSpec.pre6 enc Try.prog Try.f6 Rows.diffFormsRow.domain false) (Rows.diffFormsSpec.post enc Try.prog Try.f6 false true false false) :=
  law_lifted (C := Try.checked) (us := us) (rt := 4) tab_ok con (fun l h1 h2 => lawC_eq h1 h2) own laidOut started (by kernel_rfl) Try.func6 rfl rfl (by kernel_rfl) rfl Try.underlying4 (by kernel_rfl) rfl
    (fun ds h => by match ds, h with | [], _ => rfl)
    (ChangeSpec.witness6 (enc := enc) (C := Try.checked) false ⟨#[], #[], []⟩ 40 (by kernel_rfl) (by kernel_rfl) (by kernel_rfl) (by kernel_rfl))
theorem over : Rows.diffFormsRow.holds Try.pinned (OpenSpec.ofChange Rows.diffFormsSpec) :=
  OpenClaim.holds_of_wide 6 Try.f6 rfl rfl rfl rfl rfl rfl rfl ⟨rfl, rfl, rfl, rfl, rfl⟩ rfl rfl rfl rfl rfl (by kernel_rfl) Try.func6 (by kernel_rfl)
    (of_decide_eq_true (by kernel_rfl)) (by unfold Func.isWrapper; first | (rw [if_pos (by decide +kernel)]; kernel_rfl) | (rw [if_neg (by decide +kernel)]; exact ⟨rfl, rfl⟩))
    (fun os started H enc _ => lifted os started H enc)
end Go.Proofs.Ytahefjfkfmoplaa.diffFormsRowed
namespace Go.Proofs.Ytahefjfkfmoplaa
theorem diffForms_holds : Rows.DiffFormsSaid := diffFormsRowed.over
end Go.Proofs.Ytahefjfkfmoplaa
#print axioms Go.Proofs.Ytahefjfkfmoplaa.diffForms_holds
