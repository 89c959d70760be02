/- what some blocks are -/
import Derived.Test.YtcopoofbicgjbaaRows
import Derived.Test.YtcopoofbicgjbaaDiskForms
import Derived.WalkKit
import Derived.ProofKit
import Derived.ShutString
set_option maxRecDepth 100000
namespace Go.Proofs.Ytcopoofbicgjbaa.diskFormsRowed
open Go.Tm Go.ChangeShapes Go.WideShapes Go.ChangeAt Go.RowKit
theorem own : ownKnob Try.prog.godebug = none := by kernel_rfl
theorem laidOut : laidOutB Try.prog = true := by kernel_rfl
def us : List Ty := []
theorem con : ConOK Try.prog 6 (lawC us) := law_con tab_ok ΓdiskForms_ok (by kernel_rfl) Try.func6 (by kernel_rfl) (by decide) diskForms_ex
theorem lifted (os : Os) (started : os.Started) (H : Type) (enc : TypeId × Value → H) :
    ReturnsInHanded {} Try.checked os 6 .any (Rows.diskFormsSpec.pre6 enc Try.prog Try.f6 Rows.diskFormsRow.domain false) (Rows.diskFormsSpec.post enc Try.prog Try.f6 false true false false) :=
  law_lifted (C := Try.checked) (us := us) (rt := 4) tab_ok con (fun l h1 h2 => lawC_eq h1 h2) own laidOut started (by kernel_rfl) Try.func6 rfl rfl (by kernel_rfl) rfl Try.underlying4 (by kernel_rfl) rfl
    (fun ds h => by match ds, h with | [], _ => rfl)
    (ChangeSpec.witness6 (enc := enc) (C := Try.checked) false ⟨#[], #[], []⟩ 40 (by kernel_rfl) (by kernel_rfl) (by kernel_rfl) (by kernel_rfl))
theorem over : Rows.diskFormsRow.holds Try.pinned (OpenSpec.ofChange Rows.diskFormsSpec) :=
  OpenClaim.holds_of_wide 6 Try.f6 rfl rfl rfl rfl rfl rfl rfl ⟨rfl, rfl, rfl, rfl, rfl⟩ rfl rfl rfl rfl rfl (by kernel_rfl) Try.func6 (by kernel_rfl)
    (of_decide_eq_true (by kernel_rfl)) (by unfold Func.isWrapper; first | (rw [if_pos (by decide +kernel)]; kernel_rfl) | (rw [if_neg (by decide +kernel)]; exact ⟨rfl, rfl⟩))
    (fun os started H enc _ => lifted os started H enc)
end Go.Proofs.Ytcopoofbicgjbaa.diskFormsRowed
namespace Go.Proofs.Ytcopoofbicgjbaa
theorem diskForms_holds : Rows.DiskFormsSaid := diskFormsRowed.over
end Go.Proofs.Ytcopoofbicgjbaa
#print axioms Go.Proofs.Ytcopoofbicgjbaa.diskForms_holds
