/- A tree is what is left of the one, and what came. -/
import Derived.Test.YtahefjfkfmoplaaRows
import Derived.Test.YtahefjfkfmoplaaDiffFits
import Derived.WalkKit
import Derived.ProofKit
import Derived.ShutString
set_option maxRecDepth 100000
namespace Go.Proofs.Ytahefjfkfmoplaa.diffFitsRowed
open Go.Tm Go.ChangeShapes Go.WideShapes Go.ChangeAt Go.RowKit
theorem own : ownKnob Try.prog.godebug = none := by kernel_rfl
theorem laidOut : laidOutB Try.prog = true := by kernel_rfl
def us : List Ty := [.slice (.int .u8), .slice (.int .u8)]
theorem con : ConOK Try.prog 7 (lawC us) := law_con tab_ok ΓdiffFits_ok (by kernel_rfl) Try.func7 (by kernel_rfl) (by decide) diffFits_ex
theorem lifted (os : Os) (started : os.Started) (H : Type) (enc : TypeId × Value → H) :
    ReturnsInHanded {} Try.checked os 7 .any (Rows.diffFitsSpec.pre6 enc Try.prog Try.f7 Rows.diffFitsRow.domain false) (Rows.diffFitsSpec.post enc Try.prog Try.f7 false true false false) :=
  law_lifted (C := Try.checked) (us := us) (rt := 4) tab_ok con (fun l h1 h2 => lawC_eq h1 h2) own laidOut started (by kernel_rfl) Try.func7 rfl rfl (by kernel_rfl) rfl Try.underlying4 (by kernel_rfl) rfl
    (fun ds h => by match ds, h with | [_, _], _ => rfl)
    (ChangeSpec.witness6 (enc := enc) (C := Try.checked) false ⟨#[], #[.slice none 0 0, .slice none 0 0], []⟩ 40 (by kernel_rfl) (by kernel_rfl) (by kernel_rfl) (by kernel_rfl))
theorem over : Rows.diffFitsRow.holds Try.pinned (OpenSpec.ofChange Rows.diffFitsSpec) :=
  OpenClaim.holds_of_wide 7 Try.f7 rfl rfl rfl rfl rfl rfl rfl ⟨rfl, rfl, rfl, rfl, rfl⟩ rfl rfl rfl rfl rfl (by kernel_rfl) Try.func7 (by kernel_rfl)
    (of_decide_eq_true (by kernel_rfl)) (by unfold Func.isWrapper; first | (rw [if_pos (by decide +kernel)]; kernel_rfl) | (rw [if_neg (by decide +kernel)]; exact ⟨rfl, rfl⟩))
    (fun os started H enc _ => lifted os started H enc)
end Go.Proofs.Ytahefjfkfmoplaa.diffFitsRowed
namespace Go.Proofs.Ytahefjfkfmoplaa
theorem diffFits_holds : Rows.DiffFitsSaid := diffFitsRowed.over
end Go.Proofs.Ytahefjfkfmoplaa
#print axioms Go.Proofs.Ytahefjfkfmoplaa.diffFits_holds
