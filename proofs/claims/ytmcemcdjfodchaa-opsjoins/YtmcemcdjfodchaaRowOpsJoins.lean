/- What two rows of steps say is said by their bytes, one behind the other. -/
import Derived.Test.YtmcemcdjfodchaaRows
import Derived.Test.YtmcemcdjfodchaaOpsJoins
import Derived.WalkKit
import Derived.ProofKit
import Derived.ShutString
set_option maxRecDepth 100000
namespace Go.Proofs.Ytmcemcdjfodchaa.opsJoinsRowed
open Go.Tm Go.ChangeShapes Go.WideShapes Go.ChangeAt Go.RowKit
theorem own : ownKnob Try.prog.godebug = none := by kernel_rfl
theorem laidOut : laidOutB Try.prog = true := by kernel_rfl
def us : List Ty := [.slice (.int .u8), .slice (.int .u8), .int .u8]
theorem con : ConOK Try.prog 5 (lawC us) := law_con tab_ok ΓopsJoins_ok (by kernel_rfl) Try.func5 (by kernel_rfl) (by decide) opsJoins_ex
theorem lifted (os : Os) (started : os.Started) (H : Type) (enc : TypeId × Value → H) :
    ReturnsInHanded {} Try.checked os 5 .any (Rows.opsJoinsSpec.pre6 enc Try.prog Try.f5 Rows.opsJoinsRow.domain false) (Rows.opsJoinsSpec.post enc Try.prog Try.f5 false true false false) :=
  law_lifted (C := Try.checked) (us := us) (rt := 4) tab_ok con (fun l h1 h2 => lawC_eq h1 h2) own laidOut started (by kernel_rfl) Try.func5 rfl rfl (by kernel_rfl) rfl Try.underlying4 (by kernel_rfl) rfl
    (fun ds h => by match ds, h with | [_, _, _], _ => rfl)
    (ChangeSpec.witness6 (enc := enc) (C := Try.checked) false ⟨#[], #[.slice none 0 0, .slice none 0 0, .int .u8 0], []⟩ 40 (by kernel_rfl) (by kernel_rfl) (by kernel_rfl) (by kernel_rfl))
theorem over : Rows.opsJoinsRow.holds Try.pinned (OpenSpec.ofChange Rows.opsJoinsSpec) :=
  OpenClaim.holds_of_wide 5 Try.f5 rfl rfl rfl rfl rfl rfl rfl ⟨rfl, rfl, rfl, rfl, rfl⟩ rfl rfl rfl rfl rfl (by kernel_rfl) Try.func5 (by kernel_rfl)
    (of_decide_eq_true (by kernel_rfl)) (by unfold Func.isWrapper; first | (rw [if_pos (by decide +kernel)]; kernel_rfl) | (rw [if_neg (by decide +kernel)]; exact ⟨rfl, rfl⟩))
    (fun os started H enc _ => lifted os started H enc)
end Go.Proofs.Ytmcemcdjfodchaa.opsJoinsRowed
namespace Go.Proofs.Ytmcemcdjfodchaa
theorem opsJoins_holds : Rows.OpsJoinsSaid := opsJoinsRowed.over
end Go.Proofs.Ytmcemcdjfodchaa
#print axioms Go.Proofs.Ytmcemcdjfodchaa.opsJoins_holds
