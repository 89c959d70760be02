/- A byte says the same kind as one that is 21 more. -/
import Derived.Test.YtmcemcdjfodchaaRows
import Derived.Test.YtmcemcdjfodchaaOpsKinds
import Derived.WalkKit
import Derived.ProofKit
import Derived.ShutString
set_option maxRecDepth 100000
namespace Go.Proofs.Ytmcemcdjfodchaa.opsKindsRowed
open Go.Tm Go.ChangeShapes Go.WideShapes Go.ChangeAt Go.RowKit
theorem own : ownKnob Try.prog.godebug = none := by kernel_rfl
theorem laidOut : laidOutB Try.prog = true := by kernel_rfl
def us : List Ty := [.slice (.int .u8), .int .u8]
theorem con : ConOK Try.prog 8 (lawC us) := law_con tab_ok ΓopsKinds_ok (by kernel_rfl) Try.func8 (by kernel_rfl) (by decide) opsKinds_ex
theorem lifted (os : Os) (started : os.Started) (H : Type) (enc : TypeId × Value → H) :
    ReturnsInHanded {} Try.checked os 8 .any (Rows.opsKindsSpec.pre6 enc Try.prog Try.f8 Rows.opsKindsRow.domain false) (Rows.opsKindsSpec.post enc Try.prog Try.f8 false true false false) :=
  law_lifted (C := Try.checked) (us := us) (rt := 4) tab_ok con (fun l h1 h2 => lawC_eq h1 h2) own laidOut started (by kernel_rfl) Try.func8 rfl rfl (by kernel_rfl) rfl Try.underlying4 (by kernel_rfl) rfl
    (fun ds h => by match ds, h with | [_, _], _ => rfl)
    (ChangeSpec.witness6 (enc := enc) (C := Try.checked) false ⟨#[], #[.slice none 0 0, .int .u8 0], []⟩ 40 (by kernel_rfl) (by kernel_rfl) (by kernel_rfl) (by kernel_rfl))
theorem over : Rows.opsKindsRow.holds Try.pinned (OpenSpec.ofChange Rows.opsKindsSpec) :=
  OpenClaim.holds_of_wide 8 Try.f8 rfl rfl rfl rfl rfl rfl rfl ⟨rfl, rfl, rfl, rfl, rfl⟩ rfl rfl rfl rfl rfl (by kernel_rfl) Try.func8 (by kernel_rfl)
    (of_decide_eq_true (by kernel_rfl)) (by unfold Func.isWrapper; first | (rw [if_pos (by decide +kernel)]; kernel_rfl) | (rw [if_neg (by decide +kernel)]; exact ⟨rfl, rfl⟩))
    (fun os started H enc _ => lifted os started H enc)
end Go.Proofs.Ytmcemcdjfodchaa.opsKindsRowed
namespace Go.Proofs.Ytmcemcdjfodchaa
theorem opsKinds_holds : Rows.OpsKindsSaid := opsKindsRowed.over
end Go.Proofs.Ytmcemcdjfodchaa
#print axioms Go.Proofs.Ytmcemcdjfodchaa.opsKinds_holds
