/- What bytes say is said by the bytes that are made of it, and cut off it says the first steps. -/
import Derived.Test.YtmcemcdjfodchaaRows
import Derived.Test.YtmcemcdjfodchaaOpsBack
import Derived.WalkKit
import Derived.ProofKit
import Derived.ShutString
set_option maxRecDepth 100000
namespace Go.Proofs.Ytmcemcdjfodchaa.opsBackRowed
open Go.Tm Go.ChangeShapes Go.WideShapes Go.ChangeAt Go.RowKit
theorem own : ownKnob Try.prog.godebug = none := by kernel_rfl
theorem laidOut : laidOutB Try.prog = true := by kernel_rfl
def us : List Ty := [.slice (.int .u8), .int .u16]
theorem con : ConOK Try.prog 4 (lawC us) := law_con tab_ok ΓopsBack_ok (by kernel_rfl) Try.func4 (by kernel_rfl) (by decide) opsBack_ex
theorem lifted (os : Os) (started : os.Started) (H : Type) (enc : TypeId × Value → H) :
    ReturnsInHanded {} Try.checked os 4 .any (Rows.opsBackSpec.pre6 enc Try.prog Try.f4 Rows.opsBackRow.domain false) (Rows.opsBackSpec.post enc Try.prog Try.f4 false true false false) :=
  law_lifted (C := Try.checked) (us := us) (rt := 4) tab_ok con (fun l h1 h2 => lawC_eq h1 h2) own laidOut started (by kernel_rfl) Try.func4 rfl rfl (by kernel_rfl) rfl Try.underlying4 (by kernel_rfl) rfl
    (fun ds h => by match ds, h with | [_, _], _ => rfl)
    (ChangeSpec.witness6 (enc := enc) (C := Try.checked) false ⟨#[], #[.slice none 0 0, .int .u16 0], []⟩ 40 (by kernel_rfl) (by kernel_rfl) (by kernel_rfl) (by kernel_rfl))
theorem over : Rows.opsBackRow.holds Try.pinned (OpenSpec.ofChange Rows.opsBackSpec) :=
  OpenClaim.holds_of_wide 4 Try.f4 rfl rfl rfl rfl rfl rfl rfl ⟨rfl, rfl, rfl, rfl, rfl⟩ rfl rfl rfl rfl rfl (by kernel_rfl) Try.func4 (by kernel_rfl)
    (of_decide_eq_true (by kernel_rfl)) (by unfold Func.isWrapper; first | (rw [if_pos (by decide +kernel)]; kernel_rfl) | (rw [if_neg (by decide +kernel)]; exact ⟨rfl, rfl⟩))
    (fun os started H enc _ => lifted os started H enc)
end Go.Proofs.Ytmcemcdjfodchaa.opsBackRowed
namespace Go.Proofs.Ytmcemcdjfodchaa
theorem opsBack_holds : Rows.OpsBackSaid := opsBackRowed.over
end Go.Proofs.Ytmcemcdjfodchaa
#print axioms Go.Proofs.Ytmcemcdjfodchaa.opsBack_holds
