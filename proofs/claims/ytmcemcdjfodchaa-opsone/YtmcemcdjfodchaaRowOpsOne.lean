/- A step that may be said is, and comes back. -/
import Derived.Test.YtmcemcdjfodchaaRows
import Derived.Test.YtmcemcdjfodchaaOpsOne
import Derived.WalkKit
import Derived.ProofKit
import Derived.ShutString
set_option maxRecDepth 100000
namespace Go.Proofs.Ytmcemcdjfodchaa.opsOneRowed
open Go.Tm Go.ChangeShapes Go.WideShapes Go.ChangeAt Go.RowKit
theorem own : ownKnob Try.prog.godebug = none := by kernel_rfl
theorem laidOut : laidOutB Try.prog = true := by kernel_rfl
def us : List Ty := [.int .u8, .int .u8, .int .u8, .int .u8, .int .u16, .str, .str, .str, .slice (.bool)]
theorem con : ConOK Try.prog 7 (lawC us) := law_con tab_ok ΓopsOne_ok (by kernel_rfl) Try.func7 (by kernel_rfl) (by decide) opsOne_ex
theorem lifted (os : Os) (started : os.Started) (H : Type) (enc : TypeId × Value → H) :
    ReturnsInHanded {} Try.checked os 7 .any (Rows.opsOneSpec.pre6 enc Try.prog Try.f7 Rows.opsOneRow.domain false) (Rows.opsOneSpec.post enc Try.prog Try.f7 false true false false) :=
  law_lifted (C := Try.checked) (us := us) (rt := 4) tab_ok con (fun l h1 h2 => lawC_eq h1 h2) own laidOut started (by kernel_rfl) Try.func7 rfl rfl (by kernel_rfl) rfl Try.underlying4 (by kernel_rfl) rfl
    (fun ds h => by match ds, h with | [_, _, _, _, _, _, _, _, _], _ => rfl)
    (ChangeSpec.witness6 (enc := enc) (C := Try.checked) false ⟨#[], #[.int .u8 0, .int .u8 0, .int .u8 0, .int .u8 0, .int .u16 0, .string ByteArray.empty, .string ByteArray.empty, .string ByteArray.empty, .slice none 0 0], []⟩ 40 (by kernel_rfl) (by kernel_rfl) (by kernel_rfl) (by kernel_rfl))
theorem over : Rows.opsOneRow.holds Try.pinned (OpenSpec.ofChange Rows.opsOneSpec) :=
  OpenClaim.holds_of_wide 7 Try.f7 rfl rfl rfl rfl rfl rfl rfl ⟨rfl, rfl, rfl, rfl, rfl⟩ rfl rfl rfl rfl rfl (by kernel_rfl) Try.func7 (by kernel_rfl)
    (of_decide_eq_true (by kernel_rfl)) (by unfold Func.isWrapper; first | (rw [if_pos (by decide +kernel)]; kernel_rfl) | (rw [if_neg (by decide +kernel)]; exact ⟨rfl, rfl⟩))
    (fun os started H enc _ => lifted os started H enc)
end Go.Proofs.Ytmcemcdjfodchaa.opsOneRowed
namespace Go.Proofs.Ytmcemcdjfodchaa
theorem opsOne_holds : Rows.OpsOneSaid := opsOneRowed.over
end Go.Proofs.Ytmcemcdjfodchaa
#print axioms Go.Proofs.Ytmcemcdjfodchaa.opsOne_holds
