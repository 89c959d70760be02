/- What is put comes back, and two blocks are put alike only if they are alike. -/
import Derived.Test.YtnegneebnodgeaaRows
import Derived.Test.YtnegneebnodgeaaBlockBack
import Derived.WalkKit
import Derived.ProofKit
import Derived.ShutString
set_option maxRecDepth 100000
namespace Go.Proofs.Ytnegneebnodgeaa.blockBackRowed
open Go.Tm Go.ChangeShapes Go.WideShapes Go.ChangeAt Go.RowKit
theorem own : ownKnob Try.prog.godebug = none := by kernel_rfl
theorem laidOut : laidOutB Try.prog = true := by kernel_rfl
def us : List Ty := [.int .u8, .int .u8, .int .u16, .int .u16, .str, .str]
theorem con : ConOK Try.prog 4 (lawC us) := law_con tab_ok ΓblockBack_ok (by kernel_rfl) Try.func4 (by kernel_rfl) (by decide) blockBack_ex
theorem lifted (os : Os) (started : os.Started) (H : Type) (enc : TypeId × Value → H) :
    ReturnsInHanded {} Try.checked os 4 .any (Rows.blockBackSpec.pre6 enc Try.prog Try.f4 Rows.blockBackRow.domain false) (Rows.blockBackSpec.post enc Try.prog Try.f4 false true false false) :=
  law_lifted (C := Try.checked) (us := us) (rt := 4) tab_ok con (fun l h1 h2 => lawC_eq h1 h2) own laidOut started (by kernel_rfl) Try.func4 rfl rfl (by kernel_rfl) rfl Try.underlying4 (by kernel_rfl) rfl
    (fun ds h => by match ds, h with | [_, _, _, _, _, _], _ => rfl)
    (ChangeSpec.witness6 (enc := enc) (C := Try.checked) false ⟨#[], #[.int .u8 0, .int .u8 0, .int .u16 0, .int .u16 0, .string ByteArray.empty, .string ByteArray.empty], []⟩ 40 (by kernel_rfl) (by kernel_rfl) (by kernel_rfl) (by kernel_rfl))
theorem over : Rows.blockBackRow.holds Try.pinned (OpenSpec.ofChange Rows.blockBackSpec) :=
  OpenClaim.holds_of_wide 4 Try.f4 rfl rfl rfl rfl rfl rfl rfl ⟨rfl, rfl, rfl, rfl, rfl⟩ rfl rfl rfl rfl rfl (by kernel_rfl) Try.func4 (by kernel_rfl)
    (of_decide_eq_true (by kernel_rfl)) (by unfold Func.isWrapper; first | (rw [if_pos (by decide +kernel)]; kernel_rfl) | (rw [if_neg (by decide +kernel)]; exact ⟨rfl, rfl⟩))
    (fun os started H enc _ => lifted os started H enc)
end Go.Proofs.Ytnegneebnodgeaa.blockBackRowed
namespace Go.Proofs.Ytnegneebnodgeaa
theorem blockBack_holds : Rows.BlockBackSaid := blockBackRowed.over
end Go.Proofs.Ytnegneebnodgeaa
#print axioms Go.Proofs.Ytnegneebnodgeaa.blockBack_holds
