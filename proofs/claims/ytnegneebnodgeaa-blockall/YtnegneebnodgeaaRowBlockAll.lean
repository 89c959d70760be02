/- The program and the document put and take alike. -/
import Derived.Test.YtnegneebnodgeaaRows
import Derived.Test.YtnegneebnodgeaaBlockAll
import Derived.WalkKit
import Derived.ProofKit
import Derived.ShutString
set_option maxRecDepth 100000
namespace Go.Proofs.Ytnegneebnodgeaa.blockAllRowed
open Go.Tm Go.ChangeShapes Go.WideShapes Go.ChangeAt Go.RowKit
theorem own : ownKnob Try.prog.godebug = none := by kernel_rfl
theorem laidOut : laidOutB Try.prog = true := by kernel_rfl
def us : List Ty := [.prod (.int .i64) (.prod (.int .i64) (.prod (.str) (.unit))), .slice (.int .u8), .str, .int .u8, .int .u8]
theorem con : ConOK Try.prog 3 (lawC us) := law_con tab_ok ΓblockAll_ok (by kernel_rfl) Try.func3 (by kernel_rfl) (by decide) blockAll_ex
theorem lifted (os : Os) (started : os.Started) (H : Type) (enc : TypeId × Value → H) :
    ReturnsInHanded {} Try.checked os 3 .any (Rows.blockAllSpec.pre6 enc Try.prog Try.f3 Rows.blockAllRow.domain false) (Rows.blockAllSpec.post enc Try.prog Try.f3 false true false false) :=
  law_lifted (C := Try.checked) (us := us) (rt := 4) tab_ok con (fun l h1 h2 => lawC_eq h1 h2) own laidOut started (by kernel_rfl) Try.func3 rfl rfl (by kernel_rfl) rfl Try.underlying4 (by kernel_rfl) rfl
    (fun ds h => by match ds, h with | [_, _, _, _, _], _ => rfl)
    (ChangeSpec.witness6 (enc := enc) (C := Try.checked) false ⟨#[], #[.agg #[.int .i64 0, .int .i64 0, .string ByteArray.empty], .slice none 0 0, .string ByteArray.empty, .int .u8 0, .int .u8 0], []⟩ 40 (by kernel_rfl) (by kernel_rfl) (by kernel_rfl) (by kernel_rfl))
theorem over : Rows.blockAllRow.holds Try.pinned (OpenSpec.ofChange Rows.blockAllSpec) :=
  OpenClaim.holds_of_wide 3 Try.f3 rfl rfl rfl rfl rfl rfl rfl ⟨rfl, rfl, rfl, rfl, rfl⟩ rfl rfl rfl rfl rfl (by kernel_rfl) Try.func3 (by kernel_rfl)
    (of_decide_eq_true (by kernel_rfl)) (by unfold Func.isWrapper; first | (rw [if_pos (by decide +kernel)]; kernel_rfl) | (rw [if_neg (by decide +kernel)]; exact ⟨rfl, rfl⟩))
    (fun os started H enc _ => lifted os started H enc)
end Go.Proofs.Ytnegneebnodgeaa.blockAllRowed
namespace Go.Proofs.Ytnegneebnodgeaa
theorem blockAll_holds : Rows.BlockAllSaid := blockAllRowed.over
end Go.Proofs.Ytnegneebnodgeaa
#print axioms Go.Proofs.Ytnegneebnodgeaa.blockAll_holds
