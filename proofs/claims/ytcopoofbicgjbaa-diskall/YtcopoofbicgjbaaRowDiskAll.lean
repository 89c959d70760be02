/- what blocks are, whatever is done -/
import Derived.Test.YtcopoofbicgjbaaRows
import Derived.Test.YtcopoofbicgjbaaDiskAll
import Derived.WalkKit
import Derived.ProofKit
import Derived.ShutString
set_option maxRecDepth 100000
namespace Go.Proofs.Ytcopoofbicgjbaa.diskAllRowed
open Go.Tm Go.ChangeShapes Go.WideShapes Go.ChangeAt Go.RowKit
theorem own : ownKnob Try.prog.godebug = none := by kernel_rfl
theorem laidOut : laidOutB Try.prog = true := by kernel_rfl
def us : List Ty := [.slice (.arr 3 (.int .u8)), .int .i64, .str, .slice (.bool), .int .i64]
theorem con : ConOK Try.prog 3 (lawC us) := law_con tab_ok ΓdiskAll_ok (by kernel_rfl) Try.func3 (by kernel_rfl) (by decide) diskAll_ex
theorem lifted (os : Os) (started : os.Started) (H : Type) (enc : TypeId × Value → H) :
    ReturnsInHanded {} Try.checked os 3 .any (Rows.diskAllSpec.pre6 enc Try.prog Try.f3 Rows.diskAllRow.domain false) (Rows.diskAllSpec.post enc Try.prog Try.f3 false true false false) :=
  law_lifted (C := Try.checked) (us := us) (rt := 4) tab_ok con (fun l h1 h2 => lawC_eq h1 h2) own laidOut started (by kernel_rfl) Try.func3 rfl rfl (by kernel_rfl) rfl Try.underlying4 (by kernel_rfl) rfl
    (fun ds h => by match ds, h with | [_, _, _, _, _], _ => rfl)
    (ChangeSpec.witness6 (enc := enc) (C := Try.checked) false ⟨#[], #[.slice none 0 0, .int .i64 0, .string ByteArray.empty, .slice none 0 0, .int .i64 0], []⟩ 40 (by kernel_rfl) (by kernel_rfl) (by kernel_rfl) (by kernel_rfl))
theorem over : Rows.diskAllRow.holds Try.pinned (OpenSpec.ofChange Rows.diskAllSpec) :=
  OpenClaim.holds_of_wide 3 Try.f3 rfl rfl rfl rfl rfl rfl rfl ⟨rfl, rfl, rfl, rfl, rfl⟩ rfl rfl rfl rfl rfl (by kernel_rfl) Try.func3 (by kernel_rfl)
    (of_decide_eq_true (by kernel_rfl)) (by unfold Func.isWrapper; first | (rw [if_pos (by decide +kernel)]; kernel_rfl) | (rw [if_neg (by decide +kernel)]; exact ⟨rfl, rfl⟩))
    (fun os started H enc _ => lifted os started H enc)
end Go.Proofs.Ytcopoofbicgjbaa.diskAllRowed
namespace Go.Proofs.Ytcopoofbicgjbaa
theorem diskAll_holds : Rows.DiskAllSaid := diskAllRowed.over
end Go.Proofs.Ytcopoofbicgjbaa
#print axioms Go.Proofs.Ytcopoofbicgjbaa.diskAll_holds
