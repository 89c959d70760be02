/- Of every tree made of numbers, and an order: a file with four names loses them one after the other, keeps its bytes until the last one goes, and then the tree is as it was before -/
import Derived.Test.YtodkmhamaahjmaaGreatDoorRows
import Derived.Test.YtodkmhamaahjmaaGreatDoorCards
import Derived.Test.YtodkmhamaahjmaaGreatDoorTie
import Derived.Test.YtodkmhamaahjmaaGreatDoorEditDrops
import Derived.Test.YtodkmhamaahjmaaGreatDoorTmC
import Derived.WalkKit
import Derived.ProofKit
import Derived.ShutString
import Derived.LaidMore
import Derived.Lay
import Derived.SevenTiedAt
import Derived.Stop.Joined
set_option maxRecDepth 100000
namespace Go.Proofs.YtodkmhamaahjmaaGreatDoor.editDropsRowed
open Go.Tm Go.ChangeShapes Go.WideShapes Go.ChangeAt Go.RowKit
theorem own : ownKnob Tryz.prog.godebug = none := by kernel_rfl
theorem laidOut : laidOutB Tryz.prog = true := by kernel_rfl
def us : List Ty := [.slice (.int .u8), .arr 4 (.int .u8)]
theorem con : ConOK Tryz.prog 7 (lawC us) := law_con tab_ok ΓeditDrops_ok (by kernel_rfl) Tryz.func7 (by kernel_rfl) (by decide) editDrops_ex
theorem lifted (os : Os) (started : os.Started) (H : Type) (enc : TypeId × Value → H) :
    ReturnsInHanded {} Tryz.checked os 7 .any (fun w args => (Rows.editDropsSpec.pre enc Tryz.prog Tryz.f7 Rows.editDropsRow.domain false w args ∧ laidMetH Tryz.prog Rows.editDropsRow.laid w) ∧ sizedMet enc Tryz.prog Tryz.f7 (OpenSpec.ofChange Rows.editDropsSpec) false w args)
      (Rows.editDropsSpec.post enc Tryz.prog Tryz.f7 false true false false) :=
  law_lifted_laid (C := Tryz.checked) (us := us) (rt := 4) (X := fun w _ => laidMetH Tryz.prog Rows.editDropsRow.laid w) (fun _ _ _ hh h => h.of_heap hh) tab_ok con (fun l h1 h2 => lawC_eq h1 h2) own laidOut started (by kernel_rfl) Tryz.func7 rfl rfl (by kernel_rfl) rfl Tryz.underlying4 (by kernel_rfl) rfl
    (fun ds h => by match ds, h with | [_, _], _ => rfl)
    (ChangeSpec.witness_shaped (enc := enc) (C := Tryz.checked) (os := os) (X := fun w _ => laidMetH Tryz.prog Rows.editDropsRow.laid w) false (World.laidAll Tryz.prog os Rows.editDropsRow.laid) #[.slice none 0 0, .agg #[.int .u8 0, .int .u8 0, .int .u8 0, .int .u8 0]] 40 (World.laidAll_os _ _ _)
      (World.shaped_of_ZipB (by kernel_rfl) (by kernel_rfl)) (by kernel_rfl) (by kernel_rfl) (by kernel_rfl)
      (by rw [MakeChecks.laidMetH_plain _ _ _ (by kernel_rfl)]; exact laidMet_laidAll _ (by kernel_rfl) (by kernel_rfl)))
theorem over : Rows.editDropsRow.holds Tryz.pinned (OpenSpec.ofChange Rows.editDropsSpec) :=
  OpenClaim.holds_of_wide 7 Tryz.f7 rfl rfl rfl rfl rfl rfl rfl ⟨rfl, rfl, rfl, rfl, rfl⟩ rfl rfl rfl rfl rfl (by kernel_rfl) Tryz.func7 (by kernel_rfl)
    (of_decide_eq_true (by kernel_rfl)) (by unfold Func.isWrapper; first | (rw [if_pos (by decide +kernel)]; kernel_rfl) | (rw [if_neg (by decide +kernel)]; exact ⟨rfl, rfl⟩))
    (fun os started H enc _ => lifted os started H enc)
end Go.Proofs.YtodkmhamaahjmaaGreatDoor.editDropsRowed
namespace Go.Proofs.YtodkmhamaahjmaaGreatDoor
open Go.Tm
theorem editDrops_holds : Rows.EditDropsCardSaid :=
  Claim7.holds_tied_plain_at .later [] [.data, .pinned] true (true, "ef10e94eefbe9696cebf03dbd27976ff566c058e841d22a14882e868c2be2dc8") true editDropsRowed.over (fun _ h => by cases h) (by kernel_rfl) (fun _ h => by cases h) editDrops_row_tie rfl ⟨rfl, rfl⟩ (by kernel_rfl) rfl
    (fun f fn hf hfn => by
      obtain rfl : f = 7 := Option.some.inj ((show Tryz.prog.funcNamed "glacis/glacislaw9.EditDrops" = some 7 by kernel_rfl).symm.trans hf) |>.symm
      obtain rfl : fn = Tryz.f7 := (Option.some.inj (Tryz.func7.symm.trans hfn)).symm
      exact ⟨by kernel_rfl, fun j t ht => by
        rw [Tryz.params7] at ht
        have hm : t ∈ ([22, 53] : List TypeId) := by simpa using Array.mem_of_getElem? ht
        have hall : (([22, 53] : List TypeId).all fun u => !Tryz.prog.wantsStandIn u) = true := by kernel_rfl
        exact (show Tryz.prog.wantsStandIn t = false by simpa using List.all_eq_true.1 hall t hm)⟩)
    (by kernel_rfl)
end Go.Proofs.YtodkmhamaahjmaaGreatDoor
#print axioms Go.Proofs.YtodkmhamaahjmaaGreatDoor.editDrops_holds
