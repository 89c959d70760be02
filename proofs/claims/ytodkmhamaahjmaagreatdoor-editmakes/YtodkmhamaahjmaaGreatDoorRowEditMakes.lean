/- Of every tree made of numbers: what edit makes is there, empty, of its kind and mode, under the number that is asked for, or the least that is free; what it refuses changes nothing -/
import Derived.Test.YtodkmhamaahjmaaGreatDoorRows
import Derived.Test.YtodkmhamaahjmaaGreatDoorCards
import Derived.Test.YtodkmhamaahjmaaGreatDoorTie
import Derived.Test.YtodkmhamaahjmaaGreatDoorEditMakes
import Derived.Test.YtodkmhamaahjmaaGreatDoorTmC
import Derived.WalkKit
import Derived.ProofKit
import Derived.ShutString
import Derived.LaidMore
import Derived.Lay
import Derived.SevenTiedAt
import Derived.Stop.Joined
set_option maxRecDepth 100000
namespace Go.Proofs.YtodkmhamaahjmaaGreatDoor.editMakesRowed
open Go.Tm Go.ChangeShapes Go.WideShapes Go.ChangeAt Go.RowKit
theorem own : ownKnob Tryz.prog.godebug = none := by kernel_rfl
theorem laidOut : laidOutB Tryz.prog = true := by kernel_rfl
def us : List Ty := [.slice (.int .u8), .int .u8, .int .u8, .int .u8]
theorem con : ConOK Tryz.prog 6 (lawC us) := law_con tab_ok ΓeditMakes_ok (by kernel_rfl) Tryz.func6 (by kernel_rfl) (by decide) editMakes_ex
theorem lifted (os : Os) (started : os.Started) (H : Type) (enc : TypeId × Value → H) :
    ReturnsInHanded {} Tryz.checked os 6 .any (fun w args => (Rows.editMakesSpec.pre enc Tryz.prog Tryz.f6 Rows.editMakesRow.domain false w args ∧ laidMetH Tryz.prog Rows.editMakesRow.laid w) ∧ sizedMet enc Tryz.prog Tryz.f6 (OpenSpec.ofChange Rows.editMakesSpec) false w args)
      (Rows.editMakesSpec.post enc Tryz.prog Tryz.f6 false true false false) :=
  law_lifted_laid (C := Tryz.checked) (us := us) (rt := 4) (X := fun w _ => laidMetH Tryz.prog Rows.editMakesRow.laid w) (fun _ _ _ hh h => h.of_heap hh) tab_ok con (fun l h1 h2 => lawC_eq h1 h2) own laidOut started (by kernel_rfl) Tryz.func6 rfl rfl (by kernel_rfl) rfl Tryz.underlying4 (by kernel_rfl) rfl
    (fun ds h => by match ds, h with | [_, _, _, _], _ => rfl)
    (ChangeSpec.witness_shaped (enc := enc) (C := Tryz.checked) (os := os) (X := fun w _ => laidMetH Tryz.prog Rows.editMakesRow.laid w) false (World.laidAll Tryz.prog os Rows.editMakesRow.laid) #[.slice none 0 0, .int .u8 0, .int .u8 0, .int .u8 0] 40 (World.laidAll_os _ _ _)
      (World.shaped_of_ZipB (by kernel_rfl) (by kernel_rfl)) (by kernel_rfl) (by kernel_rfl) (by kernel_rfl)
      (by rw [MakeChecks.laidMetH_plain _ _ _ (by kernel_rfl)]; exact laidMet_laidAll _ (by kernel_rfl) (by kernel_rfl)))
theorem over : Rows.editMakesRow.holds Tryz.pinned (OpenSpec.ofChange Rows.editMakesSpec) :=
  OpenClaim.holds_of_wide 6 Tryz.f6 rfl rfl rfl rfl rfl rfl rfl ⟨rfl, rfl, rfl, rfl, rfl⟩ rfl rfl rfl rfl rfl (by kernel_rfl) Tryz.func6 (by kernel_rfl)
    (of_decide_eq_true (by kernel_rfl)) (by unfold Func.isWrapper; first | (rw [if_pos (by decide +kernel)]; kernel_rfl) | (rw [if_neg (by decide +kernel)]; exact ⟨rfl, rfl⟩))
    (fun os started H enc _ => lifted os started H enc)
end Go.Proofs.YtodkmhamaahjmaaGreatDoor.editMakesRowed
namespace Go.Proofs.YtodkmhamaahjmaaGreatDoor
open Go.Tm
theorem editMakes_holds : Rows.EditMakesCardSaid :=
  Claim7.holds_tied_plain_at .later [] [.data, .pinned] true (true, "ef10e94eefbe9696cebf03dbd27976ff566c058e841d22a14882e868c2be2dc8") true editMakesRowed.over (fun _ h => by cases h) (by kernel_rfl) (fun _ h => by cases h) editMakes_row_tie rfl ⟨rfl, rfl⟩ (by kernel_rfl) rfl
    (fun f fn hf hfn => by
      obtain rfl : f = 6 := Option.some.inj ((show Tryz.prog.funcNamed "glacis/glacislaw9.EditMakes" = some 6 by kernel_rfl).symm.trans hf) |>.symm
      obtain rfl : fn = Tryz.f6 := (Option.some.inj (Tryz.func6.symm.trans hfn)).symm
      exact ⟨by kernel_rfl, fun j t ht => by
        rw [Tryz.params6] at ht
        have hm : t ∈ ([22, 5, 5, 5] : List TypeId) := by simpa using Array.mem_of_getElem? ht
        have hall : (([22, 5, 5, 5] : List TypeId).all fun u => !Tryz.prog.wantsStandIn u) = true := by kernel_rfl
        exact (show Tryz.prog.wantsStandIn t = false by simpa using List.all_eq_true.1 hall t hm)⟩)
    (by kernel_rfl)
end Go.Proofs.YtodkmhamaahjmaaGreatDoor
#print axioms Go.Proofs.YtodkmhamaahjmaaGreatDoor.editMakes_holds
