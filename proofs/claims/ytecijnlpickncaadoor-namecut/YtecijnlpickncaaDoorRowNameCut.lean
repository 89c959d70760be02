/- What is ahead of a way's last name is a way. -/
import Derived.Test.YtecijnlpickncaaDoorRows
import Derived.Test.YtecijnlpickncaaDoorCards
import Derived.Test.YtecijnlpickncaaDoorTie
import Derived.Test.YtecijnlpickncaaDoorNameCut
import Derived.Test.YtecijnlpickncaaDoorTmC
import Derived.WalkKit
import Derived.ProofKit
import Derived.ShutString
import Derived.LaidMore
import Derived.Lay
import Derived.SevenTiedAt
import Derived.Stop.Joined
set_option maxRecDepth 100000
namespace Go.Proofs.YtecijnlpickncaaDoor.nameCutRowed
open Go.Tm Go.ChangeShapes Go.WideShapes Go.ChangeAt Go.RowKit
theorem own : ownKnob Tryd.prog.godebug = none := by kernel_rfl
theorem laidOut : laidOutB Tryd.prog = true := by kernel_rfl
def us : List Ty := [.int .u8, .slice (.int .u8)]
theorem con : ConOK Tryd.prog 6 (lawC us) := law_con tab_ok ΓnameCut_ok (by kernel_rfl) Tryd.func6 (by kernel_rfl) (by decide) nameCut_ex
theorem lifted (os : Os) (started : os.Started) (H : Type) (enc : TypeId × Value → H) :
    ReturnsInHanded {} Tryd.checked os 6 .any (fun w args => (Rows.nameCutSpec.pre enc Tryd.prog Tryd.f6 Rows.nameCutRow.domain false w args ∧ laidMetH Tryd.prog Rows.nameCutRow.laid w) ∧ sizedMet enc Tryd.prog Tryd.f6 (OpenSpec.ofChange Rows.nameCutSpec) false w args)
      (Rows.nameCutSpec.post enc Tryd.prog Tryd.f6 false true false false) :=
  law_lifted_laid (C := Tryd.checked) (us := us) (rt := 4) (X := fun w _ => laidMetH Tryd.prog Rows.nameCutRow.laid w) (fun _ _ _ hh h => h.of_heap hh) tab_ok con (fun l h1 h2 => lawC_eq h1 h2) own laidOut started (by kernel_rfl) Tryd.func6 rfl rfl (by kernel_rfl) rfl Tryd.underlying4 (by kernel_rfl) rfl
    (fun ds h => by match ds, h with | [_, _], _ => rfl)
    (ChangeSpec.witness_shaped (enc := enc) (C := Tryd.checked) (os := os) (X := fun w _ => laidMetH Tryd.prog Rows.nameCutRow.laid w) false (World.laidAll Tryd.prog os Rows.nameCutRow.laid) #[.int .u8 0, .slice none 0 0] 40 (World.laidAll_os _ _ _)
      (World.shaped_of_ZipB (by kernel_rfl) (by kernel_rfl)) (by kernel_rfl) (by kernel_rfl) (by kernel_rfl)
      (by rw [MakeChecks.laidMetH_plain _ _ _ (by kernel_rfl)]; exact laidMet_laidAll _ (by kernel_rfl) (by kernel_rfl)))
theorem over : Rows.nameCutRow.holds Tryd.pinned (OpenSpec.ofChange Rows.nameCutSpec) :=
  OpenClaim.holds_of_wide 6 Tryd.f6 rfl rfl rfl rfl rfl rfl rfl ⟨rfl, rfl, rfl, rfl, rfl⟩ rfl rfl rfl rfl rfl (by kernel_rfl) Tryd.func6 (by kernel_rfl)
    (of_decide_eq_true (by kernel_rfl)) (by unfold Func.isWrapper; first | (rw [if_pos (by decide +kernel)]; kernel_rfl) | (rw [if_neg (by decide +kernel)]; exact ⟨rfl, rfl⟩))
    (fun os started H enc _ => lifted os started H enc)
end Go.Proofs.YtecijnlpickncaaDoor.nameCutRowed
namespace Go.Proofs.YtecijnlpickncaaDoor
open Go.Tm
theorem nameCut_holds : Rows.NameCutCardSaid :=
  Claim7.holds_tied_plain_at .later [] [.data, .pinned] true (true, "c750b59a910bf284a8381c20305f1403a20d5f11c74a2799344a3ee87700e7fd") false nameCutRowed.over (fun _ h => by cases h) (by kernel_rfl) (fun _ h => by cases h) nameCut_row_tie rfl ⟨rfl, rfl⟩ (by kernel_rfl) rfl
    (fun f fn hf hfn => by
      obtain rfl : f = 6 := Option.some.inj ((show Tryd.prog.funcNamed "glacis/glacislaw6.NameCut" = some 6 by kernel_rfl).symm.trans hf) |>.symm
      obtain rfl : fn = Tryd.f6 := (Option.some.inj (Tryd.func6.symm.trans hfn)).symm
      exact ⟨by kernel_rfl, fun j t ht => by
        rw [Tryd.params6] at ht
        have hm : t ∈ ([5, 22] : List TypeId) := by simpa using Array.mem_of_getElem? ht
        have hall : (([5, 22] : List TypeId).all fun u => !Tryd.prog.wantsStandIn u) = true := by kernel_rfl
        exact (show Tryd.prog.wantsStandIn t = false by simpa using List.all_eq_true.1 hall t hm)⟩)
    (by kernel_rfl)
end Go.Proofs.YtecijnlpickncaaDoor
#print axioms Go.Proofs.YtecijnlpickncaaDoor.nameCut_holds
