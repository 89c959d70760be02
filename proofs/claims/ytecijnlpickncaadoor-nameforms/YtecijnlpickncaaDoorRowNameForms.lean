/- Which names and ways may be. -/
import Derived.Test.YtecijnlpickncaaDoorRows
import Derived.Test.YtecijnlpickncaaDoorCards
import Derived.Test.YtecijnlpickncaaDoorTie
import Derived.Test.YtecijnlpickncaaDoorNameForms
import Derived.Test.YtecijnlpickncaaDoorTmC
import Derived.WalkKit
import Derived.ProofKit
import Derived.ShutString
import Derived.LaidMore
import Derived.Lay
import Derived.SevenTiedAt
import Derived.Stop.Joined
set_option maxRecDepth 100000
namespace Go.Proofs.YtecijnlpickncaaDoor.nameFormsRowed
open Go.Tm Go.ChangeShapes Go.WideShapes Go.ChangeAt Go.RowKit
theorem own : ownKnob Tryd.prog.godebug = none := by kernel_rfl
theorem laidOut : laidOutB Tryd.prog = true := by kernel_rfl
def us : List Ty := []
theorem con : ConOK Tryd.prog 5 (lawC us) := law_con tab_ok ΓnameForms_ok (by kernel_rfl) Tryd.func5 (by kernel_rfl) (by decide) nameForms_ex
theorem lifted (os : Os) (started : os.Started) (H : Type) (enc : TypeId × Value → H) :
    ReturnsInHanded {} Tryd.checked os 5 .any (fun w args => (Rows.nameFormsSpec.pre enc Tryd.prog Tryd.f5 Rows.nameFormsRow.domain false w args ∧ laidMetH Tryd.prog Rows.nameFormsRow.laid w) ∧ sizedMet enc Tryd.prog Tryd.f5 (OpenSpec.ofChange Rows.nameFormsSpec) false w args)
      (Rows.nameFormsSpec.post enc Tryd.prog Tryd.f5 false true false false) :=
  law_lifted_laid (C := Tryd.checked) (us := us) (rt := 4) (X := fun w _ => laidMetH Tryd.prog Rows.nameFormsRow.laid w) (fun _ _ _ hh h => h.of_heap hh) tab_ok con (fun l h1 h2 => lawC_eq h1 h2) own laidOut started (by kernel_rfl) Tryd.func5 rfl rfl (by kernel_rfl) rfl Tryd.underlying4 (by kernel_rfl) rfl
    (fun ds h => by match ds, h with | [], _ => rfl)
    (ChangeSpec.witness_shaped (enc := enc) (C := Tryd.checked) (os := os) (X := fun w _ => laidMetH Tryd.prog Rows.nameFormsRow.laid w) false (World.laidAll Tryd.prog os Rows.nameFormsRow.laid) #[] 40 (World.laidAll_os _ _ _)
      (World.shaped_of_ZipB (by kernel_rfl) (by kernel_rfl)) (by kernel_rfl) (by kernel_rfl) (by kernel_rfl)
      (by rw [MakeChecks.laidMetH_plain _ _ _ (by kernel_rfl)]; exact laidMet_laidAll _ (by kernel_rfl) (by kernel_rfl)))
theorem over : Rows.nameFormsRow.holds Tryd.pinned (OpenSpec.ofChange Rows.nameFormsSpec) :=
  OpenClaim.holds_of_wide 5 Tryd.f5 rfl rfl rfl rfl rfl rfl rfl ⟨rfl, rfl, rfl, rfl, rfl⟩ rfl rfl rfl rfl rfl (by kernel_rfl) Tryd.func5 (by kernel_rfl)
    (of_decide_eq_true (by kernel_rfl)) (by unfold Func.isWrapper; first | (rw [if_pos (by decide +kernel)]; kernel_rfl) | (rw [if_neg (by decide +kernel)]; exact ⟨rfl, rfl⟩))
    (fun os started H enc _ => lifted os started H enc)
end Go.Proofs.YtecijnlpickncaaDoor.nameFormsRowed
namespace Go.Proofs.YtecijnlpickncaaDoor
open Go.Tm
theorem nameForms_holds : Rows.NameFormsCardSaid :=
  Claim7.holds_tied_plain_at .later [] [.data, .pinned] true (true, "c750b59a910bf284a8381c20305f1403a20d5f11c74a2799344a3ee87700e7fd") false nameFormsRowed.over (fun _ h => by cases h) (by kernel_rfl) (fun _ h => by cases h) nameForms_row_tie rfl ⟨rfl, rfl⟩ (by kernel_rfl) rfl
    (fun f fn hf hfn => by
      obtain rfl : f = 5 := Option.some.inj ((show Tryd.prog.funcNamed "glacis/glacislaw6.NameForms" = some 5 by kernel_rfl).symm.trans hf) |>.symm
      obtain rfl : fn = Tryd.f5 := (Option.some.inj (Tryd.func5.symm.trans hfn)).symm
      exact ⟨by kernel_rfl, fun j t ht => by
        rw [Tryd.params5] at ht
        have hm : t ∈ ([] : List TypeId) := by simpa using Array.mem_of_getElem? ht
        have hall : (([] : List TypeId).all fun u => !Tryd.prog.wantsStandIn u) = true := by kernel_rfl
        exact (show Tryd.prog.wantsStandIn t = false by simpa using List.all_eq_true.1 hall t hm)⟩)
    (by kernel_rfl)
end Go.Proofs.YtecijnlpickncaaDoor
#print axioms Go.Proofs.YtecijnlpickncaaDoor.nameForms_holds
