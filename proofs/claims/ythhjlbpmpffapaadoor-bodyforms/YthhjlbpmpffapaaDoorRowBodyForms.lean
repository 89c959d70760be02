/- What some are told of files. -/
import Derived.Test.YthhjlbpmpffapaaDoorRows
import Derived.Test.YthhjlbpmpffapaaDoorCards
import Derived.Test.YthhjlbpmpffapaaDoorTie
import Derived.Test.YthhjlbpmpffapaaDoorBodyForms
import Derived.Test.YthhjlbpmpffapaaDoorTmC
import Derived.WalkKit
import Derived.ProofKit
import Derived.ShutString
import Derived.LaidMore
import Derived.Lay
import Derived.SevenTiedAt
import Derived.Stop.Joined
set_option maxRecDepth 100000
namespace Go.Proofs.YthhjlbpmpffapaaDoor.bodyFormsRowed
open Go.Tm Go.ChangeShapes Go.WideShapes Go.ChangeAt Go.RowKit
theorem own : ownKnob Tryd.prog.godebug = none := by kernel_rfl
theorem laidOut : laidOutB Tryd.prog = true := by kernel_rfl
def us : List Ty := []
theorem con : ConOK Tryd.prog 4 (lawC us) := law_con tab_ok ΓbodyForms_ok (by kernel_rfl) Tryd.func4 (by kernel_rfl) (by decide) bodyForms_ex
theorem lifted (os : Os) (started : os.Started) (H : Type) (enc : TypeId × Value → H) :
    ReturnsInHanded {} Tryd.checked os 4 .any (fun w args => (Rows.bodyFormsSpec.pre enc Tryd.prog Tryd.f4 Rows.bodyFormsRow.domain false w args ∧ laidMetH Tryd.prog Rows.bodyFormsRow.laid w) ∧ sizedMet enc Tryd.prog Tryd.f4 (OpenSpec.ofChange Rows.bodyFormsSpec) false w args)
      (Rows.bodyFormsSpec.post enc Tryd.prog Tryd.f4 false true false false) :=
  law_lifted_laid (C := Tryd.checked) (us := us) (rt := 4) (X := fun w _ => laidMetH Tryd.prog Rows.bodyFormsRow.laid w) (fun _ _ _ hh h => h.of_heap hh) tab_ok con (fun l h1 h2 => lawC_eq h1 h2) own laidOut started (by kernel_rfl) Tryd.func4 rfl rfl (by kernel_rfl) rfl Tryd.underlying4 (by kernel_rfl) rfl
    (fun ds h => by match ds, h with | [], _ => rfl)
    (ChangeSpec.witness_shaped (enc := enc) (C := Tryd.checked) (os := os) (X := fun w _ => laidMetH Tryd.prog Rows.bodyFormsRow.laid w) false (World.laidAll Tryd.prog os Rows.bodyFormsRow.laid) #[] 40 (World.laidAll_os _ _ _)
      (World.shaped_of_ZipB (by kernel_rfl) (by kernel_rfl)) (by kernel_rfl) (by kernel_rfl) (by kernel_rfl)
      (by rw [MakeChecks.laidMetH_plain _ _ _ (by kernel_rfl)]; exact laidMet_laidAll _ (by kernel_rfl) (by kernel_rfl)))
theorem over : Rows.bodyFormsRow.holds Tryd.pinned (OpenSpec.ofChange Rows.bodyFormsSpec) :=
  OpenClaim.holds_of_wide 4 Tryd.f4 rfl rfl rfl rfl rfl rfl rfl ⟨rfl, rfl, rfl, rfl, rfl⟩ rfl rfl rfl rfl rfl (by kernel_rfl) Tryd.func4 (by kernel_rfl)
    (of_decide_eq_true (by kernel_rfl)) (by unfold Func.isWrapper; first | (rw [if_pos (by decide +kernel)]; kernel_rfl) | (rw [if_neg (by decide +kernel)]; exact ⟨rfl, rfl⟩))
    (fun os started H enc _ => lifted os started H enc)
end Go.Proofs.YthhjlbpmpffapaaDoor.bodyFormsRowed
namespace Go.Proofs.YthhjlbpmpffapaaDoor
open Go.Tm
theorem bodyForms_holds : Rows.BodyFormsCardSaid :=
  Claim7.holds_tied_plain_at .later [] [.data, .pinned] true (true, "2f21cd1ace779a2a30f20ab4c474c736ba39e81dd5d548c2e9e04abe5d4529b5") false bodyFormsRowed.over (fun _ h => by cases h) (by kernel_rfl) (fun _ h => by cases h) bodyForms_row_tie rfl ⟨rfl, rfl⟩ (by kernel_rfl) rfl
    (fun f fn hf hfn => by
      obtain rfl : f = 4 := Option.some.inj ((show Tryd.prog.funcNamed "glacis/glacislaw10.BodyForms" = some 4 by kernel_rfl).symm.trans hf) |>.symm
      obtain rfl : fn = Tryd.f4 := (Option.some.inj (Tryd.func4.symm.trans hfn)).symm
      exact ⟨by kernel_rfl, fun j t ht => by
        rw [Tryd.params4] at ht
        have hm : t ∈ ([] : List TypeId) := by simpa using Array.mem_of_getElem? ht
        have hall : (([] : List TypeId).all fun u => !Tryd.prog.wantsStandIn u) = true := by kernel_rfl
        exact (show Tryd.prog.wantsStandIn t = false by simpa using List.all_eq_true.1 hall t hm)⟩)
    (by kernel_rfl)
end Go.Proofs.YthhjlbpmpffapaaDoor
#print axioms Go.Proofs.YthhjlbpmpffapaaDoor.bodyForms_holds
