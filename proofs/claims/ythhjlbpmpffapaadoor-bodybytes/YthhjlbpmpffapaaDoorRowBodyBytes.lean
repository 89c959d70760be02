/- What is written is read, by each name of the file, and the rest stays; what is cut is gone, and comes back as noughts. -/
import Derived.Test.YthhjlbpmpffapaaDoorRows
import Derived.Test.YthhjlbpmpffapaaDoorCards
import Derived.Test.YthhjlbpmpffapaaDoorTie
import Derived.Test.YthhjlbpmpffapaaDoorBodyBytes
import Derived.Test.YthhjlbpmpffapaaDoorTmC
import Derived.WalkKit
import Derived.ProofKit
import Derived.ShutString
import Derived.LaidMore
import Derived.Lay
import Derived.SevenTiedAt
import Derived.Stop.Joined
set_option maxRecDepth 100000
namespace Go.Proofs.YthhjlbpmpffapaaDoor.bodyBytesRowed
open Go.Tm Go.ChangeShapes Go.WideShapes Go.ChangeAt Go.RowKit
theorem own : ownKnob Tryd.prog.godebug = none := by kernel_rfl
theorem laidOut : laidOutB Tryd.prog = true := by kernel_rfl
def us : List Ty := [.str, .str, .int .u8, .int .u8]
theorem con : ConOK Tryd.prog 3 (lawC us) := law_con tab_ok ΓbodyBytes_ok (by kernel_rfl) Tryd.func3 (by kernel_rfl) (by decide) bodyBytes_ex
theorem lifted (os : Os) (started : os.Started) (H : Type) (enc : TypeId × Value → H) :
    ReturnsInHanded {} Tryd.checked os 3 .any (fun w args => (Rows.bodyBytesSpec.pre enc Tryd.prog Tryd.f3 Rows.bodyBytesRow.domain false w args ∧ laidMetH Tryd.prog Rows.bodyBytesRow.laid w) ∧ sizedMet enc Tryd.prog Tryd.f3 (OpenSpec.ofChange Rows.bodyBytesSpec) false w args)
      (Rows.bodyBytesSpec.post enc Tryd.prog Tryd.f3 false true false false) :=
  law_lifted_laid (C := Tryd.checked) (us := us) (rt := 4) (X := fun w _ => laidMetH Tryd.prog Rows.bodyBytesRow.laid w) (fun _ _ _ hh h => h.of_heap hh) tab_ok con (fun l h1 h2 => lawC_eq h1 h2) own laidOut started (by kernel_rfl) Tryd.func3 rfl rfl (by kernel_rfl) rfl Tryd.underlying4 (by kernel_rfl) rfl
    (fun ds h => by match ds, h with | [_, _, _, _], _ => rfl)
    (ChangeSpec.witness_shaped (enc := enc) (C := Tryd.checked) (os := os) (X := fun w _ => laidMetH Tryd.prog Rows.bodyBytesRow.laid w) false (World.laidAll Tryd.prog os Rows.bodyBytesRow.laid) #[.string ByteArray.empty, .string ByteArray.empty, .int .u8 0, .int .u8 0] 40 (World.laidAll_os _ _ _)
      (World.shaped_of_ZipB (by kernel_rfl) (by kernel_rfl)) (by kernel_rfl) (by kernel_rfl) (by kernel_rfl)
      (by rw [MakeChecks.laidMetH_plain _ _ _ (by kernel_rfl)]; exact laidMet_laidAll _ (by kernel_rfl) (by kernel_rfl)))
theorem over : Rows.bodyBytesRow.holds Tryd.pinned (OpenSpec.ofChange Rows.bodyBytesSpec) :=
  OpenClaim.holds_of_wide 3 Tryd.f3 rfl rfl rfl rfl rfl rfl rfl ⟨rfl, rfl, rfl, rfl, rfl⟩ rfl rfl rfl rfl rfl (by kernel_rfl) Tryd.func3 (by kernel_rfl)
    (of_decide_eq_true (by kernel_rfl)) (by unfold Func.isWrapper; first | (rw [if_pos (by decide +kernel)]; kernel_rfl) | (rw [if_neg (by decide +kernel)]; exact ⟨rfl, rfl⟩))
    (fun os started H enc _ => lifted os started H enc)
end Go.Proofs.YthhjlbpmpffapaaDoor.bodyBytesRowed
namespace Go.Proofs.YthhjlbpmpffapaaDoor
open Go.Tm
theorem bodyBytes_holds : Rows.BodyBytesCardSaid :=
  Claim7.holds_tied_plain_at .later [] [.data, .pinned] true (true, "2f21cd1ace779a2a30f20ab4c474c736ba39e81dd5d548c2e9e04abe5d4529b5") false bodyBytesRowed.over (fun _ h => by cases h) (by kernel_rfl) (fun _ h => by cases h) bodyBytes_row_tie rfl ⟨rfl, rfl⟩ (by kernel_rfl) rfl
    (fun f fn hf hfn => by
      obtain rfl : f = 3 := Option.some.inj ((show Tryd.prog.funcNamed "glacis/glacislaw10.BodyBytes" = some 3 by kernel_rfl).symm.trans hf) |>.symm
      obtain rfl : fn = Tryd.f3 := (Option.some.inj (Tryd.func3.symm.trans hfn)).symm
      exact ⟨by kernel_rfl, fun j t ht => by
        rw [Tryd.params3] at ht
        have hm : t ∈ ([9, 9, 5, 5] : List TypeId) := by simpa using Array.mem_of_getElem? ht
        have hall : (([9, 9, 5, 5] : List TypeId).all fun u => !Tryd.prog.wantsStandIn u) = true := by kernel_rfl
        exact (show Tryd.prog.wantsStandIn t = false by simpa using List.all_eq_true.1 hall t hm)⟩)
    (by kernel_rfl)
end Go.Proofs.YthhjlbpmpffapaaDoor
#print axioms Go.Proofs.YthhjlbpmpffapaaDoor.bodyBytes_holds
