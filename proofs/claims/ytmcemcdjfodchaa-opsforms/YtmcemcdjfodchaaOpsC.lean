/- ops: what is deferred. -/
import Derived.Test.YtmcemcdjfodchaaTab
import Derived.Test.YtmcemcdjfodchaaTmC
import Derived.Tactics
import Derived.Tactics2
set_option maxRecDepth 10000
set_option linter.unusedSimpArgs false
set_option linter.unusedVariables false
namespace Go.Proofs.Ytmcemcdjfodchaa
open Go.Tm Go.IntWalk
def shortE : PanicEntry := ⟨.iface 51 (.agg #[]), false, false⟩
theorem take_idle (w : World) : CallsD Try.prog 21 #[] .returning w fun e u' w' => (∃ v, e = .returned v) ∧ u' = .returning ∧ w' = w := by
  refine callsD_of_wpS Try.func21 rfl fun c₀ cs hu => ?_
  apply wpS_seq
  apply wpS_region
  simp [wpOpsS, go_sem, recoverD, hu, Try.ntmps21, Exit.thenS]
  refine wpS_of_wp ?_
  have ht : (Instr.typeAssert Value.nilIface 20 51 true).run Try.prog w = .ok (.tuple #[.agg #[], .bool false]) w := by rfl
  go_wp2
  refine ⟨rfl, .returning, by cases c₀; simp_all, .tuple #[], by simp [results, Try.results21], ⟨_, rfl⟩, rfl, rfl⟩
theorem take_caught (w : World) : CallsD Try.prog 21 #[] (.panicking [shortE]) w fun e u' w' => (∃ v, e = .returned v) ∧ u' = .panicking [{ shortE with recovered := true }] ∧ w' = w := by
  refine callsD_of_wpS Try.func21 rfl fun c₀ cs hu => ?_
  apply wpS_seq
  apply wpS_region
  simp [wpOpsS, go_sem, recoverD, hu, Try.ntmps21, Exit.thenS, shortE]
  refine wpS_of_wp ?_
  have ht : (Instr.typeAssert (.iface 51 (.agg #[])) 20 51 true).run Try.prog w = .ok (.tuple #[.agg #[], .bool true]) w := by rfl
  go_wp2
  exact ⟨rfl, _, rfl, .tuple #[], by simp [results, Try.results21], ⟨_, rfl⟩, rfl, rfl⟩
theorem take_catch : Catcher Try.prog 21 fun p => p = shortE := by
  refine ⟨?_, take_idle, fun p w hp => ?_⟩
  · funext w
    exact enters (fn := Try.f21) Try.func21 rfl rfl #[] w
  · subst hp
    exact take_caught w
end Go.Proofs.Ytmcemcdjfodchaa
