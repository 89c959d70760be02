/- Small facts that many texts use. -/
import Derived.Test.YtmcemcdjfodchaaPNum
import Derived.Test.YtmcemcdjfodchaaPBase
set_option maxRecDepth 10000
set_option maxHeartbeats 1000000
set_option linter.unusedSimpArgs false
set_option linter.unusedVariables false
set_option pp.deepTerms.threshold 10
namespace Go.Proofs.Ytmcemcdjfodchaa
open Go.Tm Go.IntWalk

theorem take_put' {n : Nat} {u : Int} {rest : List Int} (hn1 : 1 ≤ n) (hn4 : n ≤ 4) (h0 : 0 ≤ u) (hu : u < ((256 ^ n : Nat) : Int)) (hr : isB rest) : takeS (bytesN n u ++ rest) (n : Int) = (u, true) := by
  obtain ⟨v, rfl⟩ := Int.eq_ofNat_of_zero_le h0
  rw [← ints_nats hr]
  exact take_put hn1 hn4 (by omega) (nats_lt hr)
end Go.Proofs.Ytmcemcdjfodchaa
