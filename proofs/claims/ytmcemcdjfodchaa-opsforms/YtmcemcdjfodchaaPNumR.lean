/- Numbers as bytes, by the document. -/
import Derived.Test.YtmcemcdjfodchaaPNum
import Derived.Test.YtmcemcdjfodchaaBits2
set_option linter.unusedVariables false
set_option linter.unusedSimpArgs false
namespace Go.Proofs.Ytmcemcdjfodchaa
open Go.Tm Go.IntWalk

theorem hiN_nat {b : List Nat} (hb : ∀ x ∈ b, x < 256) {c : Nat} (hc : c ≤ 4) (hl : c ≤ b.length) : ∀ {k : Nat}, k ≤ c → hiN (ints b) c k = (le ((b.take c).drop (c - k)) : Int)
  | 0, _ => by simp [hiN, le, List.drop_of_length_le]
  | k + 1, h => by
    have ih := hiN_nat hb hc hl (k := k) (by omega)
    have hx := getD_lt hb (c - 1 - k)
    have hlt : le ((b.take c).drop (c - k)) < 256 ^ ((b.take c).drop (c - k)).length := le_lt (fun x hx => hb x (List.mem_of_mem_take (List.mem_of_mem_drop hx)))
    rw [List.length_drop, List.length_take, Nat.min_eq_left hl, show c - (c - k) = k by omega, pow8] at hlt
    have hp : 2 ^ (8 * k) ≤ 2 ^ 24 := Nat.pow_le_pow_right (by decide) (by omega)
    simp only [hiN, ih, ints_getD]
    rw [w_nat (z := (le ((b.take c).drop (c - k)) : Int) * 256) (n := le ((b.take c).drop (c - k)) * 256) (by simp) (by omega), w_nat (z := ((b.getD (c - 1 - k) 0 : Nat) : Int)) rfl (by omega),
      w_nat (n := le ((b.take c).drop (c - k)) * 256 + b.getD (c - 1 - k) 0) (by simp) (by omega)]
    have hlen : c - 1 - k < (b.take c).length := by rw [List.length_take]; omega
    rw [show c - (k + 1) = c - 1 - k by omega, List.drop_eq_getElem_cons hlen, show c - 1 - k + 1 = c - k by omega, le, List.getElem_take, List.getD_eq_getElem?_getD, List.getElem?_eq_getElem (by omega), Option.getD_some]
    omega

theorem rtakeS_eq {b : List Int} (hb : isB b) (n : Int) : rtakeS b n = takeS b n := by
  have e : b = ints (nats b) := (ints_nats hb).symm
  rw [e, takeS_nat (nats_lt hb)]
  unfold rtakeS
  rw [ints_length]
  split
  · rfl
  · rw [hiN_nat (nats_lt hb) (by omega) (by omega) (Nat.le_refl _), Nat.sub_self, List.drop_zero]

end Go.Proofs.Ytmcemcdjfodchaa
