/- Bytes of which five are turned. -/
import Derived.Test.YtlckajldmooefaaCrcN
set_option linter.unusedSimpArgs false
namespace Go.Proofs.Ytlckajldmooefaa
open Go.Tm Go.IntWalk Go.Crc
/-- Bytes of which five are turned, after i of them. -/
def tw (b : List Int) (k : Nat) (v : Int) : Nat → List Int
  | 0 => b
  | i + 1 => (tw b k v i).set (k + i) (Tm.bits .xor .u8 ((tw b k v i).getD (k + i) 0) (IntKind.u8.wrap (v.fdiv (2 ^ (8 * i)))))
theorem tw_len (b : List Int) (k : Nat) (v : Int) (i : Nat) : (tw b k v i).length = b.length := by
  induction i with
  | zero => rfl
  | succ i ih => simp [tw, ih]
theorem tw_nat {b : List Nat} (hb : ∀ x ∈ b, x < 256) (k v : Nat) (i : Nat) : tw (ints b) k (v : Int) i = ints (twN b k v i) ∧ ∀ x ∈ twN b k v i, x < 256 := by
  induction i with
  | zero => exact ⟨rfl, hb⟩
  | succ i ih =>
    obtain ⟨h1, h2⟩ := ih
    simp only [tw, twN]
    have e : (v : Int).fdiv (2 ^ (8 * i)) = ((v / 2 ^ (8 * i) : Nat) : Int) := by
      have := fdiv_nat v (2 ^ (8 * i))
      rw [← this]
      congr 1
    have hx : (twN b k v i).getD (k + i) 0 ^^^ v / 2 ^ (8 * i) % 256 < 256 := by
      have := Nat.xor_lt_two_pow (n := 8) (x := (twN b k v i).getD (k + i) 0) (y := v / 2 ^ (8 * i) % 256) (getD_lt h2 _) (by omega)
      omega
    rw [h1, e, wrap_u8_nat, ints_getD, xor_u8 (getD_lt h2 _) (by omega), ints_set]
    exact ⟨rfl, set_lt h2 _ hx⟩
end Go.Proofs.Ytlckajldmooefaa
