/- Small facts that many texts use. -/
import Derived.Test.YtcopoofbicgjbaaBits1
import Derived.Test.YtcopoofbicgjbaaPStr
set_option maxRecDepth 10000
set_option maxHeartbeats 1000000
set_option linter.unusedSimpArgs false
set_option linter.unusedVariables false
set_option pp.deepTerms.threshold 10
namespace Go.Proofs.Ytcopoofbicgjbaa
open Go.Tm Go.IntWalk

theorem not_t {b : Bool} (h : (!b) = true) : b = false := by simpa using h
theorem not_f {b : Bool} (h : (!b) = false) : b = true := by simpa using h
theorem putS_len (b : List Int) (n : Int) (l : List Int) : (putS b n l).length ≤ b.length + 4 * l.length := by
  unfold putS
  split
  · omega
  · rw [List.length_append, flatMap_len (bytesN_len _)]
    have := Nat.mul_le_mul_left l.length (show n.toNat ≤ 4 by omega)
    omega
theorem byteN_B (x : Int) (k : Nat) : 0 ≤ byteN x k ∧ byteN x k < 256 := by
  unfold byteN
  rw [IntKind.wrap_u8]
  omega
theorem isB_bytesN (n : Nat) (x : Int) : isB (bytesN n x) := by
  intro y hy
  simp only [bytesN, List.mem_map] at hy
  obtain ⟨k, _, rfl⟩ := hy
  exact byteN_B x k
theorem take_rest (l : List Int) (k : Nat) : List.take (l.length - k) (l.drop k) = l.drop k := List.take_of_length_le (by rw [List.length_drop]; exact Nat.le_refl _)
theorem takeS_true {b : List Int} {n : Int} (h : (takeS b n).2 = true) : 1 ≤ n ∧ n ≤ 4 ∧ n ≤ b.length := by
  unfold takeS at h
  split at h
  · cases h
  · omega
theorem takeTextS_true {b : List Int} (h0 : 0 ≤ b.getD 0 0 ∧ b.getD 0 0 < 256) (h : (takeTextS b).2.2 = true) : 0 ≤ (takeTextS b).2.1 ∧ (takeTextS b).2.1 ≤ b.length := by
  have w : IntKind.i64.wrap (b.getD 0 0) = b.getD 0 0 := i64_in _ (by omega)
  unfold takeTextS at h ⊢
  split at h
  · cases h
  · rename_i hn
    rw [if_neg hn]
    rw [w] at hn
    simp only
    omega
theorem same_refl : ∀ {t : Ty}, flat t = true → ∀ x : t.den, same t x x = true
  | .int _, _, x => by simp [same]
  | .bool, _, x => by simp [same]
  | .str, _, x => by simp [same]
  | .unit, _, _ => rfl
  | .prod a b, h, x => by
    simp only [flat, Bool.and_eq_true] at h
    simp only [same, same_refl h.1, same_refl h.2, Bool.and_self]
  | .slice _, h, _ => by cases h
  | .arr _ _, h, _ => by cases h
theorem same_eq : ∀ {t : Ty}, flat t = true → ∀ {x y : t.den}, same t x y = true → x = y
  | .int _, _, x, y, h => by simpa [same] using h
  | .bool, _, x, y, h => by simpa [same] using h
  | .str, _, x, y, h => ba_inj (by simpa [same] using h)
  | .unit, _, _, _, _ => rfl
  | .prod a b, h, x, y, h2 => by
    simp only [flat, Bool.and_eq_true] at h
    simp only [same, Bool.and_eq_true] at h2
    exact Prod.ext (same_eq h.1 h2.1) (same_eq h.2 h2.2)
  | .slice _, h, _, _, _ => by cases h
  | .arr _ _, h, _, _, _ => by cases h
theorem isB_set {l : List Int} (h : isB l) {v : Int} (hv : 0 ≤ v ∧ v < 256) {k : Nat} : isB (l.set k v) := fun x hx => by
  rcases List.mem_or_eq_of_mem_set hx with h1 | h1
  · exact h x h1
  · rw [h1]; exact hv
theorem isB_rep (n : Nat) : isB (List.replicate n 0) := fun x hx => by
  rw [(List.mem_replicate.1 hx).2]; omega
theorem str_eq {s t : ByteArray} (h : (!s.toList == t.toList) = false) : s = t := ba_inj (by simpa using h)
theorem str_ne {s t : ByteArray} (h : (!s.toList == t.toList) = true) : ¬ s = t := fun e => by rw [e] at h; simp at h
theorem extract_strOf (b : List Int) (i n : Nat) : (strOf b).extract i (i + n) = strOf ((b.drop i).take n) := by
  apply bl_inj
  rw [bl_extract, bl_strOf, bl_strOf, Nat.add_sub_cancel_left, List.map_take, List.map_drop]
end Go.Proofs.Ytcopoofbicgjbaa
