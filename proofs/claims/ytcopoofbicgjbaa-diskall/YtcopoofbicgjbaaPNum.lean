/- Numbers as bytes, the least first: numbers and lists alone. -/
import Derived.Test.YtcopoofbicgjbaaPBits
import Derived.Test.YtcopoofbicgjbaaBits1
set_option linter.unusedVariables false
set_option linter.unusedSimpArgs false
namespace Go.Proofs.Ytcopoofbicgjbaa
open Go.Tm Go.IntWalk

theorem or_i64 {a b : Nat} (ha : a < 2 ^ 62) (hb : b < 2 ^ 62) : Tm.bits .or .i64 (a : Int) (b : Int) = ((a ||| b : Nat) : Int) := by
  have h : a ||| b < 2 ^ 62 := Nat.or_lt_two_pow ha hb
  show IntKind.i64.wrap (((BitVec.ofInt 64 (a : Int) ||| BitVec.ofInt 64 (b : Int)).toNat : Nat) : Int) = _
  rw [BitVec.toNat_or, BitVec.toNat_ofInt, BitVec.toNat_ofInt]
  have e1 : ((a : Int) % ((2 ^ 64 : Nat) : Int)).toNat = a := by omega
  have e2 : ((b : Int) % ((2 ^ 64 : Nat) : Int)).toNat = b := by omega
  rw [e1, e2]
  exact w_nat rfl (by omega)

def le : List Nat → Nat
  | [] => 0
  | x :: l => x + 256 * le l
theorem le_append (l m : List Nat) : le (l ++ m) = le l + 256 ^ l.length * le m := by
  induction l with
  | nil => simp [le]
  | cons x l ih =>
    simp only [List.cons_append, le, ih, List.length_cons, Nat.pow_succ]
    rw [Nat.mul_add, ← Nat.mul_assoc, Nat.mul_comm 256 (256 ^ l.length)]
    omega
theorem le_lt {l : List Nat} (h : ∀ x ∈ l, x < 256) : le l < 256 ^ l.length := by
  induction l with
  | nil => simp [le]
  | cons x l ih =>
    have hx := h x (by simp)
    have hl := ih (fun y hy => h y (by simp [hy]))
    simp only [le, List.length_cons, Nat.pow_succ]
    omega
theorem take_lt {l : List Nat} (h : ∀ x ∈ l, x < 256) (k : Nat) : ∀ x ∈ l.take k, x < 256 := fun x hx => h x (List.mem_of_mem_take hx)

theorem pow8 (k : Nat) : 256 ^ k = 2 ^ (8 * k) := by rw [show (256 : Nat) = 2 ^ 8 by rfl, ← Nat.pow_mul]

theorem orN_nat {b : List Nat} (hb : ∀ x ∈ b, x < 256) : ∀ {k : Nat}, k ≤ 4 → k ≤ b.length → orN (ints b) k = (le (b.take k) : Int)
  | 0, _, _ => by simp [orN, le]
  | k + 1, h, hl => by
    have ih := orN_nat hb (k := k) (by omega) (by omega)
    have hlt := le_lt (take_lt hb k)
    rw [List.length_take, Nat.min_eq_left (by omega), pow8] at hlt
    have hx := getD_lt hb k
    have hp : 2 ^ (8 * k) ≤ 2 ^ 24 := Nat.pow_le_pow_right (by decide) (by omega)
    have hm : b.getD k 0 * 2 ^ (8 * k) ≤ 255 * 2 ^ 24 := Nat.mul_le_mul (by omega) hp
    simp only [orN, ih, ints_getD]
    rw [w_nat (z := ((b.getD k 0 : Nat) : Int)) rfl (by omega), show ((b.getD k 0 : Nat) : Int) * 2 ^ (8 * k) = ((b.getD k 0 * 2 ^ (8 * k) : Nat) : Int) by simp, w_nat rfl (by omega), or_i64 (by omega) (by omega)]
    rw [Nat.or_comm, Nat.mul_comm, ← Nat.two_pow_add_eq_or_of_lt hlt, List.take_succ_eq_append_getElem (by omega), le_append]
    simp only [le, List.length_take, Nat.min_eq_left (show k ≤ b.length by omega), pow8, List.getD_eq_getElem?_getD, List.getElem?_eq_getElem (show k < b.length by omega), Option.getD_some, Nat.mul_zero, Nat.add_zero]
    rw [Nat.add_comm]

/-- What both take of bytes. -/
theorem takeS_nat {b : List Nat} (hb : ∀ x ∈ b, x < 256) (n : Int) : takeS (ints b) n = if (n < 1 ∨ 4 < n) ∨ (b.length : Int) < n then (0, false) else ((le (b.take n.toNat) : Int), true) := by
  unfold takeS
  rw [ints_length]
  split
  · rfl
  · rw [orN_nat hb (by omega) (by omega)]
def leB (n u : Nat) : List Nat := (List.range n).map fun k => u / 256 ^ k % 256
theorem leB_len (n u : Nat) : (leB n u).length = n := by simp [leB]
theorem leB_lt (n u : Nat) : ∀ x ∈ leB n u, x < 256 := by
  intro x hx
  simp only [leB, List.mem_map] at hx
  obtain ⟨k, _, rfl⟩ := hx
  exact Nat.mod_lt _ (by decide)
theorem leB_succ (n u : Nat) : leB (n + 1) u = leB n u ++ [u / 256 ^ n % 256] := by simp [leB, List.range_succ]
theorem le_leB (n u : Nat) : le (leB n u) = u % 256 ^ n := by
  induction n with
  | zero => simp [leB, le, Nat.mod_one]
  | succ n ih =>
    rw [leB_succ, le_append, ih, leB_len]
    simp only [le, Nat.mul_zero, Nat.add_zero]
    rw [Nat.pow_succ, Nat.mod_mul]
theorem bytesN_nat (n u : Nat) : bytesN n (u : Int) = ints (leB n u) := by
  unfold bytesN leB ints
  rw [List.map_map]
  refine List.map_congr_left fun k _ => ?_
  simp only [byteN, Function.comp]
  have : (u : Int).fdiv (2 ^ (8 * k)) = ((u / 256 ^ k : Nat) : Int) := by
    rw [pow8, ← fdiv_nat u (2 ^ (8 * k))]
    congr 1
  rw [this, wrap_u8_nat]
theorem ints_append (l m : List Nat) : ints (l ++ m) = ints l ++ ints m := by simp [ints]

/-- What is put is taken. -/
theorem take_put {n u : Nat} {rest : List Nat} (hn1 : 1 ≤ n) (hn4 : n ≤ 4) (hu : u < 256 ^ n) (hr : ∀ x ∈ rest, x < 256) : takeS (bytesN n (u : Int) ++ ints rest) (n : Int) = ((u : Int), true) := by
  rw [bytesN_nat, ← ints_append, takeS_nat (fun x hx => by rcases List.mem_append.1 hx with h | h; exact leB_lt n u x h; exact hr x h), if_neg (by rw [List.length_append, leB_len]; omega), Int.toNat_natCast, List.take_left' (leB_len n u), le_leB, Nat.mod_eq_of_lt hu]

/-- A text's bytes. -/
theorem textS_small {s : ByteArray} (h : s.size ≤ 255) (b : List Int) : textS b s = b ++ (s.size : Int) :: bytesOf s := by
  rw [textS, if_neg (by omega), wrap_u8_nat, Nat.mod_eq_of_lt (by omega)]
theorem takeText_text {s : ByteArray} (h : s.size ≤ 255) (rest : List Int) : takeTextS ((s.size : Int) :: bytesOf s ++ rest) = (s, 1 + (s.size : Int), true) := by
  have w : IntKind.i64.wrap (s.size : Int) = (s.size : Int) := w_nat rfl (by omega)
  rw [takeTextS, List.cons_append, List.getD_cons_zero, w, if_neg (by simp [bytesOf_len]; omega)]
  simp only [List.drop_succ_cons, List.drop_zero, Int.toNat_natCast]
  rw [List.take_left' (bytesOf_len s), strOf_bytesOf]
theorem takeText_cut {s : ByteArray} (h : s.size ≤ 255) {k : Nat} (hk : k ≤ s.size) : (takeTextS (((s.size : Int) :: bytesOf s).take k)).2.2 = false := by
  have w : IntKind.i64.wrap (s.size : Int) = (s.size : Int) := w_nat rfl (by omega)
  cases k with
  | zero => simp [takeTextS]
  | succ k =>
    rw [List.take_succ_cons, takeTextS, List.getD_cons_zero, w, if_pos (.inr (by simp [bytesOf_len]; omega))]
end Go.Proofs.Ytcopoofbicgjbaa
