/- The sums as plain numbers. -/
import Derived.Test.YtlckajldmooefaaCrc4
import Derived.Test.YtlckajldmooefaaPCrc
import Derived.Test.YtlckajldmooefaaPBits
set_option maxRecDepth 10000
set_option linter.unusedSimpArgs false
namespace Go.Proofs.Ytlckajldmooefaa
open Go.Tm Go.IntWalk Go.Crc

theorem rnd_nat {c : Nat} (h : c < 2 ^ 32) : rnd (c : Int) = (R c : Int) := by
  unfold rnd R
  have e2 : (c &&& 1) = c % 2 := Nat.and_one_is_mod c
  have e1 : Tm.bits .and .u32 (c : Int) 1 = ((c % 2 : Nat) : Int) := by rw [← e2]; exact and_u32 (a := c) (b := 1) (by simpa using h) (by decide)
  have e3 : (c : Int).fdiv 2 = ((c / 2 : Nat) : Int) := fdiv_nat c 2
  have e4 : Tm.bits .xor .u32 ((c / 2 : Nat) : Int) 2197175160 = ((c / 2 ^^^ 2197175160 : Nat) : Int) := xor_u32 (a := c / 2) (b := 2197175160) (by omega) (by decide)
  rw [e1, e3, e4]
  by_cases hc : c % 2 = 1
  · rw [if_pos (by omega), if_pos hc]; rfl
  · rw [if_neg (by omega), if_neg hc]
theorem rnds_nat (k : Nat) {c : Nat} (h : c < 2 ^ 32) : rnds k (c : Int) = (Rs k c : Int) := by
  induction k with
  | zero => rfl
  | succ k ih => simp only [rnds, Rs, ih, rnd_nat (Rs_lt k h)]
theorem step1_nat {c x : Nat} (hc : c < 2 ^ 32) (hx : x < 256) : step1 (c : Int) (x : Int) = (s c x : Int) := by
  rw [← s1_eq]
  unfold step1 s1
  have h1 : c % 256 ^^^ x < 2 ^ 8 := Nat.xor_lt_two_pow (by omega) (by simpa using hx)
  rw [wrap_u8_nat, xor_u8 (by omega) hx]
  have e3 : (c : Int).fdiv 256 = ((c / 256 : Nat) : Int) := fdiv_nat c 256
  rw [e3]
  have e4 : table.getD ((c % 256 ^^^ x : Nat) : Int).toNat 0 = (Rs 8 (c % 256 ^^^ x) : Int) := by
    rw [← rnds_nat 8 (by omega)]
    simp only [table, Int.toNat_natCast, List.getD_eq_getElem?_getD, List.getElem?_map, List.getElem?_range (show c % 256 ^^^ x < 256 by simpa using h1), Option.map_some, Option.getD_some]
  rw [e4, xor_u32 (by simpa using Rs_lt 8 (by omega)) (by omega)]
theorem fold1_nat {l : List Int} (h : isB l) {c : Nat} (hc : c < 2 ^ 32) : l.foldl step1 (c : Int) = (F c (nats l) : Int) := by
  induction l generalizing c with
  | nil => rfl
  | cons x l ih =>
    obtain ⟨hx, hl⟩ := isB_cons.1 h
    obtain ⟨n, rfl⟩ := Int.eq_ofNat_of_zero_le hx.1
    rw [List.foldl_cons, step1_nat hc (by omega), ih hl (s_lt hc (by omega))]
    rfl
theorem folds1_nat {l : List (List Int)} (h : ∀ b ∈ l, isB b) {c : Nat} (hc : c < 2 ^ 32) : l.foldl (fun c b => b.foldl step1 c) (c : Int) = (F c (nats l.flatten) : Int) := by
  induction l generalizing c with
  | nil => rfl
  | cons b l ih =>
    have hb := h b (by simp)
    rw [List.foldl_cons, fold1_nat hb hc, ih (fun b hb => h b (by simp [hb])) (F_lt hc (nats_lt hb)), List.flatten_cons, nats_append, F_append]
theorem isB_flatten {l : List (List Int)} (h : ∀ b ∈ l, isB b) : isB l.flatten := by
  intro x hx
  obtain ⟨b, hb, hx⟩ := List.mem_flatten.1 hx
  exact h b hb x hx
theorem sum_nat {l : List (List Int)} (h : ∀ b ∈ l, isB b) : sum l = (sumN (nats l.flatten) : Int) := by
  unfold sum sumN
  have e0 : l.foldl (fun c b => b.foldl step1 c) 4294967295 = (F ones (nats l.flatten) : Int) := folds1_nat h (c := ones) (by decide)
  rw [e0]
  exact xor_u32 (a := F ones (nats l.flatten)) (b := ones) (by simpa using F_lt (c := ones) (by decide) (nats_lt (isB_flatten h))) (by decide)

theorem rnd2_nat {c : Nat} (h : c < 2 ^ 32) : rnd2 (c : Int) = (R c : Int) := by
  unfold rnd2 R
  have e1 : (c : Int).tmod 2 = ((c % 2 : Nat) : Int) := tmod_nat c 2
  have e3 : (c : Int).tdiv 2 = ((c / 2 : Nat) : Int) := tdiv_nat c 2
  have e4 : Tm.bits .xor .u32 ((c / 2 : Nat) : Int) 2197175160 = ((c / 2 ^^^ 2197175160 : Nat) : Int) := xor_u32 (a := c / 2) (b := 2197175160) (by omega) (by decide)
  rw [e1, e3, wrap_u32_nat (by omega), e4]
  by_cases hc : c % 2 = 1
  · rw [if_pos (by omega), if_pos hc]; rfl
  · rw [if_neg (by omega), if_neg hc]
theorem rnds2_nat (k : Nat) {c : Nat} (h : c < 2 ^ 32) : rnds2 k (c : Int) = (Rs k c : Int) := by
  induction k with
  | zero => rfl
  | succ k ih => simp only [rnds2, Rs, ih, rnd2_nat (Rs_lt k h)]
theorem step2_nat {c x : Nat} (hc : c < 2 ^ 32) (hx : x < 256) : step2 (c : Int) (x : Int) = (s c x : Int) := by
  unfold step2 s
  rw [wrap_u32_nat (by omega), xor_u32 (by simpa using hc) (by omega), rnds2_nat 8 (Nat.xor_lt_two_pow hc (by omega))]
theorem fold2_nat {l : List Int} (h : isB l) {c : Nat} (hc : c < 2 ^ 32) : l.foldl step2 (c : Int) = (F c (nats l) : Int) := by
  induction l generalizing c with
  | nil => rfl
  | cons x l ih =>
    obtain ⟨hx, hl⟩ := isB_cons.1 h
    obtain ⟨n, rfl⟩ := Int.eq_ofNat_of_zero_le hx.1
    rw [List.foldl_cons, step2_nat hc (by omega), ih hl (s_lt hc (by omega))]
    rfl
theorem folds2_nat {l : List (List Int)} (h : ∀ b ∈ l, isB b) {c : Nat} (hc : c < 2 ^ 32) : l.foldl (fun c b => b.foldl step2 c) (c : Int) = (F c (nats l.flatten) : Int) := by
  induction l generalizing c with
  | nil => rfl
  | cons b l ih =>
    have hb := h b (by simp)
    rw [List.foldl_cons, fold2_nat hb hc, ih (fun b hb => h b (by simp [hb])) (F_lt hc (nats_lt hb)), List.flatten_cons, nats_append, F_append]
theorem crcRef_nat {l : List (List Int)} (h : ∀ b ∈ l, isB b) : crcRef l = (sumN (nats l.flatten) : Int) := by
  unfold crcRef sumN
  have e0 : l.foldl (fun c b => b.foldl step2 c) 4294967295 = (F ones (nats l.flatten) : Int) := folds2_nat h (c := ones) (by decide)
  rw [e0, Nat.xor_comm]
  exact xor_u32 (a := ones) (b := F ones (nats l.flatten)) (by decide) (by simpa using F_lt (c := ones) (by decide) (nats_lt (isB_flatten h)))
end Go.Proofs.Ytlckajldmooefaa
