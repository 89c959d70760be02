import Derived.Test.YtkjndogijjnhdaaCrcN
set_option maxRecDepth 10000
set_option linter.unusedSimpArgs false
set_option pp.deepTerms.threshold 16
namespace Go.Proofs.Ytkjndogijjnhdaa
open Go.Tm Go.IntWalk Go.Crc
theorem begunC_eq : begunC [] = some ⟨.val ⟨.bool, true⟩, []⟩ := rfl
def Γturned : Cons := cons [(9, sumC), (8, begunC)]
theorem Γturned_ok : ConsOK Try.prog Γturned := consOK_cons sum_ok (consOK_cons begun_ok consOK_nil)
/-- Bytes of which five are turned, after i of them. -/
def tw (b : List Int) (k : Nat) (v : Int) : Nat → List Int
  | 0 => b
  | i + 1 => (tw b k v i).set (k + i) (Tm.bits .xor .u8 ((tw b k v i).getD (k + i) 0) (IntKind.u8.wrap (v.fdiv (2 ^ (8 * i)))))
theorem tw_len (b : List Int) (k : Nat) (v : Int) (i : Nat) : (tw b k v i).length = b.length := by
  induction i with
  | zero => rfl
  | succ i ih => simp [tw, ih]
theorem tw_nat {b : List Nat} (hb : ∀ x ∈ b, x < 256) (k v : Nat) (i : Nat) : tw (ints b) k (v : Int) i = ints (twN b k v i) ∧ ∀ x ∈ twN b k v i, x < 256 := by
  induction i with
  | zero => exact ⟨rfl, hb⟩
  | succ i ih =>
    obtain ⟨h1, h2⟩ := ih
    simp only [tw, twN]
    have e : (v : Int).fdiv (2 ^ (8 * i)) = ((v / 2 ^ (8 * i) : Nat) : Int) := by
      have := fdiv_nat v (2 ^ (8 * i))
      rw [← this]
      congr 1
    have hx : (twN b k v i).getD (k + i) 0 ^^^ v / 2 ^ (8 * i) % 256 < 256 := by
      have := Nat.xor_lt_two_pow (n := 8) (x := (twN b k v i).getD (k + i) 0) (y := v / 2 ^ (8 * i) % 256) (getD_lt h2 _) (by omega)
      omega
    rw [h1, e, wrap_u8_nat, ints_getD, xor_u8 (getD_lt h2 _) (by omega), ints_set]
    exact ⟨rfl, set_lt h2 _ hx⟩
theorem crcTurned_ex : LawEx tab Γturned Try.f4 [.slice (.int .u8), .int .u16, .int .u32] := by
  intro l h1 h2
  obtain ⟨b, l1, rfl, e1⟩ := types_cons h1
  obtain ⟨at', l2, rfl, e2⟩ := types_cons e1
  obtain ⟨by', l3, rfl, e3⟩ := types_cons e2
  obtain rfl := types_nil e3
  clear h1 e1 e2 e3
  have g9 : Γturned 9 = some sumC := rfl
  have g8 : Γturned 8 = some begunC := rfl
  simp only [Try.f4, Option.getD_some]
  simp (implicitDefEqProofs := false) (decide := true) [ini, g8, g9, sumC_eq, begunC_eq, -List.reduceReplicate]
  have bb := okv_bytes (h2 ⟨_, b⟩ (by simp))
  have hat := h2 ⟨_, at'⟩ (by simp)
  have hby := h2 ⟨_, by'⟩ (by simp)
  simp [okv, Lit.wf, IntKind.has, IntKind.min, IntKind.max, IntKind.signed, IntKind.bits] at hat hby
  clear h2
  intro _ hl1 _ hl2 hb0 m
  have hl1' : b.length ≤ 200 := by omega
  have hl2' : 5 ≤ b.length := by omega
  have w1 : IntKind.i64.wrap ((b.length : Int) - 4) = ((b.length - 4 : Nat) : Int) := by rw [i64_in _ (by omega)]; omega
  obtain ⟨n, rfl⟩ := Int.eq_ofNat_of_zero_le hat.1
  obtain ⟨e, rfl⟩ := Int.eq_ofNat_of_zero_le hby.1
  refine ⟨by omega, fun _ => ⟨by rw [w1]; omega, by have h8 : (n : Int).tmod 8 = ((n % 8 : Nat) : Int) := tmod_nat n 8; omega, ?_⟩⟩
  have hk : n % (b.length - 4) + 4 < b.length := by have := Nat.mod_lt n (show 0 < b.length - 4 by omega); omega
  have w2 : (IntKind.i64.wrap (n : Int)).tmod (IntKind.i64.wrap ((b.length : Int) - 4)) = ((n % (b.length - 4) : Nat) : Int) := by
    rw [w1, i64_in _ (by omega), tmod_nat]
  generalize hq : n % (b.length - 4) = k at *
  refine ex_loopU (σ := Nat × Nat × Int) [7, 9, 10, 39, 40, 41, 42, 43, 44, 45, 46, 47, 48, 49, 50, 51, 52, 53, 54, 55] (fun a => [(10, .val (.int .i64) (a.1 : Int)), (9, .val (.int .u64) a.2.2), (7, .own a.2.1 (.int .u8) (tw b k a.2.2 a.1))])
    (fun a => a.1 ≤ 5 ∧ a.2.2 = IntKind.u64.wrap (IntKind.u64.wrap (e : Int) * 2 ^ (n % 8))) (fun a => 5 - a.1) (0, _, _) ?_ (hc rfl (hc rfl (hc rfl hn))) ?_
  · refine ⟨by simp, ?_⟩
    show IntKind.u64.wrap (IntKind.u64.wrap (e : Int) * 2 ^ min ((n : Int).tmod 8).toNat 64) = _
    have h8 : (n : Int).tmod 8 = ((n % 8 : Nat) : Int) := tmod_nat n 8
    rw [h8, Int.toNat_natCast, Nat.min_eq_left (by omega)]
  rintro j ⟨i, q, v⟩ ⟨hi, hv⟩
  simp only at hi hv
  simp (implicitDefEqProofs := false) (decide := true) [ini, g9, sumC_eq, w2]
  refine br_dec (fun hlt => ?_) (fun hge => ?_)
  · have w3 : IntKind.i64.wrap ((k : Int) + (i : Int)) = ((k + i : Nat) : Int) := by rw [i64_in _ (by omega)]; rfl
    have w4 : IntKind.i64.wrap (8 * (i : Int)) = ((8 * i : Nat) : Int) := by rw [i64_in _ (by omega)]; rfl
    simp only [w3, w4, Int.toNat_natCast]
    have hlen := tw_len b k v i
    refine ⟨⟨by omega, by omega⟩, by omega, by omega, ⟨by omega, by omega⟩, by omega, i + 1, q, v, ⟨by omega, hv⟩, by omega, by rw [i64_in _ (by omega)]; rfl, rfl, rfl, ?_⟩
    simp only [tw]
    rw [Nat.min_eq_left (show 8 * i ≤ IntKind.u64.bits by show 8 * i ≤ 64; omega)]
    simp
  · have hi5 : i = 5 := by omega
    subst hi5
    have hv2 : v = ((2 ^ (n % 8) * e : Nat) : Int) := by
      have hn8 : n % 8 < 8 := Nat.mod_lt _ (by decide)
      have h2 : 2 ^ (n % 8) ≤ 2 ^ 7 := Nat.pow_le_pow_right (by decide) (by omega)
      have h3 : 2 ^ (n % 8) * e ≤ 2 ^ 7 * e := Nat.mul_le_mul_right _ h2
      have h4 : IntKind.u64.wrap (e : Int) = (e : Int) := by rw [IntKind.wrap_u64]; omega
      have h5 : (e : Int) * 2 ^ (n % 8) = ((2 ^ (n % 8) * e : Nat) : Int) := by rw [Nat.mul_comm]; simp
      rw [hv, h4, h5, IntKind.wrap_u64]
      omega
    have bb' : isB b := bb
    have hb2 : b = ints (nats b) := (ints_nats bb').symm
    obtain ⟨t1, t2⟩ := tw_nat (nats_lt bb') k (2 ^ (n % 8) * e) 5
    have ht : tw b k v 5 = ints (twN (nats b) k (2 ^ (n % 8) * e) 5) := by rw [hv2, ← t1, ← hb2]
    rw [ht, sum_nat (by simpa using isB_ints t2), sum_nat (by simpa using bb')]
    intro hc
    have hc' := Int.ofNat.inj hc
    simp only [List.flatten_cons, List.flatten_nil, List.append_nil, nats_ints] at hc'
    exact twN_sum (by rw [nats_length]; omega) (by omega) (by omega) (Nat.mod_lt _ (by decide)) hc'
end Go.Proofs.Ytkjndogijjnhdaa
