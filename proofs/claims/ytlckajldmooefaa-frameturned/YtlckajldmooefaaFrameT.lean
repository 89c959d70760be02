/- Frames of which bits are turned: numbers and lists alone. -/
import Derived.Test.YtlckajldmooefaaFrameN
set_option maxRecDepth 10000
set_option linter.unusedVariables false
set_option linter.unusedSimpArgs false
namespace Go.Proofs.Ytlckajldmooefaa
open Go.Tm Go.IntWalk Go.Crc

theorem xor_add {x m : Nat} (hx : x < 256) : x ^^^ (256 * m) = x + 256 * m := by
  have h := Nat.two_pow_add_eq_or_of_lt (i := 8) hx m
  have h2 : x ^^^ (2 ^ 8 * m) = 2 ^ 8 * m ||| x := by
    rw [Nat.xor_comm]
    refine Nat.eq_of_testBit_eq fun i => ?_
    rw [Nat.testBit_xor, Nat.testBit_or, Nat.testBit_two_pow_mul]
    rcases Nat.lt_or_ge i 8 with hi | hi
    · simp [show ¬ (8 ≤ i) by omega]
    · have : x.testBit i = false := Nat.testBit_lt_two_pow (Nat.lt_of_lt_of_le hx (Nat.pow_le_pow_right (n := 2) (by decide) hi))
      simp [this]
  show x ^^^ (2 ^ 8 * m) = x + 2 ^ 8 * m
  rw [h2, ← h, Nat.add_comm]
theorem N_le {l : List Nat} (h : ∀ x ∈ l, x < 256) : N l = le l := by
  induction l with
  | nil => rfl
  | cons x l ih =>
    simp only [N, le]
    rw [ih (fun y hy => h y (by simp [hy])), xor_add (h x (by simp))]
theorem residue {m : List Nat} (hm : ∀ x ∈ m, x < 256) : sumN (m ++ leB 4 (sumN m)) = Rs 32 ones ^^^ ones := by
  have hs := sumN_lt hm
  unfold sumN
  rw [F_append, F_eq (leB 4 _), leB_len, N_le (leB_lt 4 _), le_leB, Nat.mod_eq_of_lt (by unfold sumN at hs; exact hs), ← Nat.xor_assoc, Nat.xor_self, Nat.zero_xor]
theorem sum_frame (seq : Int) (c : Cmd) : sumN (nats (frameS seq c)) = Rs 32 ones ^^^ ones := by
  have hb : isB (longS (headS seq c)) := isB_longS (isB_headS seq c)
  have e : frameS seq c = ints (nats (longS (headS seq c)) ++ leB 4 (sumN (nats (longS (headS seq c))))) := by
    rw [ints_append, ints_nats hb, ← bytesN_nat]
    have hs : sum [longS (headS seq c)] = (sumN (nats (longS (headS seq c))) : Int) := by
      rw [sum_nat (by simpa using hb)]
      simp
    simp [frameS, putS, hs]
  rw [e, nats_ints, residue (nats_lt hb)]
theorem takeS_two {b b' : List Int} (hb : isB b) (hb' : isB b') (hl : b'.length = b.length) (h : b'.take 2 = b.take 2) : takeS b' 2 = takeS b 2 := by
  have e : b = ints (nats b) := (ints_nats hb).symm
  have e' : b' = ints (nats b') := (ints_nats hb').symm
  have h2 : (nats b').take 2 = (nats b).take 2 := by
    have := congrArg nats h
    simpa [nats, List.map_take] using this
  rw [e, e', takeS_nat (nats_lt hb), takeS_nat (nats_lt hb')]
  rw [show (nats b').length = (nats b).length by rw [nats_length, nats_length, hl], show (2 : Int).toNat = 2 from rfl, h2]
/-- What has other sums is no frame. -/
theorem takeF_turned {seq : Int} {c : Cmd} (h : okF seq c = true) {b : List Int} (hb : isB b) (hl : b.length = (frameS seq c).length) (h2 : b.take 2 = (frameS seq c).take 2) (hs : sumN (nats b) ≠ sumN (nats (frameS seq c))) : takeF b seq = (noCmd, 0, 9) := by
  obtain ⟨hm, h0, h1⟩ := ok_may h
  have hf := may_fine hm
  have ht := takeS_two (isB_frameS seq c) hb hl h2
  have hfr := front (seq := seq) hf (rest := []) isB_nil
  rw [List.append_nil] at hfr
  have hL : lenF b = b.length := by
    unfold lenF
    rw [ht, hfr, hl]
    simp only
    omega
  rw [takeF_form]
  · rw [ht, hfr, hL]
    simp only
    rintro (h | h)
    · cases h
    · omega
  · cases hk : okF seq (rdF b).1 with
    | false => exact .inr (.inl rfl)
    | true =>
      refine .inr (.inr fun e => hs ?_)
      rw [putF, if_pos hk, hL, Int.toNat_natCast, List.take_length] at e
      rw [← e, sum_frame, sum_frame]
end Go.Proofs.Ytlckajldmooefaa
