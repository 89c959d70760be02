import Derived.Test.YtgkfngfejagbgaaBits3
import Derived.Test.YtgkfngfejagbgaaPNum
set_option maxRecDepth 10000
set_option linter.unusedSimpArgs false
set_option linter.unusedVariables false
set_option pp.deepTerms.threshold 14
namespace Go.Proofs.Ytgkfngfejagbgaa
open Go.Tm Go.IntWalk
def Γrow : Cons := cons [(10, putC), (8, takeC), (7, begunC)]
theorem Γrow_ok : ConsOK Try.prog Γrow := consOK_cons put_ok (consOK_cons take_ok (consOK_cons begun_ok consOK_nil))
theorem flat_cut (n : Nat) (l : List Int) (k : Nat) : (l.take k).flatMap (bytesN n) ++ (l.drop k).flatMap (bytesN n) = l.flatMap (bytesN n) := by
  rw [← List.flatMap_append, List.take_append_drop]
theorem okv_u32s {l : List Int} (h : okv (.slice (.int .u32)) l) : ∃ m : List Nat, l = ints m ∧ ∀ x ∈ m, x < 2 ^ 32 := by
  have hx : ∀ x ∈ l, 0 ≤ x ∧ x < 4294967296 := by
    intro x hx
    have := h.2 x hx
    obtain ⟨n, rfl, hn⟩ := okv_u32 this
    omega
  refine ⟨nats l, ?_, ?_⟩
  · unfold ints nats
    rw [List.map_map]
    conv => lhs; rw [← List.map_id l]
    refine List.map_congr_left fun x h => ?_
    have := hx x h
    simp only [id, Function.comp]
    omega
  · intro y hy
    simp only [nats, List.mem_map] at hy
    obtain ⟨x, h, rfl⟩ := hy
    have := hx x h
    omega
theorem flat_drop (n : Nat) (l : List Int) {i : Nat} (h : i < l.length) : (l.flatMap (bytesN n)).drop (i * n) = bytesN n (l.getD i 0) ++ (l.drop (i + 1)).flatMap (bytesN n) := by
  have hl : ((l.take i).flatMap (bytesN n)).length = i * n := by rw [flatMap_len (bytesN_len n), List.length_take, Nat.min_eq_left (by omega)]
  rw [← flat_cut n l i, List.drop_left' hl, List.drop_eq_getElem_cons h, List.flatMap_cons, List.getD_eq_getElem?_getD, List.getElem?_eq_getElem h, Option.getD_some]
theorem flat_nat (n : Nat) (l : List Nat) : ∃ m : List Nat, (ints l).flatMap (bytesN n) = ints m ∧ ∀ x ∈ m, x < 256 := by
  induction l with
  | nil => exact ⟨[], rfl, by simp⟩
  | cons u l ih =>
    obtain ⟨m, h1, h2⟩ := ih
    refine ⟨leB n u ++ m, ?_, fun x hx => ?_⟩
    · show ((u : Int) :: ints l).flatMap (bytesN n) = _
      rw [List.flatMap_cons, h1, bytesN_nat, ints_append]
    · rcases List.mem_append.1 hx with h | h
      · exact leB_lt n u x h
      · exact h2 x h
theorem own_c {q : Nat} {t : Ty} {a b : List t.den} (h : a = b) : Slot.own q t a = Slot.own q t b := by rw [h]
theorem bitsRow_ex : LawEx tab Γrow Try.f6 [.slice (.int .u32), .int .u8] := by
  intro l h1 h2
  obtain ⟨r, l1, rfl, e1⟩ := types_cons h1
  obtain ⟨k, l2, rfl, e2⟩ := types_cons e1
  obtain rfl := types_nil e2
  clear h1 e1 e2
  have g1 : Γrow 10 = some putC := rfl
  have g2 : Γrow 8 = some takeC := rfl
  have g5 : Γrow 7 = some begunC := rfl
  obtain ⟨kn, rfl, hkn⟩ := okv_u8 (h2 ⟨_, k⟩ (by simp))
  have hr := h2 ⟨_, r⟩ (by simp)
  clear h2
  obtain ⟨rn, rfl, hrn⟩ := okv_u32s hr
  clear hr
  have t1 : Int.tmod (kn : Int) 4 = ((kn % 4 : Nat) : Int) := tmod_nat kn 4
  have hq4 : kn % 4 < 4 := Nat.mod_lt _ (by decide)
  generalize kn % 4 = q at t1 hq4
  obtain ⟨n, hn'⟩ : ∃ n, n = q + 1 := ⟨_, rfl⟩
  obtain ⟨e, he⟩ : ∃ e, e = 8 * n := ⟨_, rfl⟩
  obtain ⟨f, hf⟩ : ∃ f, f = 32 - e := ⟨_, rfl⟩
  have w1 : IntKind.i64.wrap (q : Int) = (q : Int) := w_nat rfl (by omega)
  have w2 : IntKind.i64.wrap (1 + (q : Int)) = (n : Int) := w_nat (by omega) (by omega)
  have w3 : IntKind.i64.wrap (8 * (n : Int)) = (e : Int) := w_nat (by omega) (by omega)
  have w4 : IntKind.i64.wrap (32 - (e : Int)) = (f : Int) := w_nat (by omega) (by omega)
  have w7 : min f IntKind.u32.bits = f := Nat.min_eq_left (by show f ≤ 32; omega)
  obtain ⟨us, hus⟩ : ∃ us, us = rn.map (· / 2 ^ f) := ⟨_, rfl⟩
  have hul : us.length = rn.length := by rw [hus, List.length_map]
  have hul' : (ints us).length = us.length := ints_length us
  have hu : ∀ u ∈ us, u < 256 ^ n := by
    intro u h
    rw [hus, List.mem_map] at h
    obtain ⟨v, hv, rfl⟩ := h
    have : 256 ^ n * 2 ^ f = 2 ^ 32 := by rw [pow8, ← Nat.pow_add]; congr 1; omega
    rw [Nat.div_lt_iff_lt_mul (Nat.two_pow_pos f), this]
    exact hrn v hv
  simp only [Try.f6, Option.getD_some]
  simp (implicitDefEqProofs := false) (decide := true) [ini, g1, g2, g5, putC_eq, takeC_eq, begunC_eq, t1, w1, w2, ints_length]
  intro _ hl
  have hl8 : us.length ≤ 8 := by omega
  refine ex_loopN 6 (.int .i64) rfl (σ := Nat × Nat × List Int) [6, 7, 21, 22, 23, 24, 25, 26, 27, 28, 29, 30, 31, 32, 33, 34, 35, 36, 37, 38] (fun s => [(7, .val (.int .i64) (s.1 : Int)), (6, .own s.2.1 (.int .i64) s.2.2)])
    (fun s => s.1 ≤ us.length ∧ s.2.2 = ints (us.take s.1)) (fun s => us.length - s.1) (fun m => ⟨(0, m, []), ⟨by simp, by simp [ints]⟩, hc rfl (hc rfl hn)⟩) ?_
  rintro m0 j ⟨i, q0, xs⟩ ⟨hi, hsl⟩
  simp only at hi hsl
  subst hsl
  have hP : ∀ l, putS [] (n : Int) l = l.flatMap (bytesN n) := fun l => by rw [putS, if_neg (by omega)]; simp
  have hn4 : n * us.length ≤ n * 8 := Nat.mul_le_mul_left _ hl8
  have huk : ∀ i, i < rn.length → ints (us.take i) ++ [IntKind.i64.wrap (((ints rn).getD i 0).fdiv (2 ^ f))] = ints (us.take (i + 1)) := by
    intro i hi
    have h1 : us.getD i 0 = rn.getD i 0 / 2 ^ f := by
      rw [hus, List.getD_eq_getElem?_getD, List.getD_eq_getElem?_getD, List.getElem?_map, List.getElem?_eq_getElem hi]
      rfl
    have h2 : rn.getD i 0 < 2 ^ 32 := by
      rw [List.getD_eq_getElem?_getD, List.getElem?_eq_getElem hi]
      exact hrn _ (List.getElem_mem hi)
    have h3 : rn.getD i 0 / 2 ^ f ≤ rn.getD i 0 := Nat.div_le_self _ _
    have h4 : ((rn.getD i 0 : Nat) : Int).fdiv (2 ^ f) = ((rn.getD i 0 / 2 ^ f : Nat) : Int) := by
      rw [← fdiv_nat]
      congr 1
    rw [ints_getD, h4, w_nat rfl (by omega), ← h1, List.take_succ_eq_append_getElem (by omega), ints_append, List.getD_eq_getElem?_getD, List.getElem?_eq_getElem (by omega)]
    rfl
  have htk : ∀ i, i < us.length → takeS (((ints us).flatMap (bytesN n)).drop (i * n)) (n : Int) = (((us.getD i 0 : Nat) : Int), true) := by
    intro i hi
    obtain ⟨m, h1, h2⟩ := flat_nat n (us.drop (i + 1))
    have h3 : (ints us).drop (i + 1) = ints (us.drop (i + 1)) := by simp [ints]
    rw [flat_drop n (ints us) (by rw [ints_length]; exact hi), h3, h1, ints_getD]
    refine take_put (by omega) (by omega) (hu _ ?_) h2
    rw [List.getD_eq_getElem?_getD, List.getElem?_eq_getElem hi]
    exact List.getElem_mem hi
  simp (implicitDefEqProofs := false) (decide := true) [ini, g1, g2, g5, putC_eq, takeC_eq, begunC_eq, w3, w4, w7, hP, flatMap_len (bytesN_len n), ints_length]
  intro _
  refine br_dec (fun hlt => fun _ => ⟨hlt, by omega, i + 1, _, _, ⟨by omega, ?_⟩, by omega, w_nat rfl (by omega), rfl, rfl⟩) (fun hge => fun _ => ⟨by omega, fun _ _ => ?_⟩)
  · have := huk i (by omega)
    rw [List.getD_eq_getElem?_getD] at this
    exact this
  obtain rfl : i = us.length := by omega
  simp only [List.take_length, Nat.min_self]
  refine ⟨?_, ?_⟩
  · rw [w_nat (n := n * us.length) (by simp) (by omega)]
    rw [Nat.mul_comm n, Int.natCast_mul]
  refine ex_loopU (σ := Nat) [4, 9, 10, 11, 49, 50, 51, 52, 53, 54, 55, 56, 57, 58, 59, 60, 61, 62, 63, 64, 65, 66, 67, 68, 69, 70, 71, 72, 73, 74] (fun s => [(9, .val (.int .i64) (s : Int))])
    (fun s => s ≤ us.length) (fun s => us.length - s) 0 (by simp) (hc rfl hn) ?_
  rintro j2 i2 hi2
  simp (implicitDefEqProofs := false) (decide := true) [ini, g1, g2, g5, putC_eq, takeC_eq, begunC_eq, w3, w4, w7, hP, flatMap_len (bytesN_len n), ints_length]
  intro _
  refine br_dec (fun hlt => ?_) (fun hge => ?_)
  · trace_state
    have hle := Nat.mul_le_mul_right n hi2
    rw [Nat.mul_comm _ n, Nat.mul_comm _ n] at hle
    have w5 : IntKind.i64.wrap ((i2 : Int) * (n : Int)) = ((i2 * n : Nat) : Int) := w_nat (by simp) (by rw [Nat.mul_comm i2]; omega)
    have w6 : ((us.length : Int) * (n : Int)).toNat = us.length * n := by rw [← Int.natCast_mul, Int.toNat_natCast]
    have w7 : List.take (us.length * n - i2 * n) (List.drop (i2 * n) ((ints us).flatMap (bytesN n))) = List.drop (i2 * n) ((ints us).flatMap (bytesN n)) := List.take_of_length_le (by rw [List.length_drop, flatMap_len (bytesN_len n), ints_length]; omega)
    rw [w5, Int.toNat_natCast, w6, w7, htk i2 hlt]
    have h9 : ((us.length : Int) * (n : Int)) = ((us.length * n : Nat) : Int) := by simp
    refine ⟨⟨by omega, ?_⟩, rfl, hlt, ?_, i2 + 1, by omega, by omega, w_nat rfl (by omega)⟩
    · rw [h9, Nat.mul_comm, Nat.mul_comm us.length]
      omega
    · rw [← List.getD_eq_getElem?_getD, ints_getD]
  · have h2 : IntKind.i64.wrap ((us.length : Int) / 2) = ((us.length / 2 : Nat) : Int) := w_nat (by omega) (by omega)
    have h5 : (us.length / 2) * n ≤ us.length * n := Nat.mul_le_mul_right _ (by omega)
    have h6 : List.take (us.length - us.length / 2) ((ints us).drop (us.length / 2)) = (ints us).drop (us.length / 2) := List.take_of_length_le (by rw [List.length_drop, ints_length]; omega)
    rw [h2, Int.toNat_natCast, h6, putS, if_neg (by omega), Int.toNat_natCast, flat_cut]
    rw [Nat.mul_comm us.length n] at h5
    exact ⟨⟨by omega, by omega⟩, by omega, ⟨by omega, by omega⟩, by rw [Nat.min_eq_left (by omega)]; omega, rfl⟩
end Go.Proofs.Ytgkfngfejagbgaa
