import Derived.Test.YtgkfngfejagbgaaBits3
import Derived.Test.YtgkfngfejagbgaaPNum
set_option maxRecDepth 10000
set_option linter.unusedSimpArgs false
set_option linter.unusedVariables false
set_option pp.deepTerms.threshold 12
namespace Go.Proofs.Ytgkfngfejagbgaa
open Go.Tm Go.IntWalk
def Γback : Cons := cons [(10, putC), (8, takeC), (14, textC), (12, takeTextC), (7, begunC)]
theorem Γback_ok : ConsOK Try.prog Γback := consOK_cons put_ok (consOK_cons take_ok (consOK_cons text_ok (consOK_cons takeText_ok (consOK_cons begun_ok consOK_nil))))
theorem bitsBack_ex : LawEx tab Γback Try.f4 [.int .u32, .int .u8, .str, .slice (.int .u8), .int .u8] := by
  intro l h1 h2
  obtain ⟨v, l1, rfl, e1⟩ := types_cons h1
  obtain ⟨k, l2, rfl, e2⟩ := types_cons e1
  obtain ⟨s, l3, rfl, e3⟩ := types_cons e2
  obtain ⟨behind, l4, rfl, e4⟩ := types_cons e3
  obtain ⟨cut, l5, rfl, e5⟩ := types_cons e4
  obtain rfl := types_nil e5
  clear h1 e1 e2 e3 e4 e5
  have g1 : Γback 10 = some putC := rfl
  have g2 : Γback 8 = some takeC := rfl
  have g3 : Γback 14 = some textC := rfl
  have g4 : Γback 12 = some takeTextC := rfl
  have g5 : Γback 7 = some begunC := rfl
  have bb := okv_bytes (h2 ⟨_, behind⟩ (by simp))
  obtain ⟨vn, rfl, hv⟩ := okv_u32 (h2 ⟨_, v⟩ (by simp))
  obtain ⟨kn, rfl, hkn⟩ := okv_u8 (h2 ⟨_, k⟩ (by simp))
  obtain ⟨cn, rfl, hcn⟩ := okv_u8 (h2 ⟨_, cut⟩ (by simp))
  clear h2
  have t1 : Int.tmod (kn : Int) 4 = ((kn % 4 : Nat) : Int) := tmod_nat kn 4
  have hq4 : kn % 4 < 4 := Nat.mod_lt _ (by decide)
  generalize kn % 4 = q at t1 hq4
  obtain ⟨n, hn⟩ : ∃ n, n = q + 1 := ⟨_, rfl⟩
  obtain ⟨e, he⟩ : ∃ e, e = 8 * n := ⟨_, rfl⟩
  obtain ⟨f, hf⟩ : ∃ f, f = 32 - e := ⟨_, rfl⟩
  obtain ⟨u, hu⟩ : ∃ u, u = vn / 2 ^ f := ⟨_, rfl⟩
  have w1 : IntKind.i64.wrap (q : Int) = (q : Int) := w_nat rfl (by omega)
  have w2 : IntKind.i64.wrap (1 + (q : Int)) = (n : Int) := w_nat (by omega) (by omega)
  have w3 : IntKind.i64.wrap (8 * (n : Int)) = (e : Int) := w_nat (by omega) (by omega)
  have w4 : IntKind.i64.wrap (32 - (e : Int)) = (f : Int) := w_nat (by omega) (by omega)
  have w5 : (vn : Int).fdiv (2 ^ f) = (u : Int) := by
    rw [hu, ← fdiv_nat]
    congr 1
  have hu2 : u < 256 ^ n := by
    have : 256 ^ n * 2 ^ f = 2 ^ 32 := by rw [pow8, ← Nat.pow_add]; congr 1; omega
    rw [hu, Nat.div_lt_iff_lt_mul (Nat.two_pow_pos f), this]
    exact hv
  have hu3 : u < 2 ^ 32 := by
    have : u ≤ vn := by rw [hu]; exact Nat.div_le_self _ _
    omega
  have w6 : IntKind.i64.wrap (u : Int) = (u : Int) := w_nat rfl (by omega)
  have w7 : min f IntKind.u32.bits = f := Nat.min_eq_left (by show f ≤ 32; omega)
  have hput : putS [] (n : Int) [(u : Int)] = bytesN n (u : Int) := by
    rw [putS, if_neg (by omega)]
    simp
  by_cases hs : ByteArray.size s ≤ 255
  case neg =>
    simp only [Try.f4, Option.getD_some]
    simp (implicitDefEqProofs := false) (decide := true) [ini, g5, begunC_eq, g1, g2, g3, g4, putC_eq, takeC_eq, textC_eq, takeTextC_eq]
    intro h
    exact absurd h (by omega)
  have htext : textS [] s = (s.size : Int) :: bytesOf s := textS_small hs []
  have w8 : IntKind.i64.wrap (1 + (s.size : Int)) = 1 + (s.size : Int) := i64_in _ (by omega)
  simp only [Try.f4, Option.getD_some]
  simp (implicitDefEqProofs := false) (decide := true) [ini, g1, g2, g3, g4, g5, putC_eq, takeC_eq, textC_eq, takeTextC_eq, begunC_eq, t1, w1, w2, w3, w4, w5, w6, w7, w8, hput, bytesN_len, htext, bytesOf_len]
  clear g1 g2 g3 g4 g5
  have bb' : isB behind := bb
  have wc : IntKind.i64.wrap (cn : Int) = (cn : Int) := w_nat rfl (by omega)
  have c1 : (cn : Int).tmod (n : Int) = ((cn % n : Nat) : Int) := tmod_nat cn n
  have c2 : (cn : Int).tmod ((ByteArray.size s : Int) + 1) = ((cn % (ByteArray.size s + 1) : Nat) : Int) := tmod_nat cn (ByteArray.size s + 1)
  have hn0 : 0 < n := by omega
  have d1 := Nat.mod_lt cn hn0
  have d2 := Nat.mod_lt cn (show 0 < ByteArray.size s + 1 by omega)
  have hbe : behind = ints (nats behind) := (ints_nats bb').symm
  have p1 : takeS (bytesN n (u : Int) ++ behind) (n : Int) = ((u : Int), true) := by rw [hbe]; exact take_put (by omega) (by omega) hu2 (nats_lt bb')
  have p2 : takeTextS ((ByteArray.size s : Int) :: (bytesOf s ++ behind)) = (s, 1 + (ByteArray.size s : Int), true) := takeText_text hs behind
  rw [wc, c1, c2, p1, p2]
  intro _ _ hb20
  refine ⟨by omega, fun _ _ => ⟨by omega, by omega, by omega, by omega, by omega, by omega, by omega, ⟨by omega, by omega⟩, fun _ => ⟨by omega, ⟨by omega, by omega⟩, ?_, rfl, rfl, rfl, rfl, fun _ => ⟨by simp only; omega, ?_, ?_⟩⟩⟩⟩
  · rw [Int.toNat_natCast]
    cases cn % (ByteArray.size s + 1) with
    | zero => simp
    | succ k => simp; omega
  · rw [Int.toNat_natCast, takeS, if_pos (.inr (by rw [List.length_take, bytesN_len]; omega))]
  · rw [Int.toNat_natCast]
    exact takeText_cut hs (by omega)
end Go.Proofs.Ytgkfngfejagbgaa
