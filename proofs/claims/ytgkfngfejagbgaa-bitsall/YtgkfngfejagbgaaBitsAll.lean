import Derived.Test.YtgkfngfejagbgaaBits3
import Derived.Test.YtgkfngfejagbgaaPNum
set_option maxRecDepth 10000
set_option linter.unusedSimpArgs false
set_option linter.unusedVariables false
set_option pp.deepTerms.threshold 12
namespace Go.Proofs.Ytgkfngfejagbgaa
open Go.Tm Go.IntWalk
def Γall : Cons := cons [(10, putC), (8, takeC), (14, textC), (12, takeTextC), (7, begunC), (11, rputC), (9, rtakeC), (15, rtextC), (13, rtakeTextC)]
theorem Γall_ok : ConsOK Try.prog Γall := consOK_cons put_ok (consOK_cons take_ok (consOK_cons text_ok (consOK_cons takeText_ok (consOK_cons begun_ok (consOK_cons rput_ok (consOK_cons rtake_ok (consOK_cons rtext_ok (consOK_cons rtakeText_ok consOK_nil))))))))
theorem bitsAll_ex : LawEx tab Γall Try.f3 [.arr 3 (.int .i64), .int .i64, .int .u8, .str, .slice (.int .u8), .slice (.int .u8)] := by
  intro l h1 h2
  obtain ⟨l, l1, rfl, e1⟩ := types_cons h1
  obtain ⟨n, l2, rfl, e2⟩ := types_cons e1
  obtain ⟨k, l3, rfl, e3⟩ := types_cons e2
  obtain ⟨s, l4, rfl, e4⟩ := types_cons e3
  obtain ⟨b, l5, rfl, e5⟩ := types_cons e4
  obtain ⟨front, l6, rfl, e6⟩ := types_cons e5
  obtain rfl := types_nil e6
  clear h1 e1 e2 e3 e4 e5 e6
  have g1 : Γall 10 = some putC := rfl
  have g2 : Γall 8 = some takeC := rfl
  have g3 : Γall 14 = some textC := rfl
  have g4 : Γall 12 = some takeTextC := rfl
  have g5 : Γall 7 = some begunC := rfl
  have g6 : Γall 11 = some rputC := rfl
  have g7 : Γall 9 = some rtakeC := rfl
  have g8 : Γall 15 = some rtextC := rfl
  have g9 : Γall 13 = some rtakeTextC := rfl
  have ll : List.length l = 3 := (h2 ⟨_, l⟩ (by simp)).1
  have bb := okv_bytes (h2 ⟨_, b⟩ (by simp))
  have bf := okv_bytes (h2 ⟨_, front⟩ (by simp))
  obtain ⟨kn, rfl, hkn⟩ := okv_u8 (h2 ⟨_, k⟩ (by simp))
  have hnr := okv_i64 (h2 ⟨_, n⟩ (by simp))
  have t1 : Int.tmod (kn : Int) 6 = ((kn % 6 : Nat) : Int) := tmod_nat kn 6
  simp only [Try.f3, Option.getD_some]
  simp (implicitDefEqProofs := false) (decide := true) [ini, g1, g2, g3, g4, g5, putC_eq, takeC_eq, textC_eq, takeTextC_eq, begunC_eq, t1]
  intro m0 hs _ hb _ hf m1
  refine ex_loopO (σ := Nat) 6 rfl (by decide) [14, 15, 16, 17, 18, 45, 46, 47, 48, 49, 50, 51, 52, 53, 54, 55, 56, 57, 58, 59, 60, 61, 62, 63, 64, 65, 66, 67, 68, 69, 70, 71, 72, 73, 74, 75, 76, 77, 78, 79, 80, 81, 82, 83, 84, 85, 86, 87, 88, 89, 90, 91, 92, 93, 94, 95, 96, 97, 98, 99, 100, 101, 102, 103, 104, 105] (fun s => [(14, .val (.int .i64) (s : Int))])
    (fun s => s ≤ 3) (fun s => 3 - s) 0 (by simp) (hc rfl hn) ?_
  have bb' : isB b := bb
  have rt : ∀ n, rtakeS b n = takeS b n := rtakeS_eq bb'
  have gb := isB_getD bb' 0
  rw [List.getD_eq_getElem?_getD] at gb
  rintro j i hi
  simp (implicitDefEqProofs := false) (decide := true) [ini, g1, g2, g3, g4, g5, g6, g7, g8, g9, putC_eq, takeC_eq, textC_eq, takeTextC_eq, rputC_eq, rtakeC_eq, rtextC_eq, rtakeTextC_eq, begunC_eq, rt, ll]
  refine br_dec (fun hlt => ?_) (fun hge => ⟨gb, by omega⟩)
  refine ⟨by omega, by omega, by omega, by omega, by omega, by omega, by omega, by omega, by omega, by omega, by omega, by omega, by omega, ?_, i + 1, by omega, by omega, w_nat rfl (by omega)⟩
  generalize [n, IntKind.i64.wrap ((kn : Int) % 6), 4][i]?.getD 0 = z
  rw [putS]
  split <;> simp
end Go.Proofs.Ytgkfngfejagbgaa
