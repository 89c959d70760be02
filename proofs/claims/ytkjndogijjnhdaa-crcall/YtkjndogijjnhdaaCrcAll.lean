import Derived.Test.YtkjndogijjnhdaaCrcN
set_option maxRecDepth 10000
set_option linter.unusedSimpArgs false
namespace Go.Proofs.Ytkjndogijjnhdaa
open Go.Tm Go.IntWalk
theorem crcC_eq {l : List (List Int)} : crcC [.val ⟨.slice (.slice (.int .u8)), l⟩] = some ⟨.val ⟨.int .u32, crcRef l⟩, []⟩ := rfl
theorem begunC_eq : begunC [] = some ⟨.val ⟨.bool, true⟩, []⟩ := rfl
def Γall : Cons := cons [(9, sumC), (8, begunC), (10, crcC)]
theorem Γall_ok : ConsOK Try.prog Γall := consOK_cons sum_ok (consOK_cons begun_ok (consOK_cons crc_ok consOK_nil))
theorem rep3 {a : List Int} : List.replicate 3 a = [a, a, a] := rfl
theorem crcAll_ex : LawEx tab Γall Try.f3 [.slice (.int .u8), .slice (.int .u8), .slice (.int .u8)] := by
  intro l h1 h2
  obtain ⟨a, l1, rfl, e1⟩ := types_cons h1
  obtain ⟨b, l2, rfl, e2⟩ := types_cons e1
  obtain ⟨c, l3, rfl, e3⟩ := types_cons e2
  obtain rfl := types_nil e3
  clear h1 e1 e2 e3
  have g9 : Γall 9 = some sumC := rfl
  have g8 : Γall 8 = some begunC := rfl
  have g10 : Γall 10 = some crcC := rfl
  simp only [Try.f3, Option.getD_some]
  simp (implicitDefEqProofs := false) [ini, g8, g9, g10, sumC_eq, begunC_eq, crcC_eq, -List.reduceReplicate, rep3]
  have ba := okv_bytes (h2 ⟨_, a⟩ (by simp))
  have bb := okv_bytes (h2 ⟨_, b⟩ (by simp))
  have bc := okv_bytes (h2 ⟨_, c⟩ (by simp))
  intro _ ha _ hb _ hc
  refine ⟨?_, ?_, by omega, by omega, ?_⟩
  · rw [sum_nat (by simp [ba, bb, bc]), crcRef_nat (by simp [ba, bb, bc])]
  · rw [sum_nat (by simp [ba]), crcRef_nat (by simp [ba])]
  · rw [sum_nat (by simp [ba, bb, isB_nil]), sum_nat (by simp [isB_append, ba, bb])]
    simp
end Go.Proofs.Ytkjndogijjnhdaa
