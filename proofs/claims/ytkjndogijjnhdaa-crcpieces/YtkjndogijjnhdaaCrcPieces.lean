import Derived.Test.YtkjndogijjnhdaaCrcN
set_option maxRecDepth 10000
set_option linter.unusedSimpArgs false
namespace Go.Proofs.Ytkjndogijjnhdaa
open Go.Tm Go.IntWalk
theorem begunC_eq : begunC [] = some ⟨.val ⟨.bool, true⟩, []⟩ := rfl
def Γpieces : Cons := cons [(9, sumC), (8, begunC)]
theorem Γpieces_ok : ConsOK Try.prog Γpieces := consOK_cons sum_ok (consOK_cons begun_ok consOK_nil)
theorem rep3 {a : List Int} : List.replicate 3 a = [a, a, a] := rfl
theorem rep4 {a : List Int} : List.replicate 4 a = [a, a, a, a] := rfl
theorem crcPieces_ex : LawEx tab Γpieces Try.f7 [.slice (.int .u8), .int .u8, .int .u8] := by
  intro l h1 h2
  obtain ⟨b, l1, rfl, e1⟩ := types_cons h1
  obtain ⟨i, l2, rfl, e2⟩ := types_cons e1
  obtain ⟨k, l3, rfl, e3⟩ := types_cons e2
  obtain rfl := types_nil e3
  clear h1 e1 e2 e3
  have g9 : Γpieces 9 = some sumC := rfl
  have g8 : Γpieces 8 = some begunC := rfl
  simp only [Try.f7, Option.getD_some]
  simp (implicitDefEqProofs := false) (decide := true) [ini, g8, g9, sumC_eq, begunC_eq, -List.reduceReplicate, rep3, rep4]
  have bb := okv_bytes (h2 ⟨_, b⟩ (by simp))
  have hi := h2 ⟨_, i⟩ (by simp)
  have hk := h2 ⟨_, k⟩ (by simp)
  simp [okv, Lit.wf, IntKind.has, IntKind.min, IntKind.max, IntKind.signed, IntKind.bits] at hi hk
  clear h2
  intro _ hb
  have w1 : IntKind.i64.wrap ((b.length : Int) + 1) = ((b.length + 1 : Nat) : Int) := by rw [i64_in _ (by omega)]; rfl
  have wi : IntKind.i64.wrap i = i := i64_in _ (by omega)
  have wk : IntKind.i64.wrap k = k := i64_in _ (by omega)
  rw [w1, wi, wk]
  obtain ⟨n, rfl⟩ := Int.eq_ofNat_of_zero_le hi.1
  obtain ⟨m, rfl⟩ := Int.eq_ofNat_of_zero_le hk.1
  rw [tmod_nat, tmod_nat]
  have hn : n % (b.length + 1) ≤ b.length := by have := Nat.mod_lt n (show 0 < b.length + 1 by omega); omega
  have hm : m % (b.length + 1) ≤ b.length := by have := Nat.mod_lt m (show 0 < b.length + 1 by omega); omega
  generalize n % (b.length + 1) = x at *
  generalize m % (b.length + 1) = y at *
  have e1 : (if (y : Int) < (x : Int) then (y : Int) else (x : Int)) = ((min x y : Nat) : Int) := by split <;> omega
  have e2 : (if (x : Int) < (y : Int) then (y : Int) else (x : Int)) = ((max x y : Nat) : Int) := by split <;> omega
  rw [e1, e2]
  generalize hlo : min x y = lo
  generalize hhi : max x y = hi'
  have h1 : lo ≤ hi' := by omega
  have h2 : hi' ≤ b.length := by omega
  clear hlo hhi e1 e2 w1 wi wk
  refine ⟨by omega, ⟨by omega, by omega⟩, ⟨by omega, by omega⟩, ⟨by omega, by omega⟩, ⟨by omega, by omega⟩, ?_, ⟨by omega, by omega⟩, ?_⟩
  · simp only [Int.toNat_natCast]
    rw [sum_nat (by simp [isB_take, isB_drop, bb]), sum_nat (by simpa using bb)]
    congr 2
    simp only [List.flatten_cons, List.flatten_nil, List.append_nil]
    rw [List.take_of_length_le (l := List.drop hi' b) (by simp)]
    conv => rhs; rw [← List.take_append_drop lo b, ← List.take_append_drop (hi' - lo) (List.drop lo b), List.drop_drop, Nat.add_sub_cancel' h1]
  · simp only [Int.toNat_natCast]
    rw [sum_nat (by simp [isB_take, isB_drop, bb, isB_nil]), sum_nat (by simpa using bb)]
    congr 2
    simp only [List.flatten_cons, List.flatten_nil, List.append_nil, List.nil_append]
    rw [List.take_of_length_le (l := List.drop lo b) (by simp), List.take_append_drop]
end Go.Proofs.Ytkjndogijjnhdaa
