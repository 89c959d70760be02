import Derived.Test.YtkjndogijjnhdaaCrcN
set_option maxRecDepth 10000
set_option linter.unusedSimpArgs false
set_option pp.deepTerms.threshold 16
namespace Go.Proofs.Ytkjndogijjnhdaa
open Go.Tm Go.IntWalk Go.Crc
theorem begunC_eq : begunC [] = some ⟨.val ⟨.bool, true⟩, []⟩ := rfl
def Γjoin : Cons := cons [(9, sumC), (8, begunC)]
theorem Γjoin_ok : ConsOK Try.prog Γjoin := consOK_cons sum_ok (consOK_cons begun_ok consOK_nil)
def x3 (a b c : List Int) (k : Nat) : Int := Tm.bits .xor .u8 (Tm.bits .xor .u8 (a.getD k 0) (b.getD k 0)) (c.getD k 0)
theorem crcJoin_ex : LawEx tab Γjoin Try.f5 [.arr 20 (.int .u8), .arr 20 (.int .u8), .arr 20 (.int .u8)] := by
  intro l h1 h2
  obtain ⟨a, l1, rfl, e1⟩ := types_cons h1
  obtain ⟨b, l2, rfl, e2⟩ := types_cons e1
  obtain ⟨c, l3, rfl, e3⟩ := types_cons e2
  obtain rfl := types_nil e3
  clear h1 e1 e2 e3
  have g9 : Γjoin 9 = some sumC := rfl
  have g8 : Γjoin 8 = some begunC := rfl
  have ha := h2 ⟨_, a⟩ (by simp)
  have hb := h2 ⟨_, b⟩ (by simp)
  have hc := h2 ⟨_, c⟩ (by simp)
  have la : a.length = 20 := ha.1
  have lb : b.length = 20 := hb.1
  have lc : c.length = 20 := hc.1
  have ba : isB a := okv_arr (n := 20) ha
  have bb : isB b := okv_arr (n := 20) hb
  have bc : isB c := okv_arr (n := 20) hc
  clear h2 ha hb hc
  simp only [Try.f5, Option.getD_some]
  simp (implicitDefEqProofs := false) (decide := true) [ini, g8, g9, sumC_eq, begunC_eq, -List.reduceReplicate]
  intro m m1
  refine ex_loopU (σ := Nat × Nat × List Int) [7, 8, 11, 12, 13, 14, 15, 16, 17, 18, 19, 20, 21, 22, 23, 24, 25, 26, 27] (fun s => [(8, .val (.int .i64) (s.1 : Int)), (7, .obj s.2.1 (.arr 20 (.int .u8)) s.2.2)])
    (fun s => s.1 ≤ 20 ∧ s.2.2.length = 20 ∧ ∀ k, k < s.1 → s.2.2.getD k 0 = x3 a b c k) (fun s => 20 - s.1) (0, _, _) ?_ (Tm.hc rfl (Tm.hc rfl hn)) ?_
  · exact ⟨by simp, by simp, fun k hk => by simp at hk⟩
  rintro j ⟨i, q, xs⟩ ⟨hi, hx1, hx2⟩
  simp only at hi hx1 hx2
  simp (implicitDefEqProofs := false) (decide := true) [ini, g9, sumC_eq]
  refine br_dec (fun hlt => ?_) (fun hge => ?_)
  · have w : IntKind.i64.wrap ((i : Int) + 1) = ((i + 1 : Nat) : Int) := by rw [i64_in _ (by omega)]; rfl
    refine ⟨hlt, by omega, hlt, by omega, hlt, by omega, hlt, by omega, i + 1, q, _, ⟨by omega, ?_, ?_⟩, by omega, w, rfl, rfl⟩
    · simp [hx1]
    · intro k hk
      rw [List.getElem?_set]
      by_cases e : i = k
      · subst e
        rw [if_pos rfl, if_pos (by omega)]
        simp [x3, List.getD_eq_getElem?_getD, la, lb, lc]
      · rw [if_neg e, ← List.getD_eq_getElem?_getD]
        exact hx2 k (by omega)
  · have hi20 : i = 20 := by omega
    subst hi20
    have ha2 : a = ints (nats a) := (ints_nats ba).symm
    have hb2 : b = ints (nats b) := (ints_nats bb).symm
    have hc2 : c = ints (nats c) := (ints_nats bc).symm
    have key : xs = ints (List.zipWith (· ^^^ ·) (List.zipWith (· ^^^ ·) (nats a) (nats b)) (nats c)) ∧ ∀ x ∈ List.zipWith (· ^^^ ·) (List.zipWith (· ^^^ ·) (nats a) (nats b)) (nats c), x < 256 := by
      have la' : (nats a).length = 20 := by rw [nats_length, la]
      have lb' : (nats b).length = 20 := by rw [nats_length, lb]
      have lc' : (nats c).length = 20 := by rw [nats_length, lc]
      have xl : ∀ {x y : Nat}, x < 256 → y < 256 → x ^^^ y < 256 := fun hx hy => Nat.xor_lt_two_pow (n := 8) hx hy
      have hel : ∀ k (h : k < 20), (nats a)[k] < 256 ∧ (nats b)[k] < 256 ∧ (nats c)[k] < 256 := fun k h =>
        ⟨nats_lt ba _ (List.getElem_mem _), nats_lt bb _ (List.getElem_mem _), nats_lt bc _ (List.getElem_mem _)⟩
      refine ⟨?_, fun x hx => ?_⟩
      · apply List.ext_getElem
        · simp [ints, hx1, la', lb', lc']
        · intro k h1 h2
          have hk : k < 20 := by omega
          have h3 := hx2 k hk
          rw [List.getD_eq_getElem?_getD, List.getElem?_eq_getElem h1, Option.getD_some] at h3
          obtain ⟨q1, q2, q3⟩ := hel k hk
          have e1 : a.getD k 0 = ((nats a)[k] : Int) := by conv => lhs; rw [ha2, ints_getD, List.getD_eq_getElem?_getD, List.getElem?_eq_getElem (by omega), Option.getD_some]
          have e2 : b.getD k 0 = ((nats b)[k] : Int) := by conv => lhs; rw [hb2, ints_getD, List.getD_eq_getElem?_getD, List.getElem?_eq_getElem (by omega), Option.getD_some]
          have e3 : c.getD k 0 = ((nats c)[k] : Int) := by conv => lhs; rw [hc2, ints_getD, List.getD_eq_getElem?_getD, List.getElem?_eq_getElem (by omega), Option.getD_some]
          rw [h3, x3, e1, e2, e3, xor_u8 q1 q2, xor_u8 (xl q1 q2) q3]
          simp [ints]
      · obtain ⟨k, hk, rfl⟩ := List.mem_iff_getElem.1 hx
        simp only [List.length_zipWith] at hk
        simp only [List.getElem_zipWith]
        obtain ⟨q1, q2, q3⟩ := hel k (by omega)
        exact xl (xl q1 q2) q3
    obtain ⟨k1, k2⟩ := key
    rw [List.take_of_length_le (by omega), List.take_of_length_le (by omega), List.take_of_length_le (by omega), List.take_of_length_le (by omega)]
    rw [k1, sum_nat (by simpa using isB_ints k2), sum_nat (by simpa using ba), sum_nat (by simpa using bb), sum_nat (by simpa using bc)]
    simp only [List.flatten_cons, List.flatten_nil, List.append_nil, nats_ints]
    have s1 := sumN_lt (nats_lt ba)
    have s2 := sumN_lt (nats_lt bb)
    have s3 := sumN_lt (nats_lt bc)
    rw [xor_u32 (by simpa using s1) (by simpa using s2), xor_u32 (by simpa using Nat.xor_lt_two_pow s1 s2) (by simpa using s3), sum_join (by simp [nats_length, la, lb]) (by simp [nats_length, lb, lc])]
end Go.Proofs.Ytkjndogijjnhdaa
