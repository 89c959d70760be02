/- disk: New, by the program. -/
import Derived.Test.YtcopoofbicgjbaaDiskR
import Derived.Test.YtcopoofbicgjbaaLibRepeat
set_option maxRecDepth 10000
set_option maxHeartbeats 1000000
set_option linter.unusedSimpArgs false
set_option linter.unusedVariables false
set_option pp.deepTerms.threshold 60
namespace Go.Proofs.Ytcopoofbicgjbaa
open Go.Tm Go.IntWalk
theorem and_small : ∀ c : Fin 1001, Tm.bits BinOp.and IntKind.u64 ((c.val : Nat) : Int) 4294967295 = ((c.val : Nat) : Int) := by decide +kernel
/-- The contract of math/bits.Mul64. -/
def bmul64C : Con := conN [(.v, .int .u64), (.v, .int .u64)] fun (a, b, _) => if a = 1 ∧ 0 ≤ b ∧ b ≤ 1000 then some ⟨.tup [⟨.int .u64, 0⟩, ⟨.int .u64, b⟩], []⟩ else none
theorem bmul64C_eq {a : Int} {b : Int} : bmul64C [.val ⟨.int .u64, a⟩, .val ⟨.int .u64, b⟩] = if a = 1 ∧ 0 ≤ b ∧ b ≤ 1000 then some ⟨.tup [⟨.int .u64, 0⟩, ⟨.int .u64, b⟩], []⟩ else none := conN_mk (ks := [(.v, .int .u64), (.v, .int .u64)]) (a, b, ())
def Γbmul64 : Cons := cons []
theorem bmul64_ex (a : Int) (b : Int) (hr : a = 1 ∧ 0 ≤ b ∧ b ≤ 1000) : Ex tab Γbmul64 (Try.f41.body.getD .skip) (EndsF tab Try.f41.results.toList [.val ⟨.int .u64, a⟩, .val ⟨.int .u64, b⟩] ⟨.tup [⟨.int .u64, 0⟩, ⟨.int .u64, b⟩], []⟩) (ini [.val ⟨.int .u64, a⟩, .val ⟨.int .u64, b⟩]) := by
  simp only [Try.f41, Option.getD_some]
  simp (implicitDefEqProofs := false) (decide := true) (maxSteps := 4000000) [ini]
  obtain ⟨rfl, h0, h1⟩ := hr
  have k0 : (1 : Int).fdiv 4294967296 = 0 := rfl
  have k1 : b.fdiv 4294967296 = 0 := by
    rw [Int.fdiv_eq_ediv_of_nonneg _ (by omega)]
    omega
  have k2 : Tm.bits BinOp.and IntKind.u64 1 4294967295 = 1 := by decide +kernel
  have k3 : Tm.bits BinOp.and IntKind.u64 b 4294967295 = b := by
    obtain ⟨c, rfl⟩ : ∃ c : Nat, b = (c : Int) := ⟨Int.toNat b, (Int.toNat_of_nonneg h0).symm⟩
    exact and_small ⟨c, by omega⟩
  have k4 : IntKind.u64.wrap 0 = 0 := by decide +kernel
  have k5 : Tm.bits BinOp.and IntKind.u64 0 4294967295 = 0 := by decide +kernel
  have k6 : IntKind.u64.wrap b = b := by rw [IntKind.wrap_u64]; omega
  have k7 : (0 : Int).fdiv 4294967296 = 0 := rfl
  simp only [k0, k1, k2, k3, k4, k5, k6, k7, Int.zero_mul, Int.one_mul, Int.mul_zero, Int.add_zero, Int.zero_add]
  exact ⟨trivial, trivial⟩
theorem bmul64_ok : ConOK Try.prog 41 bmul64C := by
  refine con_ok tab_ok (Γ := Γbmul64) consOK_nil (by kernel_rfl) Try.func41 (by kernel_rfl) ?_
  intro args out h
  obtain ⟨x, e, h1⟩ := conN_inv h
  clear h
  obtain ⟨a, b, x0⟩ := x
  subst e
  replace h1 : (if a = 1 ∧ 0 ≤ b ∧ b ≤ 1000 then some ⟨.tup [⟨.int .u64, 0⟩, ⟨.int .u64, b⟩], []⟩ else none) = some out := h1
  split at h1
  case isFalse => cases h1
  rename_i hr
  injection h1 with h1
  subst h1
  exact ⟨by rw [mkArgs_len]; decide, bmul64_ex a b hr⟩
/-- The contract of math/bits.Mul. -/
def bmulC : Con := conN [(.v, .int .u64), (.v, .int .u64)] fun (a, b, _) => if a = 1 ∧ 0 ≤ b ∧ b ≤ 1000 then some ⟨.tup [⟨.int .u64, 0⟩, ⟨.int .u64, b⟩], []⟩ else none
theorem bmulC_eq {a : Int} {b : Int} : bmulC [.val ⟨.int .u64, a⟩, .val ⟨.int .u64, b⟩] = if a = 1 ∧ 0 ≤ b ∧ b ≤ 1000 then some ⟨.tup [⟨.int .u64, 0⟩, ⟨.int .u64, b⟩], []⟩ else none := conN_mk (ks := [(.v, .int .u64), (.v, .int .u64)]) (a, b, ())
def Γbmul : Cons := cons [(41, bmul64C)]
theorem bmul_ex (a : Int) (b : Int) (hr : a = 1 ∧ 0 ≤ b ∧ b ≤ 1000) : Ex tab Γbmul (Try.f31.body.getD .skip) (EndsF tab Try.f31.results.toList [.val ⟨.int .u64, a⟩, .val ⟨.int .u64, b⟩] ⟨.tup [⟨.int .u64, 0⟩, ⟨.int .u64, b⟩], []⟩) (ini [.val ⟨.int .u64, a⟩, .val ⟨.int .u64, b⟩]) := by
  have g_bmul64 : Γbmul 41 = some bmul64C := rfl
  simp only [Try.f31, Option.getD_some]
  simp (implicitDefEqProofs := false) (decide := true) (maxSteps := 4000000) [ini, g_bmul64, bmul64C_eq]
  exact hr
theorem bmul_ok : ConOK Try.prog 31 bmulC := by
  refine con_ok tab_ok (Γ := Γbmul) (consOK_cons bmul64_ok consOK_nil) (by kernel_rfl) Try.func31 (by kernel_rfl) ?_
  intro args out h
  obtain ⟨x, e, h1⟩ := conN_inv h
  clear h
  obtain ⟨a, b, x0⟩ := x
  subst e
  replace h1 : (if a = 1 ∧ 0 ≤ b ∧ b ≤ 1000 then some ⟨.tup [⟨.int .u64, 0⟩, ⟨.int .u64, b⟩], []⟩ else none) = some out := h1
  split at h1
  case isFalse => cases h1
  rename_i hr
  injection h1 with h1
  subst h1
  exact ⟨by rw [mkArgs_len]; decide, bmul_ex a b hr⟩
/-- The contract of slices.Repeat[[]string,string]. -/
def srepC : Con := conN [(.v, .slice .str), (.v, .int .i64)] fun (l, n, _) => if l.length = 1 ∧ 1 ≤ n ∧ n ≤ 1000 then some ⟨.own .str (List.replicate n.toNat (l.getD 0 no)), []⟩ else none
theorem srepC_eq {l : List ByteArray} {n : Int} : srepC [.val ⟨.slice .str, l⟩, .val ⟨.int .i64, n⟩] = if l.length = 1 ∧ 1 ≤ n ∧ n ≤ 1000 then some ⟨.own .str (List.replicate n.toNat (l.getD 0 no)), []⟩ else none := conN_mk (ks := [(.v, .slice .str), (.v, .int .i64)]) (l, n, ())
def Γsrep : Cons := cons [(31, bmulC)]
theorem srep_ex (l : List ByteArray) (n : Int) (hr : l.length = 1 ∧ 1 ≤ n ∧ n ≤ 1000) : Ex tab Γsrep (Try.f21.body.getD .skip) (EndsF tab Try.f21.results.toList [.val ⟨.slice .str, l⟩, .val ⟨.int .i64, n⟩] ⟨.own .str (List.replicate n.toNat (l.getD 0 no)), []⟩) (ini [.val ⟨.slice .str, l⟩, .val ⟨.int .i64, n⟩]) := by
  have g_bmul : Γsrep 31 = some bmulC := rfl
  simp only [Try.f21, Option.getD_some]
  simp (implicitDefEqProofs := false) (decide := true) (maxSteps := 4000000) [ini, g_bmul, bmulC_eq]
  obtain ⟨h1, h2, h3⟩ := hr
  have h1 : l.length = 1 := h1
  obtain ⟨s, rfl⟩ := List.length_eq_one_iff.1 h1
  obtain ⟨c, rfl⟩ : ∃ c : Nat, n = (c : Int) := ⟨Int.toNat n, (Int.toNat_of_nonneg (by omega)).symm⟩
  have w1 : IntKind.u64.wrap (c : Int) = (c : Int) := by rw [IntKind.wrap_u64]; omega
  have w2 : IntKind.i64.wrap (c : Int) = (c : Int) := w_nat rfl (by omega)
  have w3 : IntKind.u64.wrap (([s].length : Nat) : Int) = 1 := by show IntKind.u64.wrap ((1 : Nat) : Int) = 1; decide +kernel
  rw [w1, w2, w3]
  refine br_dec (fun h => absurd h (by omega)) fun _ _ => ⟨⟨rfl, by omega, by omega⟩, br_dec (fun h => absurd h (by omega)) fun _ m => ⟨⟨by omega, by omega⟩, ?_⟩⟩
  have e1 : min [s].length ((c : Int)).toNat = 1 := by rw [Int.toNat_natCast]; simp only [List.length_singleton]; omega
  have e2 : List.take ((c : Int)).toNat [s] = [s] := List.take_of_length_le (by rw [Int.toNat_natCast]; simp only [List.length_singleton]; omega)
  rw [e1, e2]
  refine ex_loopU (σ := Nat × Nat × List ByteArray) [8, 34, 35, 36, 37, 38, 39, 40, 41, 42, 43, 44, 45, 46, 7] (fun a => [(8, .val (.int .i64) (a.1 : Int)), (7, .own a.2.1 .str a.2.2)]) (fun a => 1 ≤ a.1 ∧ a.1 ≤ c ∧ a.2.2.length = c ∧ a.2.2.take a.1 = List.replicate a.1 s) (fun a => c - a.1) (1, _, _) ⟨Nat.le_refl _, by omega, ?_, ?_⟩ (hc rfl (hc rfl hn)) ?_
  · show (List.take 0 (List.replicate ((c : Int)).toNat _) ++ [s] ++ List.drop (0 + 1) (List.replicate ((c : Int)).toNat _)).length = c
    rw [List.length_append, List.length_drop, List.length_replicate, Int.toNat_natCast, List.take_zero, List.nil_append, List.length_singleton]
    omega
  · rfl
  rintro j ⟨k, q, out⟩ ⟨hk1, hk2, hk3, hk4⟩
  simp only at hk1 hk2 hk3 hk4
  simp (implicitDefEqProofs := false) (decide := true) (maxSteps := 4000000) [ini, g_bmul, bmulC_eq]
  intro _
  refine br_dec (fun hlt => ⟨by omega, ?_⟩) fun hge => ?_
  · obtain ⟨e, he⟩ : ∃ e, e = min k (out.length - k) := ⟨_, rfl⟩
    have hy : List.take (out.length - k) (List.take k out) = List.replicate e s := by rw [hk4, List.take_replicate, he, Nat.min_comm]
    have ho : over out (List.take (out.length - k) (List.take k out)) k = List.replicate (k + e) s ++ List.drop (k + e) out := by
      show List.take k out ++ _ ++ List.drop (k + (List.take (out.length - k) (List.take k out)).length) out = _
      rw [hy, hk4, List.length_replicate, List.replicate_append_replicate]
    rw [← he, ho]
    refine ⟨k + e, q, _, ⟨by omega, by omega, ?_, ?_⟩, by omega, w_nat (by omega) (by omega), rfl, rfl⟩
    · rw [List.length_append, List.length_replicate, List.length_drop]; omega
    · rw [List.take_left' (List.length_replicate ..)]
  · have : k = c := by omega
    rw [← this, ← hk4, List.take_of_length_le (by omega)]
theorem srep_ok : ConOK Try.prog 21 srepC := by
  refine con_ok tab_ok (Γ := Γsrep) (consOK_cons bmul_ok consOK_nil) (by kernel_rfl) Try.func21 (by kernel_rfl) ?_
  intro args out h
  obtain ⟨x, e, h1⟩ := conN_inv h
  clear h
  obtain ⟨l, n, x0⟩ := x
  subst e
  replace h1 : (if l.length = 1 ∧ 1 ≤ n ∧ n ≤ 1000 then some ⟨.own .str (List.replicate n.toNat (l.getD 0 no)), []⟩ else none) = some out := h1
  split at h1
  case isFalse => cases h1
  rename_i hr
  injection h1 with h1
  subst h1
  exact ⟨by rw [mkArgs_len]; decide, srep_ex l n hr⟩
/-- The contract of disk.New. -/
def dnewC : Con := conN [(.v, .int .i64)] fun (n, _) => some ⟨.val ⟨DkT, newK n⟩, []⟩
theorem dnewC_eq {n : Int} : dnewC [.val ⟨.int .i64, n⟩] = some ⟨.val ⟨DkT, newK n⟩, []⟩ := conN_mk (ks := [(.v, .int .i64)]) (n, ())
def Γdnew : Cons := cons [(22, repeat6C), (21, srepC)]
theorem dnew_ex (n : Int) : Ex tab Γdnew (Try.f9.body.getD .skip) (EndsF tab Try.f9.results.toList [.val ⟨.int .i64, n⟩] ⟨.val ⟨DkT, newK n⟩, []⟩) (ini [.val ⟨.int .i64, n⟩]) := by
  have g_repeat6 : Γdnew 22 = some repeat6C := rfl
  have g_srep : Γdnew 21 = some srepC := rfl
  simp only [Try.f9, Option.getD_some]
  simp (implicitDefEqProofs := false) (decide := true) (maxSteps := 4000000) [ini, g_repeat6, repeat6C_eq, g_srep, srepC_eq]
  have e0 : repB { data := #[0] } 64 = nought64 := by decide +kernel
  rw [e0]
  refine br_dec (fun h => ?_) fun h => br_dec (fun h2 => ?_) fun h2 => ⟨by omega, ?_⟩
  · rw [newK, if_pos (.inl h)]
  · rw [newK, if_pos (.inr h2)]
  · have h3 : ¬ (n < 1 ∨ 770 < n) := by omega
    rw [newK, if_neg h3]
theorem dnew_ok : ConOK Try.prog 9 dnewC := by
  refine con_ok tab_ok (Γ := Γdnew) (consOK_cons repeat6_ok (consOK_cons srep_ok consOK_nil)) (by kernel_rfl) Try.func9 (by kernel_rfl) ?_
  intro args out h
  obtain ⟨x, e, h1⟩ := conN_inv h
  clear h
  obtain ⟨n, x0⟩ := x
  subst e
  replace h1 : (some ⟨.val ⟨DkT, newK n⟩, []⟩) = some out := h1
  injection h1 with h1
  subst h1
  exact ⟨by rw [mkArgs_len]; decide, dnew_ex n⟩
end Go.Proofs.Ytcopoofbicgjbaa
