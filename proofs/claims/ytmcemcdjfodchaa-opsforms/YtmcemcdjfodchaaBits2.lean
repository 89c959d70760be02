/- bits: the document's answer, walked; what is asked first. -/
import Derived.Test.YtmcemcdjfodchaaBits1
set_option maxRecDepth 10000
set_option linter.unusedSimpArgs false
set_option linter.unusedVariables false
set_option pp.deepTerms.threshold 12
namespace Go.Proofs.Ytmcemcdjfodchaa
open Go.Tm Go.IntWalk

/-- The contract of glacisref1.Put. -/
def rputC : Con := conN [(.v, .slice (.int .u8)), (.v, .int .i64), (.v, .slice (.int .i64))] fun (b, n, l, _) => if b.length + 4 * l.length ≤ 140737488355328 then some ⟨.own (.int .u8) (putS b n l), []⟩ else none
theorem rputC_eq {b : List Int} {n : Int} {l : List Int} : rputC [.val ⟨.slice (.int .u8), b⟩, .val ⟨.int .i64, n⟩, .val ⟨.slice (.int .i64), l⟩] = if b.length + 4 * l.length ≤ 140737488355328 then some ⟨.own (.int .u8) (putS b n l), []⟩ else none := conN_mk (ks := [(.v, .slice (.int .u8)), (.v, .int .i64), (.v, .slice (.int .i64))]) (b, n, l, ())
def Γrput : Cons := cons []
theorem rput_ex (b : List Int) (n : Int) (l : List Int) (hr : b.length + 4 * l.length ≤ 140737488355328) : Ex tab Γrput (Try.f40.body.getD .skip) (EndsF tab Try.f40.results.toList [.val ⟨.slice (.int .u8), b⟩, .val ⟨.int .i64, n⟩, .val ⟨.slice (.int .i64), l⟩] ⟨.own (.int .u8) (putS b n l), []⟩) (ini [.val ⟨.slice (.int .u8), b⟩, .val ⟨.int .i64, n⟩, .val ⟨.slice (.int .i64), l⟩]) := by
  simp only [Try.f40, Option.getD_some]
  simp (implicitDefEqProofs := false) (decide := true) (maxSteps := 4000000) [ini]
  intro m
  refine ⟨by omega, ?_⟩
  by_cases hn4 : n < 1 ∨ 4 < n
  · refine ex_loopU (σ := Nat) [7, 8, 9, 13, 14, 15, 16, 17, 18, 19, 20, 21, 22, 23, 24, 25, 26, 27, 28, 29, 30, 31, 32, 33, 34, 35, 36, 37, 38, 39, 40, 41, 42] (fun q => [(8, .val (.int .i64) 0), (7, .own q (.int .u8) b)])
      (fun _ => True) (fun _ => 0) _ trivial (hc rfl (hc rfl hn)) ?_
    intro j q _
    simp (implicitDefEqProofs := false) (decide := true) [ini]
    intro _
    have hp : b = putS b n l := by rw [putS, if_pos hn4]
    refine br_intro (fun h0 => br_dec (fun h1 => br_dec (fun h2 => by omega) (fun h2 => hp)) (fun h1 => hp)) (fun h0 => hp)
  obtain ⟨c, rfl⟩ := Int.eq_ofNat_of_zero_le (show 0 ≤ n by omega)
  refine ex_loopU (σ := Nat × Nat × List Int) [7, 8, 9, 13, 14, 15, 16, 17, 18, 19, 20, 21, 22, 23, 24, 25, 26, 27, 28, 29, 30, 31, 32, 33, 34, 35, 36, 37, 38, 39, 40, 41, 42] (fun s => [(8, .val (.int .i64) (s.1 : Int)), (7, .own s.2.1 (.int .u8) s.2.2)])
    (fun s => s.1 ≤ l.length ∧ s.2.2 = b ++ (l.take s.1).flatMap (bytesN c)) (fun s => l.length - s.1) (0, _, _) ?_ (hc rfl (hc rfl hn)) ?_
  · exact ⟨by simp, by simp⟩
  rintro j ⟨i, q, xs⟩ ⟨hi, hx⟩
  simp only at hi hx
  simp (implicitDefEqProofs := false) (decide := true) [ini]
  have fin : i = l.length → xs = putS b c l := by
    intro e
    subst e
    simp [putS, hn4, hx]
  intro hlen
  refine br_dec (fun hlt => br_dec (fun h1 => br_dec (fun h2 => ?_) (fun h2 => by omega)) (fun h1 => by omega)) (fun hge => fin (by omega))
  refine ex_loopU (σ := Nat × Nat × List Int) [7, 9, 27, 28, 29, 30, 31, 32, 33, 34, 35, 36, 37, 38, 39, 40, 41, 42] (fun s => [(9, .val (.int .i64) (s.1 : Int)), (7, .own s.2.1 (.int .u8) s.2.2)])
      (fun s => s.1 ≤ c ∧ s.2.2 = xs ++ bytesN s.1 (l.getD i 0)) (fun s => c - s.1) (0, _, _) ?_ (hc rfl (hc rfl hn)) ?_
  · exact ⟨by simp, by simp [bytesN]⟩
  rintro j2 ⟨k, q2, ys⟩ ⟨hk, hy⟩
  simp only at hk hy
  simp (implicitDefEqProofs := false) (decide := true) [ini]
  have hylen : ys.length = b.length + i * c + k := by
    rw [hy, hx, List.length_append, List.length_append, flatMap_len (bytesN_len c), bytesN_len, List.length_take, Nat.min_eq_left (by omega)]
  have h6 : i * c ≤ i * 4 := Nat.mul_le_mul_left _ (by omega)
  refine br_dec (fun hk2 => fun m => ⟨hlt, ?_, ?_, k + 1, _, _, ⟨by omega, ?_⟩, by omega, w_nat rfl (by omega), rfl, rfl⟩) (fun hk2 => ⟨i + 1, _, _, ⟨by omega, ?_⟩, by omega, w_nat rfl (by omega), rfl, rfl⟩)
  · rw [w_nat (n := 8 * k) (by simp) (by omega)]; omega
  · omega
  · rw [hy, bytesN_succ, w_nat (n := 8 * k) (by simp) (by omega)]
    simp only [List.append_assoc, byteN, Int.toNat_natCast, List.getD_eq_getElem?_getD]
    rw [Nat.min_eq_left (show 8 * k ≤ IntKind.i64.bits by show 8 * k ≤ 64; omega), List.getElem?_eq_getElem hlt, Option.getD_some]
  · have : k = c := by omega
    rw [hy, hx, take_flatMap _ _ _ hlt 0, this, List.append_assoc]
theorem rput_ok : ConOK Try.prog 40 rputC := by
  refine con_ok tab_ok (Γ := Γrput) consOK_nil (by kernel_rfl) Try.func40 (by kernel_rfl) ?_
  intro args out h
  obtain ⟨x, e, h1⟩ := conN_inv h
  clear h
  obtain ⟨b, n, l, x0⟩ := x
  subst e
  replace h1 : (if b.length + 4 * l.length ≤ 140737488355328 then some ⟨.own (.int .u8) (putS b n l), []⟩ else none) = some out := h1
  split at h1
  case isFalse => cases h1
  rename_i hr
  injection h1 with h1
  subst h1
  exact ⟨by rw [mkArgs_len]; decide, rput_ex b n l hr⟩

def hiN (b : List Int) : Nat → Nat → Int
  | _, 0 => 0
  | c, k + 1 => IntKind.i64.wrap (IntKind.i64.wrap (hiN b c k * 256) + IntKind.i64.wrap (b.getD (c - 1 - k) 0))
def rtakeS (b : List Int) (n : Int) : Int × Bool := if (n < 1 ∨ 4 < n) ∨ (b.length : Int) < n then (0, false) else (hiN b n.toNat n.toNat, true)
/-- The contract of glacisref1.Take. -/
def rtakeC : Con := conN [(.v, .slice (.int .u8)), (.v, .int .i64)] fun (b, n, _) => some ⟨.tup [⟨.int .i64, (rtakeS b n).1⟩, ⟨.bool, (rtakeS b n).2⟩], []⟩
theorem rtakeC_eq {b : List Int} {n : Int} : rtakeC [.val ⟨.slice (.int .u8), b⟩, .val ⟨.int .i64, n⟩] = some ⟨.tup [⟨.int .i64, (rtakeS b n).1⟩, ⟨.bool, (rtakeS b n).2⟩], []⟩ := conN_mk (ks := [(.v, .slice (.int .u8)), (.v, .int .i64)]) (b, n, ())
def Γrtake : Cons := cons []
theorem rtake_ex (b : List Int) (n : Int) : Ex tab Γrtake (Try.f34.body.getD .skip) (EndsF tab Try.f34.results.toList [.val ⟨.slice (.int .u8), b⟩, .val ⟨.int .i64, n⟩] ⟨.tup [⟨.int .i64, (rtakeS b n).1⟩, ⟨.bool, (rtakeS b n).2⟩], []⟩) (ini [.val ⟨.slice (.int .u8), b⟩, .val ⟨.int .i64, n⟩]) := by
  simp only [Try.f34, Option.getD_some]
  simp (implicitDefEqProofs := false) (decide := true) (maxSteps := 4000000) [ini]
  refine br_dec (fun h1 => by simp [rtakeS, h1]) (fun h1 => br_dec (fun h4 => by simp [rtakeS, h4]) (fun h4 => fun hl => br_dec (fun h5 => by simp [rtakeS, h5]) fun h5 => ?_))
  obtain ⟨c, rfl⟩ := Int.eq_ofNat_of_zero_le (show 0 ≤ n by omega)
  refine ex_loopU (σ := Int × Nat × Int) [6, 7, 22, 23, 24, 25, 26, 27, 28, 29, 30, 31, 32, 33] (fun s => [(7, .val (.int .i64) s.1), (6, .val (.int .i64) s.2.2)])
    (fun s => s.2.1 ≤ c ∧ s.1 = (c : Int) - 1 - s.2.1 ∧ s.2.2 = hiN b c s.2.1) (fun s => c - s.2.1) (IntKind.i64.wrap ((c : Int) - 1), 0, 0) ?_ (hc rfl (hc rfl hn)) ?_
  · exact ⟨by simp, by rw [i64_in _ (by omega)]; simp, rfl⟩
  rintro j ⟨z, k, v⟩ ⟨hk, hz, hv⟩
  simp only at hk hz hv
  simp (implicitDefEqProofs := false) (decide := true) [ini]
  refine br_dec (fun h6 => ⟨⟨by omega, by omega⟩, (c : Int) - 1 - ((k + 1 : Nat) : Int), k + 1, _, ⟨by omega, rfl, rfl⟩, by omega, ?_, ?_⟩) (fun h6 => ?_)
  · rw [i64_in (z - 1) (by omega)]
    show z - 1 = (c : Int) - 1 - ((k + 1 : Nat) : Int)
    omega
  · rw [hv]
    simp only [hiN]
    rw [show z.toNat = c - 1 - k by omega, List.getD_eq_getElem?_getD, List.getElem?_eq_getElem (by omega), Option.getD_some]
  · have : k = c := by omega
    subst this
    simp [rtakeS, h1, h4, h5, hv]
theorem rtake_ok : ConOK Try.prog 34 rtakeC := by
  refine con_ok tab_ok (Γ := Γrtake) consOK_nil (by kernel_rfl) Try.func34 (by kernel_rfl) ?_
  intro args out h
  obtain ⟨x, e, h1⟩ := conN_inv h
  clear h
  obtain ⟨b, n, x0⟩ := x
  subst e
  replace h1 : (some ⟨.tup [⟨.int .i64, (rtakeS b n).1⟩, ⟨.bool, (rtakeS b n).2⟩], []⟩) = some out := h1
  injection h1 with h1
  subst h1
  exact ⟨by rw [mkArgs_len]; decide, rtake_ex b n⟩

/-- The contract of glacisref1.One. -/
def oneC : Con := conN [(.v, .slice (.int .u8)), (.v, .int .i64), (.v, .int .i64)] fun (b, n, x, _) => if b.length + 4 ≤ 140737488355328 then some ⟨.own (.int .u8) (putS b n [x]), []⟩ else none
theorem oneC_eq {b : List Int} {n : Int} {x : Int} : oneC [.val ⟨.slice (.int .u8), b⟩, .val ⟨.int .i64, n⟩, .val ⟨.int .i64, x⟩] = if b.length + 4 ≤ 140737488355328 then some ⟨.own (.int .u8) (putS b n [x]), []⟩ else none := conN_mk (ks := [(.v, .slice (.int .u8)), (.v, .int .i64), (.v, .int .i64)]) (b, n, x, ())
def Γone : Cons := cons [(40, rputC)]
theorem one_ex (b : List Int) (n : Int) (x : Int) (hr : b.length + 4 ≤ 140737488355328) : Ex tab Γone (Try.f42.body.getD .skip) (EndsF tab Try.f42.results.toList [.val ⟨.slice (.int .u8), b⟩, .val ⟨.int .i64, n⟩, .val ⟨.int .i64, x⟩] ⟨.own (.int .u8) (putS b n [x]), []⟩) (ini [.val ⟨.slice (.int .u8), b⟩, .val ⟨.int .i64, n⟩, .val ⟨.int .i64, x⟩]) := by
  have g_rput : Γone 40 = some rputC := rfl
  simp only [Try.f42, Option.getD_some]
  simp (implicitDefEqProofs := false) (decide := true) (maxSteps := 4000000) [ini, g_rput, rputC_eq]
  omega
theorem one_ok : ConOK Try.prog 42 oneC := by
  refine con_ok tab_ok (Γ := Γone) (consOK_cons rput_ok consOK_nil) (by kernel_rfl) Try.func42 (by kernel_rfl) ?_
  intro args out h
  obtain ⟨x, e, h1⟩ := conN_inv h
  clear h
  obtain ⟨b, n, x, x0⟩ := x
  subst e
  replace h1 : (if b.length + 4 ≤ 140737488355328 then some ⟨.own (.int .u8) (putS b n [x]), []⟩ else none) = some out := h1
  split at h1
  case isFalse => cases h1
  rename_i hr
  injection h1 with h1
  subst h1
  exact ⟨by rw [mkArgs_len]; decide, one_ex b n x hr⟩

/-- The contract of glacisref1.Text. -/
def rtextC : Con := conN [(.v, .slice (.int .u8)), (.v, .str)] fun (b, s, _) => if b.length + s.size ≤ 140737488355000 then some ⟨.own (.int .u8) (textS b s), []⟩ else none
theorem rtextC_eq {b : List Int} {s : ByteArray} : rtextC [.val ⟨.slice (.int .u8), b⟩, .val ⟨.str, s⟩] = if b.length + s.size ≤ 140737488355000 then some ⟨.own (.int .u8) (textS b s), []⟩ else none := conN_mk (ks := [(.v, .slice (.int .u8)), (.v, .str)]) (b, s, ())
def Γrtext : Cons := cons [(42, oneC)]
theorem rtext_ex (b : List Int) (s : ByteArray) (hr : b.length + s.size ≤ 140737488355000) : Ex tab Γrtext (Try.f41.body.getD .skip) (EndsF tab Try.f41.results.toList [.val ⟨.slice (.int .u8), b⟩, .val ⟨.str, s⟩] ⟨.own (.int .u8) (textS b s), []⟩) (ini [.val ⟨.slice (.int .u8), b⟩, .val ⟨.str, s⟩]) := by
  have g_one : Γrtext 42 = some oneC := rfl
  simp only [Try.f41, Option.getD_some]
  simp (implicitDefEqProofs := false) (decide := true) (maxSteps := 4000000) [ini, g_one, oneC_eq]
  have hp : putS b 1 [(s.size : Int)] = b ++ [IntKind.u8.wrap (s.size : Int)] := by
    rw [putS, if_neg (by omega)]
    simp [bytesN, byteN, List.range_succ]
  refine br_dec (fun h => ⟨by omega, by rw [textS, if_pos (by omega)]⟩) (fun h => ⟨by omega, ?_, ?_⟩)
  · rw [hp, List.length_append, bytesOf_len, List.length_singleton]; omega
  · rw [hp, textS, if_neg (by omega)]; simp
theorem rtext_ok : ConOK Try.prog 41 rtextC := by
  refine con_ok tab_ok (Γ := Γrtext) (consOK_cons one_ok consOK_nil) (by kernel_rfl) Try.func41 (by kernel_rfl) ?_
  intro args out h
  obtain ⟨x, e, h1⟩ := conN_inv h
  clear h
  obtain ⟨b, s, x0⟩ := x
  subst e
  replace h1 : (if b.length + s.size ≤ 140737488355000 then some ⟨.own (.int .u8) (textS b s), []⟩ else none) = some out := h1
  split at h1
  case isFalse => cases h1
  rename_i hr
  injection h1 with h1
  subst h1
  exact ⟨by rw [mkArgs_len]; decide, rtext_ex b s hr⟩

end Go.Proofs.Ytmcemcdjfodchaa
