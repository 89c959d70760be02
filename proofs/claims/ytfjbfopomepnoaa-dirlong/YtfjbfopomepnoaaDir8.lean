/- glacislaw7: what its statements begin with. -/
import Derived.Test.YtfjbfopomepnoaaDir7
import Derived.Test.YtfjbfopomepnoaaDir2
import Derived.Test.YtfjbfopomepnoaaRef6w
set_option maxRecDepth 100000
set_option maxHeartbeats 1000000
set_option linter.unusedSimpArgs false
set_option linter.unusedVariables false
set_option pp.deepTerms.threshold 16
namespace Go.Proofs.Ytfjbfopomepnoaa
open Go.Tm Go.IntWalk
/-- The contract of glacisref6.SameEntries. -/
def rsame6C : Con := conN [(.v, .slice EntT), (.v, .slice EntT)] fun (a, b, _) => some ⟨.val ⟨.bool, decide (a = b)⟩, []⟩
theorem rsame6C_eq {a : List (Ty.den (EntT))} {b : List (Ty.den (EntT))} : rsame6C [.val ⟨.slice EntT, a⟩, .val ⟨.slice EntT, b⟩] = some ⟨.val ⟨.bool, decide (a = b)⟩, []⟩ := conN_mk (ks := [(.v, .slice EntT), (.v, .slice EntT)]) (a, b, ())
def Γrsame6 : Cons := cons []
theorem rsame6_ex (a : List (Ty.den (EntT))) (b : List (Ty.den (EntT))) : Ex tab Γrsame6 (Try.f13.body.getD .skip) (EndsF tab Try.f13.results.toList [.val ⟨.slice EntT, a⟩, .val ⟨.slice EntT, b⟩] ⟨.val ⟨.bool, decide (a = b)⟩, []⟩) (ini [.val ⟨.slice EntT, a⟩, .val ⟨.slice EntT, b⟩]) := by
  simp only [Try.f13, Option.getD_some]
  simp (implicitDefEqProofs := false) (decide := true) (maxSteps := 4000000) [ini]
  intro hla hlb
  have hla : a.length ≤ 9223372036854775807 := hla
  refine br_intro (fun h e => by rw [e] at h; simp at h) fun h => ?_
  have hl : a.length = b.length := Int.ofNat.inj (by simpa using h)
  refine ex_loopU (σ := Nat) [4, 5, 11, 12, 13, 14, 15, 16, 17, 18, 19, 20, 21, 22, 23, 24, 25] (fun s => [(5, .val (.int .i64) (s : Int))]) (fun s => s ≤ a.length ∧ a.take s = b.take s) (fun s => a.length - s) 0 ⟨by simp, by simp⟩ (hc rfl hn) ?_
  rintro j i ⟨hi, he⟩
  simp (implicitDefEqProofs := false) (decide := true) [ini]
  intro _
  refine br_dec (fun hlt => ⟨hlt, by omega, br_intro (fun h e => ?_) fun h => ⟨i + 1, ⟨by omega, ?_⟩, by omega, w_nat rfl (by omega)⟩⟩) fun hge => ?_
  · rw [e, same_refl (t := EntT) (by decide)] at h; cases h
  · have h : a[i]?.getD (({ data := #[] }, 0, ()) : Ent) = b[i]?.getD (({ data := #[] }, 0, ()) : Ent) := same_eq (t := EntT) (by decide) (not_f h)
    rw [List.getElem?_eq_getElem hlt, List.getElem?_eq_getElem (by omega)] at h
    rw [List.take_succ_eq_append_getElem hlt, List.take_succ_eq_append_getElem (by omega), he]
    simp only [Option.getD_some] at h
    rw [h]
  · obtain rfl : i = a.length := by omega
    rw [List.take_length, hl, List.take_length] at he
    exact he
theorem rsame6_ok : ConOK Try.prog 13 rsame6C := by
  refine con_ok tab_ok (Γ := Γrsame6) consOK_nil (by kernel_rfl) Try.func13 (by kernel_rfl) ?_
  intro args out h
  obtain ⟨x, e, h1⟩ := conN_inv h
  clear h
  obtain ⟨a, b, x0⟩ := x
  subst e
  replace h1 : (some ⟨.val ⟨.bool, decide (a = b)⟩, []⟩) = some out := h1
  injection h1 with h1
  subst h1
  exact ⟨by rw [mkArgs_len]; decide, rsame6_ex a b⟩
/-- The entry of a number. -/
def entN (x : Nat) : Ent := ((strOf [((97 + x % 16 : Nat) : Int), ((97 + x / 16 : Nat) : Int)]).extract 0 (1 + x % 2), ((1 + x % 9 : Nat) : Int), ())
def entsN (l : List Int) : List Ent := l.foldl (fun out v => (withD out (entN v.toNat)).1) []
theorem insD_len (e : Ent) (l : List Ent) : (insD e l).length = l.length + 1 := by
  induction l with
  | nil => rfl
  | cons x r ih =>
    unfold insD
    split
    · rfl
    · rw [List.length_cons, ih]; rfl
theorem withD_len (l : List Ent) (e : Ent) : (withD l e).1.length ≤ l.length + 1 := by
  unfold withD
  split
  · exact Nat.le_succ _
  · rw [insD_len]; exact Nat.le_refl _
theorem entsN_len (l : List Int) : (entsN l).length ≤ l.length := by
  have key : ∀ (l : List Int) (out : List Ent), (l.foldl (fun out v => (withD out (entN v.toNat)).1) out).length ≤ out.length + l.length := by
    intro l
    induction l with
    | nil => intro out; exact Nat.le_refl _
    | cons v r ih =>
      intro out
      have h1 := ih (withD out (entN v.toNat)).1
      have h2 := withD_len out (entN v.toNat)
      rw [List.foldl_cons, List.length_cons]
      omega
  have := key l []
  simpa [entsN] using this
theorem entsN_next {l : List Int} {i : Nat} (h : i < l.length) : entsN (l.take (i + 1)) = (withD (entsN (l.take i)) (entN (l[i]).toNat)).1 := by
  rw [List.take_succ_eq_append_getElem h, entsN, List.foldl_append]
  rfl
/-- The contract of glacislaw7.entries. -/
def dentriesC : Con := conN [(.v, .slice (.int .u8))] fun (l, _) => if isB l ∧ l.length ≤ 1000 then some ⟨.val ⟨.slice EntT, entsN l⟩, []⟩ else none
theorem dentriesC_eq {l : List Int} : dentriesC [.val ⟨.slice (.int .u8), l⟩] = if isB l ∧ l.length ≤ 1000 then some ⟨.val ⟨.slice EntT, entsN l⟩, []⟩ else none := conN_mk (ks := [(.v, .slice (.int .u8))]) (l, ())
def Γdentries : Cons := cons [(17, rwithDC)]
theorem dentries_ex (l : List Int) (hr : isB l ∧ l.length ≤ 1000) : Ex tab Γdentries (Try.f8.body.getD .skip) (EndsF tab Try.f8.results.toList [.val ⟨.slice (.int .u8), l⟩] ⟨.val ⟨.slice EntT, entsN l⟩, []⟩) (ini [.val ⟨.slice (.int .u8), l⟩]) := by
  have g_rwithD : Γdentries 17 = some rwithDC := rfl
  simp only [Try.f8, Option.getD_some]
  simp (implicitDefEqProofs := false) (decide := true) (maxSteps := 4000000) [ini, g_rwithD, rwithDC_eq]
  obtain ⟨hB, hlen⟩ := hr
  refine ex_loopV 3 EntT rfl (σ := Nat × List Ent) [3, 4, 5, 6, 7, 8, 9, 10, 11, 12, 13, 14, 15, 16, 17, 18, 19, 20, 21, 22, 23, 24, 25, 26, 27, 28, 29, 30, 31, 32, 33, 34, 35, 36, 37, 38, 39, 40, 41, 42, 43, 44, 45, 46, 47] (fun a => [(4, .val (.int .i64) (a.1 : Int)), (3, .val (.slice EntT) a.2)])
    (fun a => a.1 ≤ l.length ∧ a.2 = entsN (l.take a.1)) (fun a => l.length - a.1) (0, []) ⟨Nat.zero_le _, by simp [entsN]⟩ (hc rfl (hc rfl hn)) ?_
  rintro j ⟨i, out⟩ ⟨hi, ho⟩
  simp only at hi ho
  simp (implicitDefEqProofs := false) (decide := true) (maxSteps := 4000000) [ini, g_rwithD, rwithDC_eq]
  intro _
  refine br_dec (fun hlt => ?_) fun hge => ?_
  · have hol := entsN_len (l.take i)
    rw [List.length_take] at hol
    have hgi : l[i]?.getD 0 = l[i] := by rw [List.getElem?_eq_getElem hlt]; rfl
    obtain ⟨n, hn, hn2⟩ : ∃ n : Nat, l[i] = (n : Int) ∧ n < 256 := by
      have := hB l[i] (List.getElem_mem hlt)
      exact ⟨l[i].toNat, by omega, by omega⟩
    rw [hgi, hn]
    have m2 : Int.tmod (n : Int) 2 = ((n % 2 : Nat) : Int) := rfl
    have m9 : Int.tmod (n : Int) 9 = ((n % 9 : Nat) : Int) := rfl
    have m16 : Int.tmod (n : Int) 16 = ((n % 16 : Nat) : Int) := rfl
    have d16 : Int.tdiv (n : Int) 16 = ((n / 16 : Nat) : Int) := rfl
    simp only [m2, m9, m16, d16]
    have w1 : IntKind.i64.wrap ((n % 2 : Nat) : Int) = ((n % 2 : Nat) : Int) := w_nat rfl (by omega)
    have w2 : IntKind.i64.wrap (1 + ((n % 2 : Nat) : Int)) = ((1 + n % 2 : Nat) : Int) := w_nat (by omega) (by omega)
    have w3 : IntKind.i64.wrap ((n % 9 : Nat) : Int) = ((n % 9 : Nat) : Int) := w_nat rfl (by omega)
    have w4 : IntKind.i64.wrap (1 + ((n % 9 : Nat) : Int)) = ((1 + n % 9 : Nat) : Int) := w_nat (by omega) (by omega)
    have w5 : IntKind.u8.wrap ((n / 16 : Nat) : Int) = ((n / 16 : Nat) : Int) := by rw [wrap_u8_nat]; omega
    have w6 : IntKind.u8.wrap (97 + ((n / 16 : Nat) : Int)) = ((97 + n / 16 : Nat) : Int) := by rw [show (97 : Int) + ((n / 16 : Nat) : Int) = ((97 + n / 16 : Nat) : Int) by omega, wrap_u8_nat]; omega
    have w7 : IntKind.u8.wrap (97 + ((n % 16 : Nat) : Int)) = ((97 + n % 16 : Nat) : Int) := by rw [show (97 : Int) + ((n % 16 : Nat) : Int) = ((97 + n % 16 : Nat) : Int) by omega, wrap_u8_nat]; omega
    have w8 : IntKind.i64.wrap ((i : Int) + 1) = ((i + 1 : Nat) : Int) := w_nat rfl (by omega)
    simp only [w1, w2, w3, w4, w5, w6, w7, w8]
    have hsz : (strOf [((97 + n % 16 : Nat) : Int), ((97 + n / 16 : Nat) : Int)]).size = 2 := by rw [size_strOf]; rfl
    refine ⟨hlt, ⟨by omega, by rw [hsz]; omega⟩, hlt, by rw [ho]; omega, i + 1, _, ⟨hlt, ?_⟩, by omega, rfl, rfl⟩
    rw [entsN_next hlt, ← ho, hn]
    rfl
  · have e : i = l.length := by omega
    rw [ho, e, List.take_length]
theorem dentries_ok : ConOK Try.prog 8 dentriesC := by
  refine con_ok tab_ok (Γ := Γdentries) (consOK_cons rwithD_ok consOK_nil) (by kernel_rfl) Try.func8 (by kernel_rfl) ?_
  intro args out h
  obtain ⟨x, e, h1⟩ := conN_inv h
  clear h
  obtain ⟨l, x0⟩ := x
  subst e
  replace h1 : (if isB l ∧ l.length ≤ 1000 then some ⟨.val ⟨.slice EntT, entsN l⟩, []⟩ else none) = some out := h1
  split at h1
  case isFalse => cases h1
  rename_i hr
  injection h1 with h1
  subst h1
  exact ⟨by rw [mkArgs_len]; decide, dentries_ex l hr⟩
/-- The contract of glacislaw7.begun. -/
def dbegunC : Con := conN [] fun _ => some ⟨.val ⟨.bool, true⟩, []⟩
theorem dbegunC_eq  : dbegunC [] = some ⟨.val ⟨.bool, true⟩, []⟩ := conN_mk (ks := []) (())
def Γdbegun : Cons := cons [(9, dputC), (11, dtakeC), (14, dfindDC), (16, dwithDC), (18, dlessDC)]
theorem dbegun_ex  : Ex tab Γdbegun (Try.f7.body.getD .skip) (EndsF tab Try.f7.results.toList [] ⟨.val ⟨.bool, true⟩, []⟩) (ini []) := by
  have g_dput : Γdbegun 9 = some dputC := rfl
  have g_dtake : Γdbegun 11 = some dtakeC := rfl
  have g_dfindD : Γdbegun 14 = some dfindDC := rfl
  have g_dwithD : Γdbegun 16 = some dwithDC := rfl
  have g_dlessD : Γdbegun 18 = some dlessDC := rfl
  simp only [Try.f7, Option.getD_some]
  simp (implicitDefEqProofs := false) (decide := true) (maxSteps := 4000000) [ini, g_dput, dputC_eq, g_dtake, dtakeC_eq, g_dfindD, dfindDC_eq, g_dwithD, dwithDC_eq, g_dlessD, dlessDC_eq]
  simp only [toList_bl]
  exact ⟨by decide +kernel, by decide +kernel⟩
theorem dbegun_ok : ConOK Try.prog 7 dbegunC := by
  refine con_ok tab_ok (Γ := Γdbegun) (consOK_cons dput_ok (consOK_cons dtake_ok (consOK_cons dfindD_ok (consOK_cons dwithD_ok (consOK_cons dlessD_ok consOK_nil))))) (by kernel_rfl) Try.func7 (by kernel_rfl) ?_
  intro args out h
  obtain ⟨x, e, h1⟩ := conN_inv h
  clear h
  subst e
  replace h1 : (some ⟨.val ⟨.bool, true⟩, []⟩) = some out := h1
  injection h1 with h1
  subst h1
  exact ⟨by rw [mkArgs_len]; decide, dbegun_ex⟩
end Go.Proofs.Ytfjbfopomepnoaa
