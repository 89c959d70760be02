import Derived.Test.YtlckajldmooefaaCrc1
set_option maxRecDepth 10000
set_option linter.unusedSimpArgs false
set_option pp.deepTerms.threshold 9
namespace Go.Proofs.Ytlckajldmooefaa
open Go.Tm Go.IntWalk

def step1 (c x : Int) : Int := Tm.bits .xor .u32 (table.getD (Tm.bits .xor .u8 (IntKind.u8.wrap c) x).toNat 0) (c.fdiv 256)
def sum (l : List (List Int)) : Int := Tm.bits .xor .u32 (l.foldl (fun c b => b.foldl step1 c) 4294967295) 4294967295
def sumC : Con := fun
  | [.val ⟨.slice (.slice (.int .u8)), l⟩] => some ⟨.val ⟨.int .u32, sum l⟩, []⟩
  | _ => none

theorem foldl_next {α β : Type} {f : β → α → β} {l : List α} {i : Nat} {c : β} (h : i < l.length) (d : α) : f ((l.take i).foldl f c) (l.getD i d) = (l.take (i + 1)).foldl f c := by
  rw [List.take_add_one, List.getElem?_eq_getElem h, List.foldl_append, List.getD_eq_getElem?_getD, List.getElem?_eq_getElem h]
  rfl

theorem u8_range (x y : Int) : 0 ≤ Tm.bits .xor .u8 x y ∧ Tm.bits .xor .u8 x y < 256 := by
  unfold Tm.bits
  simp only [IntKind.wrap_u8]
  omega

theorem sum_ex (Γ : Cons) (g11 : Γ 40 = some made) (args : List Arg) (out : Out) (h : sumC args = some out) : args.length ≤ 37 ∧ Ex tab Γ (Try.f36.body.getD .skip) (EndsF tab Try.f36.results.toList args out) (ini args) := by
  unfold sumC at h
  split at h
  case h_2 => cases h
  rename_i l
  injection h with h
  subst h
  refine ⟨by simp, ?_⟩
  simp only [Try.f36, Option.getD_some]
  simp (decide := true) [g11, made, ini]
  intro _ hl
  have hl63 : l.length ≤ 9223372036854775807 := hl
  refine ex_loop (fun n st => ∃ (i q : Nat) (c : Int), n = l.length - i ∧ i ≤ l.length ∧ st 12 = .val (.int .i64) (i : Int) ∧ st 11 = .val (.int .i64) (l.length : Int) ∧ st 10 = .val (.slice (.slice (.int .u8))) l ∧
    st 3 = .obj q (.arr 256 (.int .u32)) table ∧ st 4 = .val (.int .u32) c ∧ c = (l.take i).foldl (fun c b => b.foldl step1 c) 4294967295) l.length ⟨0, _, _, rfl, by omega, by simp, by simp, by simp, by simp; rfl, by simp; rfl, by simp⟩ ?_
  rintro n st ⟨i, q, c, rfl, hi, h12, h11, h10, h3, h4, hc⟩
  simp (decide := true) [h12, h11, h10, h3, h4]
  refine br_dec (fun hlt => ?_) (fun hge => ?_)
  · refine ⟨hlt, fun hb => ?_⟩
    generalize hbe : l.getD i [] = b
    have hbe' : (l[i]?).getD [] = b := by rw [← List.getD_eq_getElem?_getD]; exact hbe
    simp only [hbe'] at hb ⊢
    have hb63 : b.length ≤ 9223372036854775807 := hb
    refine ex_loop (fun n st => ∃ (k q : Nat) (c' : Int), n = b.length - k ∧ k ≤ b.length ∧ st 18 = .val (.int .i64) (k : Int) ∧ st 17 = .val (.int .i64) (b.length : Int) ∧ st 16 = .val (.slice (.int .u8)) b ∧
      st 12 = .val (.int .i64) (i : Int) ∧ st 11 = .val (.int .i64) (l.length : Int) ∧ st 10 = .val (.slice (.slice (.int .u8))) l ∧
      st 3 = .obj q (.arr 256 (.int .u32)) table ∧ st 4 = .val (.int .u32) c' ∧ c' = (b.take k).foldl step1 c) b.length ⟨0, q, c, rfl, by omega, by simp [h12, h11, h10, h3, h4], by simp [h12, h11, h10, h3, h4], by simp [h12, h11, h10, h3, h4], by simp [h12, h11, h10, h3, h4], by simp [h12, h11, h10, h3, h4], by simp [h12, h11, h10, h3, h4], by simp [h12, h11, h10, h3, h4], by simp [h12, h11, h10, h3, h4], by simp⟩ ?_
    rintro n st ⟨k, q, c', rfl, hk, h18, h17, h16, h12, h11, h10, h3, h4, hc'⟩
    simp (decide := true) [h18, h17, h16, h12, h11, h10, h3, h4]
    refine br_dec (fun hlt2 => ?_) (fun hge => ?_)
    · have hr := u8_range (IntKind.u8.wrap c') (b[k]?.getD 0)
      have hk1 : IntKind.i64.wrap ((k : Int) + 1) = ((k + 1 : Nat) : Int) := by rw [i64_in _ (by omega)]; rfl
      refine ⟨hlt2, hr, by rw [table_len]; omega, b.length - (k + 1), by omega, k + 1, rfl, by omega, hk1, ?_⟩
      rw [← foldl_next hlt2 0, ← hc']
      simp only [step1, List.getD_eq_getElem?_getD]
      try rfl
    · have hi1 : IntKind.i64.wrap ((i : Int) + 1) = ((i + 1 : Nat) : Int) := by rw [i64_in _ (by omega)]; rfl
      have hkb : k = b.length := by omega
      refine ⟨l.length - (i + 1), by omega, i + 1, rfl, by omega, hi1, ?_⟩
      rw [← foldl_next hlt [], ← hc, hbe, hc', hkb, List.take_length]
  · have hi : i = l.length := by omega
    subst hi
    rw [hc, List.take_length]
    rfl
theorem sum_ok : ConOK Try.prog 36 sumC := con_ok tab_ok (consOK_cons made_ok consOK_nil) (by kernel_rfl) Try.func36 (by kernel_rfl) (sum_ex _ rfl)
end Go.Proofs.Ytlckajldmooefaa
