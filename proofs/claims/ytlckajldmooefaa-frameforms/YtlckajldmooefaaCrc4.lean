import Derived.Test.YtlckajldmooefaaCrc2
set_option maxRecDepth 10000
set_option linter.unusedSimpArgs false
set_option pp.deepTerms.threshold 9
namespace Go.Proofs.Ytlckajldmooefaa
open Go.Tm Go.IntWalk

def rnd2 (c : Int) : Int := if c.tmod 2 = 1 then Tm.bits .xor .u32 (IntKind.u32.wrap (c.tdiv 2)) 2197175160 else IntKind.u32.wrap (c.tdiv 2)
def rnds2 : Nat → Int → Int
  | 0, c => c
  | n + 1, c => rnd2 (rnds2 n c)
def step2 (c x : Int) : Int := rnds2 8 (Tm.bits .xor .u32 c (IntKind.u32.wrap x))
def crcRef (l : List (List Int)) : Int := Tm.bits .xor .u32 4294967295 (l.foldl (fun c b => b.foldl step2 c) 4294967295)
def crcC : Con := fun
  | [.val ⟨.slice (.slice (.int .u8)), l⟩] => some ⟨.val ⟨.int .u32, crcRef l⟩, []⟩
  | _ => none

theorem crc_ex (Γ : Cons) (args : List Arg) (out : Out) (h : crcC args = some out) : args.length ≤ 46 ∧ Ex tab Γ (Try.f24.body.getD .skip) (EndsF tab Try.f24.results.toList args out) (ini args) := by
  unfold crcC at h
  split at h
  case h_2 => cases h
  rename_i l
  injection h with h
  subst h
  refine ⟨by simp, ?_⟩
  simp only [Try.f24, Option.getD_some]
  simp (implicitDefEqProofs := false) (decide := true) [ini]
  refine ex_loop (fun n st => ∃ (i : Nat) (c : Int), n = l.length - i ∧ i ≤ l.length ∧ st 4 = .val (.int .i64) (i : Int) ∧ st 0 = .val (.slice (.slice (.int .u8))) l ∧
    st 3 = .val (.int .u32) c ∧ c = (l.take i).foldl (fun c b => b.foldl step2 c) 4294967295) l.length ⟨0, _, rfl, by omega, by simp, by simp [ini], by simp; rfl, by simp⟩ ?_
  rintro n st ⟨i, c, rfl, hi, h4, h0, h3, hc⟩
  simp (decide := true) [h4, h0, h3]
  intro hl
  have hl63 : l.length ≤ 9223372036854775807 := hl
  refine br_dec (fun hlt => ?_) (fun hge => ?_)
  · generalize hbe : l.getD i [] = b
    have hbe' : l[i] = b := by rw [← hbe, List.getD_eq_getElem?_getD, List.getElem?_eq_getElem hlt]; rfl
    refine ex_loop (fun n st => ∃ (k : Nat) (c' : Int), n = b.length - k ∧ k ≤ b.length ∧ st 5 = .val (.int .i64) (k : Int) ∧ st 4 = .val (.int .i64) (i : Int) ∧ st 0 = .val (.slice (.slice (.int .u8))) l ∧
      st 3 = .val (.int .u32) c' ∧ c' = (b.take k).foldl step2 c) b.length ⟨0, c, rfl, by omega, by simp, by simp [h4], by simp [h0], by simp [h3], by simp⟩ ?_
    rintro n st ⟨k, c', rfl, hk, h5, h4, h0, h3, hc'⟩
    simp (decide := true) [h5, h4, h0, h3, hbe', hlt]
    intro hb
    have hb63 : b.length ≤ 9223372036854775807 := hb
    refine br_dec (fun hlt2 => ⟨hlt2, ?_⟩) (fun hge => ?_)
    · generalize hxe : b.getD k 0 = x
      have hxe' : b[k] = x := by rw [← hxe, List.getD_eq_getElem?_getD, List.getElem?_eq_getElem hlt2]; rfl
      refine ex_loop (fun n st => ∃ (q : Nat), n = 8 - q ∧ q ≤ 8 ∧ st 6 = .val (.int .i64) (q : Int) ∧ st 5 = .val (.int .i64) (k : Int) ∧ st 4 = .val (.int .i64) (i : Int) ∧ st 0 = .val (.slice (.slice (.int .u8))) l ∧
        st 3 = .val (.int .u32) (rnds2 q (Tm.bits .xor .u32 c' (IntKind.u32.wrap x)))) 8 ⟨0, rfl, by omega, by simp, by simp [h5], by simp [h4], by simp [h0], by simp [h3, hlt2, hxe']; rfl⟩ ?_
      rintro n st ⟨q, rfl, hq, h6, h5, h4, h0, h3⟩
      simp (decide := true) [h6, h5, h4, h0, h3]
      refine br_dec (fun hlt3 => ?_) (fun hge => ?_)
      · have hq1 : IntKind.i64.wrap ((q : Int) + 1) = ((q + 1 : Nat) : Int) := by rw [i64_in _ (by omega)]; rfl
        refine br_intro (fun hb => ⟨8 - (q + 1), by omega, q + 1, rfl, by omega, hq1, ?_⟩) (fun hb => ⟨8 - (q + 1), by omega, q + 1, rfl, by omega, hq1, ?_⟩)
        · have hb' : (rnds2 q (Tm.bits .xor .u32 c' (IntKind.u32.wrap x))).tmod 2 = 1 := by simpa using hb
          simp only [rnds2, rnd2, if_pos hb']
        · have hb' : ¬ (rnds2 q (Tm.bits .xor .u32 c' (IntKind.u32.wrap x))).tmod 2 = 1 := by simpa using hb
          simp only [rnds2, rnd2, if_neg hb']
      · have hk1 : IntKind.i64.wrap ((k : Int) + 1) = ((k + 1 : Nat) : Int) := by rw [i64_in _ (by omega)]; rfl
        have hq8 : q = 8 := by omega
        refine ⟨b.length - (k + 1), by omega, k + 1, rfl, by omega, hk1, ?_⟩
        rw [← foldl_next hlt2 0, ← hc', hxe, hq8]
        try rfl
    · have hi1 : IntKind.i64.wrap ((i : Int) + 1) = ((i + 1 : Nat) : Int) := by rw [i64_in _ (by omega)]; rfl
      have hkb : k = b.length := by omega
      refine ⟨l.length - (i + 1), by omega, i + 1, rfl, by omega, hi1, ?_⟩
      rw [← foldl_next hlt [], ← hc, hbe, hc', hkb, List.take_length]
  · have hi : i = l.length := by omega
    subst hi
    rw [hc, List.take_length]
    try rfl
theorem crc_ok : ConOK Try.prog 24 crcC := con_ok tab_ok (Γ := cons []) consOK_nil (by kernel_rfl) Try.func24 (by kernel_rfl) (crc_ex _)
end Go.Proofs.Ytlckajldmooefaa
