import Derived.Test.YtfjbfopomepnoaaDir9
set_option maxRecDepth 100000
set_option maxHeartbeats 2000000
set_option linter.unusedSimpArgs false
set_option linter.unusedVariables false
set_option pp.deepTerms.threshold 16
namespace Go.Proofs.Ytfjbfopomepnoaa
open Go.Tm Go.IntWalk
def ΓdirLong : Cons := cons [(7, dbegunC), (8, dentriesC), (9, dputC)]
theorem ΓdirLong_ok : ConsOK Try.prog ΓdirLong := (consOK_cons dbegun_ok (consOK_cons dentries_ok (consOK_cons dput_ok consOK_nil)))
theorem dirLong_ex : LawEx tab ΓdirLong Try.f6 [.slice (.int .u8)] := by
  intro l h1 h2
  obtain ⟨l, l1, rfl, e1⟩ := types_cons h1
  obtain rfl := types_nil e1
  clear h1 e1
  have g_dbegun : ΓdirLong 7 = some dbegunC := rfl
  have g_dentries : ΓdirLong 8 = some dentriesC := rfl
  have g_dput : ΓdirLong 9 = some dputC := rfl
  have b_l : isB l := okv_bytes (h2 ⟨_, l⟩ (by simp))
  clear h2
  simp only [Try.f6, Option.getD_some]
  simp (implicitDefEqProofs := false) (decide := true) (maxSteps := 4000000) [ini, g_dbegun, dbegunC_eq, g_dentries, dentriesC_eq, g_dput, dputC_eq]
  intro _ hl0
  have hl1 : List.length l ≤ 20 := Int.ofNat_le.1 hl0
  clear hl0
  revert l
  intro (l : List Int) b_l _ hl1
  have hok := entsN_dir b_l (by omega)
  have hxl := entsN_len l
  obtain ⟨x, hx⟩ : ∃ x, entsN l = x := ⟨_, rfl⟩
  rw [hx] at hok hxl ⊢
  refine ⟨⟨b_l, by omega⟩, ?_⟩
  refine ex_loopU (σ := Nat) [4, 5, 15, 16, 17, 18, 19, 20, 21, 22, 23, 24, 25, 26, 27, 28, 29] (fun a => [(5, .val (.int .i64) (a : Int)), (4, .val (.int .i64) ((dirL (x.take a)).length : Int))]) (fun a => a ≤ x.length) (fun a => x.length - a) 0 (Nat.zero_le _) (hc rfl (hc rfl hn)) ?_
  rintro j i hi
  simp (implicitDefEqProofs := false) (decide := true) (maxSteps := 4000000) [ini, g_dbegun, dbegunC_eq, g_dentries, dentriesC_eq, g_dput, dputC_eq]
  intro _
  refine br_dec (fun hlt => ?_) fun hge => ?_
  · have hg : x[i]?.getD (({ data := #[] }, 0, ()) : Ent) = x[i] := by rw [List.getElem?_eq_getElem hlt]; rfl
    have hmem := List.getElem_mem hlt
    have h2 := okE_size (hok.1 _ hmem)
    have h3 : dirL (x.take (i + 1)) = dirL (x.take i) ++ entL x[i] := by rw [List.take_succ_eq_append_getElem hlt, dirL_append]; simp [dirL]
    have h4 : (dirL (x.take (i + 1))).length = (dirL (x.take i)).length + (x[i]).1.size + 2 := by rw [h3, List.length_append, entL_len]; omega
    have h5 : (dirL (x.take i)).length ≤ 8 * (x.take i).length := dirL_len8 fun e he => hok.1 e (List.mem_of_mem_take he)
    rw [List.length_take] at h5
    rw [hg]
    refine ⟨hlt, i + 1, hlt, by omega, w_nat rfl (by omega), ?_⟩
    rw [h4]
    have w1 : IntKind.i64.wrap (((dirL (x.take i)).length : Int) + ((x[i]).1.size : Int)) = (((dirL (x.take i)).length + (x[i]).1.size : Nat) : Int) := w_nat (by omega) (by omega)
    rw [w1]
    exact w_nat (by omega) (by omega)
  · have e : i = x.length := by omega
    rw [e, List.take_length, putD_ok hok]
    have h120 := hok.2.2
    have hsz : (ofL (dirL x)).size = (dirL x).length := by rw [bl_size, bl_ofL]
    refine ⟨⟨by omega, fun n k u hm => by have := okE_size (hok.1 _ hm); simp only at this; omega⟩, ?_, br_intro (fun h => by cases h) fun _ => ⟨rfl, by rw [hsz]⟩⟩
    have : ((dirL x).length : Int) ≤ 120 := by omega
    exact (decide_eq_true this).symm
end Go.Proofs.Ytfjbfopomepnoaa
