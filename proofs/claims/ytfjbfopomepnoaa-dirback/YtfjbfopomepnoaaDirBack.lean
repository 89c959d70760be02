import Derived.Test.YtfjbfopomepnoaaDir9
set_option maxRecDepth 100000
set_option maxHeartbeats 2000000
set_option linter.unusedSimpArgs false
set_option linter.unusedVariables false
set_option pp.deepTerms.threshold 16
namespace Go.Proofs.Ytfjbfopomepnoaa
open Go.Tm Go.IntWalk
theorem find_ins {e : Ent} : ∀ {l : List Ent}, (∀ x ∈ l, x.1 ≠ e.1) → findD (insD e l) e.1 = (e.2.1, true)
  | [], _ => by rw [insD, findD, List.find?_cons_of_pos (by exact eqB_refl _)]
  | x :: r, h => by
    unfold insD
    split
    · rw [findD, List.find?_cons_of_pos (by exact eqB_refl _)]
    · have ih := find_ins (l := r) fun y hy => h y (by simp [hy])
      rw [findD, List.find?_cons_of_neg (by rw [eqB_ne (h x (by simp))]; decide)]
      exact ih
theorem less_ins {e : Ent} : ∀ {l : List Ent}, (∀ x ∈ l, x.1 ≠ e.1) → (insD e l).filter (fun x => !eqB x.1 e.1) = l
  | [], _ => by rw [insD, List.filter_cons_of_neg (by rw [eqB_refl]; decide), List.filter_nil]
  | x :: r, h => by
    have hx : (!eqB x.1 e.1) = true := by rw [eqB_ne (h x (by simp))]; rfl
    have hall : (x :: r).filter (fun x => !eqB x.1 e.1) = x :: r := List.filter_eq_self.2 fun y hy => by rw [eqB_ne (h y hy)]; rfl
    unfold insD
    split
    · rw [List.filter_cons_of_neg (by rw [eqB_refl]; decide), hall]
    · rw [List.filter_cons_of_pos (by exact hx), less_ins (l := r) fun y hy => h y (by simp [hy])]
def ΓdirBack : Cons := cons [(7, dbegunC), (8, dentriesC), (9, dputC), (11, dtakeC), (14, dfindDC), (16, dwithDC), (18, dlessDC), (13, rsame6C)]
theorem ΓdirBack_ok : ConsOK Try.prog ΓdirBack := (consOK_cons dbegun_ok (consOK_cons dentries_ok (consOK_cons dput_ok (consOK_cons dtake_ok (consOK_cons dfindD_ok (consOK_cons dwithD_ok (consOK_cons dlessD_ok (consOK_cons rsame6_ok consOK_nil))))))))
theorem dirBack_ex : LawEx tab ΓdirBack Try.f4 [.slice (.int .u8), .int .u8] := by
  intro l h1 h2
  obtain ⟨l, l1, rfl, e1⟩ := types_cons h1
  obtain ⟨n, l2, rfl, e2⟩ := types_cons e1
  obtain rfl := types_nil e2
  clear h1 e1 e2
  have g_dbegun : ΓdirBack 7 = some dbegunC := rfl
  have g_dentries : ΓdirBack 8 = some dentriesC := rfl
  have g_dput : ΓdirBack 9 = some dputC := rfl
  have g_dtake : ΓdirBack 11 = some dtakeC := rfl
  have g_dfindD : ΓdirBack 14 = some dfindDC := rfl
  have g_dwithD : ΓdirBack 16 = some dwithDC := rfl
  have g_dlessD : ΓdirBack 18 = some dlessDC := rfl
  have g_rsame6 : ΓdirBack 13 = some rsame6C := rfl
  have b_l : isB l := okv_bytes (h2 ⟨_, l⟩ (by simp))
  obtain ⟨n_n, rfl, h_n⟩ := okv_u8 (h2 ⟨_, n⟩ (by simp))
  clear h2
  simp only [Try.f4, Option.getD_some]
  simp (implicitDefEqProofs := false) (decide := true) (maxSteps := 4000000) [ini, g_dbegun, dbegunC_eq, g_dentries, dentriesC_eq, g_dput, dputC_eq, g_dtake, dtakeC_eq, g_dfindD, dfindDC_eq, g_dwithD, dwithDC_eq, g_dlessD, dlessDC_eq, g_rsame6, rsame6C_eq]
  intro _ hl0
  have hl1 : List.length l ≤ 12 := Int.ofNat_le.1 hl0
  clear hl0
  revert l
  intro (l : List Int) b_l _ hl1
  have hok := entsN_dir b_l (by omega)
  have hxl := entsN_len l
  obtain ⟨x, hx⟩ : ∃ x, entsN l = x := ⟨_, rfl⟩
  rw [hx] at hok hxl ⊢
  have hsz : (ofL (dirL x)).size = (dirL x).length := by rw [bl_size, bl_ofL]
  have h120 := hok.2.2
  rw [putD_ok hok, takeD_put hok]
  refine ⟨⟨b_l, by omega⟩, ⟨by omega, fun n k u hm => by have := okE_size (hok.1 _ hm); simp only at this; omega⟩, by rw [hsz]; omega, rfl, rfl, rfl, fun m => ?_⟩
  have hri := hok.2.1
  generalize IntKind.i64.wrap (1 + IntKind.i64.wrap (Int.tmod (n_n : Int) 9)) = k
  generalize strOf [IntKind.u8.wrap (97 + Int.tmod (n_n : Int) 16), 98] = nm
  refine ⟨⟨hri, by omega⟩, ⟨hri, by omega⟩, ?_, br_intro (fun h => ?_) fun h => ?_⟩
  · unfold withD
    cases h : (findD x nm).2 <;> simp
  · rw [withD, if_pos (by exact h)]
  have hne := findD_false h
  have hw : withD x (nm, k, ()) = (insD (nm, k, ()) x, true) := by rw [withD, if_neg (by rw [show (findD x ((nm, k, ()) : Ent).1).2 = false from h]; decide)]
  have hz : Rises (insD (nm, k, ()) x) := insD_rises hri hne
  have hf := find_ins (e := (nm, k, ())) hne
  have hl : lessD (insD (nm, k, ()) x) nm = (x, true) := by
    rw [lessD, if_pos (by rw [show findD (insD (nm, k, ()) x) nm = (k, true) from hf])]
    rw [show (insD (nm, k, ()) x).filter (fun e => !eqB e.1 nm) = x from less_ins (e := (nm, k, ())) hne]
  have hzl := insD_len (nm, k, ()) x
  rw [hw]
  simp only [hl]
  generalize hzz : insD (nm, k, ()) x = z at *
  refine ⟨⟨hz, by omega⟩, ⟨hri, by omega⟩, ?_⟩
  refine ex_loopU (σ := Nat) [4, 21, 102, 103, 104, 105, 106, 107, 108, 109, 110, 111, 112, 113, 114, 115, 116, 117, 118, 119] (fun a => [(21, .val (.int .i64) (a : Int))]) (fun a => 1 ≤ a ∧ a ≤ z.length) (fun a => z.length - a) 1 ⟨Nat.le_refl _, by omega⟩ (hc rfl hn) ?_
  rintro j i ⟨hi1, hi2⟩
  simp (implicitDefEqProofs := false) (decide := true) (maxSteps := 4000000) [ini, g_dbegun, dbegunC_eq, g_dentries, dentriesC_eq, g_dput, dputC_eq, g_dtake, dtakeC_eq, g_dfindD, dfindDC_eq, g_dwithD, dwithDC_eq, g_dlessD, dlessDC_eq, g_rsame6, rsame6C_eq]
  intro _
  refine br_dec (fun hlt => ?_) fun hge => ?_
  · obtain ⟨p, rfl⟩ : ∃ p, i = p + 1 := ⟨i - 1, by omega⟩
    have w1 : IntKind.i64.wrap (((p + 1 : Nat) : Int) - 1) = (p : Int) := w_nat (by omega) (by omega)
    rw [w1, Int.toNat_natCast]
    have g1 : z[p]?.getD (({ data := #[] }, 0, ()) : Ent) = z[p] := by rw [List.getElem?_eq_getElem (by omega)]; rfl
    have g2 : z[p + 1]?.getD (({ data := #[] }, 0, ()) : Ent) = z[p + 1] := by rw [List.getElem?_eq_getElem hlt]; rfl
    rw [g1, g2]
    refine ⟨⟨by omega, by omega⟩, hlt, ?_, p + 2, ⟨by omega, hlt⟩, by omega, w_nat rfl (by omega)⟩
    have := one_rises hz p hlt
    rw [toList_bl, toList_bl]
    exact this
  · rw [show findD z nm = (k, true) from hf]
    exact ⟨rfl, rfl, h⟩
end Go.Proofs.Ytfjbfopomepnoaa
