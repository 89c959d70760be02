import Derived.Test.YtfjbfopomepnoaaDir9
set_option maxRecDepth 100000
set_option maxHeartbeats 2000000
set_option linter.unusedSimpArgs false
set_option linter.unusedVariables false
set_option pp.deepTerms.threshold 16
namespace Go.Proofs.Ytfjbfopomepnoaa
open Go.Tm Go.IntWalk
def ΓdirAll : Cons := cons [(7, dbegunC), (8, dentriesC), (9, dputC), (10, rputDC), (11, dtakeC), (12, rtakeDC), (14, dfindDC), (15, rfindDC), (16, dwithDC), (17, rwithDC), (18, dlessDC), (19, rlessDC), (13, rsame6C)]
theorem ΓdirAll_ok : ConsOK Try.prog ΓdirAll := (consOK_cons dbegun_ok (consOK_cons dentries_ok (consOK_cons dput_ok (consOK_cons rputD_ok (consOK_cons dtake_ok (consOK_cons rtakeD_ok (consOK_cons dfindD_ok (consOK_cons rfindD_ok (consOK_cons dwithD_ok (consOK_cons rwithD_ok (consOK_cons dlessD_ok (consOK_cons rlessD_ok (consOK_cons rsame6_ok consOK_nil)))))))))))))
theorem dirAll_ex : LawEx tab ΓdirAll Try.f3 [.slice (.int .u8), .slice EntT, .str, .str, .int .u8, .int .u8] := by
  intro l h1 h2
  obtain ⟨l, l1, rfl, e1⟩ := types_cons h1
  obtain ⟨wild, l2, rfl, e2⟩ := types_cons e1
  obtain ⟨b, l3, rfl, e3⟩ := types_cons e2
  obtain ⟨name, l4, rfl, e4⟩ := types_cons e3
  obtain ⟨at0, l5, rfl, e5⟩ := types_cons e4
  obtain ⟨by0, l6, rfl, e6⟩ := types_cons e5
  obtain rfl := types_nil e6
  clear h1 e1 e2 e3 e4 e5 e6
  have g_dbegun : ΓdirAll 7 = some dbegunC := rfl
  have g_dentries : ΓdirAll 8 = some dentriesC := rfl
  have g_dput : ΓdirAll 9 = some dputC := rfl
  have g_rputD : ΓdirAll 10 = some rputDC := rfl
  have g_dtake : ΓdirAll 11 = some dtakeC := rfl
  have g_rtakeD : ΓdirAll 12 = some rtakeDC := rfl
  have g_dfindD : ΓdirAll 14 = some dfindDC := rfl
  have g_rfindD : ΓdirAll 15 = some rfindDC := rfl
  have g_dwithD : ΓdirAll 16 = some dwithDC := rfl
  have g_rwithD : ΓdirAll 17 = some rwithDC := rfl
  have g_dlessD : ΓdirAll 18 = some dlessDC := rfl
  have g_rlessD : ΓdirAll 19 = some rlessDC := rfl
  have g_rsame6 : ΓdirAll 13 = some rsame6C := rfl
  have b_l : isB l := okv_bytes (h2 ⟨_, l⟩ (by simp))
  obtain ⟨n_at0, rfl, h_at0⟩ := okv_u8 (h2 ⟨_, at0⟩ (by simp))
  obtain ⟨n_by0, rfl, h_by0⟩ := okv_u8 (h2 ⟨_, by0⟩ (by simp))
  clear h2
  simp only [Try.f3, Option.getD_some]
  simp (implicitDefEqProofs := false) (decide := true) (maxSteps := 4000000) [ini, g_dbegun, dbegunC_eq, g_dentries, dentriesC_eq, g_dput, dputC_eq, g_rputD, rputDC_eq, g_dtake, dtakeC_eq, g_rtakeD, rtakeDC_eq, g_dfindD, dfindDC_eq, g_rfindD, rfindDC_eq, g_dwithD, dwithDC_eq, g_rwithD, rwithDC_eq, g_dlessD, dlessDC_eq, g_rlessD, rlessDC_eq, g_rsame6, rsame6C_eq]
  intro _ hl0 _ hw0 hb0 hn0
  have hl1 : List.length l ≤ 15 := Int.ofNat_le.1 hl0
  have hw1 : List.length wild ≤ 8 := Int.ofNat_le.1 hw0
  have hb1 : ByteArray.size b ≤ 130 := Int.ofNat_le.1 hb0
  have hn1 : ByteArray.size name ≤ 12 := Int.ofNat_le.1 hn0
  clear hl0 hw0 hb0 hn0
  revert l wild b name
  intro (l : List Int) (wild : List Ent) (b : ByteArray) (name : ByteArray) b_l _ _ hl1 hw1 hb1 hn1
  refine ex_loopU (σ := Nat) [12, 13, 64, 65, 66, 67, 68, 69, 70, 71, 72, 73, 74, 75, 76] (fun a => [(13, .val (.int .i64) (a : Int))]) (fun a => a ≤ wild.length ∧ ∀ e ∈ wild.take a, e.1.size ≤ 12) (fun a => wild.length - a) 0 ⟨Nat.zero_le _, by simp⟩ (hc rfl hn) ?_
  rintro j i ⟨hi, hw⟩
  simp (implicitDefEqProofs := false) (decide := true) (maxSteps := 4000000) [ini, g_dbegun, dbegunC_eq, g_dentries, dentriesC_eq, g_dput, dputC_eq, g_rputD, rputDC_eq, g_dtake, dtakeC_eq, g_rtakeD, rtakeDC_eq, g_dfindD, dfindDC_eq, g_rfindD, rfindDC_eq, g_dwithD, dwithDC_eq, g_rwithD, rwithDC_eq, g_dlessD, dlessDC_eq, g_rlessD, rlessDC_eq, g_rsame6, rsame6C_eq]
  intro _
  refine br_dec (fun hlt => ⟨hlt, fun h12 => ⟨i + 1, ⟨hlt, fun n k u hm => ?_⟩, by omega, w_nat rfl (by omega)⟩⟩) fun hge => ⟨⟨b_l, by omega⟩, fun m => ?_⟩
  · rw [List.take_succ_eq_append_getElem hlt, List.mem_append, List.mem_singleton] at hm
    rcases hm with hm | hm
    · exact hw _ hm
    · rw [List.getElem?_eq_getElem hlt] at h12
      have h12 : ((wild[i]).1.size : Int) ≤ 12 := h12
      rw [← hm] at h12
      exact Int.ofNat_le.1 h12
  have hw : ∀ e ∈ wild, e.1.size ≤ 12 := by
    rw [show i = wild.length by omega, List.take_length] at hw
    exact hw
  obtain ⟨hri, hok⟩ := entsN_good b_l
  have hxl := entsN_len l
  obtain ⟨x, hx⟩ : ∃ x, entsN l = x := ⟨_, rfl⟩
  rw [hx] at hri hok hxl ⊢
  have hxs : ∀ e ∈ x, e.1.size ≤ 12 := fun e he => by have := okE_size (hok e he); omega
  refine ex_loopU (σ := Nat) [12, 16, 17, 18, 19, 20, 82, 83, 84, 85, 86, 87, 88, 89, 90, 91, 92, 93, 94, 95, 96, 97, 98, 99, 100, 101, 102, 103, 104, 105, 106, 107, 108, 109] (fun a => [(16, .val (.int .i64) (a : Int))]) (fun a => a ≤ 2) (fun a => 2 - a) 0 (Nat.zero_le _) (hc rfl hn) ?_
  rintro j1 i1 hi1
  simp (implicitDefEqProofs := false) (decide := true) (maxSteps := 4000000) [ini, g_dbegun, dbegunC_eq, g_dentries, dentriesC_eq, g_dput, dputC_eq, g_rputD, rputDC_eq, g_dtake, dtakeC_eq, g_rtakeD, rtakeDC_eq, g_dfindD, dfindDC_eq, g_rfindD, rfindDC_eq, g_dwithD, dwithDC_eq, g_rwithD, rwithDC_eq, g_dlessD, dlessDC_eq, g_rlessD, rlessDC_eq, g_rsame6, rsame6C_eq]
  have hsm : ∀ (n : ByteArray) (k : Int) (u : Unit), (n, k, u) ∈ x → n.size ≤ 4000000000 := fun n k u hm => by
    have := hxs _ hm
    simp only at this
    omega
  refine br_dec (fun hlt => ?_) fun _ => ⟨hsm, fun m1 => ?_⟩
  · have hlots : ∀ r ∈ [x, wild], r.length ≤ 1000000000000 ∧ ∀ e ∈ r, e.1.size ≤ 4000000000 := fun r hr => by
      simp only [List.mem_cons, List.not_mem_nil, or_false] at hr
      rcases hr with rfl | rfl
      · exact ⟨by omega, fun e he => by have := hxs e he; omega⟩
      · exact ⟨by omega, fun e he => by have := hw e he; omega⟩
    have hi2 : i1 < [x, wild].length := by show i1 < 2; omega
    have hg : [x, wild][i1]?.getD [] = [x, wild][i1] := by rw [List.getElem?_eq_getElem hi2]; rfl
    obtain ⟨h1, h2⟩ := hlots _ (List.getElem_mem hi2)
    rw [hg]
    exact ⟨hlt, by omega, ⟨h1, fun n k u hm => h2 _ hm⟩, hlt, by omega, fun n k u hm => h2 _ hm, i1 + 1, by omega, by omega, w_nat rfl (by omega)⟩
  have hps : (putD x).1.size ≤ 120 := by
    by_cases h : dirOK x
    · rw [putD_ok h, bl_size, bl_ofL]; exact h.2.2
    · rw [putD_no h]; decide
  generalize (putD x).1 = s at hps ⊢
  have hbl : (bytesOf s).length = s.size := bytesOf_len s
  refine ⟨by omega, fun _ => br_dec (fun hpos _ => ?_) fun _ m2 => ?_⟩
  rw [hbl] at hpos ⊢
  have w1 : IntKind.i64.wrap (n_at0 : Int) = (n_at0 : Int) := w_nat rfl (by omega)
  have w2 : Int.tmod (n_at0 : Int) (s.size : Int) = ((n_at0 % s.size : Nat) : Int) := rfl
  have hlt := Nat.mod_lt n_at0 (show 0 < s.size by omega)
  rw [w1, w2, Int.toNat_natCast]
  refine ⟨fun e => by rw [e] at hbl; simp at hbl; omega, ⟨by omega, by omega⟩, hlt, ⟨by omega, by omega⟩, hlt, fun m2 => ?_⟩
  have hTs : (strOf ((bytesOf s).set (n_at0 % s.size) (Tm.bits BinOp.xor IntKind.u8 ((bytesOf s)[n_at0 % s.size]?.getD 0) (n_by0 : Int)))).size ≤ 120 := by
    rw [size_strOf, List.length_set]; omega
  generalize strOf ((bytesOf s).set (n_at0 % s.size) (Tm.bits BinOp.xor IntKind.u8 ((bytesOf s)[n_at0 % s.size]?.getD 0) (n_by0 : Int))) = T at hTs ⊢
  rotate_left
  have hTs : (strOf (bytesOf s)).size ≤ 120 := by rw [size_strOf]; omega
  generalize strOf (bytesOf s) = T at hTs ⊢
  all_goals
    refine ex_loopU (σ := Nat) [12, 25, 26, 27, 28, 29, 136, 137, 138, 139, 140, 141, 142, 143, 144, 145, 146, 147, 148, 149, 150, 151, 152, 153, 154, 155, 156, 157, 158, 159, 160, 161, 162, 163, 164] (fun a => [(25, .val (.int .i64) (a : Int))]) (fun a => a ≤ 3) (fun a => 3 - a) 0 (Nat.zero_le _) (hc rfl hn) ?_
    rintro j2 i2 hi2
    simp (implicitDefEqProofs := false) (decide := true) (maxSteps := 4000000) [ini, g_dbegun, dbegunC_eq, g_dentries, dentriesC_eq, g_dput, dputC_eq, g_rputD, rputDC_eq, g_dtake, dtakeC_eq, g_rtakeD, rtakeDC_eq, g_dfindD, dfindDC_eq, g_rfindD, rfindDC_eq, g_dwithD, dwithDC_eq, g_rwithD, rwithDC_eq, g_dlessD, dlessDC_eq, g_rlessD, rlessDC_eq, g_rsame6, rsame6C_eq]
    have htx : ∀ r ∈ [b, s, T], ByteArray.size r ≤ 130 := fun r hr => by
      simp only [List.mem_cons, List.not_mem_nil, or_false] at hr
      rcases hr with rfl | rfl | rfl <;> omega
    refine br_dec (fun hlt => ?_) fun _ m3 => ?_
    · have hi3 : i2 < [b, s, T].length := by show i2 < 3; omega
      have hg : [b, s, T][i2]?.getD { data := #[] } = [b, s, T][i2] := by rw [List.getElem?_eq_getElem hi3]; rfl
      have h1 := htx _ (List.getElem_mem hi3)
      rw [hg]
      exact ⟨hlt, by omega, by omega, hlt, by omega, by omega, i2 + 1, by omega, by omega, w_nat rfl (by omega)⟩
    refine ex_loopU (σ := Nat) [12, 31, 32, 33, 34, 35, 36, 37, 38, 39, 40, 41, 42, 43, 172, 173, 174, 175, 176, 177, 178, 179, 180, 181, 182, 183, 184, 185, 186, 187, 188, 189, 190, 191, 192, 193, 194, 195, 196, 197, 198, 199, 200, 201, 202, 203, 204, 205, 206, 207, 208, 209, 210, 211, 212, 213, 214, 215, 216, 217, 218, 219, 220, 221, 222, 223, 224, 225, 226, 227, 228, 229, 230, 231, 232, 233, 234, 235, 236, 237, 238, 239, 240, 241, 242, 243, 244, 245, 246, 247, 248, 249, 250, 251, 252, 253, 254, 255, 256, 257, 258, 259, 260, 261] (fun a => [(31, .val (.int .i64) (a : Int))]) (fun a => a ≤ 2) (fun a => 2 - a) 0 (Nat.zero_le _) (hc rfl hn) ?_
    rintro j3 i3 hi3
    simp (implicitDefEqProofs := false) (decide := true) (maxSteps := 4000000) [ini, g_dbegun, dbegunC_eq, g_dentries, dentriesC_eq, g_dput, dputC_eq, g_rputD, rputDC_eq, g_dtake, dtakeC_eq, g_rtakeD, rtakeDC_eq, g_dfindD, dfindDC_eq, g_rfindD, rfindDC_eq, g_dwithD, dwithDC_eq, g_rwithD, rwithDC_eq, g_dlessD, dlessDC_eq, g_rlessD, rlessDC_eq, g_rsame6, rsame6C_eq]
    intro h
    exact ⟨h, by omega, ⟨hri, by omega⟩, h, by omega, h, by omega, ⟨hri, by omega⟩, h, by omega, by omega, h, by omega, ⟨hri, by omega⟩, h, by omega, by omega, i3 + 1, by omega, by omega, w_nat rfl (by omega)⟩
end Go.Proofs.Ytfjbfopomepnoaa
