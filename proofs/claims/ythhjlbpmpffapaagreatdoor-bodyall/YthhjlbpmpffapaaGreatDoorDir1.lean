/- dir: folders' bytes, by the program. -/
import Derived.Test.YthhjlbpmpffapaaGreatDoorPDir
import Derived.Test.YthhjlbpmpffapaaGreatDoorNameOwn
import Derived.Test.YthhjlbpmpffapaaGreatDoorPBase
set_option maxRecDepth 10000
set_option maxHeartbeats 1000000
set_option linter.unusedSimpArgs false
set_option linter.unusedVariables false
set_option pp.deepTerms.threshold 12
namespace Go.Proofs.YthhjlbpmpffapaaGreatDoor
open Go.Tm Go.IntWalk

def li (x : List UInt8) : List Int := x.map fun c => (c.toNat : Int)
theorem li_len (x : List UInt8) : (li x).length = x.length := by simp [li]
theorem li_append (x y : List UInt8) : li (x ++ y) = li x ++ li y := by simp [li]
theorem strOf_li (x : List UInt8) : strOf (li x) = ofL x := by
  apply bl_inj
  rw [bl_strOf, bl_ofL, li, List.map_map]
  conv => rhs; rw [← List.map_id x]
  exact List.map_congr_left fun c _ => by simp
theorem bytesOf_li (s : ByteArray) : bytesOf s = li (bl s) := rfl
theorem dirL_len8 : ∀ {l : List Ent}, (∀ e ∈ l, okE e = true) → (dirL l).length ≤ 8 * l.length
  | [], _ => by simp [dirL]
  | e :: l, h => by
    rw [dirL_cons, List.length_append, entL_len, List.length_cons]
    have h1 := (ownS_size (okE_out (h e (by simp))).1).2
    have h2 := dirL_len8 (l := l) fun x hx => h x (by simp [hx])
    omega
theorem text_ent (row : List Int) {e : Ent} (h : okE e = true) : textS row e.1 = row ++ (e.1.size : Int) :: bytesOf e.1 := by
  have h1 := (ownS_size (okE_out h).1).2
  rw [textS, if_neg (by omega), wrap_u8_nat, Nat.mod_eq_of_lt (by omega)]
theorem put_ent (row : List Int) {e : Ent} (h : okE e = true) : putS (textS row e.1) 1 [e.2.1] = row ++ li (entL e) := by
  obtain ⟨o1, o2, o3⟩ := okE_out h
  have h1 := (ownS_size o1).2
  obtain ⟨n, hn⟩ : ∃ n : Nat, (e.2.1 : Int) = n := ⟨e.2.1.toNat, by omega⟩
  have hb : bytesN (1 : Int).toNat e.2.1 = [e.2.1] := by
    rw [hn]
    simp [bytesN, byteN, wrap_u8_nat]
    omega
  have hn2 : (n : Int) ≤ 9 := by omega
  rw [putS, if_neg (by omega), text_ent row h, List.flatMap_cons, List.flatMap_nil, hb, bytesOf_li, entL, hn]
  simp [li]
  omega
/-- The contract of dir.Put. -/
def dputC : Con := conN [(.v, .slice (.prod .str (.prod (.int .i64) .unit)))] fun (l, _) => if l.length ≤ 1000000000000 ∧ ∀ e ∈ l, e.1.size ≤ 4000000000 then some ⟨.tup [⟨.str, (putD l).1⟩, ⟨.bool, (putD l).2⟩], []⟩ else none
theorem dputC_eq {l : List (Ty.den (.prod .str (.prod (.int .i64) .unit)))} : dputC [.val ⟨.slice (.prod .str (.prod (.int .i64) .unit)), l⟩] = if l.length ≤ 1000000000000 ∧ ∀ e ∈ l, e.1.size ≤ 4000000000 then some ⟨.tup [⟨.str, (putD l).1⟩, ⟨.bool, (putD l).2⟩], []⟩ else none := conN_mk (ks := [(.v, .slice (.prod .str (.prod (.int .i64) .unit)))]) (l, ())
def Γdput : Cons := cons [(74, downC), (76, textC), (75, putC)]
theorem dput_ex (l : List (Ty.den (.prod .str (.prod (.int .i64) .unit)))) (hr : l.length ≤ 1000000000000 ∧ ∀ e ∈ l, e.1.size ≤ 4000000000) : Ex tab Γdput (Tryz.f56.body.getD .skip) (EndsF tab Tryz.f56.results.toList [.val ⟨.slice (.prod .str (.prod (.int .i64) .unit)), l⟩] ⟨.tup [⟨.str, (putD l).1⟩, ⟨.bool, (putD l).2⟩], []⟩) (ini [.val ⟨.slice (.prod .str (.prod (.int .i64) .unit)), l⟩]) := by
  have g_down : Γdput 74 = some downC := rfl
  have g_text : Γdput 76 = some textC := rfl
  have g_put : Γdput 75 = some putC := rfl
  simp only [Tryz.f56, Option.getD_some]
  simp (implicitDefEqProofs := false) (decide := true) (maxSteps := 4000000) [ini, g_down, downC_eq, g_text, textC_eq, g_put, putC_eq]
  intro hl
  refine ex_loopN 4 (.int .u8) rfl (σ := Nat × Nat × List Int) [2, 3, 4, 5, 6, 9, 10, 11, 12, 13, 14, 15, 16, 17, 18, 19, 20, 21, 22, 23, 24, 25, 26, 27, 28, 29, 30, 31, 32, 33, 34, 35, 36, 37, 38, 39, 40, 41, 42, 43, 44, 45, 46, 47, 48, 49, 50, 51] (fun a => [(9, .val (.int .i64) (a.1 : Int)), (4, .own a.2.1 (.int .u8) a.2.2)])
    (fun a => a.1 ≤ l.length ∧ (∀ e ∈ l.take a.1, okE e = true) ∧ (∀ k, k + 1 < a.1 → ltB (l.getD k dfltE).1 (l.getD (k + 1) dfltE).1 = true) ∧ a.2.2 = li (dirL (l.take a.1))) (fun a => l.length - a.1) (fun m => ⟨(0, m, []), ⟨Nat.zero_le _, by simp, fun k hk => absurd hk (by omega), rfl⟩, hc rfl (hc rfl hn)⟩) ?_
  rintro m j ⟨i, q, row⟩ ⟨hi, hok, hri, hs⟩
  simp only at hi hok hri hs
  simp (implicitDefEqProofs := false) (decide := true) (maxSteps := 4000000) [ini, g_down, downC_eq, g_text, textC_eq, g_put, putC_eq]
  obtain ⟨hlm, hsz⟩ := hr
  refine br_dec (fun hlt => ?_) fun hge => ?_
  · obtain ⟨e, he⟩ : ∃ e : Ent, l[i] = e := ⟨_, rfl⟩
    have hg : l[i]?.getD dfltE = e := by rw [List.getElem?_eq_getElem hlt, he]; rfl
    have hmem : e ∈ l := by rw [← he]; exact List.getElem_mem hlt
    have htk : l.take (i + 1) = l.take i ++ [e] := by rw [List.take_succ_eq_append_getElem hlt, he]
    rw [show l[i]?.getD (({ data := #[] }, 0, ()) : Ent) = e from hg]
    have hbad : okE e = false → putD l = (no, false) := fun h => putD_no fun hd => by rw [hd.1 e hmem] at h; cases h
    have hes : e.1.size ≤ 4000000000 := hsz e hmem
    refine ⟨hlt, by omega, br_intro (fun h => ?_) fun h1 => br_dec (fun h4 => ?_) fun h4 => ?_⟩
    · rw [hbad (by rw [okE, show ownS e.1 = false from not_t h]; rfl)]; exact ⟨rfl, rfl⟩
    · obtain ⟨p, rfl⟩ : ∃ p, i = p + 1 := ⟨i - 1, by omega⟩
      have w1 : IntKind.i64.wrap (((p + 1 : Nat) : Int) - 1) = (p : Int) := w_nat (by omega) (by omega)
      rw [w1, Int.toNat_natCast]
      have hgp : l[p]?.getD (({ data := #[] }, 0, ()) : Ent) = l[p] := by rw [List.getElem?_eq_getElem (by omega)]; rfl
      rw [hgp]
      refine ⟨⟨by omega, by omega⟩, br_intro (fun h => ?_) fun h5 => ?_⟩
      · rw [geq_eq] at h
        rw [putD_no fun hd => ?_]; exact ⟨rfl, rfl⟩
        have := one_rises hd.2.1 p hlt
        rw [he] at this
        rw [this] at h; cases h
      rw [geq_eq] at h5
      have hri2 : ∀ k, k + 1 < p + 1 + 1 → ltB (l.getD k dfltE).1 (l.getD (k + 1) dfltE).1 = true := fun k hk => by
        rcases Nat.lt_or_ge (k + 1) (p + 1) with hk2 | hk2
        · exact hri k hk2
        · obtain rfl : k = p := by omega
          rw [List.getD_eq_getElem?_getD, List.getD_eq_getElem?_getD, hg, show l[k]?.getD dfltE = l[k] from hgp]
          simpa using h5
      refine br_dec (fun h => ?_) fun h2 => br_dec (fun h => ?_) fun h3 m' => ?_
      · rw [hbad (by rw [okE]; simp; omega)]; exact ⟨rfl, rfl⟩
      · rw [hbad (by rw [okE]; simp; omega)]; exact ⟨rfl, rfl⟩
      have ho : okE e = true := by rw [okE, show ownS e.1 = true from not_f h1]; simp; omega
      obtain ⟨o1, o2, o3⟩ := okE_out ho
      obtain ⟨o4, o5⟩ := ownS_size o1
      have hx := put_ent row ho
      have hrl : row.length ≤ 8 * (p + 1) := by
        rw [hs, li_len]
        have := dirL_len8 hok
        rw [List.length_take] at this
        omega
      have htl : (textS row e.1).length = row.length + 1 + e.1.size := by rw [text_ent row ho, List.length_append, List.length_cons, bytesOf_len]; omega
      refine ⟨by omega, by omega, p + 1 + 1, _, _, ⟨hlt, ?_, fun k hk => ?_, ?_⟩, by omega, w_nat rfl (by omega), rfl, rfl⟩
      · intro a b u hm
        rw [htk, List.mem_append, List.mem_singleton] at hm
        rcases hm with hm | hm
        · exact hok _ hm
        · rw [hm]; exact ho
      · have := hri2 k hk
        rw [List.getD_eq_getElem?_getD, List.getD_eq_getElem?_getD] at this
        exact this
      · rw [hx, hs, htk, dirL_append, li_append]
        simp [dirL]
    · have hri2 : ∀ k, k + 1 < i + 1 → ltB (l.getD k dfltE).1 (l.getD (k + 1) dfltE).1 = true := fun k hk => by omega
      refine br_dec (fun h => ?_) fun h2 => br_dec (fun h => ?_) fun h3 m' => ?_
      · rw [hbad (by rw [okE]; simp; omega)]; exact ⟨rfl, rfl⟩
      · rw [hbad (by rw [okE]; simp; omega)]; exact ⟨rfl, rfl⟩
      have ho : okE e = true := by rw [okE, show ownS e.1 = true from not_f h1]; simp; omega
      obtain ⟨o1, o2, o3⟩ := okE_out ho
      obtain ⟨o4, o5⟩ := ownS_size o1
      have hx := put_ent row ho
      have hrl : row.length ≤ 8 * i := by
        rw [hs, li_len]
        have := dirL_len8 hok
        rw [List.length_take] at this
        omega
      have htl : (textS row e.1).length = row.length + 1 + e.1.size := by rw [text_ent row ho, List.length_append, List.length_cons, bytesOf_len]; omega
      refine ⟨by omega, by omega, i + 1, _, _, ⟨hlt, ?_, fun k hk => ?_, ?_⟩, by omega, w_nat rfl (by omega), rfl, rfl⟩
      · intro a b u hm
        rw [htk, List.mem_append, List.mem_singleton] at hm
        rcases hm with hm | hm
        · exact hok _ hm
        · rw [hm]; exact ho
      · have := hri2 k hk
        rw [List.getD_eq_getElem?_getD, List.getD_eq_getElem?_getD] at this
        exact this
      · rw [hx, hs, htk, dirL_append, li_append]
        simp [dirL]
  · have hi2 : i = l.length := by omega
    rw [hi2, List.take_length] at hs hok
    have hrise : Rises l := rises_one fun k hk => by
      have := hri k (by omega)
      rw [List.getD_eq_getElem?_getD, List.getD_eq_getElem?_getD, List.getElem?_eq_getElem (by omega), List.getElem?_eq_getElem hk] at this
      exact this
    intro _
    have hrl : row.length = (dirL l).length := by rw [hs, li_len]
    refine br_dec (fun h => ?_) fun h => ?_
    · rw [putD_no fun hd => by have := hd.2.2; omega]; exact ⟨rfl, rfl⟩
    · rw [putD_ok ⟨hok, hrise, by omega⟩, hs, strOf_li]; exact ⟨rfl, rfl⟩
theorem dput_ok : ConOK Tryz.prog 56 dputC := by
  refine con_ok tab_ok (Γ := Γdput) (consOK_cons down_ok (consOK_cons text_ok (consOK_cons put_ok consOK_nil))) (by kernel_rfl) Tryz.func56 (by kernel_rfl) ?_
  intro args out h
  obtain ⟨x, e, h1⟩ := conN_inv h
  clear h
  obtain ⟨l, x0⟩ := x
  subst e
  replace h1 : (if l.length ≤ 1000000000000 ∧ ∀ e ∈ l, e.1.size ≤ 4000000000 then some ⟨.tup [⟨.str, (putD l).1⟩, ⟨.bool, (putD l).2⟩], []⟩ else none) = some out := h1
  split at h1
  case isFalse => cases h1
  rename_i hr
  injection h1 with h1
  subst h1
  exact ⟨by rw [mkArgs_len]; decide, dput_ex l hr⟩
end Go.Proofs.YthhjlbpmpffapaaGreatDoor
