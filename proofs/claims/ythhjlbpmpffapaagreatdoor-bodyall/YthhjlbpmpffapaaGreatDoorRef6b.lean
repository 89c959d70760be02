/- The reference's names in a folder, walked. -/
import Derived.Test.YthhjlbpmpffapaaGreatDoorPDir
set_option maxRecDepth 100000
set_option maxHeartbeats 1000000
set_option linter.unusedSimpArgs false
set_option linter.unusedVariables false
set_option pp.deepTerms.threshold 60
namespace Go.Proofs.YthhjlbpmpffapaaGreatDoor
open Go.Tm Go.IntWalk

theorem rise_take {l : List Ent} (h : Rise1 l) (k : Nat) : Rise1 (l.take k) := fun i hi => by
  have hi' : i + 1 < l.length := by rw [List.length_take] at hi; omega
  have := h i hi'
  simpa using this
/-- The contract of glacisref6.PutDir. -/
def rputDC : Con := conN [(.v, .slice EntT)] fun (l, _) => if ∀ e ∈ l, e.1.size ≤ 4000000000 then some ⟨.tup [⟨.str, (putD l).1⟩, ⟨.bool, (putD l).2⟩], []⟩ else none
theorem rputDC_eq {l : List (Ty.den (EntT))} : rputDC [.val ⟨.slice EntT, l⟩] = if ∀ e ∈ l, e.1.size ≤ 4000000000 then some ⟨.tup [⟨.str, (putD l).1⟩, ⟨.bool, (putD l).2⟩], []⟩ else none := conN_mk (ks := [(.v, .slice EntT)]) (l, ())
def ΓrputD : Cons := cons [(58, rownC)]
theorem rputD_ex (l : List (Ty.den (EntT))) (hr : ∀ e ∈ l, e.1.size ≤ 4000000000) : Ex tab ΓrputD (Tryz.f61.body.getD .skip) (EndsF tab Tryz.f61.results.toList [.val ⟨.slice EntT, l⟩] ⟨.tup [⟨.str, (putD l).1⟩, ⟨.bool, (putD l).2⟩], []⟩) (ini [.val ⟨.slice EntT, l⟩]) := by
  have g_rown : ΓrputD 58 = some rownC := rfl
  simp only [Tryz.f61, Option.getD_some]
  simp (implicitDefEqProofs := false) (decide := true) (maxSteps := 4000000) [ini, g_rown, rownC_eq]
  refine ex_loopU (σ := Nat × ByteArray) [2, 3, 4, 5, 6, 7, 8, 9, 10, 11, 12, 13, 14, 15, 16, 17, 18, 19, 20, 21, 22, 23, 24, 25, 26, 27, 28, 29, 30, 31, 32, 33, 34, 35, 36, 37, 38, 39, 40, 41, 42, 43, 44, 45, 46, 47, 48, 49, 50, 51, 52, 53, 54, 55, 56, 57, 58, 59, 60, 61, 62, 63, 64, 65, 66, 67] (fun a => [(5, .val (.int .i64) (a.1 : Int)), (4, .val .str a.2)])
    (fun a => a.1 ≤ l.length ∧ (∀ e ∈ l.take a.1, okE e = true) ∧ (∀ k, k + 1 < a.1 → ltB (l.getD k dfltE).1 (l.getD (k + 1) dfltE).1 = true) ∧ a.2.size ≤ 130 ∧ bl a.2 = dirL (l.take a.1)) (fun a => l.length - a.1) (0, no) ⟨Nat.zero_le _, by simp, fun k h => by omega, by decide, rfl⟩ (hc rfl (hc rfl hn)) ?_
  rintro j ⟨i, s⟩ ⟨hi, hok, hri, hsz, hs⟩
  simp only at hi hok hri hsz hs
  simp (implicitDefEqProofs := false) (decide := true) (maxSteps := 4000000) [ini, g_rown, rownC_eq]
  intro hml
  have hml : l.length ≤ 9223372036854775807 := hml
  refine br_dec (fun hlt => ?_) fun hge => ?_
  · obtain ⟨e, he⟩ : ∃ e : Ent, l[i] = e := ⟨_, rfl⟩
    have hg : l[i]?.getD dfltE = e := by rw [List.getElem?_eq_getElem hlt, he]; rfl
    have hmem : e ∈ l := by rw [← he]; exact List.getElem_mem hlt
    have htk : l.take (i + 1) = l.take i ++ [e] := by rw [List.take_succ_eq_append_getElem hlt, he]
    have hes := hr e hmem
    rw [show l[i]?.getD (({ data := #[] }, 0, ()) : Ent) = e from hg]
    have hbad : okE e = false → putD l = (no, false) := fun h => putD_no fun hd => by rw [hd.1 e hmem] at h; cases h
    have hlong : 120 < s.size → putD l = (no, false) := fun h => putD_no fun hd => by
      have h1 := hd.2.2
      have h2 : dirL l = dirL (l.take i) ++ dirL (l.drop i) := by rw [← dirL_append, List.take_append_drop]
      rw [h2, ← hs, List.length_append, ← bl_size] at h1
      omega
    have fin : okE e = true → (∀ k, k + 1 < i + 1 → ltB (l.getD k dfltE).1 (l.getD (k + 1) dfltE).1 = true) → br (decide (120 < (s.size : Int))) (no = (putD l).1 ∧ (putD l).2 = false)
        ((s.size : Int) + ((strOf [IntKind.u8.wrap (e.1.size : Int)]).size : Int) ≤ 9223372036854775807 ∧ (s.size : Int) + ((strOf [IntKind.u8.wrap (e.1.size : Int)]).size : Int) + (e.1.size : Int) ≤ 9223372036854775807 ∧
          (s.size : Int) + ((strOf [IntKind.u8.wrap (e.1.size : Int)]).size : Int) + (e.1.size : Int) + ((strOf [IntKind.u8.wrap e.2.1]).size : Int) ≤ 9223372036854775807 ∧
          ∃ a b, (a ≤ l.length ∧ (∀ (a_1 : Ty.str.den) (a_2 : (Ty.int IntKind.i64).den) (b : Ty.unit.den), (a_1, a_2, b) ∈ List.take a l → okE (a_1, a_2, b) = true) ∧ (∀ (k : Nat), k + 1 < a → ltB (l[k]?.getD dfltE).1 (l[k + 1]?.getD dfltE).1 = true) ∧ b.size ≤ 130 ∧ bl b = dirL (List.take a l)) ∧
            l.length - a < l.length - i ∧ IntKind.i64.wrap ((i : Int) + 1) = (a : Int) ∧ s ++ strOf [IntKind.u8.wrap (e.1.size : Int)] ++ e.1 ++ strOf [IntKind.u8.wrap e.2.1] = b) := by
      intro ho hri2
      obtain ⟨o1, o2, o3⟩ := okE_out ho
      obtain ⟨o4, o5⟩ := ownS_size o1
      have s1 : ∀ z : Int, (strOf [z]).size = 1 := fun z => by rw [size_strOf]; rfl
      have hx : bl (s ++ strOf [IntKind.u8.wrap (e.1.size : Int)] ++ e.1 ++ strOf [IntKind.u8.wrap e.2.1]) = dirL (l.take (i + 1)) := by
        rw [bl_append, bl_append, bl_append, hs, htk, dirL_append, bl_strOf, bl_strOf, wrap_u8_nat]
        obtain ⟨n, hn⟩ : ∃ n : Nat, (e.2.1 : Int) = n := ⟨e.2.1.toNat, by omega⟩
        have hw : IntKind.u8.wrap e.2.1 = e.2.1 := by rw [hn, wrap_u8_nat]; omega
        rw [hw, Nat.mod_eq_of_lt (by omega)]
        simp [dirL, entL]
      refine br_dec (fun h => ?_) fun h => ?_
      · rw [hlong (by omega)]; exact ⟨rfl, rfl⟩
      · rw [s1, s1]
        refine ⟨by omega, by omega, by omega, i + 1, _, ⟨hlt, ?_, fun k hk => ?_, ?_, hx⟩, by omega, w_nat rfl (by omega), rfl⟩
        · intro a b u hm
          rw [htk, List.mem_append, List.mem_singleton] at hm
          rcases hm with hm | hm
          · exact hok _ hm
          · rw [hm]; exact ho
        · have := hri2 k hk
          rw [List.getD_eq_getElem?_getD, List.getD_eq_getElem?_getD] at this
          exact this
        · rw [ByteArray.size_append, ByteArray.size_append, ByteArray.size_append, s1, s1]; omega
    refine ⟨hlt, by omega, br_intro (fun h => ?_) fun h1 => br_dec (fun h => ?_) fun h2 => br_dec (fun h => ?_) fun h3 => ?_⟩
    · rw [hbad (by rw [okE, show ownS e.1 = false by simpa using h]; rfl)]; exact ⟨rfl, rfl⟩
    · rw [hbad (by rw [okE]; simp; omega)]; exact ⟨rfl, rfl⟩
    · rw [hbad (by rw [okE]; simp; omega)]; exact ⟨rfl, rfl⟩
    have ho : okE e = true := by rw [okE, show ownS e.1 = true by simpa using h1]; simp; omega
    refine br_dec (fun h4 => ?_) fun h4 => fin ho fun k hk => by omega
    obtain ⟨p, rfl⟩ : ∃ p, i = p + 1 := ⟨i - 1, by omega⟩
    have w1 : IntKind.i64.wrap (((p + 1 : Nat) : Int) - 1) = (p : Int) := w_nat (by omega) (by omega)
    rw [w1, Int.toNat_natCast]
    have hgp : l[p]?.getD (({ data := #[] }, 0, ()) : Ent) = l[p] := by rw [List.getElem?_eq_getElem (by omega)]; rfl
    rw [hgp]
    refine ⟨⟨by omega, by omega⟩, br_intro (fun h => ?_) fun h5 => fin ho fun k hk => ?_⟩
    · rw [geq_eq] at h
      rw [putD_no fun hd => ?_]; exact ⟨rfl, rfl⟩
      have := one_rises hd.2.1 p hlt
      rw [he] at this
      rw [this] at h; cases h
    · rw [geq_eq] at h5
      rcases Nat.lt_or_ge (k + 1) (p + 1) with hk2 | hk2
      · exact hri k hk2
      · obtain rfl : k = p := by omega
        rw [List.getD_eq_getElem?_getD, List.getD_eq_getElem?_getD, hg, show l[k]?.getD dfltE = l[k] from hgp]
        simpa using h5
  · have hi2 : i = l.length := by omega
    have hd3 : dirL l = bl s := by rw [hs, hi2, List.take_length]
    refine br_dec (fun h => ?_) fun h => ?_
    · rw [putD_no fun hd => ?_]; exact ⟨rfl, rfl⟩
      have := hd.2.2
      rw [hd3, ← bl_size] at this
      omega
    · have hd : dirOK l := by
        refine ⟨fun e he => hok e (by rw [hi2, List.take_length]; exact he), rises_one fun k hk => ?_, by rw [hd3, ← bl_size]; omega⟩
        have := hri k (by omega)
        rw [List.getD_eq_getElem?_getD, List.getD_eq_getElem?_getD, List.getElem?_eq_getElem (by omega), List.getElem?_eq_getElem hk] at this
        exact this
      rw [putD_ok hd, hd3, ofL_bl]; exact ⟨rfl, rfl⟩
theorem rputD_ok : ConOK Tryz.prog 61 rputDC := by
  refine con_ok tab_ok (Γ := ΓrputD) (consOK_cons rown_ok consOK_nil) (by kernel_rfl) Tryz.func61 (by kernel_rfl) ?_
  intro args out h
  obtain ⟨x, e, h1⟩ := conN_inv h
  clear h
  obtain ⟨l, x0⟩ := x
  subst e
  replace h1 : (if ∀ e ∈ l, e.1.size ≤ 4000000000 then some ⟨.tup [⟨.str, (putD l).1⟩, ⟨.bool, (putD l).2⟩], []⟩ else none) = some out := h1
  split at h1
  case isFalse => cases h1
  rename_i hr
  injection h1 with h1
  subst h1
  exact ⟨by rw [mkArgs_len]; decide, rputD_ex l hr⟩
/-- The contract of glacisref6.TakeDir. -/
def rtakeDC : Con := conN [(.v, .str)] fun (s, _) => if s.size ≤ 4000000000 then some ⟨.tup [⟨.slice EntT, (takeD s).1⟩, ⟨.bool, (takeD s).2⟩], []⟩ else none
theorem rtakeDC_eq {s : ByteArray} : rtakeDC [.val ⟨.str, s⟩] = if s.size ≤ 4000000000 then some ⟨.tup [⟨.slice EntT, (takeD s).1⟩, ⟨.bool, (takeD s).2⟩], []⟩ else none := conN_mk (ks := [(.v, .str)]) (s, ())
def ΓrtakeD : Cons := cons [(61, rputDC)]
theorem rtakeD_ex (s : ByteArray) (hr : s.size ≤ 4000000000) : Ex tab ΓrtakeD (Tryz.f57.body.getD .skip) (EndsF tab Tryz.f57.results.toList [.val ⟨.str, s⟩] ⟨.tup [⟨.slice EntT, (takeD s).1⟩, ⟨.bool, (takeD s).2⟩], []⟩) (ini [.val ⟨.str, s⟩]) := by
  have g_rputD : ΓrtakeD 61 = some rputDC := rfl
  simp only [Tryz.f57, Option.getD_some]
  simp (implicitDefEqProofs := false) (decide := true) (maxSteps := 4000000) [ini, g_rputD, rputDC_eq]
  refine ex_loopN 4 EntT rfl (σ := Nat × Nat × List Ent) [2, 3, 4, 5, 6, 9, 10, 11, 12, 13, 14, 15, 16, 17, 18, 19, 20, 21, 22, 23, 24, 25, 26, 27, 28, 29, 30, 31, 32, 33, 34, 35, 36, 37, 38, 39, 40, 41, 42, 43, 44, 45, 46, 47, 48, 49, 50] (fun a => [(5, .val (.int .i64) (a.1 : Int)), (4, .own a.2.1 EntT a.2.2)])
    (fun a => a.1 ≤ s.size ∧ a.2.2.length ≤ a.1 ∧ (∀ e ∈ a.2.2, e.1.size ≤ 6) ∧ parseD s.size (bl s) = (parseD (s.size - a.2.2.length) ((bl s).drop a.1)).map fun r => a.2.2 ++ r) (fun a => s.size - a.1) (fun m => ⟨(0, m, []), ⟨Nat.zero_le _, Nat.zero_le _, by simp, by simp⟩, hc rfl (hc rfl hn)⟩) ?_
  rintro m j ⟨i, q, out⟩ ⟨hi, hol, ho6, hp⟩
  simp only at hi hol ho6 hp
  simp (implicitDefEqProofs := false) (decide := true) (maxSteps := 4000000) [ini, g_rputD, rputDC_eq, w_byte]
  have hsz := bl_size s
  have hnone : parseD (s.size - out.length) ((bl s).drop i) = none → takeD s = ([], false) := fun h => by
    unfold takeD; rw [hp, h]; rfl
  refine br_dec (fun hlt => ⟨hlt, ?_⟩) fun hge => ?_
  · obtain ⟨c, hd, hc'⟩ := drop_at hlt
    have hcl := c.toNat_lt
    have hdl : ((bl s).drop (i + 1)).length = s.size - (i + 1) := by rw [List.length_drop, hsz]
    obtain ⟨k, hk⟩ : ∃ k, s.size - out.length = k + 1 := ⟨s.size - out.length - 1, by omega⟩
    rw [hd, hk] at hp hnone
    rw [hc']
    have w1 : IntKind.i64.wrap ((i : Int) + 1) = ((i + 1 : Nat) : Int) := w_nat rfl (by omega)
    have w2 : IntKind.i64.wrap (((i + 1 : Nat) : Int) + (c.toNat : Int)) = ((i + 1 + c.toNat : Nat) : Int) := w_nat rfl (by omega)
    have w3 : IntKind.i64.wrap ((i : Int) + (c.toNat : Int)) = ((i + c.toNat : Nat) : Int) := w_nat rfl (by omega)
    have w4 : IntKind.i64.wrap (((i + c.toNat : Nat) : Int) + 2) = ((i + c.toNat + 2 : Nat) : Int) := w_nat rfl (by omega)
    rw [w1, w2, w3, w4]
    simp only [Int.toNat_natCast]
    refine br_dec (fun h => ?_) fun h1 => br_dec (fun h => ?_) fun h2 m2 => ?_
    · rw [hnone (by rw [parseD, if_pos (.inl (by omega))])]; exact ⟨rfl, rfl⟩
    · rw [hnone (by rw [parseD, if_pos (.inr (by rw [hdl]; omega))])]; exact ⟨rfl, rfl⟩
    · rw [parseD, if_neg (by rw [hdl]; omega), Option.map_map, List.drop_drop] at hp
      refine ⟨by omega, by omega, by omega, by omega, i + c.toNat + 2, _, _, ⟨by omega, by simp; omega, ?_, ?_⟩, by omega, rfl, rfl, rfl⟩
      · intro a b u he
        rcases List.mem_append.1 he with he | he
        · exact ho6 _ he
        · rw [congrArg (fun x : Ent => x.1.size) (List.mem_singleton.1 he)]
          simp only
          rw [extract_ofL, bl_size, bl_ofL, List.length_take]
          omega
      rw [List.length_append, List.length_singleton, show s.size - (out.length + 1) = k by omega, show i + c.toNat + 2 = i + 1 + (c.toNat + 1) by omega, hp]
      congr 1
      funext r
      have e1 : byteAt s (i + 1 + c.toNat) = ((((bl s).drop (i + 1)).getD c.toNat 0).toNat : Int) := by
        rw [byteAt_bl, List.getD_eq_getElem?_getD, List.getD_eq_getElem?_getD, List.getElem?_drop]
      rw [extract_ofL, e1, List.append_assoc]
      rfl
  · have hi2 : i = s.size := by omega
    rw [hi2, List.drop_eq_nil_of_le (by omega)] at hp
    have hp : parseD s.size (bl s) = some out := by
      rw [hp]; cases s.size - out.length <;> simp [parseD]
    refine ⟨fun a b u he => by have := ho6 _ he; simp only at this; omega, br_intro (fun h => ?_) fun h1 => br_intro (fun h => ?_) fun h2 => ?_⟩
    · rw [takeD, hp]
      simp only
      rw [if_neg (by intro e; rw [e] at h; simp at h)]; exact ⟨rfl, rfl⟩
    · rw [takeD, hp]
      simp only
      rw [if_neg (by intro e; rw [e] at h; simp at h)]; exact ⟨rfl, rfl⟩
    · have e1 : (putD out).2 = true := by simpa using h1
      have e2 : (putD out).1 = s := bl_inj (by rw [← toList_bl, ← toList_bl]; simpa using h2)
      rw [takeD, hp]
      simp only
      rw [if_pos (by rw [← e1, ← e2])]; exact ⟨rfl, rfl⟩
theorem rtakeD_ok : ConOK Tryz.prog 57 rtakeDC := by
  refine con_ok tab_ok (Γ := ΓrtakeD) (consOK_cons rputD_ok consOK_nil) (by kernel_rfl) Tryz.func57 (by kernel_rfl) ?_
  intro args out h
  obtain ⟨x, e, h1⟩ := conN_inv h
  clear h
  obtain ⟨s, x0⟩ := x
  subst e
  replace h1 : (if s.size ≤ 4000000000 then some ⟨.tup [⟨.slice EntT, (takeD s).1⟩, ⟨.bool, (takeD s).2⟩], []⟩ else none) = some out := h1
  split at h1
  case isFalse => cases h1
  rename_i hr
  injection h1 with h1
  subst h1
  exact ⟨by rw [mkArgs_len]; decide, rtakeD_ex s hr⟩
/-- The contract of glacisref6.FindDir. -/
def rfindDC : Con := conN [(.v, .slice EntT), (.v, .str)] fun (l, nm, _) => some ⟨.tup [⟨.int .i64, (findD l nm).1⟩, ⟨.bool, (findD l nm).2⟩], []⟩
theorem rfindDC_eq {l : List (Ty.den (EntT))} {nm : ByteArray} : rfindDC [.val ⟨.slice EntT, l⟩, .val ⟨.str, nm⟩] = some ⟨.tup [⟨.int .i64, (findD l nm).1⟩, ⟨.bool, (findD l nm).2⟩], []⟩ := conN_mk (ks := [(.v, .slice EntT), (.v, .str)]) (l, nm, ())
def ΓrfindD : Cons := cons []
theorem rfindD_ex (l : List (Ty.den (EntT))) (nm : ByteArray) : Ex tab ΓrfindD (Tryz.f45.body.getD .skip) (EndsF tab Tryz.f45.results.toList [.val ⟨.slice EntT, l⟩, .val ⟨.str, nm⟩] ⟨.tup [⟨.int .i64, (findD l nm).1⟩, ⟨.bool, (findD l nm).2⟩], []⟩) (ini [.val ⟨.slice EntT, l⟩, .val ⟨.str, nm⟩]) := by
  simp only [Tryz.f45, Option.getD_some]
  simp (implicitDefEqProofs := false) (decide := true) (maxSteps := 4000000) [ini]
  refine ex_loopU (σ := Nat) [4, 5, 6, 7, 8, 9, 10, 11, 12, 13, 14, 15, 16, 17, 18, 19, 20, 21, 22, 23, 24] (fun a => [(6, .val (.int .i64) (a : Int))]) (fun a => a ≤ l.length ∧ ∀ e ∈ l.take a, eqB e.1 nm = false) (fun a => l.length - a) 0 ⟨Nat.zero_le _, by simp⟩ (hc rfl hn) ?_
  rintro j i ⟨hi, ha⟩
  simp (implicitDefEqProofs := false) (decide := true) (maxSteps := 4000000) [ini]
  intro hml
  have hml : l.length ≤ 9223372036854775807 := hml
  refine br_dec (fun hlt => ⟨hlt, ?_⟩) fun hge => ?_
  · rw [eql_eq]
    obtain ⟨x, hx⟩ : ∃ x : Ent, l[i] = x := ⟨_, rfl⟩
    have hg : l[i]?.getD dfltE = x := by rw [List.getElem?_eq_getElem hlt, hx]; rfl
    have hsp : l = l.take i ++ x :: l.drop (i + 1) := by rw [← hx, ← List.drop_eq_getElem_cons hlt, List.take_append_drop]
    have htk : l.take (i + 1) = l.take i ++ [x] := by rw [List.take_succ_eq_append_getElem hlt, hx]
    refine br_intro (fun h => ⟨hlt, ?_⟩) fun h => ⟨i + 1, ⟨by omega, ?_⟩, by omega, w_nat rfl (by omega)⟩
    · have hf : l.find? (fun e => eqB e.1 nm) = some x := by
        rw [hsp, List.find?_append, List.find?_eq_none.2 (fun e he => by rw [ha e he]; decide), Option.none_or, List.find?_cons_of_pos]
        rw [← hg]; exact h
      have : findD l nm = (x.2.1, true) := by rw [findD, hf]
      rw [this]
      exact ⟨by rw [show l[i]?.getD (({ data := #[] }, 0, ()) : Ent) = x from hg], rfl⟩
    · intro a b u he
      rw [htk, List.mem_append, List.mem_singleton] at he
      rcases he with he | he
      · exact ha _ he
      · have : eqB x.1 nm = false := by rw [← hg]; exact h
        rw [← he] at this; exact this
  · have hf : l.find? (fun e => eqB e.1 nm) = none := List.find?_eq_none.2 fun e he => by
      rw [ha e (by rw [show i = l.length by omega, List.take_length]; exact he)]; decide
    rw [findD, hf]; exact ⟨rfl, rfl⟩
theorem rfindD_ok : ConOK Tryz.prog 45 rfindDC := by
  refine con_ok tab_ok (Γ := ΓrfindD) consOK_nil (by kernel_rfl) Tryz.func45 (by kernel_rfl) ?_
  intro args out h
  obtain ⟨x, e, h1⟩ := conN_inv h
  clear h
  obtain ⟨l, nm, x0⟩ := x
  subst e
  replace h1 : (some ⟨.tup [⟨.int .i64, (findD l nm).1⟩, ⟨.bool, (findD l nm).2⟩], []⟩) = some out := h1
  injection h1 with h1
  subst h1
  exact ⟨by rw [mkArgs_len]; decide, rfindD_ex l nm⟩
end Go.Proofs.YthhjlbpmpffapaaGreatDoor
