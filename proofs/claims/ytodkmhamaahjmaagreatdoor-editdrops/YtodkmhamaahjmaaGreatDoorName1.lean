/- name: names and ways, by the program. -/
import Derived.Test.YtodkmhamaahjmaaGreatDoorG0
import Derived.Test.YtodkmhamaahjmaaGreatDoorG1
import Derived.Test.YtodkmhamaahjmaaGreatDoorLibStr
import Derived.Test.YtodkmhamaahjmaaGreatDoorG2
set_option maxRecDepth 10000
set_option maxHeartbeats 1000000
set_option linter.unusedSimpArgs false
set_option linter.unusedVariables false
set_option pp.deepTerms.threshold 14
namespace Go.Proofs.YtodkmhamaahjmaaGreatDoor
open Go.Tm Go.IntWalk
/-! ### Cut at slashes: the library's and ours -/
theorem indexByte_none {c : UInt8} : ∀ {l : List UInt8}, l.count c = 0 → Lib.indexByte l c = -1
  | [], _ => rfl
  | b :: l, h => by
    rw [List.count_cons] at h
    by_cases hb : (b == c) = true
    · rw [if_pos hb] at h; omega
    · rw [if_neg hb, Nat.add_zero] at h
      unfold Lib.indexByte
      rw [if_neg hb, indexByte_none h]
      rfl
theorem indexByte_some {c : UInt8} : ∀ {l : List UInt8}, l.count c ≠ 0 → 0 ≤ Lib.indexByte l c
  | [], h => absurd rfl h
  | b :: l, h => by
    rw [List.count_cons] at h
    unfold Lib.indexByte
    by_cases hb : (b == c) = true
    · rw [if_pos hb]; exact Int.le_refl 0
    · rw [if_neg hb, Nat.add_zero] at h
      have := indexByte_some h
      rw [if_neg hb, if_neg (by rw [beq_iff_eq]; omega)]
      omega
theorem splitK_eq : ∀ l : List UInt8, Lib.splitK [47] 0 (l.count 47) l = splitB l
  | [] => rfl
  | c :: r => by
    have ih := splitK_eq r
    by_cases hc : c = 47
    · subst hc
      rw [List.count_cons_self, Lib.splitK, Lib.index_one]
      have e : Lib.indexByte (47 :: r) 47 = 0 := by unfold Lib.indexByte; rw [if_pos (by rfl)]
      rw [e, if_neg (by decide), splitB, if_pos rfl, ← ih]
      rfl
    · have hb : ¬ ((c == 47) = true) := by rw [beq_iff_eq]; exact hc
      have hcount : (c :: r).count 47 = r.count 47 := by rw [List.count_cons, if_neg hb, Nat.add_zero]
      rw [hcount, splitB, if_neg hc, ← ih]
      by_cases h0 : r.count 47 = 0
      · rw [h0]; rfl
      · obtain ⟨k, hk⟩ : ∃ k, r.count 47 = k + 1 := ⟨r.count 47 - 1, by omega⟩
        have hi := indexByte_some h0
        obtain ⟨i, hi2⟩ := Int.eq_ofNat_of_zero_le hi
        have e : Lib.indexByte (c :: r) 47 = ((i + 1 : Nat) : Int) := by
          unfold Lib.indexByte
          rw [if_neg hb, if_neg (by rw [beq_iff_eq]; omega), hi2]
          rfl
        rw [hk, Lib.splitK, Lib.splitK, Lib.index_one, Lib.index_one, e, hi2, if_neg (by rw [beq_iff_eq]; omega), if_neg (by rw [beq_iff_eq]; omega)]
        simp only [Int.toNat_natCast, Nat.add_zero, List.length_singleton, List.take_succ_cons, List.drop_succ_cons]
theorem splitS_bl (s : ByteArray) : (splitS s).map bl = splitB (bl s) := by
  unfold splitS
  show (Lib.splitB ⟨#[47]⟩ 0 (Lib.countB s ⟨#[47]⟩) s).map (·.data.toList) = _
  rw [Lib.splitB_data]
  have e : Lib.countB s ⟨#[47]⟩ = (bl s).count 47 := by
    show Lib.count s.data.toList [47] = _
    rw [Lib.count_one]
  rw [e]
  exact splitK_eq _
theorem splitS_eq (s : ByteArray) : splitS s = (splitB (bl s)).map ofL := (map_of (splitS_bl s)).symm
/-- The contract of name.May. -/
def nmayC : Con := conN [(.v, .str)] fun (s, _) => if s.size ≤ 9223372036854775807 then some ⟨.val ⟨.bool, mayN s⟩, []⟩ else none
theorem nmayC_eq {s : ByteArray} : nmayC [.val ⟨.str, s⟩] = if s.size ≤ 9223372036854775807 then some ⟨.val ⟨.bool, mayN s⟩, []⟩ else none := conN_mk (ks := [(.v, .str)]) (s, ())
def Γnmay : Cons := cons [(84, downC)]
theorem nmay_ex (s : ByteArray) (hr : s.size ≤ 9223372036854775807) : Ex tab Γnmay (Tryz.f85.body.getD .skip) (EndsF tab Tryz.f85.results.toList [.val ⟨.str, s⟩] ⟨.val ⟨.bool, mayN s⟩, []⟩) (ini [.val ⟨.str, s⟩]) := by
  have g_down : Γnmay 84 = some downC := rfl
  simp only [Tryz.f85, Option.getD_some]
  simp (implicitDefEqProofs := false) (decide := true) (maxSteps := 4000000) [ini, g_down, downC_eq]
  refine ⟨hr, br_intro (fun h => ⟨by have := ownS_size h; omega, ?_⟩) fun h => ?_⟩
  · rw [mayN, h]; rfl
  · rw [mayN, h]; rfl
theorem nmay_ok : ConOK Tryz.prog 85 nmayC := by
  refine con_ok tab_ok (Γ := Γnmay) (consOK_cons down_ok consOK_nil) (by kernel_rfl) Tryz.func85 (by kernel_rfl) ?_
  intro args out h
  obtain ⟨x, e, h1⟩ := conN_inv h
  clear h
  obtain ⟨s, x0⟩ := x
  subst e
  replace h1 : (if s.size ≤ 9223372036854775807 then some ⟨.val ⟨.bool, mayN s⟩, []⟩ else none) = some out := h1
  split at h1
  case isFalse => cases h1
  rename_i hr
  injection h1 with h1
  subst h1
  exact ⟨by rw [mkArgs_len]; decide, nmay_ex s hr⟩
theorem cutP_yes {p : ByteArray} {r : List UInt8} (h : bl p = 47 :: r) : cutP p ⟨#[47]⟩ = (ofL r, true) := by
  unfold cutP
  rw [show p.data.toList = 47 :: r from h]
  simp [Lib.trimPrefix, Lib.hasPrefix, ofL, List.isPrefixOf]
theorem cutP_no {p : ByteArray} (h : ∀ r, bl p ≠ 47 :: r) : cutP p ⟨#[47]⟩ = (p, false) := by
  unfold cutP
  have hp : Lib.hasPrefix p.data.toList [47] = false := by
    cases e : bl p with
    | nil => rw [show p.data.toList = [] from e]; rfl
    | cons c r =>
      have : c ≠ 47 := fun hc => h r (by rw [e, hc])
      rw [show p.data.toList = c :: r from e]
      simp [Lib.hasPrefix, List.isPrefixOf, this.symm]
  simp only [Lib.trimPrefix]
  rw [hp]
  simp
theorem splitB_small : ∀ {r : List UInt8} {x : List UInt8}, x ∈ splitB r → x.length ≤ r.length
  | [], x, h => by
    rw [show splitB [] = [[]] from rfl, List.mem_singleton] at h
    rw [h]; exact Nat.le_refl _
  | c :: r, x, h => by
    rw [splitB] at h
    split at h
    · rcases List.mem_cons.1 h with e | h
      · rw [e]; exact Nat.zero_le _
      · exact Nat.le_succ_of_le (splitB_small h)
    · split at h
      · rename_i a t e
        have ha := splitB_small (r := r) (x := a) (by rw [e]; exact List.mem_cons_self ..)
        rcases List.mem_cons.1 h with e2 | h
        · rw [e2]; exact Nat.succ_le_succ ha
        · exact Nat.le_succ_of_le (splitB_small (by rw [e]; exact List.mem_cons_of_mem _ h))
      · rw [List.mem_singleton.1 h]
        exact Nat.succ_le_succ (Nat.zero_le _)
/-- The contract of name.Parts. -/
def npartsC : Con := conN [(.v, .str), (.v, .bool)] fun (p, own, _) => if p.size ≤ 1000000000 then some ⟨.tup [⟨.slice .str, (partsS p own).1⟩, ⟨.bool, (partsS p own).2⟩], []⟩ else none
theorem npartsC_eq {p : ByteArray} {own : Bool} : npartsC [.val ⟨.str, p⟩, .val ⟨.bool, own⟩] = if p.size ≤ 1000000000 then some ⟨.tup [⟨.slice .str, (partsS p own).1⟩, ⟨.bool, (partsS p own).2⟩], []⟩ else none := conN_mk (ks := [(.v, .str), (.v, .bool)]) (p, own, ())
def Γnparts : Cons := cons [(82, scutC), (83, ssplitC), (84, downC), (85, nmayC)]
theorem nparts_ex (p : ByteArray) (own : Bool) (hr : p.size ≤ 1000000000) : Ex tab Γnparts (Tryz.f62.body.getD .skip) (EndsF tab Tryz.f62.results.toList [.val ⟨.str, p⟩, .val ⟨.bool, own⟩] ⟨.tup [⟨.slice .str, (partsS p own).1⟩, ⟨.bool, (partsS p own).2⟩], []⟩) (ini [.val ⟨.str, p⟩, .val ⟨.bool, own⟩]) := by
  have g_scut : Γnparts 82 = some scutC := rfl
  have g_ssplit : Γnparts 83 = some ssplitC := rfl
  have g_down : Γnparts 84 = some downC := rfl
  have g_nmay : Γnparts 85 = some nmayC := rfl
  simp only [Tryz.f62, Option.getD_some]
  simp (implicitDefEqProofs := false) (decide := true) (maxSteps := 4000000) [ini, g_scut, scutC_eq, g_ssplit, ssplitC_eq, g_down, downC_eq, g_nmay, nmayC_eq]
  by_cases hp : ∃ r, bl p = 47 :: r
  case neg =>
    have hp : ∀ r, bl p ≠ 47 :: r := fun r e => hp ⟨r, e⟩
    rw [cutP_no hp, partsS_other hp]
    exact br_intro (fun _ => ⟨rfl, rfl⟩) fun h => by cases h
  case pos =>
    obtain ⟨r, hp⟩ := hp
    have hsz := bl_size p
    rw [hp, List.length_cons] at hsz
    rw [cutP_yes hp]
    refine br_intro (fun h => by cases h) fun _ => br_intro (fun h => ?_) fun h m => ⟨?_, fun _ => ?_⟩
    · have : r = [] := by
        have h : (ofL r).toList = [] := by simpa using h
        rw [toList_bl, bl_ofL] at h
        simpa using h
      rw [partsS_root (by rw [hp, this])]
      exact ⟨rfl, rfl⟩
    · rw [bl_size, bl_ofL]; omega
    have hr0 : r ≠ [] := by
      rintro rfl
      simp [ofL] at h
    have hway := partsS_way (own := own) hp hr0
    have hsp : splitS (ofL r) = (splitB r).map ofL := by rw [splitS_eq, bl_ofL]
    rw [hsp, List.length_map]
    refine br_dec (fun h8 => ?_) fun h8 _ => ?_
    · rw [hway, if_neg (by omega)]
      exact ⟨rfl, rfl⟩
    have hlen : ((splitB r).map ofL).length ≤ 8 := by rw [List.length_map]; omega
    have hyes : (∀ x ∈ (splitB r).map ofL, partOK own x = true) → partsS p own = ((splitB r).map ofL, true) := by
      intro hx
      rw [hway, if_pos ⟨by omega, fun x hx2 => hx _ (List.mem_map.2 ⟨x, hx2, rfl⟩)⟩]
    have hnot : ∀ x ∈ (splitB r).map ofL, partOK own x = false → partsS p own = ([], false) := by
      intro x hx hf
      obtain ⟨y, hy, rfl⟩ := List.mem_map.1 hx
      rw [hway, if_neg (fun h => by rw [h.2 y hy] at hf; cases hf)]
    have hsmall : ∀ x ∈ (splitB r).map ofL, x.size ≤ 1000000000 := by
      intro x hx
      obtain ⟨y, hy, rfl⟩ := List.mem_map.1 hx
      have := splitB_small hy
      rw [bl_size, bl_ofL]; omega
    rw [show (splitB r).length = ((splitB r).map ofL).length by rw [List.length_map]]
    generalize (splitB r).map ofL = L at hlen hyes hnot hsmall ⊢
    refine ex_loopU (σ := Nat) (Dn [4, 5, 10] 30 17) (fun a => [(30, .val (.int .i64) (a : Int))]) (fun a => a ≤ L.length ∧ ∀ x ∈ L.take a, partOK own x = true) (fun a => L.length - a) 0 ⟨Nat.zero_le _, by simp⟩ (hc rfl hn) ?_
    rintro j i ⟨hi, hok⟩
    simp (implicitDefEqProofs := false) (decide := true) (maxSteps := 4000000) [ini, g_scut, scutC_eq, g_ssplit, ssplitC_eq, g_down, downC_eq, g_nmay, nmayC_eq]
    by_cases hlt : i < L.length
    · obtain ⟨x, _, hx, hmem, htk⟩ : ∃ x, L.drop i = x :: L.drop (i + 1) ∧ (∀ d, L[i]?.getD d = x) ∧ x ∈ L ∧ L.take (i + 1) = L.take i ++ [x] :=
        ⟨L[i], List.drop_eq_getElem_cons hlt, fun d => by rw [List.getElem?_eq_getElem hlt]; rfl, List.getElem_mem hlt, List.take_succ_eq_append_getElem hlt⟩
      rw [hx]
      have hs := hsmall x hmem
      have hbad : partOK own x = false → (partsS p own).1 = [] ∧ (partsS p own).2 = false := fun h => by
        rw [hnot x hmem h]; exact ⟨rfl, rfl⟩
      have hgood : partOK own x = true → ∃ a', (a' ≤ L.length ∧ ∀ (x : ByteArray), x ∈ List.take a' L → partOK own x = true) ∧ L.length - a' < L.length - i ∧ IntKind.i64.wrap ((i : Int) + 1) = (a' : Int) := fun h => by
        refine ⟨i + 1, ⟨hlt, fun y hy => ?_⟩, by omega, w_nat rfl (by omega)⟩
        rw [htk, List.mem_append, List.mem_singleton] at hy
        rcases hy with hy | rfl
        · exact hok y hy
        · exact h
      refine br_dec (fun _ => ⟨hlt, by omega, br_intro (fun h => hbad ?_) fun h1 => br_intro (fun h2 => ⟨by omega, br_intro (fun h => hbad ?_) fun h3 => hgood ?_⟩) fun h2 => hgood ?_⟩) fun h => absurd hlt h
      · unfold partOK; rw [show ownS x = false by simpa using h]; rfl
      · unfold partOK; rw [show own = false by simpa using h2, show mayN x = false by simpa using h]; simp
      · unfold partOK; rw [show ownS x = true by simpa using h1, show mayN x = true by simpa using h3]; simp
      · unfold partOK; rw [show ownS x = true by simpa using h1, show own = true by simpa using h2]; rfl
    · refine br_dec (fun h => absurd h hlt) fun _ => ?_
      rw [hyes fun x hx => hok x (by rw [List.take_of_length_le (by omega)]; exact hx)]
      exact ⟨rfl, rfl⟩
theorem nparts_ok : ConOK Tryz.prog 62 npartsC := by
  refine con_ok tab_ok (Γ := Γnparts) (consOK_cons scut_ok (consOK_cons ssplit_ok (consOK_cons down_ok (consOK_cons nmay_ok consOK_nil)))) (by kernel_rfl) Tryz.func62 (by kernel_rfl) ?_
  intro args out h
  obtain ⟨x, e, h1⟩ := conN_inv h
  clear h
  obtain ⟨p, own, x0⟩ := x
  subst e
  replace h1 : (if p.size ≤ 1000000000 then some ⟨.tup [⟨.slice .str, (partsS p own).1⟩, ⟨.bool, (partsS p own).2⟩], []⟩ else none) = some out := h1
  split at h1
  case isFalse => cases h1
  rename_i hr
  injection h1 with h1
  subst h1
  exact ⟨by rw [mkArgs_len]; decide, nparts_ex p own hr⟩
def pathS (l : List ByteArray) : ByteArray := ⟨#[47]⟩ ++ joinS l ⟨#[47]⟩
/-- The contract of name.Path. -/
def npathC : Con := conN [(.v, .slice .str)] fun (l, _) => if l.length ≤ 1000 ∧ smallL l then some ⟨.val ⟨.str, pathS l⟩, []⟩ else none
theorem npathC_eq {l : List ByteArray} : npathC [.val ⟨.slice .str, l⟩] = if l.length ≤ 1000 ∧ smallL l then some ⟨.val ⟨.str, pathS l⟩, []⟩ else none := conN_mk (ks := [(.v, .slice .str)]) (l, ())
def Γnpath : Cons := cons [(86, sjoinC)]
theorem npath_ex (l : List ByteArray) (hr : l.length ≤ 1000 ∧ smallL l) : Ex tab Γnpath (Tryz.f63.body.getD .skip) (EndsF tab Tryz.f63.results.toList [.val ⟨.slice .str, l⟩] ⟨.val ⟨.str, pathS l⟩, []⟩) (ini [.val ⟨.slice .str, l⟩]) := by
  have g_sjoin : Γnpath 86 = some sjoinC := rfl
  simp only [Tryz.f63, Option.getD_some]
  simp (implicitDefEqProofs := false) (decide := true) (maxSteps := 4000000) [ini, g_sjoin, sjoinC_eq]
  refine ⟨hr, ?_, rfl⟩
  have hj := join_len (l := l) (p := ⟨#[47]⟩) (by decide) hr.2
  have e : (joinS l ⟨#[47]⟩).size = (Lib.join (l.map (·.data.toList)) [47]).length := by
    rw [bl_size]
    simp [joinS]
  have e2 : (⟨#[47]⟩ : ByteArray).size = 1 := rfl
  have e3 : (⟨#[47]⟩ : ByteArray).data.toList = [47] := rfl
  rw [e3] at hj
  omega
theorem npath_ok : ConOK Tryz.prog 63 npathC := by
  refine con_ok tab_ok (Γ := Γnpath) (consOK_cons sjoin_ok consOK_nil) (by kernel_rfl) Tryz.func63 (by kernel_rfl) ?_
  intro args out h
  obtain ⟨x, e, h1⟩ := conN_inv h
  clear h
  obtain ⟨l, x0⟩ := x
  subst e
  replace h1 : (if l.length ≤ 1000 ∧ smallL l then some ⟨.val ⟨.str, pathS l⟩, []⟩ else none) = some out := h1
  split at h1
  case isFalse => cases h1
  rename_i hr
  injection h1 with h1
  subst h1
  exact ⟨by rw [mkArgs_len]; decide, npath_ex l hr⟩
end Go.Proofs.YtodkmhamaahjmaaGreatDoor
