/- The reference's names and ways, walked. -/
import Derived.Test.YthhjlbpmpffapaaGreatDoorRef6o
set_option maxRecDepth 10000
set_option linter.unusedSimpArgs false
set_option linter.unusedVariables false
set_option pp.deepTerms.threshold 14
namespace Go.Proofs.YthhjlbpmpffapaaGreatDoor
open Go.Tm Go.IntWalk

/-- The contract of glacisref6.May. -/
def rmay6C : Con := conN [(.v, .str)] fun (s, _) => if s.size ≤ 9000000000000000000 then some ⟨.val ⟨.bool, mayN s⟩, []⟩ else none
theorem rmay6C_eq {s : ByteArray} : rmay6C [.val ⟨.str, s⟩] = if s.size ≤ 9000000000000000000 then some ⟨.val ⟨.bool, mayN s⟩, []⟩ else none := conN_mk (ks := [(.v, .str)]) (s, ())
def Γrmay6 : Cons := cons [(58, rownC)]
theorem rmay6_ex (s : ByteArray) (hr : s.size ≤ 9000000000000000000) : Ex tab Γrmay6 (Tryz.f59.body.getD .skip) (EndsF tab Tryz.f59.results.toList [.val ⟨.str, s⟩] ⟨.val ⟨.bool, mayN s⟩, []⟩) (ini [.val ⟨.str, s⟩]) := by
  have g_rown : Γrmay6 58 = some rownC := rfl
  simp only [Tryz.f59, Option.getD_some]
  simp (implicitDefEqProofs := false) (decide := true) (maxSteps := 4000000) [ini, g_rown, rownC_eq]
  refine ⟨hr, br_intro (fun h => ⟨by have := ownS_size h; omega, ?_⟩) fun h => ?_⟩
  · rw [mayN, h]; rfl
  · rw [mayN, h]; rfl
theorem rmay6_ok : ConOK Tryz.prog 59 rmay6C := by
  refine con_ok tab_ok (Γ := Γrmay6) (consOK_cons rown_ok consOK_nil) (by kernel_rfl) Tryz.func59 (by kernel_rfl) ?_
  intro args out h
  obtain ⟨x, e, h1⟩ := conN_inv h
  clear h
  obtain ⟨s, x0⟩ := x
  subst e
  replace h1 : (if s.size ≤ 9000000000000000000 then some ⟨.val ⟨.bool, mayN s⟩, []⟩ else none) = some out := h1
  split at h1
  case isFalse => cases h1
  rename_i hr
  injection h1 with h1
  subst h1
  exact ⟨by rw [mkArgs_len]; decide, rmay6_ex s hr⟩
/-- The parts of a text between slashes. -/
def splitB : List UInt8 → List (List UInt8)
  | [] => [[]]
  | c :: r => if c = 47 then [] :: splitB r else match splitB r with
    | h :: t => (c :: h) :: t
    | [] => [[c]]
theorem splitB_ne : ∀ l : List UInt8, splitB l ≠ []
  | [], h => by cases h
  | c :: r, h => by
    unfold splitB at h
    split at h
    · cases h
    · split at h <;> cases h
/-- A text, of which the first part began with some bytes already. -/
def glue (p : List UInt8) (l : List (List UInt8)) : List (List UInt8) :=
  match l with
  | h :: t => (p ++ h) :: t
  | [] => [p]
theorem glue_nil (l : List UInt8) : glue [] (splitB l) = splitB l := by
  cases h : splitB l with
  | nil => exact absurd h (splitB_ne l)
  | cons a t => rfl
theorem glue_byte {p : List UInt8} {c : UInt8} {r : List UInt8} (h : c ≠ 47) : glue p (splitB (c :: r)) = glue (p ++ [c]) (splitB r) := by
  rw [splitB, if_neg h]
  cases splitB r <;> simp [glue]
theorem glue_slash {p : List UInt8} {r : List UInt8} : glue p (splitB (47 :: r)) = p :: splitB r := by
  rw [splitB, if_pos rfl]; simp [glue]
theorem glue_end {p : List UInt8} : glue p (splitB []) = [p] := by simp [splitB, glue]
def partOK (own : Bool) (s : ByteArray) : Bool := ownS s && (own || mayN s)
def partsS (p : ByteArray) (own : Bool) : List ByteArray × Bool :=
  if bl p = [47] then ([], true) else
  match bl p with
  | 47 :: r => if ((splitB r).length ≤ 8 ∧ ∀ x ∈ splitB r, partOK own (ofL x) = true) then ((splitB r).map ofL, true) else ([], false)
  | _ => ([], false)
theorem partsS_root {p : ByteArray} {own : Bool} (h : bl p = [47]) : partsS p own = ([], true) := if_pos h
theorem partsS_other {p : ByteArray} {own : Bool} (h : ∀ r, bl p ≠ 47 :: r) : partsS p own = ([], false) := by
  unfold partsS
  rw [if_neg (h [])]
  split
  · rename_i r e; exact absurd e (h r)
  · rfl
theorem partsS_way {p : ByteArray} {own : Bool} {r : List UInt8} (h : bl p = 47 :: r) (hr : r ≠ []) : partsS p own = if ((splitB r).length ≤ 8 ∧ ∀ x ∈ splitB r, partOK own (ofL x) = true) then ((splitB r).map ofL, true) else ([], false) := by
  unfold partsS
  rw [if_neg (by rw [h]; intro e; injection e with _ e; exact hr e), h]
  rfl
theorem map_of {out : List ByteArray} {l : List (List UInt8)} (h : out.map bl = l) : l.map ofL = out := by
  rw [← h, List.map_map]
  conv => rhs; rw [← List.map_id out]
  exact List.map_congr_left fun s _ => ofL_bl s
theorem byte_47 {s : ByteArray} {i : Nat} (h : i < s.size) : (byteAt s i = 47) ↔ (bl s)[i]'(by rw [← bl_size]; exact h) = 47 := by
  have hl : i < (bl s).length := by rw [← bl_size]; exact h
  rw [byteAt_bl, List.getD_eq_getElem?_getD, List.getElem?_eq_getElem hl, Option.getD_some, ← UInt8.toNat_inj]
  exact ⟨fun h => by show (bl s)[i].toNat = 47; omega, fun h => by have : (bl s)[i].toNat = 47 := h; omega⟩
/-- The contract of glacisref6.Parts. -/
def rpartsC : Con := conN [(.v, .str), (.v, .bool)] fun (p, own, _) => if p.size ≤ 4000000000 then some ⟨.tup [⟨.slice .str, (partsS p own).1⟩, ⟨.bool, (partsS p own).2⟩], []⟩ else none
theorem rpartsC_eq {p : ByteArray} {own : Bool} : rpartsC [.val ⟨.str, p⟩, .val ⟨.bool, own⟩] = if p.size ≤ 4000000000 then some ⟨.tup [⟨.slice .str, (partsS p own).1⟩, ⟨.bool, (partsS p own).2⟩], []⟩ else none := conN_mk (ks := [(.v, .str), (.v, .bool)]) (p, own, ())
def Γrparts : Cons := cons [(58, rownC), (59, rmay6C)]
theorem rparts_ex (p : ByteArray) (own : Bool) (hr : p.size ≤ 4000000000) : Ex tab Γrparts (Tryz.f42.body.getD .skip) (EndsF tab Tryz.f42.results.toList [.val ⟨.str, p⟩, .val ⟨.bool, own⟩] ⟨.tup [⟨.slice .str, (partsS p own).1⟩, ⟨.bool, (partsS p own).2⟩], []⟩) (ini [.val ⟨.str, p⟩, .val ⟨.bool, own⟩]) := by
  have g_rown : Γrparts 58 = some rownC := rfl
  have g_rmay6 : Γrparts 59 = some rmay6C := rfl
  simp only [Tryz.f42, Option.getD_some]
  simp (implicitDefEqProofs := false) (decide := true) (maxSteps := 4000000) [ini, g_rown, rownC_eq, g_rmay6, rmay6C_eq]
  have hsz := bl_size p
  refine br_intro (fun h => ?_) fun h0 => br_intro (fun h => ?_) fun h1 => ⟨?_, br_intro (fun h => ?_) fun h2 => ?_⟩
  · rw [beq_iff_eq, toList_bl] at h
    rw [partsS_root h]; exact ⟨rfl, rfl⟩
  · have h : p.size = 0 := by simpa using h
    rw [partsS_other fun r e => ?_]; exact ⟨rfl, rfl⟩
    rw [e, List.length_cons] at hsz
    omega
  · have h : ¬ p.size = 0 := by simpa using h1
    show 0 < p.size
    omega
  · rw [partsS_other fun r e => ?_]; exact ⟨rfl, rfl⟩
    have h3 : byteAt p 0 ≠ 47 := by simpa using h
    apply h3
    rw [byteAt_bl, e]; rfl
  have hp0 : 0 < p.size := by have h : ¬ p.size = 0 := by simpa using h1
                              omega
  have h47 : byteAt p 0 = 47 := by simpa using h2
  obtain ⟨r, hpr⟩ : ∃ r, bl p = 47 :: r := by
    have := (byte_47 hp0).1 h47
    cases e : bl p with
    | nil => rw [e, List.length_nil] at hsz; omega
    | cons c r => simp only [e, List.getElem_cons_zero] at this; exact ⟨r, by rw [this]⟩
  have hrn : r ≠ [] := by
    rintro rfl
    rw [toList_bl, hpr] at h0
    simp at h0
  have hway := partsS_way (own := own) hpr hrn
  have hrl : p.size = r.length + 1 := by rw [hsz, hpr]; rfl
  refine ex_loopN 6 .str rfl (σ := Nat × Nat × List ByteArray × ByteArray) [4, 5, 6, 7, 8, 19, 20, 21, 22, 23, 24, 25, 26, 27, 28, 29, 30, 31, 32, 33, 34, 35, 36, 37, 38, 39, 40, 41, 42, 43, 44, 45, 46, 47, 48, 49, 50, 51, 52, 53, 54, 55, 56, 57, 58, 59, 60, 61, 62] (fun a => [(8, .val (.int .i64) (a.1 : Int)), (6, .own a.2.1 .str a.2.2.1), (7, .val .str a.2.2.2)])
    (fun a => 1 ≤ a.1 ∧ a.2.2.1.length ≤ 8 ∧ (∀ x ∈ a.2.2.1, partOK own x = true) ∧ a.2.2.2.size ≤ a.1 ∧ ((a.1 ≤ p.size ∧ a.2.2.1.map bl ++ glue (bl a.2.2.2) (splitB ((bl p).drop a.1)) = splitB r) ∨ (a.1 = p.size + 1 ∧ a.2.2.1.map bl = splitB r))) (fun a => p.size + 1 - a.1)
    (fun m => ⟨(1, m, [], no), ⟨Nat.le_refl 1, Nat.zero_le _, by simp, Nat.zero_le _, .inl ⟨hp0, ?_⟩⟩, hc rfl (hc rfl (hc rfl hn))⟩) ?_
  · rw [hpr]; exact glue_nil r
  rintro m j ⟨i, q, out, name⟩ ⟨hi, hol, hok, hns, hrel⟩
  simp only at hi hol hok hns hrel
  simp (implicitDefEqProofs := false) (decide := true) (maxSteps := 4000000) [ini, g_rown, rownC_eq, g_rmay6, rmay6C_eq]
  have hno : bl no = [] := rfl
  have w1 : IntKind.i64.wrap ((i : Int) + 1) = ((i + 1 : Nat) : Int) := w_nat rfl (by rcases hrel with h | h <;> omega)
  rw [w1]
  have hbad : (partOK own name = false ∨ 8 ≤ out.length) → ∀ T, out.map bl ++ bl name :: T = splitB r → partsS p own = ([], false) := by
    intro h T hT
    rw [hway, if_neg]
    rintro ⟨k1, k2⟩
    rcases h with h | h
    · have := k2 (bl name) (by rw [← hT]; simp)
      rw [ofL_bl, h] at this; cases this
    · rw [← hT, List.length_append, List.length_map, List.length_cons] at k1
      omega
  refine br_dec (fun hle => ?_) fun hgt => ?_
  · have hr1 : out.map bl ++ glue (bl name) (splitB ((bl p).drop i)) = splitB r := by
      rcases hrel with h | h
      · exact h.2
      · omega
    have hend : i = p.size → out.map bl ++ bl name :: [] = splitB r := by
      intro e
      rw [← hr1, List.drop_eq_nil_of_le (by omega), glue_end]
    have hnm : ∀ h : i < p.size, (bl p).drop i = (bl p)[i]'(by omega) :: (bl p).drop (i + 1) := fun h => by rw [List.drop_eq_getElem_cons]
    have hmid : i < p.size → byteAt p i = 47 → out.map bl ++ bl name :: splitB ((bl p).drop (i + 1)) = splitB r := by
      intro h e
      rw [← hr1, hnm h, (byte_47 h).1 e, glue_slash]
    refine br_dec (fun hlt => ⟨hlt, br_intro (fun hb => ?_) fun hb => ?_⟩) fun hge => ?_
    · have hb : (bl p)[i]'(by omega) ≠ 47 := fun e => by
        have := (byte_47 hlt).2 e
        rw [this] at hb; simp at hb
      have hx : bl (name ++ p.extract i (i + 1)) = bl name ++ [(bl p)[i]'(by omega)] := by
        rw [bl_append, bl_extract, hnm hlt, show i + 1 - i = 1 by omega]
        rfl
      have hxs : (name ++ p.extract i (i + 1)).size = name.size + 1 := by rw [bl_size, hx, List.length_append, ← bl_size]; rfl
      refine ⟨⟨by omega, by omega⟩, by omega, by omega, i + 1, q, out, _, ⟨by omega, hol, hok, ?_, .inl ⟨by omega, ?_⟩⟩, by omega, rfl, ⟨rfl, rfl⟩, rfl⟩
      · rw [Int.toNat_natCast, hxs]; omega
      · rw [Int.toNat_natCast, hx, ← hr1, hnm hlt, glue_byte hb]
    · have hb : byteAt p i = 47 := by simpa using hb
      have hT := hmid hlt hb
      have fin : partOK own name = true → (out.length ≤ maxLen → br (decide (8 ≤ (out.length : Int))) ((partsS p own).1 = [] ∧ (partsS p own).2 = false)
        (∀ (m : Nat), (out.length + 1) * 16 ≤ 140737488355328 ∧ ∃ a a_1 a_2 b, (1 ≤ a ∧ a_2.length ≤ 8 ∧ (∀ (x : ByteArray), x ∈ a_2 → partOK own x = true) ∧ b.size ≤ a ∧ (a ≤ p.size ∧ List.map bl a_2 ++ glue (bl b) (splitB (List.drop a (bl p))) = splitB r ∨ a = p.size + 1 ∧ List.map bl a_2 = splitB r)) ∧
          p.size + 1 - a < p.size + 1 - i ∧ ((i + 1 : Nat) : Int) = ↑a ∧ (m + 1 + 1 + 1 + 1 = a_1 ∧ out ++ [name] = a_2) ∧ no = b)) := by
        refine fun hpk _ => br_dec (fun h8 => ?_) fun h8 m => ⟨by omega, i + 1, _, out ++ [name], no, ⟨by omega, by simp; omega, ?_, Nat.zero_le _, .inl ⟨by omega, ?_⟩⟩, by omega, rfl, ⟨rfl, rfl⟩, rfl⟩
        · rw [hbad (.inr (by omega)) _ hT]; exact ⟨rfl, rfl⟩
        · intro x hx
          rcases List.mem_append.1 hx with hx | hx
          · exact hok x hx
          · rw [List.mem_singleton.1 hx]; exact hpk
        · rw [hno, glue_nil, List.map_append, List.append_assoc]; exact hT
      refine ⟨by omega, br_intro (fun h3 => ?_) fun h3 => br_intro (fun h4 => ⟨by omega, br_intro (fun h5 => ?_) fun h5 => fin ?_⟩) fun h4 => fin ?_⟩
      · rw [hbad (.inl (by unfold partOK; rw [show ownS name = false by simpa using h3]; rfl)) _ hT]; exact ⟨rfl, rfl⟩
      · rw [hbad (.inl (by unfold partOK; rw [show mayN name = false by simpa using h5, show own = false by simpa using h4, Bool.or_self, Bool.and_false])) _ hT]; exact ⟨rfl, rfl⟩
      · unfold partOK; rw [show ownS name = true by simpa using h3, show mayN name = true by simpa using h5, Bool.or_true]; rfl
      · unfold partOK; rw [show ownS name = true by simpa using h3, show own = true by simpa using h4]; rfl
    · have hT := hend (by omega)
      have fin : partOK own name = true → (out.length ≤ maxLen → br (decide (8 ≤ (out.length : Int))) ((partsS p own).1 = [] ∧ (partsS p own).2 = false)
        (∀ (m : Nat), (out.length + 1) * 16 ≤ 140737488355328 ∧ ∃ a a_1 a_2 b, (1 ≤ a ∧ a_2.length ≤ 8 ∧ (∀ (x : ByteArray), x ∈ a_2 → partOK own x = true) ∧ b.size ≤ a ∧ (a ≤ p.size ∧ List.map bl a_2 ++ glue (bl b) (splitB (List.drop a (bl p))) = splitB r ∨ a = p.size + 1 ∧ List.map bl a_2 = splitB r)) ∧
          p.size + 1 - a < p.size + 1 - i ∧ ((i + 1 : Nat) : Int) = ↑a ∧ (m + 1 + 1 + 1 + 1 = a_1 ∧ out ++ [name] = a_2) ∧ no = b)) := by
        refine fun hpk _ => br_dec (fun h8 => ?_) fun h8 m => ⟨by omega, i + 1, _, out ++ [name], no, ⟨by omega, by simp; omega, ?_, Nat.zero_le _, .inr ⟨by omega, ?_⟩⟩, by omega, rfl, ⟨rfl, rfl⟩, rfl⟩
        · rw [hbad (.inr (by omega)) _ hT]; exact ⟨rfl, rfl⟩
        · intro x hx
          rcases List.mem_append.1 hx with hx | hx
          · exact hok x hx
          · rw [List.mem_singleton.1 hx]; exact hpk
        · rw [List.map_append]; exact hT
      refine ⟨by omega, br_intro (fun h3 => ?_) fun h3 => br_intro (fun h4 => ⟨by omega, br_intro (fun h5 => ?_) fun h5 => fin ?_⟩) fun h4 => fin ?_⟩
      · rw [hbad (.inl (by unfold partOK; rw [show ownS name = false by simpa using h3]; rfl)) _ hT]; exact ⟨rfl, rfl⟩
      · rw [hbad (.inl (by unfold partOK; rw [show mayN name = false by simpa using h5, show own = false by simpa using h4, Bool.or_self, Bool.and_false])) _ hT]; exact ⟨rfl, rfl⟩
      · unfold partOK; rw [show ownS name = true by simpa using h3, show mayN name = true by simpa using h5, Bool.or_true]; rfl
      · unfold partOK; rw [show ownS name = true by simpa using h3, show own = true by simpa using h4]; rfl
  · obtain ⟨h1, h2⟩ : i = p.size + 1 ∧ out.map bl = splitB r := by
      rcases hrel with h | h
      · omega
      · exact h
    have hall : ∀ x ∈ splitB r, partOK own (ofL x) = true := by
      intro x hx
      rw [← h2, List.mem_map] at hx
      obtain ⟨y, hy, rfl⟩ := hx
      rw [ofL_bl]; exact hok y hy
    rw [hway, if_pos ⟨by rw [← h2, List.length_map]; exact hol, hall⟩]
    exact ⟨(map_of h2).symm, rfl⟩
theorem rparts_ok : ConOK Tryz.prog 42 rpartsC := by
  refine con_ok tab_ok (Γ := Γrparts) (consOK_cons rown_ok (consOK_cons rmay6_ok consOK_nil)) (by kernel_rfl) Tryz.func42 (by kernel_rfl) ?_
  intro args out h
  obtain ⟨x, e, h1⟩ := conN_inv h
  clear h
  obtain ⟨p, own, x0⟩ := x
  subst e
  replace h1 : (if p.size ≤ 4000000000 then some ⟨.tup [⟨.slice .str, (partsS p own).1⟩, ⟨.bool, (partsS p own).2⟩], []⟩ else none) = some out := h1
  split at h1
  case isFalse => cases h1
  rename_i hr
  injection h1 with h1
  subst h1
  exact ⟨by rw [mkArgs_len]; decide, rparts_ex p own hr⟩
end Go.Proofs.YthhjlbpmpffapaaGreatDoor
