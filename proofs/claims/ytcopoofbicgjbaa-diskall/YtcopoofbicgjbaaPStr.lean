/- Texts by their bytes. -/
import Derived.Test.YtcopoofbicgjbaaPBits
set_option linter.unusedVariables false
set_option linter.unusedSimpArgs false
namespace Go.Proofs.Ytcopoofbicgjbaa
open Go.Tm Go.IntWalk

abbrev no : ByteArray := ⟨#[]⟩
/-- The bytes of a text. -/
abbrev bl (s : ByteArray) : List UInt8 := s.data.toList
def ofL (l : List UInt8) : ByteArray := ⟨l.toArray⟩
@[simp] theorem bl_ofL (l : List UInt8) : bl (ofL l) = l := by simp [ofL]
theorem ofL_bl (s : ByteArray) : ofL (bl s) = s := by cases s; simp [ofL]
theorem bl_inj {s t : ByteArray} (h : bl s = bl t) : s = t := by rw [← ofL_bl s, ← ofL_bl t, h]
theorem bl_size (s : ByteArray) : s.size = (bl s).length := by cases s; simp [ByteArray.size]
theorem bl_append (s t : ByteArray) : bl (s ++ t) = bl s ++ bl t := by
  simp [ByteArray.data_append]
theorem bl_extract (s : ByteArray) (i j : Nat) : bl (s.extract i j) = ((bl s).drop i).take (j - i) := by
  rw [bl, ByteArray.data_extract, Array.toList_extract, List.extract_eq_take_drop]
theorem bl_strOf (l : List Int) : bl (strOf l) = l.map fun n => UInt8.ofNat n.toNat := by simp [strOf]
theorem toList_bl (s : ByteArray) : s.toList = bl s := ba_toList s
theorem byteAt_bl (s : ByteArray) (i : Nat) : byteAt s i = (((bl s).getD i 0).toNat : Int) := rfl
theorem byteAt_range (s : ByteArray) (i : Nat) : 0 ≤ byteAt s i ∧ byteAt s i < 256 := by
  rw [byteAt_bl]
  have := ((bl s).getD i 0).toNat_lt
  omega
theorem w_byte (s : ByteArray) (i : Nat) : IntKind.i64.wrap (byteAt s i) = byteAt s i := by
  have := byteAt_range s i
  exact i64_in _ (by omega)
theorem drop_at {s : ByteArray} {i : Nat} (h : i < s.size) : ∃ c : UInt8, (bl s).drop i = c :: (bl s).drop (i + 1) ∧ byteAt s i = (c.toNat : Int) := by
  have hl : i < (bl s).length := by rw [← bl_size]; exact h
  refine ⟨(bl s)[i], List.drop_eq_getElem_cons hl, ?_⟩
  rw [byteAt_bl, List.getD_eq_getElem?_getD, List.getElem?_eq_getElem hl]; rfl
theorem extract_ofL (s : ByteArray) (i n : Nat) : s.extract i (i + n) = ofL (((bl s).drop i).take n) := bl_inj (by rw [bl_extract, bl_ofL, Nat.add_sub_cancel_left])
/-- Are two texts alike? -/
def eqB (s t : ByteArray) : Bool := bl s == bl t
theorem eqB_iff {s t : ByteArray} : eqB s t = true ↔ s = t := by
  unfold eqB
  rw [beq_iff_eq]
  exact ⟨bl_inj, fun h => by rw [h]⟩
theorem eqB_refl (s : ByteArray) : eqB s s = true := eqB_iff.2 rfl
theorem eqB_ne {s t : ByteArray} (h : s ≠ t) : eqB s t = false := by
  cases e : eqB s t with
  | true => exact absurd (eqB_iff.1 e) h
  | false => rfl
/-- Which text is ahead of another one? -/
def ltB (s t : ByteArray) : Bool := Op.bytesLess (bl s) (bl t)
theorem less_irrefl : ∀ x : List UInt8, Op.bytesLess x x = false
  | [] => rfl
  | a :: x => by simp [Op.bytesLess, less_irrefl x]
theorem less_trans : ∀ {x y z : List UInt8}, Op.bytesLess x y = true → Op.bytesLess y z = true → Op.bytesLess x z = true
  | _, [], _, h, _ => by simp [Op.bytesLess] at h
  | _, _ :: _, [], _, h => by simp [Op.bytesLess] at h
  | [], _ :: _, _ :: _, _, _ => rfl
  | a :: x, b :: y, c :: z, h, k => by
    simp only [Op.bytesLess, Bool.or_eq_true, Bool.and_eq_true, decide_eq_true_eq, beq_iff_eq] at h k ⊢
    rcases h with h | ⟨rfl, h⟩ <;> rcases k with k | ⟨rfl, k⟩
    · exact .inl (UInt8.lt_trans h k)
    · exact .inl h
    · exact .inl k
    · exact .inr ⟨rfl, less_trans h k⟩
theorem less_tri : ∀ {x y : List UInt8}, Op.bytesLess x y = false → x = y ∨ Op.bytesLess y x = true
  | [], [], _ => .inl rfl
  | _ :: _, [], _ => .inr rfl
  | [], _ :: _, h => by simp [Op.bytesLess] at h
  | a :: x, b :: y, h => by
    simp only [Op.bytesLess, Bool.or_eq_false_iff, Bool.and_eq_false_imp, decide_eq_false_iff_not, beq_iff_eq] at h
    by_cases e : a = b
    · subst e
      rcases less_tri (h.2 rfl) with h2 | h2
      · exact .inl (by rw [h2])
      · exact .inr (by simp [Op.bytesLess, h2])
    · refine .inr ?_
      simp only [Op.bytesLess, Bool.or_eq_true, decide_eq_true_eq]
      refine .inl ?_
      have h1 := UInt8.not_lt.1 h.1
      exact UInt8.lt_of_le_of_ne h1 (fun e' => e e'.symm)
theorem ltB_irrefl (s : ByteArray) : ltB s s = false := less_irrefl _
theorem ltB_trans {s t u : ByteArray} (h : ltB s t = true) (k : ltB t u = true) : ltB s u = true := less_trans h k
theorem ltB_tri {s t : ByteArray} (h : ltB s t = false) : s = t ∨ ltB t s = true := (less_tri h).imp bl_inj id
theorem ltB_asymm {s t : ByteArray} (h : ltB s t = true) : ltB t s = false := by
  cases e : ltB t s with
  | false => rfl
  | true => have := ltB_trans h e; rw [ltB_irrefl] at this; cases this
theorem ltB_ne {s t : ByteArray} (h : ltB s t = true) : s ≠ t := fun e => by rw [e, ltB_irrefl] at h; cases h
theorem geq_eq (s t : ByteArray) : (!Op.bytesLess s.toList t.toList) = !ltB s t := by rw [toList_bl, toList_bl]; rfl
theorem gtr_eq (s t : ByteArray) : (!(Op.bytesLess s.toList t.toList || s.toList == t.toList)) = ltB t s := by
  rw [toList_bl, toList_bl]
  show (!(ltB s t || bl s == bl t)) = ltB t s
  cases h : ltB s t with
  | true => rw [ltB_asymm h]; rfl
  | false =>
    rcases ltB_tri h with e | e
    · subst e; simp [ltB_irrefl]
    · have : (bl s == bl t) = false := by
        rw [beq_eq_false_iff_ne]
        exact fun e' => ltB_ne e (bl_inj e').symm
      rw [this, e]; rfl
theorem gtr_eq' (s t : ByteArray) : (!Op.bytesLess s.toList t.toList && !(s.toList == t.toList)) = ltB t s := by rw [← gtr_eq, Bool.not_or]
theorem eql_eq (s t : ByteArray) : (s.toList == t.toList) = eqB s t := by rw [toList_bl, toList_bl]; rfl
end Go.Proofs.Ytcopoofbicgjbaa
