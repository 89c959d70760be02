/- Texts joined: PBits, PStr, Ref6o, Ref6a. -/
import Derived.Test.YtodkmhamaahjmaaGreatDoorTmC
import Derived.IntWalk
import Derived.Test.YtodkmhamaahjmaaGreatDoorTab
/- Whole numbers of the machine as natural numbers. -/
set_option linter.unusedVariables false
set_option linter.unusedSimpArgs false
namespace Go.Tm

theorem fdiv_nat (a b : Nat) : ((a : Int)).fdiv (b : Int) = ((a / b : Nat) : Int) := by
  rw [Int.fdiv_eq_ediv_of_nonneg _ (by omega)]; rfl
theorem tdiv_nat (a b : Nat) : ((a : Int)).tdiv (b : Int) = ((a / b : Nat) : Int) := rfl
theorem tmod_nat (a b : Nat) : ((a : Int)).tmod (b : Int) = ((a % b : Nat) : Int) := rfl
theorem wrap_u32_nat {a : Nat} (h : a < 4294967296) : IntKind.u32.wrap (a : Int) = (a : Int) := by rw [IntKind.wrap_u32]; omega
theorem wrap_u8_nat (a : Nat) : IntKind.u8.wrap (a : Int) = ((a % 256 : Nat) : Int) := by rw [IntKind.wrap_u8]; omega
theorem xor_u32 {a b : Nat} (ha : a < 4294967296) (hb : b < 4294967296) : Tm.bits .xor .u32 (a : Int) (b : Int) = ((a ^^^ b : Nat) : Int) := by
  have h : a ^^^ b < 2 ^ 32 := Nat.xor_lt_two_pow (by simpa using ha) (by simpa using hb)
  show IntKind.u32.wrap (((BitVec.ofInt 32 (a : Int) ^^^ BitVec.ofInt 32 (b : Int)).toNat : Nat) : Int) = _
  rw [BitVec.toNat_xor, BitVec.toNat_ofInt, BitVec.toNat_ofInt]
  have e1 : ((a : Int) % ((2 ^ 32 : Nat) : Int)).toNat = a := by omega
  have e2 : ((b : Int) % ((2 ^ 32 : Nat) : Int)).toNat = b := by omega
  rw [e1, e2]
  exact wrap_u32_nat h
theorem and_u32 {a b : Nat} (ha : a < 4294967296) (hb : b < 4294967296) : Tm.bits .and .u32 (a : Int) (b : Int) = ((a &&& b : Nat) : Int) := by
  have h : a &&& b < 2 ^ 32 := Nat.and_lt_two_pow a (by simpa using hb)
  show IntKind.u32.wrap (((BitVec.ofInt 32 (a : Int) &&& BitVec.ofInt 32 (b : Int)).toNat : Nat) : Int) = _
  rw [BitVec.toNat_and, BitVec.toNat_ofInt, BitVec.toNat_ofInt]
  have e1 : ((a : Int) % ((2 ^ 32 : Nat) : Int)).toNat = a := by omega
  have e2 : ((b : Int) % ((2 ^ 32 : Nat) : Int)).toNat = b := by omega
  rw [e1, e2]
  exact wrap_u32_nat h
theorem xor_u8 {a b : Nat} (ha : a < 256) (hb : b < 256) : Tm.bits .xor .u8 (a : Int) (b : Int) = ((a ^^^ b : Nat) : Int) := by
  have h : a ^^^ b < 2 ^ 8 := Nat.xor_lt_two_pow (by simpa using ha) (by simpa using hb)
  show IntKind.u8.wrap (((BitVec.ofInt 8 (a : Int) ^^^ BitVec.ofInt 8 (b : Int)).toNat : Nat) : Int) = _
  rw [BitVec.toNat_xor, BitVec.toNat_ofInt, BitVec.toNat_ofInt]
  have e1 : ((a : Int) % ((2 ^ 8 : Nat) : Int)).toNat = a := by omega
  have e2 : ((b : Int) % ((2 ^ 8 : Nat) : Int)).toNat = b := by omega
  rw [e1, e2, wrap_u8_nat]
  congr 1
  omega

theorem w_nat {z : Int} {n : Nat} (h : z = n) (hn : n ≤ 9223372036854775807) : IntKind.i64.wrap z = (n : Int) := by
  rw [IntWalk.i64_in _ (by omega), h]
theorem take_flatMap {α β : Type} (f : α → List β) (l : List α) (i : Nat) (h : i < l.length) (d : α) : (l.take (i + 1)).flatMap f = (l.take i).flatMap f ++ f (l.getD i d) := by
  rw [List.take_succ_eq_append_getElem h, List.flatMap_append, List.getD_eq_getElem?_getD, List.getElem?_eq_getElem h]
  simp
theorem flatMap_len {α β : Type} {f : α → List β} {c : Nat} (h : ∀ x, (f x).length = c) (l : List α) : (l.flatMap f).length = l.length * c := by
  induction l with
  | nil => simp
  | cons x l ih => rw [List.flatMap_cons, List.length_append, h, ih, List.length_cons, Nat.add_mul, Nat.one_mul, Nat.add_comm]
theorem bytesOf_len (s : ByteArray) : (bytesOf s).length = s.size := by
  unfold bytesOf
  rw [List.length_map, Array.length_toList]
  rfl
theorem bytesOf_B (s : ByteArray) : ∀ x ∈ bytesOf s, 0 ≤ x ∧ x < 256 := by
  intro x hx
  simp only [bytesOf, List.mem_map] at hx
  obtain ⟨y, _, rfl⟩ := hx
  have := y.toNat_lt
  omega
/-- Bytes as natural numbers. -/
def nats (l : List Int) : List Nat := l.map Int.toNat
def ints (l : List Nat) : List Int := l.map fun (n : Nat) => (n : Int)
def isB (l : List Int) : Prop := ∀ x ∈ l, 0 ≤ x ∧ x < 256
instance (l : List Int) : Decidable (isB l) := by unfold isB; infer_instance
theorem isB_nil : isB [] := by simp [isB]
theorem isB_cons {x : Int} {l : List Int} : isB (x :: l) ↔ (0 ≤ x ∧ x < 256) ∧ isB l := by simp [isB]
theorem isB_append {l m : List Int} : isB (l ++ m) ↔ isB l ∧ isB m := by
  simp only [isB, List.mem_append]
  exact ⟨fun h => ⟨fun x hx => h x (.inl hx), fun x hx => h x (.inr hx)⟩, fun h x hx => hx.elim (h.1 x) (h.2 x)⟩
theorem isB_getD {l : List Int} (h : isB l) (k : Nat) : 0 ≤ l.getD k 0 ∧ l.getD k 0 < 256 := by
  rw [List.getD_eq_getElem?_getD]
  cases hk : l[k]? with
  | none => simp
  | some x => exact h x (List.mem_of_getElem? hk)
theorem isB_take {l : List Int} (h : isB l) (k : Nat) : isB (l.take k) := fun x hx => h x (List.mem_of_mem_take hx)
theorem isB_drop {l : List Int} (h : isB l) (k : Nat) : isB (l.drop k) := fun x hx => h x (List.mem_of_mem_drop hx)
theorem ints_nats {l : List Int} (h : isB l) : ints (nats l) = l := by
  unfold ints nats
  rw [List.map_map]
  conv => rhs; rw [← List.map_id l]
  refine List.map_congr_left fun x hx => ?_
  have := h x hx
  simp; omega
theorem nats_lt {l : List Int} (h : isB l) : ∀ x ∈ nats l, x < 256 := by
  intro x hx
  simp only [nats, List.mem_map] at hx
  obtain ⟨y, hy, rfl⟩ := hx
  have := h y hy
  omega
theorem nats_append (l m : List Int) : nats (l ++ m) = nats l ++ nats m := by simp [nats]
theorem nats_length (l : List Int) : (nats l).length = l.length := by simp [nats]
theorem ints_set (l : List Nat) (p y : Nat) : (ints l).set p (y : Int) = ints (l.set p y) := by simp [ints, List.map_set]
theorem ints_getD (l : List Nat) (p : Nat) : (ints l).getD p 0 = ((l.getD p 0 : Nat) : Int) := by
  simp only [ints, List.getD_eq_getElem?_getD, List.getElem?_map]
  cases l[p]? <;> rfl
theorem ints_length (l : List Nat) : (ints l).length = l.length := by simp [ints]
theorem nats_ints (l : List Nat) : nats (ints l) = l := by
  simp only [nats, ints, List.map_map]
  conv => rhs; rw [← List.map_id l]
  exact List.map_congr_left fun x _ => by simp
theorem isB_ints {l : List Nat} (h : ∀ x ∈ l, x < 256) : isB (ints l) := by
  intro x hx
  simp only [ints, List.mem_map] at hx
  obtain ⟨y, hy, rfl⟩ := hx
  have := h y hy
  omega
theorem getD_lt {l : List Nat} (h : ∀ x ∈ l, x < 256) (p : Nat) : l.getD p 0 < 256 := by
  rw [List.getD_eq_getElem?_getD]
  cases hp : l[p]? with
  | none => simp
  | some x => exact h x (List.mem_of_getElem? hp)
theorem set_lt {l : List Nat} (h : ∀ x ∈ l, x < 256) (p : Nat) {y : Nat} (hy : y < 256) : ∀ x ∈ l.set p y, x < 256 := by
  intro x hx
  rcases List.mem_or_eq_of_mem_set hx with h' | h'
  · exact h x h'
  · omega
theorem okv_arr {n : Nat} {l : List Int} (h : okv (.arr n (.int .u8)) l) : isB l := by
  intro x hx
  have := h.2 x hx
  simp [okv, Lit.wf, IntKind.has, IntKind.min, IntKind.max, IntKind.signed, IntKind.bits] at this
  omega
theorem strOf_bytesOf (s : ByteArray) : strOf (bytesOf s) = s := by
  unfold strOf bytesOf
  rw [List.map_map]
  have : (List.map ((fun n : Int => UInt8.ofNat n.toNat) ∘ fun b : UInt8 => (b.toNat : Int)) s.data.toList) = s.data.toList := by
    conv => rhs; rw [← List.map_id s.data.toList]
    exact List.map_congr_left fun x _ => by simp
  rw [this]
theorem bytesOf_strOf {l : List Int} (h : isB l) : bytesOf (strOf l) = l := by
  unfold strOf bytesOf
  rw [List.map_map]
  conv => rhs; rw [← List.map_id l]
  refine List.map_congr_left fun x hx => ?_
  have := h x hx
  simp
  omega
theorem isB_bytesOf (s : ByteArray) : isB (bytesOf s) := bytesOf_B s
theorem size_strOf (l : List Int) : (strOf l).size = l.length := by
  show (strOf l).data.size = l.length
  simp [strOf]
theorem strOf_inj {l m : List Int} (hl : isB l) (hm : isB m) (h : strOf l = strOf m) : l = m := by rw [← bytesOf_strOf hl, ← bytesOf_strOf hm, h]
theorem ba_loop (s : ByteArray) : ∀ (n i : Nat) (r : List UInt8), s.size - i = n → ByteArray.toList.loop s i r = r.reverse ++ s.data.toList.drop i := by
  intro n
  induction n with
  | zero =>
    intro i r h
    rw [ByteArray.toList.loop, if_neg (by omega), List.drop_of_length_le (by rw [Array.length_toList]; show s.size ≤ i; omega), List.append_nil]
  | succ n ih =>
    intro i r h
    rw [ByteArray.toList.loop, if_pos (by omega), ih (i + 1) _ (by omega)]
    have hlt : i < s.data.toList.length := by rw [Array.length_toList]; show i < s.size; omega
    rw [List.drop_eq_getElem_cons hlt, List.reverse_cons, List.append_assoc]
    have e : s.get! i = s.data.toList[i] := by
      show s.data[i]! = _
      rw [getElem!_pos s.data i (by rw [Array.length_toList] at hlt; exact hlt)]
      simp
    rw [e]
    rfl
theorem ba_toList (s : ByteArray) : s.toList = s.data.toList := by
  rw [ByteArray.toList, ba_loop s _ 0 [] rfl]
  simp
theorem ba_inj {s t : ByteArray} (h : s.toList = t.toList) : s = t := by
  rw [ba_toList, ba_toList] at h
  cases s; cases t
  simp only [Array.toList_inj] at h
  rw [h]
theorem okv_u8 {x : Int} (h : okv (.int .u8) x) : ∃ n : Nat, x = n ∧ n < 256 := by
  simp [okv, Lit.wf, IntKind.has, IntKind.min, IntKind.max, IntKind.signed, IntKind.bits] at h
  exact ⟨x.toNat, by omega, by omega⟩
theorem okv_u16 {x : Int} (h : okv (.int .u16) x) : ∃ n : Nat, x = n ∧ n < 65536 := by
  simp [okv, Lit.wf, IntKind.has, IntKind.min, IntKind.max, IntKind.signed, IntKind.bits] at h
  exact ⟨x.toNat, by omega, by omega⟩
theorem okv_u32 {x : Int} (h : okv (.int .u32) x) : ∃ n : Nat, x = n ∧ n < 4294967296 := by
  simp [okv, Lit.wf, IntKind.has, IntKind.min, IntKind.max, IntKind.signed, IntKind.bits] at h
  exact ⟨x.toNat, by omega, by omega⟩
theorem okv_i64 {x : Int} (h : okv (.int .i64) x) : -9223372036854775808 ≤ x ∧ x ≤ 9223372036854775807 := by
  simpa [okv, Lit.wf, IntKind.has, IntKind.min, IntKind.max, IntKind.signed, IntKind.bits] using h
theorem okv_bytes {l : List Int} (h : okv (.slice (.int .u8)) l) : isB l := by
  intro x hx
  have := h.2 x hx
  simp [okv, Lit.wf, IntKind.has, IntKind.min, IntKind.max, IntKind.signed, IntKind.bits] at this
  omega
end Go.Tm

/- Texts by their bytes. -/
set_option linter.unusedVariables false
set_option linter.unusedSimpArgs false
namespace Go.Proofs.YtodkmhamaahjmaaGreatDoor
open Go.Tm Go.IntWalk

abbrev no : ByteArray := ⟨#[]⟩
/-- The bytes of a text. -/
abbrev bl (s : ByteArray) : List UInt8 := s.data.toList
def ofL (l : List UInt8) : ByteArray := ⟨l.toArray⟩
@[simp] theorem bl_ofL (l : List UInt8) : bl (ofL l) = l := by simp [ofL]
theorem ofL_bl (s : ByteArray) : ofL (bl s) = s := by cases s; simp [ofL]
theorem bl_inj {s t : ByteArray} (h : bl s = bl t) : s = t := by rw [← ofL_bl s, ← ofL_bl t, h]
theorem bl_size (s : ByteArray) : s.size = (bl s).length := by cases s; simp [ByteArray.size]
theorem bl_append (s t : ByteArray) : bl (s ++ t) = bl s ++ bl t := by
  simp [ByteArray.data_append]
theorem bl_extract (s : ByteArray) (i j : Nat) : bl (s.extract i j) = ((bl s).drop i).take (j - i) := by
  rw [bl, ByteArray.data_extract, Array.toList_extract, List.extract_eq_take_drop]
theorem bl_strOf (l : List Int) : bl (strOf l) = l.map fun n => UInt8.ofNat n.toNat := by simp [strOf]
theorem toList_bl (s : ByteArray) : s.toList = bl s := ba_toList s
theorem byteAt_bl (s : ByteArray) (i : Nat) : byteAt s i = (((bl s).getD i 0).toNat : Int) := rfl
theorem byteAt_range (s : ByteArray) (i : Nat) : 0 ≤ byteAt s i ∧ byteAt s i < 256 := by
  rw [byteAt_bl]
  have := ((bl s).getD i 0).toNat_lt
  omega
theorem w_byte (s : ByteArray) (i : Nat) : IntKind.i64.wrap (byteAt s i) = byteAt s i := by
  have := byteAt_range s i
  exact i64_in _ (by omega)
theorem drop_at {s : ByteArray} {i : Nat} (h : i < s.size) : ∃ c : UInt8, (bl s).drop i = c :: (bl s).drop (i + 1) ∧ byteAt s i = (c.toNat : Int) := by
  have hl : i < (bl s).length := by rw [← bl_size]; exact h
  refine ⟨(bl s)[i], List.drop_eq_getElem_cons hl, ?_⟩
  rw [byteAt_bl, List.getD_eq_getElem?_getD, List.getElem?_eq_getElem hl]; rfl
theorem extract_ofL (s : ByteArray) (i n : Nat) : s.extract i (i + n) = ofL (((bl s).drop i).take n) := bl_inj (by rw [bl_extract, bl_ofL, Nat.add_sub_cancel_left])
/-- Are two texts alike? -/
def eqB (s t : ByteArray) : Bool := bl s == bl t
theorem eqB_iff {s t : ByteArray} : eqB s t = true ↔ s = t := by
  unfold eqB
  rw [beq_iff_eq]
  exact ⟨bl_inj, fun h => by rw [h]⟩
theorem eqB_refl (s : ByteArray) : eqB s s = true := eqB_iff.2 rfl
theorem eqB_ne {s t : ByteArray} (h : s ≠ t) : eqB s t = false := by
  cases e : eqB s t with
  | true => exact absurd (eqB_iff.1 e) h
  | false => rfl
/-- Which text is ahead of another one? -/
def ltB (s t : ByteArray) : Bool := Op.bytesLess (bl s) (bl t)
theorem less_irrefl : ∀ x : List UInt8, Op.bytesLess x x = false
  | [] => rfl
  | a :: x => by simp [Op.bytesLess, less_irrefl x]
theorem less_trans : ∀ {x y z : List UInt8}, Op.bytesLess x y = true → Op.bytesLess y z = true → Op.bytesLess x z = true
  | _, [], _, h, _ => by simp [Op.bytesLess] at h
  | _, _ :: _, [], _, h => by simp [Op.bytesLess] at h
  | [], _ :: _, _ :: _, _, _ => rfl
  | a :: x, b :: y, c :: z, h, k => by
    simp only [Op.bytesLess, Bool.or_eq_true, Bool.and_eq_true, decide_eq_true_eq, beq_iff_eq] at h k ⊢
    rcases h with h | ⟨rfl, h⟩ <;> rcases k with k | ⟨rfl, k⟩
    · exact .inl (UInt8.lt_trans h k)
    · exact .inl h
    · exact .inl k
    · exact .inr ⟨rfl, less_trans h k⟩
theorem less_tri : ∀ {x y : List UInt8}, Op.bytesLess x y = false → x = y ∨ Op.bytesLess y x = true
  | [], [], _ => .inl rfl
  | _ :: _, [], _ => .inr rfl
  | [], _ :: _, h => by simp [Op.bytesLess] at h
  | a :: x, b :: y, h => by
    simp only [Op.bytesLess, Bool.or_eq_false_iff, Bool.and_eq_false_imp, decide_eq_false_iff_not, beq_iff_eq] at h
    by_cases e : a = b
    · subst e
      rcases less_tri (h.2 rfl) with h2 | h2
      · exact .inl (by rw [h2])
      · exact .inr (by simp [Op.bytesLess, h2])
    · refine .inr ?_
      simp only [Op.bytesLess, Bool.or_eq_true, decide_eq_true_eq]
      refine .inl ?_
      have h1 := UInt8.not_lt.1 h.1
      exact UInt8.lt_of_le_of_ne h1 (fun e' => e e'.symm)
theorem ltB_irrefl (s : ByteArray) : ltB s s = false := less_irrefl _
theorem ltB_trans {s t u : ByteArray} (h : ltB s t = true) (k : ltB t u = true) : ltB s u = true := less_trans h k
theorem ltB_tri {s t : ByteArray} (h : ltB s t = false) : s = t ∨ ltB t s = true := (less_tri h).imp bl_inj id
theorem ltB_asymm {s t : ByteArray} (h : ltB s t = true) : ltB t s = false := by
  cases e : ltB t s with
  | false => rfl
  | true => have := ltB_trans h e; rw [ltB_irrefl] at this; cases this
theorem ltB_ne {s t : ByteArray} (h : ltB s t = true) : s ≠ t := fun e => by rw [e, ltB_irrefl] at h; cases h
theorem geq_eq (s t : ByteArray) : (!Op.bytesLess s.toList t.toList) = !ltB s t := by rw [toList_bl, toList_bl]; rfl
theorem gtr_eq (s t : ByteArray) : (!(Op.bytesLess s.toList t.toList || s.toList == t.toList)) = ltB t s := by
  rw [toList_bl, toList_bl]
  show (!(ltB s t || bl s == bl t)) = ltB t s
  cases h : ltB s t with
  | true => rw [ltB_asymm h]; rfl
  | false =>
    rcases ltB_tri h with e | e
    · subst e; simp [ltB_irrefl]
    · have : (bl s == bl t) = false := by
        rw [beq_eq_false_iff_ne]
        exact fun e' => ltB_ne e (bl_inj e').symm
      rw [this, e]; rfl
theorem gtr_eq' (s t : ByteArray) : (!Op.bytesLess s.toList t.toList && !(s.toList == t.toList)) = ltB t s := by rw [← gtr_eq, Bool.not_or]
theorem eql_eq (s t : ByteArray) : (s.toList == t.toList) = eqB s t := by rw [toList_bl, toList_bl]; rfl
end Go.Proofs.YtodkmhamaahjmaaGreatDoor

/- The reference's names, walked. -/
set_option maxRecDepth 10000
set_option linter.unusedSimpArgs false
set_option linter.unusedVariables false
set_option pp.deepTerms.threshold 14
namespace Go.Proofs.YtodkmhamaahjmaaGreatDoor
open Go.Tm Go.IntWalk

def okC (c : UInt8) : Bool := !(decide (c < 33) || decide (126 < c) || c == 47)
def ownS (s : ByteArray) : Bool := (bl s).all okC && decide (1 ≤ s.size) && decide (s.size ≤ 6)
def mayN (s : ByteArray) : Bool := ownS s && !(byteAt s 0 == 126)
theorem okC_byte {s : ByteArray} {i : Nat} (h : i < s.size) : okC ((bl s)[i]'(by rw [← bl_size]; exact h)) = (!(decide (byteAt s i < 33) || decide (126 < byteAt s i) || (byteAt s i == 47))) := by
  have hl : i < (bl s).length := by rw [← bl_size]; exact h
  rw [byteAt_bl, List.getD_eq_getElem?_getD, List.getElem?_eq_getElem hl, Option.getD_some]
  generalize (bl s)[i] = c
  unfold okC
  have e1 : decide (c < 33) = decide ((c.toNat : Int) < 33) := by
    rw [decide_eq_decide, UInt8.lt_iff_toNat_lt]
    exact ⟨fun h => by have : c.toNat < 33 := h; omega, fun h => by show c.toNat < 33; omega⟩
  have e2 : decide (126 < c) = decide (126 < (c.toNat : Int)) := by
    rw [decide_eq_decide, UInt8.lt_iff_toNat_lt]
    exact ⟨fun h => by have : 126 < c.toNat := h; omega, fun h => by show 126 < c.toNat; omega⟩
  have e3 : (c == 47) = ((c.toNat : Int) == 47) := by
    rw [Bool.eq_iff_iff, beq_iff_eq, beq_iff_eq, ← UInt8.toNat_inj]
    exact ⟨fun h => by have : c.toNat = 47 := h; omega, fun h => by show c.toNat = 47; omega⟩
  rw [e1, e2, e3]
theorem ownS_bad {s : ByteArray} {i : Nat} (h : i < s.size) (hb : (!(decide (byteAt s i < 33) || decide (126 < byteAt s i) || (byteAt s i == 47))) = false) : ownS s = false := by
  have hl : i < (bl s).length := by rw [← bl_size]; exact h
  unfold ownS
  rw [show (bl s).all okC = false from List.all_eq_false.2 ⟨(bl s)[i], List.getElem_mem hl, by rw [okC_byte h, hb]; decide⟩]
  rfl
/-- The contract of glacisref6.Own. -/
def rownC : Con := conN [(.v, .str)] fun (s, _) => if s.size ≤ 9000000000000000000 then some ⟨.val ⟨.bool, ownS s⟩, []⟩ else none
theorem rownC_eq {s : ByteArray} : rownC [.val ⟨.str, s⟩] = if s.size ≤ 9000000000000000000 then some ⟨.val ⟨.bool, ownS s⟩, []⟩ else none := conN_mk (ks := [(.v, .str)]) (s, ())
def Γrown : Cons := cons []
theorem rown_ex (s : ByteArray) (hr : s.size ≤ 9000000000000000000) : Ex tab Γrown (Tryz.f70.body.getD .skip) (EndsF tab Tryz.f70.results.toList [.val ⟨.str, s⟩] ⟨.val ⟨.bool, ownS s⟩, []⟩) (ini [.val ⟨.str, s⟩]) := by
  simp only [Tryz.f70, Option.getD_some]
  simp (implicitDefEqProofs := false) (decide := true) (maxSteps := 4000000) [ini]
  refine ex_loopU (σ := Nat) [2, 3, 4, 5, 6, 7, 8, 9, 10, 11, 12, 13, 14, 15, 16, 17, 18, 19, 20, 21, 22, 23, 24, 25] (fun a => [(3, .val (.int .i64) (a : Int))]) (fun a => a ≤ s.size ∧ ∀ c ∈ (bl s).take a, okC c = true) (fun a => s.size - a) 0 ⟨Nat.zero_le _, by simp⟩ (hc rfl hn) ?_
  rintro j i ⟨hi, ha⟩
  simp (implicitDefEqProofs := false) (decide := true) (maxSteps := 4000000) [ini]
  refine br_dec (fun hlt => ⟨hlt, br_intro (fun h1 => ownS_bad hlt (by rw [h1]; rfl)) fun h1 => ⟨hlt, br_intro (fun h2 => ownS_bad hlt (by rw [h1, h2]; rfl)) fun h2 => ⟨hlt, br_intro (fun h3 => ownS_bad hlt (by rw [h1, h2, h3]; rfl)) fun h3 => ?_⟩⟩⟩) fun hge => ?_
  · refine ⟨i + 1, ⟨hlt, fun c hc => ?_⟩, by omega, w_nat rfl (by omega)⟩
    have hl : i < (bl s).length := by rw [← bl_size]; exact hlt
    rw [List.take_succ_eq_append_getElem hl, List.mem_append, List.mem_singleton] at hc
    rcases hc with hc | rfl
    · exact ha c hc
    · rw [okC_byte hlt, h1, h2, h3]; rfl
  · have e : i = s.size := by omega
    have hall : (bl s).all okC = true := List.all_eq_true.2 fun c hc => ha c (by rw [e, bl_size, List.take_length]; exact hc)
    unfold ownS
    rw [hall]
    refine br_dec (fun h => ?_) fun h => ?_
    · have h : 1 ≤ s.size := by omega
      simp only [h, decide_true, Bool.true_and]
      rw [decide_eq_decide]; omega
    · have h : ¬ 1 ≤ s.size := by omega
      simp [h]
theorem rown_ok : ConOK Tryz.prog 70 rownC := by
  refine con_ok tab_ok (Γ := Γrown) consOK_nil (by kernel_rfl) Tryz.func70 (by kernel_rfl) ?_
  intro args out h
  obtain ⟨x, e, h1⟩ := conN_inv h
  clear h
  obtain ⟨s, x0⟩ := x
  subst e
  replace h1 : (if s.size ≤ 9000000000000000000 then some ⟨.val ⟨.bool, ownS s⟩, []⟩ else none) = some out := h1
  split at h1
  case isFalse => cases h1
  rename_i hr
  injection h1 with h1
  subst h1
  exact ⟨by rw [mkArgs_len]; decide, rown_ex s hr⟩
theorem ownS_size {s : ByteArray} (h : ownS s = true) : 1 ≤ s.size ∧ s.size ≤ 6 := by
  unfold ownS at h
  simp only [Bool.and_eq_true, decide_eq_true_eq] at h
  exact ⟨h.1.2, h.2⟩
end Go.Proofs.YtodkmhamaahjmaaGreatDoor

/- The reference's names and ways, walked. -/
set_option maxRecDepth 10000
set_option linter.unusedSimpArgs false
set_option linter.unusedVariables false
set_option pp.deepTerms.threshold 14
namespace Go.Proofs.YtodkmhamaahjmaaGreatDoor
open Go.Tm Go.IntWalk

/-- The contract of glacisref6.May. -/
def rmay6C : Con := conN [(.v, .str)] fun (s, _) => if s.size ≤ 9000000000000000000 then some ⟨.val ⟨.bool, mayN s⟩, []⟩ else none
theorem rmay6C_eq {s : ByteArray} : rmay6C [.val ⟨.str, s⟩] = if s.size ≤ 9000000000000000000 then some ⟨.val ⟨.bool, mayN s⟩, []⟩ else none := conN_mk (ks := [(.v, .str)]) (s, ())
def Γrmay6 : Cons := cons [(70, rownC)]
theorem rmay6_ex (s : ByteArray) (hr : s.size ≤ 9000000000000000000) : Ex tab Γrmay6 (Tryz.f71.body.getD .skip) (EndsF tab Tryz.f71.results.toList [.val ⟨.str, s⟩] ⟨.val ⟨.bool, mayN s⟩, []⟩) (ini [.val ⟨.str, s⟩]) := by
  have g_rown : Γrmay6 70 = some rownC := rfl
  simp only [Tryz.f71, Option.getD_some]
  simp (implicitDefEqProofs := false) (decide := true) (maxSteps := 4000000) [ini, g_rown, rownC_eq]
  refine ⟨hr, br_intro (fun h => ⟨by have := ownS_size h; omega, ?_⟩) fun h => ?_⟩
  · rw [mayN, h]; rfl
  · rw [mayN, h]; rfl
theorem rmay6_ok : ConOK Tryz.prog 71 rmay6C := by
  refine con_ok tab_ok (Γ := Γrmay6) (consOK_cons rown_ok consOK_nil) (by kernel_rfl) Tryz.func71 (by kernel_rfl) ?_
  intro args out h
  obtain ⟨x, e, h1⟩ := conN_inv h
  clear h
  obtain ⟨s, x0⟩ := x
  subst e
  replace h1 : (if s.size ≤ 9000000000000000000 then some ⟨.val ⟨.bool, mayN s⟩, []⟩ else none) = some out := h1
  split at h1
  case isFalse => cases h1
  rename_i hr
  injection h1 with h1
  subst h1
  exact ⟨by rw [mkArgs_len]; decide, rmay6_ex s hr⟩
/-- The parts of a text between slashes. -/
def splitB : List UInt8 → List (List UInt8)
  | [] => [[]]
  | c :: r => if c = 47 then [] :: splitB r else match splitB r with
    | h :: t => (c :: h) :: t
    | [] => [[c]]
theorem splitB_ne : ∀ l : List UInt8, splitB l ≠ []
  | [], h => by cases h
  | c :: r, h => by
    unfold splitB at h
    split at h
    · cases h
    · split at h <;> cases h
/-- A text, of which the first part began with some bytes already. -/
def glue (p : List UInt8) (l : List (List UInt8)) : List (List UInt8) :=
  match l with
  | h :: t => (p ++ h) :: t
  | [] => [p]
theorem glue_nil (l : List UInt8) : glue [] (splitB l) = splitB l := by
  cases h : splitB l with
  | nil => exact absurd h (splitB_ne l)
  | cons a t => rfl
theorem glue_byte {p : List UInt8} {c : UInt8} {r : List UInt8} (h : c ≠ 47) : glue p (splitB (c :: r)) = glue (p ++ [c]) (splitB r) := by
  rw [splitB, if_neg h]
  cases splitB r <;> simp [glue]
theorem glue_slash {p : List UInt8} {r : List UInt8} : glue p (splitB (47 :: r)) = p :: splitB r := by
  rw [splitB, if_pos rfl]; simp [glue]
theorem glue_end {p : List UInt8} : glue p (splitB []) = [p] := by simp [splitB, glue]
def partOK (own : Bool) (s : ByteArray) : Bool := ownS s && (own || mayN s)
def partsS (p : ByteArray) (own : Bool) : List ByteArray × Bool :=
  if bl p = [47] then ([], true) else
  match bl p with
  | 47 :: r => if ((splitB r).length ≤ 8 ∧ ∀ x ∈ splitB r, partOK own (ofL x) = true) then ((splitB r).map ofL, true) else ([], false)
  | _ => ([], false)
theorem partsS_root {p : ByteArray} {own : Bool} (h : bl p = [47]) : partsS p own = ([], true) := if_pos h
theorem partsS_other {p : ByteArray} {own : Bool} (h : ∀ r, bl p ≠ 47 :: r) : partsS p own = ([], false) := by
  unfold partsS
  rw [if_neg (h [])]
  split
  · rename_i r e; exact absurd e (h r)
  · rfl
theorem partsS_way {p : ByteArray} {own : Bool} {r : List UInt8} (h : bl p = 47 :: r) (hr : r ≠ []) : partsS p own = if ((splitB r).length ≤ 8 ∧ ∀ x ∈ splitB r, partOK own (ofL x) = true) then ((splitB r).map ofL, true) else ([], false) := by
  unfold partsS
  rw [if_neg (by rw [h]; intro e; injection e with _ e; exact hr e), h]
  rfl
theorem map_of {out : List ByteArray} {l : List (List UInt8)} (h : out.map bl = l) : l.map ofL = out := by
  rw [← h, List.map_map]
  conv => rhs; rw [← List.map_id out]
  exact List.map_congr_left fun s _ => ofL_bl s
theorem byte_47 {s : ByteArray} {i : Nat} (h : i < s.size) : (byteAt s i = 47) ↔ (bl s)[i]'(by rw [← bl_size]; exact h) = 47 := by
  have hl : i < (bl s).length := by rw [← bl_size]; exact h
  rw [byteAt_bl, List.getD_eq_getElem?_getD, List.getElem?_eq_getElem hl, Option.getD_some, ← UInt8.toNat_inj]
  exact ⟨fun h => by show (bl s)[i].toNat = 47; omega, fun h => by have : (bl s)[i].toNat = 47 := h; omega⟩
/-- The contract of glacisref6.Parts. -/
def rpartsC : Con := conN [(.v, .str), (.v, .bool)] fun (p, own, _) => if p.size ≤ 4000000000 then some ⟨.tup [⟨.slice .str, (partsS p own).1⟩, ⟨.bool, (partsS p own).2⟩], []⟩ else none
theorem rpartsC_eq {p : ByteArray} {own : Bool} : rpartsC [.val ⟨.str, p⟩, .val ⟨.bool, own⟩] = if p.size ≤ 4000000000 then some ⟨.tup [⟨.slice .str, (partsS p own).1⟩, ⟨.bool, (partsS p own).2⟩], []⟩ else none := conN_mk (ks := [(.v, .str), (.v, .bool)]) (p, own, ())
def Γrparts : Cons := cons [(70, rownC), (71, rmay6C)]
theorem rparts_ex (p : ByteArray) (own : Bool) (hr : p.size ≤ 4000000000) : Ex tab Γrparts (Tryz.f39.body.getD .skip) (EndsF tab Tryz.f39.results.toList [.val ⟨.str, p⟩, .val ⟨.bool, own⟩] ⟨.tup [⟨.slice .str, (partsS p own).1⟩, ⟨.bool, (partsS p own).2⟩], []⟩) (ini [.val ⟨.str, p⟩, .val ⟨.bool, own⟩]) := by
  have g_rown : Γrparts 70 = some rownC := rfl
  have g_rmay6 : Γrparts 71 = some rmay6C := rfl
  simp only [Tryz.f39, Option.getD_some]
  simp (implicitDefEqProofs := false) (decide := true) (maxSteps := 4000000) [ini, g_rown, rownC_eq, g_rmay6, rmay6C_eq]
  have hsz := bl_size p
  refine br_intro (fun h => ?_) fun h0 => br_intro (fun h => ?_) fun h1 => ⟨?_, br_intro (fun h => ?_) fun h2 => ?_⟩
  · rw [beq_iff_eq, toList_bl] at h
    rw [partsS_root h]; exact ⟨rfl, rfl⟩
  · have h : p.size = 0 := by simpa using h
    rw [partsS_other fun r e => ?_]; exact ⟨rfl, rfl⟩
    rw [e, List.length_cons] at hsz
    omega
  · have h : ¬ p.size = 0 := by simpa using h1
    show 0 < p.size
    omega
  · rw [partsS_other fun r e => ?_]; exact ⟨rfl, rfl⟩
    have h3 : byteAt p 0 ≠ 47 := by simpa using h
    apply h3
    rw [byteAt_bl, e]; rfl
  have hp0 : 0 < p.size := by have h : ¬ p.size = 0 := by simpa using h1
                              omega
  have h47 : byteAt p 0 = 47 := by simpa using h2
  obtain ⟨r, hpr⟩ : ∃ r, bl p = 47 :: r := by
    have := (byte_47 hp0).1 h47
    cases e : bl p with
    | nil => rw [e, List.length_nil] at hsz; omega
    | cons c r => simp only [e, List.getElem_cons_zero] at this; exact ⟨r, by rw [this]⟩
  have hrn : r ≠ [] := by
    rintro rfl
    rw [toList_bl, hpr] at h0
    simp at h0
  have hway := partsS_way (own := own) hpr hrn
  have hrl : p.size = r.length + 1 := by rw [hsz, hpr]; rfl
  refine ex_loopN 6 .str rfl (σ := Nat × Nat × List ByteArray × ByteArray) [4, 5, 6, 7, 8, 19, 20, 21, 22, 23, 24, 25, 26, 27, 28, 29, 30, 31, 32, 33, 34, 35, 36, 37, 38, 39, 40, 41, 42, 43, 44, 45, 46, 47, 48, 49, 50, 51, 52, 53, 54, 55, 56, 57, 58, 59, 60, 61, 62] (fun a => [(8, .val (.int .i64) (a.1 : Int)), (6, .own a.2.1 .str a.2.2.1), (7, .val .str a.2.2.2)])
    (fun a => 1 ≤ a.1 ∧ a.2.2.1.length ≤ 8 ∧ (∀ x ∈ a.2.2.1, partOK own x = true) ∧ a.2.2.2.size ≤ a.1 ∧ ((a.1 ≤ p.size ∧ a.2.2.1.map bl ++ glue (bl a.2.2.2) (splitB ((bl p).drop a.1)) = splitB r) ∨ (a.1 = p.size + 1 ∧ a.2.2.1.map bl = splitB r))) (fun a => p.size + 1 - a.1)
    (fun m => ⟨(1, m, [], no), ⟨Nat.le_refl 1, Nat.zero_le _, by simp, Nat.zero_le _, .inl ⟨hp0, ?_⟩⟩, hc rfl (hc rfl (hc rfl hn))⟩) ?_
  · rw [hpr]; exact glue_nil r
  rintro m j ⟨i, q, out, name⟩ ⟨hi, hol, hok, hns, hrel⟩
  simp only at hi hol hok hns hrel
  simp (implicitDefEqProofs := false) (decide := true) (maxSteps := 4000000) [ini, g_rown, rownC_eq, g_rmay6, rmay6C_eq]
  have hno : bl no = [] := rfl
  have w1 : IntKind.i64.wrap ((i : Int) + 1) = ((i + 1 : Nat) : Int) := w_nat rfl (by rcases hrel with h | h <;> omega)
  rw [w1]
  have hbad : (partOK own name = false ∨ 8 ≤ out.length) → ∀ T, out.map bl ++ bl name :: T = splitB r → partsS p own = ([], false) := by
    intro h T hT
    rw [hway, if_neg]
    rintro ⟨k1, k2⟩
    rcases h with h | h
    · have := k2 (bl name) (by rw [← hT]; simp)
      rw [ofL_bl, h] at this; cases this
    · rw [← hT, List.length_append, List.length_map, List.length_cons] at k1
      omega
  refine br_dec (fun hle => ?_) fun hgt => ?_
  · have hr1 : out.map bl ++ glue (bl name) (splitB ((bl p).drop i)) = splitB r := by
      rcases hrel with h | h
      · exact h.2
      · omega
    have hend : i = p.size → out.map bl ++ bl name :: [] = splitB r := by
      intro e
      rw [← hr1, List.drop_eq_nil_of_le (by omega), glue_end]
    have hnm : ∀ h : i < p.size, (bl p).drop i = (bl p)[i]'(by omega) :: (bl p).drop (i + 1) := fun h => by rw [List.drop_eq_getElem_cons]
    have hmid : i < p.size → byteAt p i = 47 → out.map bl ++ bl name :: splitB ((bl p).drop (i + 1)) = splitB r := by
      intro h e
      rw [← hr1, hnm h, (byte_47 h).1 e, glue_slash]
    refine br_dec (fun hlt => ⟨hlt, br_intro (fun hb => ?_) fun hb => ?_⟩) fun hge => ?_
    · have hb : (bl p)[i]'(by omega) ≠ 47 := fun e => by
        have := (byte_47 hlt).2 e
        rw [this] at hb; simp at hb
      have hx : bl (name ++ p.extract i (i + 1)) = bl name ++ [(bl p)[i]'(by omega)] := by
        rw [bl_append, bl_extract, hnm hlt, show i + 1 - i = 1 by omega]
        rfl
      have hxs : (name ++ p.extract i (i + 1)).size = name.size + 1 := by rw [bl_size, hx, List.length_append, ← bl_size]; rfl
      refine ⟨⟨by omega, by omega⟩, by omega, by omega, i + 1, q, out, _, ⟨by omega, hol, hok, ?_, .inl ⟨by omega, ?_⟩⟩, by omega, rfl, ⟨rfl, rfl⟩, rfl⟩
      · rw [Int.toNat_natCast, hxs]; omega
      · rw [Int.toNat_natCast, hx, ← hr1, hnm hlt, glue_byte hb]
    · have hb : byteAt p i = 47 := by simpa using hb
      have hT := hmid hlt hb
      have fin : partOK own name = true → (out.length ≤ maxLen → br (decide (8 ≤ (out.length : Int))) ((partsS p own).1 = [] ∧ (partsS p own).2 = false)
        (∀ (m : Nat), (out.length + 1) * 16 ≤ 140737488355328 ∧ ∃ a a_1 a_2 b, (1 ≤ a ∧ a_2.length ≤ 8 ∧ (∀ (x : ByteArray), x ∈ a_2 → partOK own x = true) ∧ b.size ≤ a ∧ (a ≤ p.size ∧ List.map bl a_2 ++ glue (bl b) (splitB (List.drop a (bl p))) = splitB r ∨ a = p.size + 1 ∧ List.map bl a_2 = splitB r)) ∧
          p.size + 1 - a < p.size + 1 - i ∧ ((i + 1 : Nat) : Int) = ↑a ∧ (m + 1 + 1 + 1 + 1 = a_1 ∧ out ++ [name] = a_2) ∧ no = b)) := by
        refine fun hpk _ => br_dec (fun h8 => ?_) fun h8 m => ⟨by omega, i + 1, _, out ++ [name], no, ⟨by omega, by simp; omega, ?_, Nat.zero_le _, .inl ⟨by omega, ?_⟩⟩, by omega, rfl, ⟨rfl, rfl⟩, rfl⟩
        · rw [hbad (.inr (by omega)) _ hT]; exact ⟨rfl, rfl⟩
        · intro x hx
          rcases List.mem_append.1 hx with hx | hx
          · exact hok x hx
          · rw [List.mem_singleton.1 hx]; exact hpk
        · rw [hno, glue_nil, List.map_append, List.append_assoc]; exact hT
      refine ⟨by omega, br_intro (fun h3 => ?_) fun h3 => br_intro (fun h4 => ⟨by omega, br_intro (fun h5 => ?_) fun h5 => fin ?_⟩) fun h4 => fin ?_⟩
      · rw [hbad (.inl (by unfold partOK; rw [show ownS name = false by simpa using h3]; rfl)) _ hT]; exact ⟨rfl, rfl⟩
      · rw [hbad (.inl (by unfold partOK; rw [show mayN name = false by simpa using h5, show own = false by simpa using h4, Bool.or_self, Bool.and_false])) _ hT]; exact ⟨rfl, rfl⟩
      · unfold partOK; rw [show ownS name = true by simpa using h3, show mayN name = true by simpa using h5, Bool.or_true]; rfl
      · unfold partOK; rw [show ownS name = true by simpa using h3, show own = true by simpa using h4]; rfl
    · have hT := hend (by omega)
      have fin : partOK own name = true → (out.length ≤ maxLen → br (decide (8 ≤ (out.length : Int))) ((partsS p own).1 = [] ∧ (partsS p own).2 = false)
        (∀ (m : Nat), (out.length + 1) * 16 ≤ 140737488355328 ∧ ∃ a a_1 a_2 b, (1 ≤ a ∧ a_2.length ≤ 8 ∧ (∀ (x : ByteArray), x ∈ a_2 → partOK own x = true) ∧ b.size ≤ a ∧ (a ≤ p.size ∧ List.map bl a_2 ++ glue (bl b) (splitB (List.drop a (bl p))) = splitB r ∨ a = p.size + 1 ∧ List.map bl a_2 = splitB r)) ∧
          p.size + 1 - a < p.size + 1 - i ∧ ((i + 1 : Nat) : Int) = ↑a ∧ (m + 1 + 1 + 1 + 1 = a_1 ∧ out ++ [name] = a_2) ∧ no = b)) := by
        refine fun hpk _ => br_dec (fun h8 => ?_) fun h8 m => ⟨by omega, i + 1, _, out ++ [name], no, ⟨by omega, by simp; omega, ?_, Nat.zero_le _, .inr ⟨by omega, ?_⟩⟩, by omega, rfl, ⟨rfl, rfl⟩, rfl⟩
        · rw [hbad (.inr (by omega)) _ hT]; exact ⟨rfl, rfl⟩
        · intro x hx
          rcases List.mem_append.1 hx with hx | hx
          · exact hok x hx
          · rw [List.mem_singleton.1 hx]; exact hpk
        · rw [List.map_append]; exact hT
      refine ⟨by omega, br_intro (fun h3 => ?_) fun h3 => br_intro (fun h4 => ⟨by omega, br_intro (fun h5 => ?_) fun h5 => fin ?_⟩) fun h4 => fin ?_⟩
      · rw [hbad (.inl (by unfold partOK; rw [show ownS name = false by simpa using h3]; rfl)) _ hT]; exact ⟨rfl, rfl⟩
      · rw [hbad (.inl (by unfold partOK; rw [show mayN name = false by simpa using h5, show own = false by simpa using h4, Bool.or_self, Bool.and_false])) _ hT]; exact ⟨rfl, rfl⟩
      · unfold partOK; rw [show ownS name = true by simpa using h3, show mayN name = true by simpa using h5, Bool.or_true]; rfl
      · unfold partOK; rw [show ownS name = true by simpa using h3, show own = true by simpa using h4]; rfl
  · obtain ⟨h1, h2⟩ : i = p.size + 1 ∧ out.map bl = splitB r := by
      rcases hrel with h | h
      · omega
      · exact h
    have hall : ∀ x ∈ splitB r, partOK own (ofL x) = true := by
      intro x hx
      rw [← h2, List.mem_map] at hx
      obtain ⟨y, hy, rfl⟩ := hx
      rw [ofL_bl]; exact hok y hy
    rw [hway, if_pos ⟨by rw [← h2, List.length_map]; exact hol, hall⟩]
    exact ⟨(map_of h2).symm, rfl⟩
theorem rparts_ok : ConOK Tryz.prog 39 rpartsC := by
  refine con_ok tab_ok (Γ := Γrparts) (consOK_cons rown_ok (consOK_cons rmay6_ok consOK_nil)) (by kernel_rfl) Tryz.func39 (by kernel_rfl) ?_
  intro args out h
  obtain ⟨x, e, h1⟩ := conN_inv h
  clear h
  obtain ⟨p, own, x0⟩ := x
  subst e
  replace h1 : (if p.size ≤ 4000000000 then some ⟨.tup [⟨.slice .str, (partsS p own).1⟩, ⟨.bool, (partsS p own).2⟩], []⟩ else none) = some out := h1
  split at h1
  case isFalse => cases h1
  rename_i hr
  injection h1 with h1
  subst h1
  exact ⟨by rw [mkArgs_len]; decide, rparts_ex p own hr⟩
end Go.Proofs.YtodkmhamaahjmaaGreatDoor
