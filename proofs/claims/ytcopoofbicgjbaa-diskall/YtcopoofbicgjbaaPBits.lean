/- Whole numbers of the machine as natural numbers. -/
import Derived.Test.YtcopoofbicgjbaaTmC
import Derived.IntWalk
set_option linter.unusedVariables false
set_option linter.unusedSimpArgs false
namespace Go.Tm

theorem fdiv_nat (a b : Nat) : ((a : Int)).fdiv (b : Int) = ((a / b : Nat) : Int) := by
  rw [Int.fdiv_eq_ediv_of_nonneg _ (by omega)]; rfl
theorem tdiv_nat (a b : Nat) : ((a : Int)).tdiv (b : Int) = ((a / b : Nat) : Int) := rfl
theorem tmod_nat (a b : Nat) : ((a : Int)).tmod (b : Int) = ((a % b : Nat) : Int) := rfl
theorem wrap_u32_nat {a : Nat} (h : a < 4294967296) : IntKind.u32.wrap (a : Int) = (a : Int) := by rw [IntKind.wrap_u32]; omega
theorem wrap_u8_nat (a : Nat) : IntKind.u8.wrap (a : Int) = ((a % 256 : Nat) : Int) := by rw [IntKind.wrap_u8]; omega
theorem xor_u32 {a b : Nat} (ha : a < 4294967296) (hb : b < 4294967296) : Tm.bits .xor .u32 (a : Int) (b : Int) = ((a ^^^ b : Nat) : Int) := by
  have h : a ^^^ b < 2 ^ 32 := Nat.xor_lt_two_pow (by simpa using ha) (by simpa using hb)
  show IntKind.u32.wrap (((BitVec.ofInt 32 (a : Int) ^^^ BitVec.ofInt 32 (b : Int)).toNat : Nat) : Int) = _
  rw [BitVec.toNat_xor, BitVec.toNat_ofInt, BitVec.toNat_ofInt]
  have e1 : ((a : Int) % ((2 ^ 32 : Nat) : Int)).toNat = a := by omega
  have e2 : ((b : Int) % ((2 ^ 32 : Nat) : Int)).toNat = b := by omega
  rw [e1, e2]
  exact wrap_u32_nat h
theorem and_u32 {a b : Nat} (ha : a < 4294967296) (hb : b < 4294967296) : Tm.bits .and .u32 (a : Int) (b : Int) = ((a &&& b : Nat) : Int) := by
  have h : a &&& b < 2 ^ 32 := Nat.and_lt_two_pow a (by simpa using hb)
  show IntKind.u32.wrap (((BitVec.ofInt 32 (a : Int) &&& BitVec.ofInt 32 (b : Int)).toNat : Nat) : Int) = _
  rw [BitVec.toNat_and, BitVec.toNat_ofInt, BitVec.toNat_ofInt]
  have e1 : ((a : Int) % ((2 ^ 32 : Nat) : Int)).toNat = a := by omega
  have e2 : ((b : Int) % ((2 ^ 32 : Nat) : Int)).toNat = b := by omega
  rw [e1, e2]
  exact wrap_u32_nat h
theorem xor_u8 {a b : Nat} (ha : a < 256) (hb : b < 256) : Tm.bits .xor .u8 (a : Int) (b : Int) = ((a ^^^ b : Nat) : Int) := by
  have h : a ^^^ b < 2 ^ 8 := Nat.xor_lt_two_pow (by simpa using ha) (by simpa using hb)
  show IntKind.u8.wrap (((BitVec.ofInt 8 (a : Int) ^^^ BitVec.ofInt 8 (b : Int)).toNat : Nat) : Int) = _
  rw [BitVec.toNat_xor, BitVec.toNat_ofInt, BitVec.toNat_ofInt]
  have e1 : ((a : Int) % ((2 ^ 8 : Nat) : Int)).toNat = a := by omega
  have e2 : ((b : Int) % ((2 ^ 8 : Nat) : Int)).toNat = b := by omega
  rw [e1, e2, wrap_u8_nat]
  congr 1
  omega

theorem w_nat {z : Int} {n : Nat} (h : z = n) (hn : n ≤ 9223372036854775807) : IntKind.i64.wrap z = (n : Int) := by
  rw [IntWalk.i64_in _ (by omega), h]
theorem take_flatMap {α β : Type} (f : α → List β) (l : List α) (i : Nat) (h : i < l.length) (d : α) : (l.take (i + 1)).flatMap f = (l.take i).flatMap f ++ f (l.getD i d) := by
  rw [List.take_succ_eq_append_getElem h, List.flatMap_append, List.getD_eq_getElem?_getD, List.getElem?_eq_getElem h]
  simp
theorem flatMap_len {α β : Type} {f : α → List β} {c : Nat} (h : ∀ x, (f x).length = c) (l : List α) : (l.flatMap f).length = l.length * c := by
  induction l with
  | nil => simp
  | cons x l ih => rw [List.flatMap_cons, List.length_append, h, ih, List.length_cons, Nat.add_mul, Nat.one_mul, Nat.add_comm]
theorem bytesOf_len (s : ByteArray) : (bytesOf s).length = s.size := by
  unfold bytesOf
  rw [List.length_map, Array.length_toList]
  rfl
theorem bytesOf_B (s : ByteArray) : ∀ x ∈ bytesOf s, 0 ≤ x ∧ x < 256 := by
  intro x hx
  simp only [bytesOf, List.mem_map] at hx
  obtain ⟨y, _, rfl⟩ := hx
  have := y.toNat_lt
  omega
/-- Bytes as natural numbers. -/
def nats (l : List Int) : List Nat := l.map Int.toNat
def ints (l : List Nat) : List Int := l.map fun (n : Nat) => (n : Int)
def isB (l : List Int) : Prop := ∀ x ∈ l, 0 ≤ x ∧ x < 256
instance (l : List Int) : Decidable (isB l) := by unfold isB; infer_instance
theorem isB_nil : isB [] := by simp [isB]
theorem isB_cons {x : Int} {l : List Int} : isB (x :: l) ↔ (0 ≤ x ∧ x < 256) ∧ isB l := by simp [isB]
theorem isB_append {l m : List Int} : isB (l ++ m) ↔ isB l ∧ isB m := by
  simp only [isB, List.mem_append]
  exact ⟨fun h => ⟨fun x hx => h x (.inl hx), fun x hx => h x (.inr hx)⟩, fun h x hx => hx.elim (h.1 x) (h.2 x)⟩
theorem isB_getD {l : List Int} (h : isB l) (k : Nat) : 0 ≤ l.getD k 0 ∧ l.getD k 0 < 256 := by
  rw [List.getD_eq_getElem?_getD]
  cases hk : l[k]? with
  | none => simp
  | some x => exact h x (List.mem_of_getElem? hk)
theorem isB_take {l : List Int} (h : isB l) (k : Nat) : isB (l.take k) := fun x hx => h x (List.mem_of_mem_take hx)
theorem isB_drop {l : List Int} (h : isB l) (k : Nat) : isB (l.drop k) := fun x hx => h x (List.mem_of_mem_drop hx)
theorem ints_nats {l : List Int} (h : isB l) : ints (nats l) = l := by
  unfold ints nats
  rw [List.map_map]
  conv => rhs; rw [← List.map_id l]
  refine List.map_congr_left fun x hx => ?_
  have := h x hx
  simp; omega
theorem nats_lt {l : List Int} (h : isB l) : ∀ x ∈ nats l, x < 256 := by
  intro x hx
  simp only [nats, List.mem_map] at hx
  obtain ⟨y, hy, rfl⟩ := hx
  have := h y hy
  omega
theorem nats_append (l m : List Int) : nats (l ++ m) = nats l ++ nats m := by simp [nats]
theorem nats_length (l : List Int) : (nats l).length = l.length := by simp [nats]
theorem ints_set (l : List Nat) (p y : Nat) : (ints l).set p (y : Int) = ints (l.set p y) := by simp [ints, List.map_set]
theorem ints_getD (l : List Nat) (p : Nat) : (ints l).getD p 0 = ((l.getD p 0 : Nat) : Int) := by
  simp only [ints, List.getD_eq_getElem?_getD, List.getElem?_map]
  cases l[p]? <;> rfl
theorem ints_length (l : List Nat) : (ints l).length = l.length := by simp [ints]
theorem nats_ints (l : List Nat) : nats (ints l) = l := by
  simp only [nats, ints, List.map_map]
  conv => rhs; rw [← List.map_id l]
  exact List.map_congr_left fun x _ => by simp
theorem isB_ints {l : List Nat} (h : ∀ x ∈ l, x < 256) : isB (ints l) := by
  intro x hx
  simp only [ints, List.mem_map] at hx
  obtain ⟨y, hy, rfl⟩ := hx
  have := h y hy
  omega
theorem getD_lt {l : List Nat} (h : ∀ x ∈ l, x < 256) (p : Nat) : l.getD p 0 < 256 := by
  rw [List.getD_eq_getElem?_getD]
  cases hp : l[p]? with
  | none => simp
  | some x => exact h x (List.mem_of_getElem? hp)
theorem set_lt {l : List Nat} (h : ∀ x ∈ l, x < 256) (p : Nat) {y : Nat} (hy : y < 256) : ∀ x ∈ l.set p y, x < 256 := by
  intro x hx
  rcases List.mem_or_eq_of_mem_set hx with h' | h'
  · exact h x h'
  · omega
theorem okv_arr {n : Nat} {l : List Int} (h : okv (.arr n (.int .u8)) l) : isB l := by
  intro x hx
  have := h.2 x hx
  simp [okv, Lit.wf, IntKind.has, IntKind.min, IntKind.max, IntKind.signed, IntKind.bits] at this
  omega
theorem strOf_bytesOf (s : ByteArray) : strOf (bytesOf s) = s := by
  unfold strOf bytesOf
  rw [List.map_map]
  have : (List.map ((fun n : Int => UInt8.ofNat n.toNat) ∘ fun b : UInt8 => (b.toNat : Int)) s.data.toList) = s.data.toList := by
    conv => rhs; rw [← List.map_id s.data.toList]
    exact List.map_congr_left fun x _ => by simp
  rw [this]
theorem bytesOf_strOf {l : List Int} (h : isB l) : bytesOf (strOf l) = l := by
  unfold strOf bytesOf
  rw [List.map_map]
  conv => rhs; rw [← List.map_id l]
  refine List.map_congr_left fun x hx => ?_
  have := h x hx
  simp
  omega
theorem isB_bytesOf (s : ByteArray) : isB (bytesOf s) := bytesOf_B s
theorem size_strOf (l : List Int) : (strOf l).size = l.length := by
  show (strOf l).data.size = l.length
  simp [strOf]
theorem strOf_inj {l m : List Int} (hl : isB l) (hm : isB m) (h : strOf l = strOf m) : l = m := by rw [← bytesOf_strOf hl, ← bytesOf_strOf hm, h]
theorem ba_loop (s : ByteArray) : ∀ (n i : Nat) (r : List UInt8), s.size - i = n → ByteArray.toList.loop s i r = r.reverse ++ s.data.toList.drop i := by
  intro n
  induction n with
  | zero =>
    intro i r h
    rw [ByteArray.toList.loop, if_neg (by omega), List.drop_of_length_le (by rw [Array.length_toList]; show s.size ≤ i; omega), List.append_nil]
  | succ n ih =>
    intro i r h
    rw [ByteArray.toList.loop, if_pos (by omega), ih (i + 1) _ (by omega)]
    have hlt : i < s.data.toList.length := by rw [Array.length_toList]; show i < s.size; omega
    rw [List.drop_eq_getElem_cons hlt, List.reverse_cons, List.append_assoc]
    have e : s.get! i = s.data.toList[i] := by
      show s.data[i]! = _
      rw [getElem!_pos s.data i (by rw [Array.length_toList] at hlt; exact hlt)]
      simp
    rw [e]
    rfl
theorem ba_toList (s : ByteArray) : s.toList = s.data.toList := by
  rw [ByteArray.toList, ba_loop s _ 0 [] rfl]
  simp
theorem ba_inj {s t : ByteArray} (h : s.toList = t.toList) : s = t := by
  rw [ba_toList, ba_toList] at h
  cases s; cases t
  simp only [Array.toList_inj] at h
  rw [h]
theorem okv_u8 {x : Int} (h : okv (.int .u8) x) : ∃ n : Nat, x = n ∧ n < 256 := by
  simp [okv, Lit.wf, IntKind.has, IntKind.min, IntKind.max, IntKind.signed, IntKind.bits] at h
  exact ⟨x.toNat, by omega, by omega⟩
theorem okv_u16 {x : Int} (h : okv (.int .u16) x) : ∃ n : Nat, x = n ∧ n < 65536 := by
  simp [okv, Lit.wf, IntKind.has, IntKind.min, IntKind.max, IntKind.signed, IntKind.bits] at h
  exact ⟨x.toNat, by omega, by omega⟩
theorem okv_u32 {x : Int} (h : okv (.int .u32) x) : ∃ n : Nat, x = n ∧ n < 4294967296 := by
  simp [okv, Lit.wf, IntKind.has, IntKind.min, IntKind.max, IntKind.signed, IntKind.bits] at h
  exact ⟨x.toNat, by omega, by omega⟩
theorem okv_i64 {x : Int} (h : okv (.int .i64) x) : -9223372036854775808 ≤ x ∧ x ≤ 9223372036854775807 := by
  simpa [okv, Lit.wf, IntKind.has, IntKind.min, IntKind.max, IntKind.signed, IntKind.bits] using h
theorem okv_bytes {l : List Int} (h : okv (.slice (.int .u8)) l) : isB l := by
  intro x hx
  have := h.2 x hx
  simp [okv, Lit.wf, IntKind.has, IntKind.min, IntKind.max, IntKind.signed, IntKind.bits] at this
  omega
end Go.Tm
