/- A tree of one file of two names, in plain terms. -/
import Derived.Test.YthhjlbpmpffapaaDoorPBody
set_option maxRecDepth 100000
set_option maxHeartbeats 1000000
set_option linter.unusedSimpArgs false
set_option linter.unusedVariables false
namespace Go.Proofs.YthhjlbpmpffapaaDoor
open Go.Tm Go.IntWalk
def twoB : ByteArray := ⟨#[1, 97, 2, 1, 98, 2]⟩
/-- A root of which two names are one file. -/
def bN (s : ByteArray) : List Node := (2, 7, twoB, ()) :: (1, 6, s, ()) :: List.replicate 7 dfltN
theorem bN_len (s : ByteArray) : (bN s).length = 9 := rfl
theorem bN_fit {s : ByteArray} (h : s.size ≤ 4000000000) : fitT (bN s) := by
  refine ⟨by rw [bN_len]; decide, fun n hn => ?_⟩
  simp only [bN, List.mem_cons, List.mem_replicate] at hn
  rcases hn with rfl | rfl | ⟨_, rfl⟩
  · decide
  · exact h
  · decide
theorem bN_names (s : ByteArray) : namesT (bN s) 1 = [(⟨#[97]⟩, 2, ()), (⟨#[98]⟩, 2, ())] := by
  rw [namesT, if_neg (by rw [bN_len]; rintro (h | h | h) <;> revert h <;> first | decide | (intro h; exact h rfl))]
  show (takeD twoB).1 = _
  decide +kernel
theorem bN_two (s : ByteArray) : nodeT (bN s) 2 = (1, 6, s, ()) := rfl
theorem bN_body (s : ByteArray) : bodyT (bN s) 2 = s := rfl
theorem bN_set (s x : ByteArray) : setT (bN s) 2 (withBody (nodeT (bN s) 2) x) = bN x := rfl
theorem bN_find (s : ByteArray) (p : ByteArray) (hp : p = ⟨#[47, 97]⟩ ∨ p = ⟨#[47, 98]⟩) : findT (bN s) p false = (2, 0) := by
  have key : ∀ c : ByteArray, (findD [((⟨#[97]⟩ : ByteArray), (2 : Int), ()), (⟨#[98]⟩, 2, ())] c) = (2, true) → walk0 (bN s) [c] = (2, 0) := fun c hc => by
    rw [walk0, if_neg (by rw [bN_len]; decide), walkT, if_neg (by show ¬ (2 : Int) ≠ 2; decide), bN_names, hc, if_neg (by rw [bN_len]; rintro (h | h) <;> revert h <;> decide)]
    rfl
  rcases hp with rfl | rfl
  · rw [findT, if_neg (by decide +kernel), show (partsS ⟨#[47, 97]⟩ false).1 = [⟨#[97]⟩] by decide +kernel]
    exact key _ (by decide +kernel)
  · rw [findT, if_neg (by decide +kernel), show (partsS ⟨#[47, 98]⟩ false).1 = [⟨#[98]⟩] by decide +kernel]
    exact key _ (by decide +kernel)
theorem bN_file (s : ByteArray) (p : ByteArray) (hp : p = ⟨#[47, 97]⟩ ∨ p = ⟨#[47, 98]⟩) : fileT (bN s) p false = (2, 0) := by
  rw [fileT, bN_find s p hp, if_neg (fun h => absurd h.2 (by show ¬ (1 : Int) = 2; decide))]
theorem bN_write (s : ByteArray) (p : ByteArray) (hp : p = ⟨#[47, 97]⟩ ∨ p = ⟨#[47, 98]⟩) (off : Nat) (x : ByteArray) :
    writeT (bN s) p off x false = if off + x.size ≤ 120 then (bN (if x.size = 0 then s else writeB s off x), 0) else (bN s, 8) := by
  rw [writeT, bN_file s p hp, if_neg (by decide), if_neg (by omega)]
  by_cases h : off + x.size ≤ 120
  · rw [if_neg (by omega), if_pos h]
    by_cases h0 : x.size = 0
    · rw [if_pos h0, if_pos h0]
    · rw [if_neg h0, if_neg h0]
      first | done | rfl
  · rw [if_neg h]
    by_cases h2 : (120 : Int) < off ∨ 120 - (off : Int) < (x.size : Int)
    · rw [if_pos h2]
    · omega
theorem bN_cut (s : ByteArray) (p : ByteArray) (hp : p = ⟨#[47, 97]⟩ ∨ p = ⟨#[47, 98]⟩) (n : Nat) (hn : n ≤ 120) : sizeT (bN s) p n false = (bN (longB s n), 0) := by
  rw [sizeT, bN_file s p hp, if_neg (by decide), if_neg (by omega), if_neg (by omega)]
  rfl
theorem write_no (x : ByteArray) : (if x.size = 0 then no else writeB no ((0 : Nat) : Int) x) = x := by
  split
  · rename_i h
    apply bl_inj
    rw [bl_size] at h
    rw [List.eq_nil_of_length_eq_zero h]
  · rw [← write_long]
    apply bl_inj
    rw [bl_append, bl_append, bl_extract, bl_extract, List.take_zero, List.nil_append, bl_grown]
    have h1 : ((bl no ++ List.replicate (0 + x.size - no.size) 0).drop (0 + x.size)) = [] := List.drop_eq_nil_of_le (by rw [List.length_append, List.length_replicate]; have : (bl no).length = 0 := rfl; omega)
    rw [h1, List.take_nil, List.append_nil]
/-- A body that is written into, byte by byte. -/
theorem bl_writeB (s x : ByteArray) (off : Nat) : bl (writeB s off x) = ((bl s ++ List.replicate (off + x.size - s.size) 0).take off) ++ bl x ++ (bl s).drop (off + x.size) := by
  rw [← write_long, bl_append, bl_append, bl_extract, bl_extract, List.drop_zero, Nat.sub_zero, bl_grown]
  congr 1
  rw [List.take_of_length_le (by rw [List.length_drop, grown_size, List.length_append, List.length_replicate, ← bl_size]; omega), List.drop_append, ← bl_size]
  rw [show List.drop (off + x.size - s.size) (List.replicate (off + x.size - s.size) (0 : UInt8)) = [] from List.drop_eq_nil_of_le (by rw [List.length_replicate]; exact Nat.le_refl _), List.append_nil]
theorem getD_app {l m : List Int} {d : Int} {n : Nat} (h : n < l.length) : (l ++ m).getD n d = l.getD n d := by
  rw [List.getD_eq_getElem?_getD, List.getD_eq_getElem?_getD, List.getElem?_append_left h]
theorem getD_appR {l m : List Int} {d : Int} {n : Nat} (h : l.length ≤ n) : (l ++ m).getD n d = m.getD (n - l.length) d := by
  rw [List.getD_eq_getElem?_getD, List.getD_eq_getElem?_getD, List.getElem?_append_right h]
theorem getD_app8 {l m : List UInt8} {d : UInt8} {n : Nat} (h : n < l.length) : (l ++ m).getD n d = l.getD n d := by
  rw [List.getD_eq_getElem?_getD, List.getD_eq_getElem?_getD, List.getElem?_append_left h]
theorem getD_app8R {l m : List UInt8} {d : UInt8} {n : Nat} (h : l.length ≤ n) : (l ++ m).getD n d = m.getD (n - l.length) d := by
  rw [List.getD_eq_getElem?_getD, List.getD_eq_getElem?_getD, List.getElem?_append_right h]
/-- Bytes that are written one by one. -/
def specW (B T : List Int) (a i u : Nat) (W : List Int) : Prop :=
  B.length ≤ W.length ∧ (0 < i → a + i ≤ W.length) ∧ W.length ≤ u ∧ ∀ k, k < W.length → W.getD k 0 = if a ≤ k ∧ k < a + i then T.getD (k - a) 0 else B.getD k 0
theorem spec_more {B T W : List Int} {a i : Nat} (h : specW B T a i (max B.length (a + i + 1)) W) (hl : W.length ≤ a + i) : specW B T a i (max B.length (a + i + 1)) (W ++ [0]) := by
  obtain ⟨h1, h2, h3, h4⟩ := h
  refine ⟨by rw [List.length_append]; omega, fun h => by rw [List.length_append]; have := h2 h; omega, by rw [List.length_append, List.length_singleton]; omega, fun k hk => ?_⟩
  rw [List.length_append, List.length_singleton] at hk
  rcases Nat.lt_or_ge k W.length with hk2 | hk2
  · rw [getD_app hk2]; exact h4 k hk2
  · have : k = W.length := by omega
    subst this
    have hno : ¬ (a ≤ W.length ∧ W.length < a + i) := fun h => by have := h2 (by omega); omega
    rw [if_neg hno, getD_appR hk2, Nat.sub_self, List.getD_eq_getElem?_getD (l := B), List.getElem?_eq_none (by omega)]
    rfl
theorem spec_set {B T W : List Int} {a i : Nat} (h : specW B T a i (max B.length (a + i + 1)) W) (hl : a + i < W.length) : specW B T a (i + 1) (max B.length (a + (i + 1))) (W.set (a + i) (T.getD i 0)) := by
  obtain ⟨h1, h2, h3, h4⟩ := h
  refine ⟨by rw [List.length_set]; exact h1, fun _ => by rw [List.length_set]; omega, by rw [List.length_set]; omega, fun k hk => ?_⟩
  rw [List.length_set] at hk
  rw [List.getD_eq_getElem?_getD, List.getElem?_set]
  by_cases e : a + i = k
  · subst e
    rw [if_pos rfl, if_pos hl, if_pos (by omega), show a + i - a = i by omega]; rfl
  · rw [if_neg e, ← List.getD_eq_getElem?_getD, h4 k hk]
    by_cases h5 : a ≤ k ∧ k < a + i
    · rw [if_pos h5, if_pos (by omega)]
    · rw [if_neg h5, if_neg (by omega)]
theorem spec_end {B T W : List Int} {a u : Nat} (hu : u = if T.length = 0 then B.length else max B.length (a + T.length)) (h : specW B T a T.length u W) : W = if T.length = 0 then B else (B ++ List.replicate (a + T.length - B.length) 0).take a ++ T ++ B.drop (a + T.length) := by
  obtain ⟨h1, h2, h3, h4⟩ := h
  rw [hu] at h3
  have hext : ∀ X : List Int, W.length = X.length → (∀ k, k < W.length → W.getD k 0 = X.getD k 0) → W = X := fun X e1 e2 => List.ext_getElem e1 fun k k1 k2 => by
    have := e2 k k1
    rwa [List.getD_eq_getElem?_getD, List.getD_eq_getElem?_getD, List.getElem?_eq_getElem k1, List.getElem?_eq_getElem k2] at this
  by_cases h0 : T.length = 0
  · rw [if_pos h0] at h3 ⊢
    refine hext B (by omega) fun k hk => ?_
    rw [h4 k hk, if_neg (by omega)]
  · rw [if_neg h0] at h3 ⊢
    have h2 := h2 (by omega)
    have hlen : ((B ++ List.replicate (a + T.length - B.length) (0 : Int)).take a).length = a := by
      rw [List.length_take, List.length_append, List.length_replicate]; omega
    refine hext _ (by rw [List.length_append, List.length_append, hlen, List.length_drop]; omega) fun k hk => ?_
    rw [h4 k hk]
    rcases Nat.lt_or_ge k a with k1 | k1
    · rw [if_neg (by omega), List.append_assoc, getD_app (by omega), List.getD_eq_getElem?_getD (l := List.take _ _), List.getElem?_take, if_pos k1, ← List.getD_eq_getElem?_getD]
      rcases Nat.lt_or_ge k B.length with k2 | k2
      · rw [getD_app k2]
      · rw [getD_appR k2, List.getD_eq_getElem?_getD, List.getElem?_eq_none k2, List.getD_eq_getElem?_getD, List.getElem?_replicate]
        split <;> rfl
    · rcases Nat.lt_or_ge k (a + T.length) with k2 | k2
      · rw [if_pos ⟨k1, k2⟩, List.append_assoc, getD_appR (by omega), hlen, getD_app (by omega)]
      · rw [if_neg (by omega), getD_appR (by rw [List.length_append, hlen]; exact k2), List.length_append, hlen, List.getD_eq_getElem?_getD, List.getD_eq_getElem?_getD, List.getElem?_drop]
        congr 2
        omega
theorem bytes_writeB (s x : ByteArray) (off : Nat) : bytesOf (writeB s off x) = (bytesOf s ++ List.replicate (off + x.size - s.size) 0).take off ++ bytesOf x ++ (bytesOf s).drop (off + x.size) := by
  have h : ∀ s : ByteArray, bytesOf s = (bl s).map fun c => (c.toNat : Int) := fun s => rfl
  rw [h, h, h, bl_writeB, List.map_append, List.map_append, List.map_take, List.map_append, List.map_drop, List.map_replicate]
  rfl
theorem spec_str {was text : ByteArray} {a u : Nat} {W : List Int} (hu : u = if text.size = 0 then was.size else max was.size (a + text.size)) (h : specW (bytesOf was) (bytesOf text) a text.size u W) :
    W = bytesOf (if text.size = 0 then was else writeB was a text) := by
  have hb := bytesOf_len text
  have hw := bytesOf_len was
  rw [← hb] at h hu
  rw [← hw] at hu
  have e := spec_end hu h
  rw [e, hb, hw]
  split
  · rfl
  · rw [bytes_writeB]
theorem long_at (s : ByteArray) (n i : Nat) (hi : i < n) : byteAt (longB s n) i = (bytesOf s).getD i 0 := by
  rw [byteAt_bl, bl_longB]
  have h : bytesOf s = (bl s).map fun c => (c.toNat : Int) := rfl
  rw [h]
  rcases Nat.lt_or_ge i (bl s).length with h1 | h1
  · rw [getD_app8 (by rw [List.length_take]; omega), List.getD_eq_getElem?_getD, List.getElem?_take, if_pos hi, List.getD_eq_getElem?_getD, List.getElem?_map, List.getElem?_eq_getElem h1]
    rfl
  · rw [getD_app8R (by rw [List.length_take]; omega), List.getD_eq_getElem?_getD, List.getElem?_replicate, List.getD_eq_getElem?_getD, List.getElem?_map, List.getElem?_eq_none h1]
    split <;> rfl
theorem bN_read (s : ByteArray) (p : ByteArray) (hp : p = ⟨#[47, 97]⟩ ∨ p = ⟨#[47, 98]⟩) : (fileT (bN s) p false).2 = 0 ∧ bodyT (bN s) (fileT (bN s) p false).1 = s := by
  rw [bN_file s p hp]; exact ⟨rfl, rfl⟩
end Go.Proofs.YthhjlbpmpffapaaDoor
