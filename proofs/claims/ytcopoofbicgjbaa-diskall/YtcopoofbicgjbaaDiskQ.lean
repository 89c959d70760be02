/- disk: plain laws. -/
import Derived.Test.YtcopoofbicgjbaaDiskE
set_option maxRecDepth 100000
set_option linter.unusedSimpArgs false
set_option linter.unusedVariables false
namespace Go.Proofs.Ytcopoofbicgjbaa
open Go.Tm Go.IntWalk
def bN (l : List (List Int)) (i j : Nat) : Nat := ((l.getD i []).getD j 0).toNat
theorem okv_u8n {x : Int} (h : okv (.int .u8) x) : 0 ≤ x ∧ x < 256 := by
  simp [okv, Lit.wf, IntKind.has, IntKind.min, IntKind.max, IntKind.signed, IntKind.bits] at h
  omega
theorem bN_at {n : Nat} {l : List (List Int)} (h : okv (.slice (.arr n (.int .u8))) l) {i : Nat} (hi : i < l.length) (z : List Int) (j : Nat) : (l[i]?.getD z)[j]?.getD 0 = ((bN l i j : Nat) : Int) ∧ bN l i j < 256 := by
  have h1 := (h.2 l[i] (List.getElem_mem hi)).2
  have e : l[i]?.getD z = l[i] := by rw [List.getElem?_eq_getElem hi]; rfl
  have e2 : l.getD i [] = l[i] := by rw [List.getD_eq_getElem?_getD, List.getElem?_eq_getElem hi]; rfl
  have hr : 0 ≤ (l[i] : List Int)[j]?.getD 0 ∧ (l[i] : List Int)[j]?.getD 0 < 256 := by
    rcases Nat.lt_or_ge j (l[i] : List Int).length with hj | hj
    · rw [List.getElem?_eq_getElem hj]; exact okv_u8n (h1 _ (List.getElem_mem hj))
    · rw [List.getElem?_eq_none hj]; exact ⟨Int.le_refl _, by decide⟩
  rw [e, bN, e2, List.getD_eq_getElem?_getD]
  exact ⟨(Int.toNat_of_nonneg hr.1).symm, by omega⟩
theorem tmod_nat (c k : Nat) (hc : c < 256) (hk : k < 1000) : IntKind.i64.wrap (Int.tmod (c : Int) (k : Int)) = ((c % k : Nat) : Int) := by
  have : Int.tmod (c : Int) (k : Int) = ((c % k : Nat) : Int) := rfl
  rw [this]
  exact w_nat rfl (by have := Nat.mod_le c k; omega)
def runD (f : Nat → Dk → Dk) (d0 : Dk) : Nat → Dk
  | 0 => d0
  | k + 1 => f k (runD f d0 k)
theorem blockK_size (n : Nat) : (blockK n).size = 64 := by
  rw [blockK]
  show (strOf _).size = 64
  rw [size_strOf, List.length_map, List.length_range]
/-- A write that is done. -/
theorem write_up {d : Dk} {i : Nat} {b : ByteArray} (hd : d.2.2.2.1 = false) (hi : i < d.1.length) (hb : b.size = 64) : writeK d (i : Int) b = ((d.1, d.2.1 ++ [((i : Int), b, ())], (armK d).1, (armK d).2, ()), !(armK d).2) := by
  have h : isK d (i : Int) = true := by rw [isK, hd, decide_eq_true (Int.natCast_nonneg i), decide_eq_true (Int.ofNat_lt.2 hi)]; rfl
  rw [writeK, if_pos ⟨h, hb⟩]
theorem isK_up {d : Dk} {i : Nat} (hd : d.2.2.2.1 = false) (hi : i < d.1.length) : isK d (i : Int) = true := by
  rw [isK, hd, decide_eq_true (Int.natCast_nonneg i), decide_eq_true (Int.ofNat_lt.2 hi)]; rfl
theorem isK_down {d : Dk} (hd : d.2.2.2.1 = true) (i : Int) : isK d i = false := by
  rw [isK, hd]; rfl
theorem write_down {d : Dk} (hd : d.2.2.2.1 = true) (i : Int) (b : ByteArray) : writeK d i b = (d, false) := by
  rw [writeK, if_neg (fun h => by rw [isK_down hd] at h; cases h.1)]
def armD (l : List (List Int)) (A : Nat) : Nat → Dk := runD (fun i d => (writeK d ((bN l i 0 % 5 : Nat) : Int) (blockK (bN l i 1))).1) ((newK 5).1, [], ((A + 1 : Nat) : Int), false, ())
theorem newK_five : (newK 5).1.length = 5 := by decide +kernel
theorem armD_at (l : List (List Int)) (A : Nat) : ∀ k, (armD l A k).1 = (newK 5).1 ∧ (armD l A k).2.1.length = min k (A + 1) ∧ (armD l A k).2.2.1 = ((A + 1 - min k (A + 1) : Nat) : Int) ∧ (armD l A k).2.2.2.1 = decide (A < k)
  | 0 => ⟨rfl, by simp [armD, runD], by simp [armD, runD], rfl⟩
  | k + 1 => by
    obtain ⟨h1, h2, h3, h4⟩ := armD_at l A k
    have e : armD l A (k + 1) = (writeK (armD l A k) ((bN l k 0 % 5 : Nat) : Int) (blockK (bN l k 1))).1 := rfl
    rw [e]
    by_cases hk : A < k
    · rw [write_down (by rw [h4, decide_eq_true hk])]
      exact ⟨h1, by rw [h2]; omega, by rw [h3]; omega, by rw [h4, decide_eq_true hk, decide_eq_true (by omega)]⟩
    · rw [write_up (by rw [h4, decide_eq_false hk]) (by rw [h1, newK_five]; omega) (blockK_size _)]
      have ha : 0 < (armD l A k).2.2.1 := by rw [h3]; omega
      rw [armK, if_pos ha]
      refine ⟨h1, by rw [List.length_append, h2, List.length_singleton]; omega, by show _ - 1 = _; rw [h3]; omega, ?_⟩
      show decide ((armD l A k).2.2.1 - 1 = 0) = _
      rw [h3, Bool.eq_iff_iff, decide_eq_true_iff, decide_eq_true_iff]
      omega
theorem armD_okD (l : List (List Int)) {A : Nat} (hA : A < 12) (k : Nat) : okD (armD l A k) := by
  obtain ⟨h1, h2, h3, h4⟩ := armD_at l A k
  refine ⟨by rw [h1, newK_five]; decide, by rw [h2]; omega, by rw [h3]; omega, by rw [h3]; omega⟩
theorem armD_ok (l : List (List Int)) (A k : Nat) : (writeK (armD l A k) ((bN l k 0 % 5 : Nat) : Int) (blockK (bN l k 1))).2 = decide (k < A) := by
  obtain ⟨h1, h2, h3, h4⟩ := armD_at l A k
  by_cases hk : A < k
  · rw [write_down (by rw [h4, decide_eq_true hk]), decide_eq_false (by omega)]
  · rw [write_up (by rw [h4, decide_eq_false hk]) (by rw [h1, newK_five]; omega) (blockK_size _)]
    have ha : 0 < (armD l A k).2.2.1 := by rw [h3]; omega
    rw [armK, if_pos ha]
    show (!decide ((armD l A k).2.2.1 - 1 = 0)) = _
    rw [h3, Bool.eq_iff_iff, Bool.not_eq_true', decide_eq_false_iff_not, decide_eq_true_iff]
    omega
theorem flush_ok (d : Dk) : (flushK d).2 = !d.2.2.2.1 := by
  rw [flushK]
  split
  · rename_i h; rw [h]; rfl
  · rename_i h; rw [Bool.eq_false_iff.2 h]; rfl
theorem read_ok (d : Dk) (i : Nat) (hi : i < d.1.length) : (readK d (i : Int)).2 = !d.2.2.2.1 := by
  rw [readK]
  cases h : d.2.2.2.1 with
  | true => rw [if_neg (by rw [isK_down h]; exact Bool.false_ne_true)]; rfl
  | false => rw [if_pos (isK_up h hi)]; rfl
theorem not_ne (b : Bool) : ¬ (!b) = b := by cases b <;> decide
theorem read_up {d : Dk} {j : Nat} (hd : d.2.2.2.1 = false) (hj : j < d.1.length) : readK d (j : Int) = ((lastW d.2.1 (j : Int)).getD (d.1.getD j no), true) := by
  rw [readK, if_pos (isK_up hd hj), Int.toNat_natCast]
/-- What a block is behind the first of some writes, where some of them last. -/
def wantN (l : List Pt) (keep : Nat → Bool) (j : Nat) (v : ByteArray) : Nat → ByteArray
  | 0 => v
  | k + 1 => if (l.getD k dfltP).1 = (j : Int) ∧ keep k = true then (l.getD k dfltP).2.1 else wantN l keep j v k
theorem want_last (l : List Pt) (j : Nat) (v : ByteArray) : ∀ n, wantN l (fun _ => true) j v n = (lastN l (j : Int) n).getD v
  | 0 => rfl
  | n + 1 => by
    rw [wantN, lastN, want_last l j v n]
    by_cases h : (l.getD n dfltP).1 = (j : Int)
    · rw [if_pos ⟨h, rfl⟩, if_pos (by simpa using h)]; rfl
    · rw [if_neg (fun h2 => h h2.1), if_neg (by simpa using h)]
theorem getD_set (l : List ByteArray) (i j : Nat) (v : ByteArray) (hi : i < l.length) : (l.set i v).getD j no = if i = j then v else l.getD j no := by
  rw [List.getD_eq_getElem?_getD, List.getElem?_set]
  split
  · rename_i h; subst h; first | rfl | (rw [if_pos hi]; rfl)
  · rw [← List.getD_eq_getElem?_getD]
theorem lasts_want (l : List Pt) (keep : Nat → Bool) (out : List ByteArray) (j : Nat) (hj : j < out.length) : ∀ n, n ≤ l.length → (lastsK keep 0 (l.take n) out).getD j no = wantN l keep j (out.getD j no) n
  | 0, _ => rfl
  | n + 1, h => by
    have hn : n < l.length := h
    have eg : l.getD n dfltP = l[n] := by rw [List.getD_eq_getElem?_getD, List.getElem?_eq_getElem hn]; rfl
    rw [lastsK_take keep l out hn, wantN, eg]
    have ih := lasts_want l keep out j hj n (Nat.le_of_lt hn)
    by_cases hk : keep n = true
    · rw [if_pos hk, putK, lastsK_len]
      by_cases hp : 0 ≤ (l[n]).1 ∧ (l[n]).1 < (out.length : Int)
      · rw [if_pos hp, getD_set _ _ _ _ (by rw [lastsK_len]; omega), ih]
        by_cases he : (l[n]).1 = (j : Int)
        · rw [if_pos (by omega), if_pos ⟨he, hk⟩]
        · rw [if_neg (by omega), if_neg (fun h2 => he h2.1)]
      · rw [if_neg hp, if_neg (fun h2 => hp ⟨by omega, by omega⟩), ih]
    · rw [if_neg hk, if_neg (fun h2 => hk h2.2), ih]
def readF (l : List (List Int)) (i : Nat) (d : Dk) : Dk := if bN l i 0 % 5 = 0 then (flushK d).1 else (writeK d ((bN l i 1 % 4 : Nat) : Int) (blockK (bN l i 2))).1
def readD (l : List (List Int)) : Nat → Dk := runD (readF l) (newK 4)
def lastF (l : List (List Int)) : Nat → List ByteArray
  | 0 => List.replicate 4 nought64
  | k + 1 => if bN l k 0 % 5 = 0 then lastF l k else (lastF l k).set (bN l k 1 % 4) (blockK (bN l k 2))
theorem newK_four : newK 4 = (List.replicate 4 nought64, [], 0, false, ()) := by
  rw [newK, if_neg (by decide)]; rfl
theorem readD_at (l : List (List Int)) : ∀ k, (readD l k).1.length = 4 ∧ (readD l k).2.1.length ≤ k ∧ (readD l k).2.2.1 = 0 ∧ (readD l k).2.2.2.1 = false ∧ (lastF l k).length = 4 ∧ ∀ j : Nat, j < 4 → (readK (readD l k) (j : Int)).1 = (lastF l k).getD j no
  | 0 => by
    have e : readD l 0 = (List.replicate 4 nought64, [], 0, false, ()) := newK_four
    rw [e]
    refine ⟨rfl, Nat.le_refl _, rfl, rfl, rfl, fun j hj => ?_⟩
    rw [read_up rfl (by show j < 4; exact hj)]; rfl
  | k + 1 => by
    obtain ⟨h1, h2, h3, h4, h5, h6⟩ := readD_at l k
    have e : readD l (k + 1) = readF l k (readD l k) := rfl
    rw [e, readF, lastF]
    by_cases hb : bN l k 0 % 5 = 0
    · rw [if_pos hb, if_pos hb, flushK, if_neg (by rw [h4]; exact Bool.false_ne_true)]
      have hl : (lastsK (fun _ => true) 0 (readD l k).2.1 (readD l k).1).length = 4 := by rw [lastsK_len]; exact h1
      refine ⟨hl, Nat.zero_le _, h3, h4, h5, fun j hj => ?_⟩
      rw [read_up (by exact h4) (by show j < (lastsK _ 0 _ _).length; rw [hl]; exact hj), ← h6 j hj, read_up h4 (by rw [h1]; exact hj)]
      have := lasts_want (readD l k).2.1 (fun _ => true) (readD l k).1 j (by rw [h1]; exact hj) (readD l k).2.1.length (Nat.le_refl _)
      rw [List.take_length, want_last] at this
      exact this
    · have hi : bN l k 1 % 4 < 4 := Nat.mod_lt _ (by decide)
      rw [if_neg hb, if_neg hb, write_up h4 (by rw [h1]; exact hi) (blockK_size _), armK, if_neg (by rw [h3]; exact Int.lt_irrefl _)]
      refine ⟨h1, by show (_ ++ [_]).length ≤ _; rw [List.length_append, List.length_singleton]; omega, h3, h4, by rw [List.length_set]; exact h5, fun j hj => ?_⟩
      rw [read_up (by exact h4) (by show j < (readD l k).1.length; rw [h1]; exact hj), getD_set _ _ _ _ (by rw [h5]; exact hi), ← h6 j hj, read_up h4 (by rw [h1]; exact hj)]
      show (lastW ((readD l k).2.1 ++ [_]) _).getD _ = _
      rw [lastW_more]
      by_cases he : bN l k 1 % 4 = j
      · rw [if_pos he, if_pos (by simpa using congrArg (Nat.cast (R := Int)) he)]; rfl
      · rw [if_neg he, if_neg (by simpa using fun h : ((bN l k 1 % 4 : Nat) : Int) = (j : Int) => he (Int.ofNat.inj h))]
theorem readD_ok (l : List (List Int)) {k : Nat} (hk : k ≤ 100) : okD (readD l k) := by
  obtain ⟨h1, h2, h3, h4, h5, h6⟩ := readD_at l k
  exact ⟨by rw [h1]; decide, by omega, by rw [h3]; decide, by rw [h3]; decide⟩
/-- A deed at a disk (a read is none). -/
theorem eqN {c : Nat} (k : Nat) (h : (((c : Nat) : Int) == ((k : Nat) : Int)) = true) : c = k := Int.ofNat.inj (eq_of_beq h)
theorem neN {c : Nat} (k : Nat) (h : (((c : Nat) : Int) == ((k : Nat) : Int)) = false) : ¬ c = k := fun e => by rw [e] at h; simp at h
def deedAt (l : List (List Int)) (wild : Int) (i : Nat) : Int := if i % 8 = 7 then wild else ((bN l i 1 % 6 : Nat) : Int) - 1
def deedF (l : List (List Int)) (wild : Int) (x : ByteArray) (i : Nat) (d : Dk) : Dk :=
  if bN l i 0 % 8 = 0 then (flushK d).1
  else if bN l i 0 % 8 = 1 then crashK d [((bN l i 1 % 2 : Nat) : Int) == 0, ((bN l i 2 % 2 : Nat) : Int) == 0, ((bN l i 1 % 3 : Nat) : Int) == 0, true]
  else if bN l i 0 % 8 = 2 then (d.1, d.2.1, ((bN l i 2 % 6 : Nat) : Int), d.2.2.2.1, ())
  else if bN l i 0 % 8 = 3 then d
  else if bN l i 0 % 8 = 4 then (writeK d (deedAt l wild i) x).1
  else (writeK d (deedAt l wild i) (blockK (bN l i 2))).1
def deedD (l : List (List Int)) (wild : Int) (x : ByteArray) : Nat → Dk := runD (deedF l wild x) (newK 4)
/-- Fit: of four blocks, of so many writes. -/
def fitD (k : Nat) (d : Dk) : Prop := d.1.length = 4 ∧ d.2.1.length ≤ k ∧ 0 ≤ d.2.2.1 ∧ d.2.2.1 ≤ 5
theorem fitD_mono {k m : Nat} {d : Dk} (h : fitD k d) (hm : k ≤ m) : fitD m d := ⟨h.1, Nat.le_trans h.2.1 hm, h.2.2⟩
theorem fit_write {k : Nat} {d : Dk} (h : fitD k d) (i : Int) (b : ByteArray) : fitD (k + 1) (writeK d i b).1 := by
  rw [writeK]
  split
  · refine ⟨h.1, by show (_ ++ [_]).length ≤ _; rw [List.length_append, List.length_singleton]; exact Nat.succ_le_succ h.2.1, ?_⟩
    obtain ⟨_, _, h3, h4⟩ := h
    rw [armK]
    split
    · exact ⟨by show 0 ≤ d.2.2.1 - 1; omega, by show d.2.2.1 - 1 ≤ 5; omega⟩
    · exact ⟨h3, h4⟩
  · exact fitD_mono h (Nat.le_succ _)
theorem fit_flush {k : Nat} {d : Dk} (h : fitD k d) : fitD k (flushK d).1 := by
  rw [flushK]
  split
  · exact h
  · exact ⟨by rw [lastsK_len]; exact h.1, Nat.zero_le _, h.2.2⟩
theorem fit_crash {k : Nat} {d : Dk} (h : fitD k d) (keep : List Bool) : fitD k (crashK d keep) :=
  ⟨by rw [crashK, lastsK_len]; exact h.1, Nat.zero_le _, Int.le_refl _, by show (0 : Int) ≤ 5; decide⟩
theorem fit_deed {k : Nat} {d : Dk} (h : fitD k d) (l : List (List Int)) (wild : Int) (x : ByteArray) (i : Nat) : fitD (k + 1) (deedF l wild x i d) := by
  have h1 := fitD_mono h (Nat.le_succ k)
  unfold deedF
  split
  · exact fit_flush h1
  split
  · exact fit_crash h1 _
  split
  · exact ⟨h1.1, h1.2.1, by show (0 : Int) ≤ ((bN l i 2 % 6 : Nat) : Int); omega, by show ((bN l i 2 % 6 : Nat) : Int) ≤ 5; omega⟩
  split
  · exact h1
  split
  · exact fit_write h _ _
  · exact fit_write h _ _
theorem deedD_fit (l : List (List Int)) (wild : Int) (x : ByteArray) : ∀ k, fitD k (deedD l wild x k)
  | 0 => by
    have e : deedD l wild x 0 = (List.replicate 4 nought64, [], 0, false, ()) := newK_four
    rw [e]; exact ⟨rfl, Nat.le_refl _, by decide, by decide⟩
  | k + 1 => fit_deed (deedD_fit l wild x k) l wild x k
theorem fit_ok {k : Nat} {d : Dk} (h : fitD k d) (hk : k ≤ 1000) : okD d :=
  ⟨by rw [h.1]; decide, Nat.le_trans h.2.1 hk, by have := h.2.2.1; omega, by have := h.2.2.2; omega⟩
theorem sameK_self (d : Dk) : sameK d d = true := decide_eq_true rfl
/-- So many writes, one after the other, at five blocks. -/
def putsD (l : List (List Int)) : Dk → Nat → Dk := runD (fun i d => (writeK d ((bN l i 0 % 5 : Nat) : Int) (blockK (bN l i 1))).1)
theorem putsD_at (l : List (List Int)) {d0 : Dk} (h1 : d0.1.length = 5) (h2 : d0.2.2.1 = 0) (h3 : d0.2.2.2.1 = false) : ∀ k, (putsD l d0 k).1 = d0.1 ∧ (putsD l d0 k).2.1 = d0.2.1 ++ upto (fun i => (((bN l i 0 % 5 : Nat) : Int), blockK (bN l i 1), ())) k ∧ (putsD l d0 k).2.2.1 = 0 ∧ (putsD l d0 k).2.2.2.1 = false
  | 0 => ⟨rfl, (List.append_nil _).symm, h2, h3⟩
  | k + 1 => by
    obtain ⟨a1, a2, a3, a4⟩ := putsD_at l h1 h2 h3 k
    have e : putsD l d0 (k + 1) = (writeK (putsD l d0 k) ((bN l k 0 % 5 : Nat) : Int) (blockK (bN l k 1))).1 := rfl
    rw [e, write_up a4 (by rw [a1, h1]; exact Nat.mod_lt _ (by decide)) (blockK_size _), armK, if_neg (by rw [a3]; exact Int.lt_irrefl _)]
    exact ⟨a1, by show _ ++ [_] = _; rw [a2, upto_succ, List.append_assoc], a3, a4⟩
theorem putsD_ok (l : List (List Int)) {d0 : Dk} (h1 : d0.1.length = 5) (h2 : d0.2.2.1 = 0) (h3 : d0.2.2.2.1 = false) {k : Nat} (hk : d0.2.1.length + k ≤ 1000) : okD (putsD l d0 k) := by
  obtain ⟨a1, a2, a3, a4⟩ := putsD_at l h1 h2 h3 k
  exact ⟨by rw [a1, h1]; decide, by rw [a2, List.length_append, upto_length]; exact hk, by rw [a3]; decide, by rw [a3]; decide⟩
theorem upto_getD {α : Type} (f : Nat → α) (z : α) {k n : Nat} (h : k < n) : (upto f n).getD k z = f k := by
  rw [List.getD_eq_getElem?_getD, upto, List.getElem?_map, List.getElem?_range h]; rfl
theorem crash_read {d : Dk} {keep : List Bool} {i : Nat} (hi : i < d.1.length) : readK (crashK d keep) (i : Int) = (wantN d.2.1 (keepL keep) i (d.1.getD i no) d.2.1.length, true) := by
  rw [read_up rfl (by show i < (lastsK _ 0 _ _).length; rw [lastsK_len]; exact hi)]
  have := lasts_want d.2.1 (keepL keep) d.1 i hi d.2.1.length (Nat.le_refl _)
  rw [List.take_length] at this
  rw [← this]; rfl
theorem crash_ok {d : Dk} (h : okD d) (keep : List Bool) : okD (crashK d keep) :=
  ⟨by rw [crashK, lastsK_len]; exact h.1, Nat.zero_le _, by show (-1000 : Int) ≤ 0; decide, by show (0 : Int) ≤ 1000; decide⟩
end Go.Proofs.Ytcopoofbicgjbaa
