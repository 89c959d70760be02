/- bits: numbers and texts as bytes, walked. -/
import Derived.Test.YthhjlbpmpffapaaGreatDoorTab
import Derived.Test.YthhjlbpmpffapaaGreatDoorPBits
set_option maxRecDepth 10000
set_option linter.unusedSimpArgs false
set_option linter.unusedVariables false
set_option pp.deepTerms.threshold 16
namespace Go.Proofs.YthhjlbpmpffapaaGreatDoor
open Go.Tm Go.IntWalk

abbrev room : Nat := 140737488355328
/-- The contract of slices.Clone[[]byte,byte]. -/
def cloneC : Con := conN [(.v, .slice (.int .u8))] fun (xs, _) => if xs.length ≤ 140737488355328 then some ⟨.own (.int .u8) xs, []⟩ else none
theorem cloneC_eq {xs : List Int} : cloneC [.val ⟨.slice (.int .u8), xs⟩] = if xs.length ≤ 140737488355328 then some ⟨.own (.int .u8) xs, []⟩ else none := conN_mk (ks := [(.v, .slice (.int .u8))]) (xs, ())
def Γclone : Cons := cons []
theorem clone_ex (xs : List Int) (hr : xs.length ≤ 140737488355328) : Ex tab Γclone (Tryz.f88.body.getD .skip) (EndsF tab Tryz.f88.results.toList [.val ⟨.slice (.int .u8), xs⟩] ⟨.own (.int .u8) xs, []⟩) (ini [.val ⟨.slice (.int .u8), xs⟩]) := by
  simp only [Tryz.f88, Option.getD_some]
  simp (implicitDefEqProofs := false) (decide := true) (maxSteps := 4000000) [ini]
  exact hr
theorem clone_ok : ConOK Tryz.prog 88 cloneC := by
  refine con_ok tab_ok (Γ := Γclone) consOK_nil (by kernel_rfl) Tryz.func88 (by kernel_rfl) ?_
  intro args out h
  obtain ⟨x, e, h1⟩ := conN_inv h
  clear h
  obtain ⟨xs, x0⟩ := x
  subst e
  replace h1 : (if xs.length ≤ 140737488355328 then some ⟨.own (.int .u8) xs, []⟩ else none) = some out := h1
  split at h1
  case isFalse => cases h1
  rename_i hr
  injection h1 with h1
  subst h1
  exact ⟨by rw [mkArgs_len]; decide, clone_ex xs hr⟩

def byteN (x : Int) (k : Nat) : Int := IntKind.u8.wrap (x.fdiv (2 ^ (8 * k)))
def bytesN (n : Nat) (x : Int) : List Int := (List.range n).map (byteN x)
theorem bytesN_succ (n : Nat) (x : Int) : bytesN (n + 1) x = bytesN n x ++ [byteN x n] := by simp [bytesN, List.range_succ]
theorem bytesN_len (n : Nat) (x : Int) : (bytesN n x).length = n := by simp [bytesN]
def putS (b : List Int) (n : Int) (l : List Int) : List Int := if n < 1 ∨ 4 < n then b else b ++ l.flatMap (bytesN n.toNat)
/-- The contract of bits.Put. -/
def putC : Con := conN [(.v, .slice (.int .u8)), (.v, .int .i64), (.v, .slice (.int .i64))] fun (b, n, l, _) => if b.length + 4 * l.length ≤ 140737488355328 then some ⟨.own (.int .u8) (putS b n l), []⟩ else none
theorem putC_eq {b : List Int} {n : Int} {l : List Int} : putC [.val ⟨.slice (.int .u8), b⟩, .val ⟨.int .i64, n⟩, .val ⟨.slice (.int .i64), l⟩] = if b.length + 4 * l.length ≤ 140737488355328 then some ⟨.own (.int .u8) (putS b n l), []⟩ else none := conN_mk (ks := [(.v, .slice (.int .u8)), (.v, .int .i64), (.v, .slice (.int .i64))]) (b, n, l, ())
def Γput : Cons := cons [(88, cloneC)]
theorem put_ex (b : List Int) (n : Int) (l : List Int) (hr : b.length + 4 * l.length ≤ 140737488355328) : Ex tab Γput (Tryz.f75.body.getD .skip) (EndsF tab Tryz.f75.results.toList [.val ⟨.slice (.int .u8), b⟩, .val ⟨.int .i64, n⟩, .val ⟨.slice (.int .i64), l⟩] ⟨.own (.int .u8) (putS b n l), []⟩) (ini [.val ⟨.slice (.int .u8), b⟩, .val ⟨.int .i64, n⟩, .val ⟨.slice (.int .i64), l⟩]) := by
  have g_clone : Γput 88 = some cloneC := rfl
  simp only [Tryz.f75, Option.getD_some]
  simp (implicitDefEqProofs := false) (decide := true) (maxSteps := 4000000) [ini, g_clone, cloneC_eq]
  intro m
  refine ⟨by omega, ?_⟩
  refine br_dec (fun h1 => by simp [putS, h1]) (fun h1 => br_dec (fun h4 => by simp [putS, h4]) (fun h4 => fun hl => ?_))
  obtain ⟨c, rfl⟩ := Int.eq_ofNat_of_zero_le (show 0 ≤ n by omega)
  refine ex_loopU (σ := Nat × Nat × List Int) [0, 8, 9, 21, 22, 23, 24, 25, 26, 27, 28, 29, 30, 31, 32, 33, 34, 35, 36, 37, 38] (fun s => [(21, .val (.int .i64) (s.1 : Int)), (0, .own s.2.1 (.int .u8) s.2.2)])
    (fun s => s.1 ≤ l.length ∧ s.2.2 = b ++ (l.take s.1).flatMap (bytesN c)) (fun s => l.length - s.1) (0, _, _) ?_ (hc rfl (hc rfl hn)) ?_
  · exact ⟨by simp, by simp⟩
  rintro j ⟨i, q, xs⟩ ⟨hi, hx⟩
  simp only at hi hx
  simp (implicitDefEqProofs := false) (decide := true) [ini]
  refine br_dec (fun hlt => ⟨hlt, ?_⟩) (fun hge => ?_)
  · refine ex_loopU (σ := Nat × Nat × List Int) [0, 9, 26, 27, 28, 29, 30, 31, 32, 33, 34, 35, 36, 37] (fun s => [(26, .val (.int .i64) (s.1 : Int)), (0, .own s.2.1 (.int .u8) s.2.2)])
      (fun s => s.1 ≤ c ∧ s.2.2 = xs ++ bytesN s.1 (l.getD i 0)) (fun s => c - s.1) (0, _, _) ?_ (hc rfl (hc rfl hn)) ?_
    · exact ⟨by simp, by simp [bytesN]⟩
    rintro j2 ⟨k, q2, ys⟩ ⟨hk, hy⟩
    simp only at hk hy
    simp (implicitDefEqProofs := false) (decide := true) [ini]
    have hlen : ys.length = b.length + i * c + k := by
      rw [hy, hx, List.length_append, List.length_append, flatMap_len (bytesN_len c), bytesN_len, List.length_take, Nat.min_eq_left (by omega)]
    have h6 : i * c ≤ i * 4 := Nat.mul_le_mul_left _ (by omega)
    refine br_dec (fun hk2 => fun m => ⟨?_, ?_, k + 1, _, _, ⟨by omega, ?_⟩, by omega, w_nat rfl (by omega), rfl, rfl⟩) (fun hk2 => ⟨i + 1, _, _, ⟨by omega, ?_⟩, by omega, w_nat rfl (by omega), rfl, rfl⟩)
    · rw [w_nat (n := 8 * k) (by simp) (by omega)]; omega
    · omega
    · rw [hy, bytesN_succ, w_nat (n := 8 * k) (by simp) (by omega)]
      simp only [List.append_assoc, byteN, Int.toNat_natCast, List.getD_eq_getElem?_getD]
      rw [Nat.min_eq_left (show 8 * k ≤ IntKind.i64.bits by show 8 * k ≤ 64; omega)]
    · have : k = c := by omega
      rw [hy, hx, take_flatMap _ _ _ hlt 0, this, List.append_assoc]
  · have hil : i = l.length := by omega
    subst hil
    simp [putS, h1, h4, hx]
theorem put_ok : ConOK Tryz.prog 75 putC := by
  refine con_ok tab_ok (Γ := Γput) (consOK_cons clone_ok consOK_nil) (by kernel_rfl) Tryz.func75 (by kernel_rfl) ?_
  intro args out h
  obtain ⟨x, e, h1⟩ := conN_inv h
  clear h
  obtain ⟨b, n, l, x0⟩ := x
  subst e
  replace h1 : (if b.length + 4 * l.length ≤ 140737488355328 then some ⟨.own (.int .u8) (putS b n l), []⟩ else none) = some out := h1
  split at h1
  case isFalse => cases h1
  rename_i hr
  injection h1 with h1
  subst h1
  exact ⟨by rw [mkArgs_len]; decide, put_ex b n l hr⟩

def orN (b : List Int) : Nat → Int
  | 0 => 0
  | k + 1 => Tm.bits .or .i64 (orN b k) (IntKind.i64.wrap (IntKind.i64.wrap (b.getD k 0) * 2 ^ (8 * k)))
def takeS (b : List Int) (n : Int) : Int × Bool := if (n < 1 ∨ 4 < n) ∨ (b.length : Int) < n then (0, false) else (orN b n.toNat, true)
/-- The contract of bits.Take. -/
def takeC : Con := conN [(.v, .slice (.int .u8)), (.v, .int .i64)] fun (b, n, _) => some ⟨.tup [⟨.int .i64, (takeS b n).1⟩, ⟨.bool, (takeS b n).2⟩], []⟩
theorem takeC_eq {b : List Int} {n : Int} : takeC [.val ⟨.slice (.int .u8), b⟩, .val ⟨.int .i64, n⟩] = some ⟨.tup [⟨.int .i64, (takeS b n).1⟩, ⟨.bool, (takeS b n).2⟩], []⟩ := conN_mk (ks := [(.v, .slice (.int .u8)), (.v, .int .i64)]) (b, n, ())
def Γtake : Cons := cons []
theorem take_ex (b : List Int) (n : Int) : Ex tab Γtake (Tryz.f55.body.getD .skip) (EndsF tab Tryz.f55.results.toList [.val ⟨.slice (.int .u8), b⟩, .val ⟨.int .i64, n⟩] ⟨.tup [⟨.int .i64, (takeS b n).1⟩, ⟨.bool, (takeS b n).2⟩], []⟩) (ini [.val ⟨.slice (.int .u8), b⟩, .val ⟨.int .i64, n⟩]) := by
  simp only [Tryz.f55, Option.getD_some]
  simp (implicitDefEqProofs := false) (decide := true) (maxSteps := 4000000) [ini]
  refine br_dec (fun h1 => by simp [takeS, h1]) (fun h1 => br_dec (fun h4 => by simp [takeS, h4]) (fun h4 => fun hl => br_dec (fun h5 => by simp [takeS, h5]) fun h5 => ⟨⟨by omega, by omega⟩, fun hl2 => ?_⟩))
  obtain ⟨c, rfl⟩ := Int.eq_ofNat_of_zero_le (show 0 ≤ n by omega)
  refine ex_loopU (σ := Nat × Int) [6, 7, 8, 25, 26, 27, 28, 29, 30, 31, 32, 33, 34, 35, 36, 37] (fun s => [(25, .val (.int .i64) (s.1 : Int)), (6, .val (.int .i64) s.2)])
    (fun s => s.1 ≤ c ∧ s.2 = orN b s.1) (fun s => c - s.1) (0, _) ?_ (hc rfl (hc rfl hn)) ?_
  · exact ⟨by simp, rfl⟩
  rintro j ⟨k, v⟩ ⟨hk, hv⟩
  simp only at hk hv
  simp (implicitDefEqProofs := false) (decide := true) [ini]
  refine br_dec (fun h6 => ⟨h6, ?_, k + 1, _, ⟨by omega, ?_⟩, by omega, w_nat rfl (by omega), rfl⟩) (fun h6 => ?_)
  · rw [w_nat (n := 8 * k) (by simp) (by omega)]; omega
  · rw [hv, w_nat (z := 8 * (k : Int)) (n := 8 * k) (by simp) (by omega)]
    simp only [orN, Int.toNat_natCast]
    rw [Nat.min_eq_left (show 8 * k ≤ IntKind.i64.bits by show 8 * k ≤ 64; omega), List.getElem?_take_of_lt (by omega), List.getD_eq_getElem?_getD]
  · have : k = c := by omega
    subst this
    simp [takeS, h1, h4, h5, hv]
theorem take_ok : ConOK Tryz.prog 55 takeC := by
  refine con_ok tab_ok (Γ := Γtake) consOK_nil (by kernel_rfl) Tryz.func55 (by kernel_rfl) ?_
  intro args out h
  obtain ⟨x, e, h1⟩ := conN_inv h
  clear h
  obtain ⟨b, n, x0⟩ := x
  subst e
  replace h1 : (some ⟨.tup [⟨.int .i64, (takeS b n).1⟩, ⟨.bool, (takeS b n).2⟩], []⟩) = some out := h1
  injection h1 with h1
  subst h1
  exact ⟨by rw [mkArgs_len]; decide, take_ex b n⟩

def textS (b : List Int) (s : ByteArray) : List Int := if 255 < s.size then b else b ++ IntKind.u8.wrap (s.size : Int) :: bytesOf s
/-- The contract of bits.Text. -/
def textC : Con := conN [(.v, .slice (.int .u8)), (.v, .str)] fun (b, s, _) => if b.length + s.size ≤ 140737488355000 then some ⟨.own (.int .u8) (textS b s), []⟩ else none
theorem textC_eq {b : List Int} {s : ByteArray} : textC [.val ⟨.slice (.int .u8), b⟩, .val ⟨.str, s⟩] = if b.length + s.size ≤ 140737488355000 then some ⟨.own (.int .u8) (textS b s), []⟩ else none := conN_mk (ks := [(.v, .slice (.int .u8)), (.v, .str)]) (b, s, ())
def Γtext : Cons := cons [(88, cloneC)]
theorem text_ex (b : List Int) (s : ByteArray) (hr : b.length + s.size ≤ 140737488355000) : Ex tab Γtext (Tryz.f76.body.getD .skip) (EndsF tab Tryz.f76.results.toList [.val ⟨.slice (.int .u8), b⟩, .val ⟨.str, s⟩] ⟨.own (.int .u8) (textS b s), []⟩) (ini [.val ⟨.slice (.int .u8), b⟩, .val ⟨.str, s⟩]) := by
  have g_clone : Γtext 88 = some cloneC := rfl
  simp only [Tryz.f76, Option.getD_some]
  simp (implicitDefEqProofs := false) (decide := true) (maxSteps := 4000000) [ini, g_clone, cloneC_eq]
  refine ⟨by omega, br_dec (fun h => by rw [textS, if_pos (by omega)]) (fun h => ⟨by omega, ?_, by rw [textS, if_neg (by omega)]⟩)⟩
  rw [bytesOf_len]; omega
theorem text_ok : ConOK Tryz.prog 76 textC := by
  refine con_ok tab_ok (Γ := Γtext) (consOK_cons clone_ok consOK_nil) (by kernel_rfl) Tryz.func76 (by kernel_rfl) ?_
  intro args out h
  obtain ⟨x, e, h1⟩ := conN_inv h
  clear h
  obtain ⟨b, s, x0⟩ := x
  subst e
  replace h1 : (if b.length + s.size ≤ 140737488355000 then some ⟨.own (.int .u8) (textS b s), []⟩ else none) = some out := h1
  split at h1
  case isFalse => cases h1
  rename_i hr
  injection h1 with h1
  subst h1
  exact ⟨by rw [mkArgs_len]; decide, text_ex b s hr⟩

def takeTextS (b : List Int) : ByteArray × Int × Bool :=
  if b.length = 0 ∨ (b.length : Int) ≤ IntKind.i64.wrap (b.getD 0 0) then (⟨#[]⟩, 0, false) else
  (strOf ((b.drop 1).take (b.getD 0 0).toNat), 1 + b.getD 0 0, true)
/-- The contract of bits.TakeText. -/
def takeTextC : Con := conN [(.v, .slice (.int .u8))] fun (b, _) => if 0 ≤ b.getD 0 0 ∧ b.getD 0 0 < 256 then some ⟨.tup [⟨.str, (takeTextS b).1⟩, ⟨.int .i64, (takeTextS b).2.1⟩, ⟨.bool, (takeTextS b).2.2⟩], []⟩ else none
theorem takeTextC_eq {b : List Int} : takeTextC [.val ⟨.slice (.int .u8), b⟩] = if 0 ≤ b.getD 0 0 ∧ b.getD 0 0 < 256 then some ⟨.tup [⟨.str, (takeTextS b).1⟩, ⟨.int .i64, (takeTextS b).2.1⟩, ⟨.bool, (takeTextS b).2.2⟩], []⟩ else none := conN_mk (ks := [(.v, .slice (.int .u8))]) (b, ())
def ΓtakeText : Cons := cons []
theorem takeText_ex (b : List Int) (hr : 0 ≤ b.getD 0 0 ∧ b.getD 0 0 < 256) : Ex tab ΓtakeText (Tryz.f54.body.getD .skip) (EndsF tab Tryz.f54.results.toList [.val ⟨.slice (.int .u8), b⟩] ⟨.tup [⟨.str, (takeTextS b).1⟩, ⟨.int .i64, (takeTextS b).2.1⟩, ⟨.bool, (takeTextS b).2.2⟩], []⟩) (ini [.val ⟨.slice (.int .u8), b⟩]) := by
  simp only [Tryz.f54, Option.getD_some]
  simp (implicitDefEqProofs := false) (decide := true) (maxSteps := 4000000) [ini]
  intro hl
  refine br_intro (fun h => ?_) (fun h => ?_)
  · simp at h
    simp [takeTextS, h]
  intro _
  have hne : ¬ b = [] := by simpa using h
  have h0 : 0 < b.length := List.length_pos_iff.2 hne
  have e0 : b[0]?.getD 0 = b.getD 0 0 := (List.getD_eq_getElem?_getD).symm
  rw [e0]
  generalize hx : b.getD 0 0 = x at hr ⊢
  have w1 : IntKind.i64.wrap x = x := i64_in _ (by omega)
  have w2 : IntKind.i64.wrap (1 + x) = 1 + x := i64_in _ (by omega)
  rw [w1, w2]
  refine ⟨h0, br_dec (fun h1 => ?_) (fun h1 => ⟨h0, ⟨by omega, by omega⟩, by omega, ?_⟩)⟩
  · rw [show takeTextS b = (⟨#[]⟩, 0, false) by rw [takeTextS, hx, w1, if_pos (.inr h1)]]
    exact ⟨rfl, rfl, rfl⟩
  · rw [show takeTextS b = (strOf ((b.drop 1).take x.toNat), 1 + x, true) by rw [takeTextS, hx, w1, if_neg (by omega)]]
    refine ⟨?_, rfl, rfl⟩
    rw [show (1 + x).toNat - 1 = x.toNat by omega, List.drop_one]
theorem takeText_ok : ConOK Tryz.prog 54 takeTextC := by
  refine con_ok tab_ok (Γ := ΓtakeText) consOK_nil (by kernel_rfl) Tryz.func54 (by kernel_rfl) ?_
  intro args out h
  obtain ⟨x, e, h1⟩ := conN_inv h
  clear h
  obtain ⟨b, x0⟩ := x
  subst e
  replace h1 : (if 0 ≤ b.getD 0 0 ∧ b.getD 0 0 < 256 then some ⟨.tup [⟨.str, (takeTextS b).1⟩, ⟨.int .i64, (takeTextS b).2.1⟩, ⟨.bool, (takeTextS b).2.2⟩], []⟩ else none) = some out := h1
  split at h1
  case isFalse => cases h1
  rename_i hr
  injection h1 with h1
  subst h1
  exact ⟨by rw [mkArgs_len]; decide, takeText_ex b hr⟩
end Go.Proofs.YthhjlbpmpffapaaGreatDoor
