/- Texts joined: Bits1, PBase, Dir1, PNum. -/
import Derived.Test.YtodkmhamaahjmaaGreatDoorTab
import Derived.Test.YtodkmhamaahjmaaGreatDoorG0
import Derived.Test.YtodkmhamaahjmaaGreatDoorG1
/- bits: numbers and texts as bytes, walked. -/
set_option maxRecDepth 10000
set_option linter.unusedSimpArgs false
set_option linter.unusedVariables false
set_option pp.deepTerms.threshold 16
namespace Go.Proofs.YtodkmhamaahjmaaGreatDoor
open Go.Tm Go.IntWalk

abbrev room : Nat := 140737488355328
/-- The contract of slices.Clone[[]byte,byte]. -/
def cloneC : Con := conN [(.v, .slice (.int .u8))] fun (xs, _) => if xs.length ≤ 140737488355328 then some ⟨.own (.int .u8) xs, []⟩ else none
theorem cloneC_eq {xs : List Int} : cloneC [.val ⟨.slice (.int .u8), xs⟩] = if xs.length ≤ 140737488355328 then some ⟨.own (.int .u8) xs, []⟩ else none := conN_mk (ks := [(.v, .slice (.int .u8))]) (xs, ())
def Γclone : Cons := cons []
theorem clone_ex (xs : List Int) (hr : xs.length ≤ 140737488355328) : Ex tab Γclone (Tryz.f108.body.getD .skip) (EndsF tab Tryz.f108.results.toList [.val ⟨.slice (.int .u8), xs⟩] ⟨.own (.int .u8) xs, []⟩) (ini [.val ⟨.slice (.int .u8), xs⟩]) := by
  simp only [Tryz.f108, Option.getD_some]
  simp (implicitDefEqProofs := false) (decide := true) (maxSteps := 4000000) [ini]
  exact hr
theorem clone_ok : ConOK Tryz.prog 108 cloneC := by
  refine con_ok tab_ok (Γ := Γclone) consOK_nil (by kernel_rfl) Tryz.func108 (by kernel_rfl) ?_
  intro args out h
  obtain ⟨x, e, h1⟩ := conN_inv h
  clear h
  obtain ⟨xs, x0⟩ := x
  subst e
  replace h1 : (if xs.length ≤ 140737488355328 then some ⟨.own (.int .u8) xs, []⟩ else none) = some out := h1
  split at h1
  case isFalse => cases h1
  rename_i hr
  injection h1 with h1
  subst h1
  exact ⟨by rw [mkArgs_len]; decide, clone_ex xs hr⟩

def byteN (x : Int) (k : Nat) : Int := IntKind.u8.wrap (x.fdiv (2 ^ (8 * k)))
def bytesN (n : Nat) (x : Int) : List Int := (List.range n).map (byteN x)
theorem bytesN_succ (n : Nat) (x : Int) : bytesN (n + 1) x = bytesN n x ++ [byteN x n] := by simp [bytesN, List.range_succ]
theorem bytesN_len (n : Nat) (x : Int) : (bytesN n x).length = n := by simp [bytesN]
def putS (b : List Int) (n : Int) (l : List Int) : List Int := if n < 1 ∨ 4 < n then b else b ++ l.flatMap (bytesN n.toNat)
/-- The contract of bits.Put. -/
def putC : Con := conN [(.v, .slice (.int .u8)), (.v, .int .i64), (.v, .slice (.int .i64))] fun (b, n, l, _) => if b.length + 4 * l.length ≤ 140737488355328 then some ⟨.own (.int .u8) (putS b n l), []⟩ else none
theorem putC_eq {b : List Int} {n : Int} {l : List Int} : putC [.val ⟨.slice (.int .u8), b⟩, .val ⟨.int .i64, n⟩, .val ⟨.slice (.int .i64), l⟩] = if b.length + 4 * l.length ≤ 140737488355328 then some ⟨.own (.int .u8) (putS b n l), []⟩ else none := conN_mk (ks := [(.v, .slice (.int .u8)), (.v, .int .i64), (.v, .slice (.int .i64))]) (b, n, l, ())
def Γput : Cons := cons [(108, cloneC)]
theorem put_ex (b : List Int) (n : Int) (l : List Int) (hr : b.length + 4 * l.length ≤ 140737488355328) : Ex tab Γput (Tryz.f91.body.getD .skip) (EndsF tab Tryz.f91.results.toList [.val ⟨.slice (.int .u8), b⟩, .val ⟨.int .i64, n⟩, .val ⟨.slice (.int .i64), l⟩] ⟨.own (.int .u8) (putS b n l), []⟩) (ini [.val ⟨.slice (.int .u8), b⟩, .val ⟨.int .i64, n⟩, .val ⟨.slice (.int .i64), l⟩]) := by
  have g_clone : Γput 108 = some cloneC := rfl
  simp only [Tryz.f91, Option.getD_some]
  simp (implicitDefEqProofs := false) (decide := true) (maxSteps := 4000000) [ini, g_clone, cloneC_eq]
  intro m
  refine ⟨by omega, ?_⟩
  refine br_dec (fun h1 => by simp [putS, h1]) (fun h1 => br_dec (fun h4 => by simp [putS, h4]) (fun h4 => fun hl => ?_))
  obtain ⟨c, rfl⟩ := Int.eq_ofNat_of_zero_le (show 0 ≤ n by omega)
  refine ex_loopU (σ := Nat × Nat × List Int) [0, 8, 9, 21, 22, 23, 24, 25, 26, 27, 28, 29, 30, 31, 32, 33, 34, 35, 36, 37, 38] (fun s => [(21, .val (.int .i64) (s.1 : Int)), (0, .own s.2.1 (.int .u8) s.2.2)])
    (fun s => s.1 ≤ l.length ∧ s.2.2 = b ++ (l.take s.1).flatMap (bytesN c)) (fun s => l.length - s.1) (0, _, _) ?_ (hc rfl (hc rfl hn)) ?_
  · exact ⟨by simp, by simp⟩
  rintro j ⟨i, q, xs⟩ ⟨hi, hx⟩
  simp only at hi hx
  simp (implicitDefEqProofs := false) (decide := true) [ini]
  refine br_dec (fun hlt => ⟨hlt, ?_⟩) (fun hge => ?_)
  · refine ex_loopU (σ := Nat × Nat × List Int) [0, 9, 26, 27, 28, 29, 30, 31, 32, 33, 34, 35, 36, 37] (fun s => [(26, .val (.int .i64) (s.1 : Int)), (0, .own s.2.1 (.int .u8) s.2.2)])
      (fun s => s.1 ≤ c ∧ s.2.2 = xs ++ bytesN s.1 (l.getD i 0)) (fun s => c - s.1) (0, _, _) ?_ (hc rfl (hc rfl hn)) ?_
    · exact ⟨by simp, by simp [bytesN]⟩
    rintro j2 ⟨k, q2, ys⟩ ⟨hk, hy⟩
    simp only at hk hy
    simp (implicitDefEqProofs := false) (decide := true) [ini]
    have hlen : ys.length = b.length + i * c + k := by
      rw [hy, hx, List.length_append, List.length_append, flatMap_len (bytesN_len c), bytesN_len, List.length_take, Nat.min_eq_left (by omega)]
    have h6 : i * c ≤ i * 4 := Nat.mul_le_mul_left _ (by omega)
    refine br_dec (fun hk2 => fun m => ⟨?_, ?_, k + 1, _, _, ⟨by omega, ?_⟩, by omega, w_nat rfl (by omega), rfl, rfl⟩) (fun hk2 => ⟨i + 1, _, _, ⟨by omega, ?_⟩, by omega, w_nat rfl (by omega), rfl, rfl⟩)
    · rw [w_nat (n := 8 * k) (by simp) (by omega)]; omega
    · omega
    · rw [hy, bytesN_succ, w_nat (n := 8 * k) (by simp) (by omega)]
      simp only [List.append_assoc, byteN, Int.toNat_natCast, List.getD_eq_getElem?_getD]
      rw [Nat.min_eq_left (show 8 * k ≤ IntKind.i64.bits by show 8 * k ≤ 64; omega)]
    · have : k = c := by omega
      rw [hy, hx, take_flatMap _ _ _ hlt 0, this, List.append_assoc]
  · have hil : i = l.length := by omega
    subst hil
    simp [putS, h1, h4, hx]
theorem put_ok : ConOK Tryz.prog 91 putC := by
  refine con_ok tab_ok (Γ := Γput) (consOK_cons clone_ok consOK_nil) (by kernel_rfl) Tryz.func91 (by kernel_rfl) ?_
  intro args out h
  obtain ⟨x, e, h1⟩ := conN_inv h
  clear h
  obtain ⟨b, n, l, x0⟩ := x
  subst e
  replace h1 : (if b.length + 4 * l.length ≤ 140737488355328 then some ⟨.own (.int .u8) (putS b n l), []⟩ else none) = some out := h1
  split at h1
  case isFalse => cases h1
  rename_i hr
  injection h1 with h1
  subst h1
  exact ⟨by rw [mkArgs_len]; decide, put_ex b n l hr⟩

def orN (b : List Int) : Nat → Int
  | 0 => 0
  | k + 1 => Tm.bits .or .i64 (orN b k) (IntKind.i64.wrap (IntKind.i64.wrap (b.getD k 0) * 2 ^ (8 * k)))
def takeS (b : List Int) (n : Int) : Int × Bool := if (n < 1 ∨ 4 < n) ∨ (b.length : Int) < n then (0, false) else (orN b n.toNat, true)
/-- The contract of bits.Take. -/
def takeC : Con := conN [(.v, .slice (.int .u8)), (.v, .int .i64)] fun (b, n, _) => some ⟨.tup [⟨.int .i64, (takeS b n).1⟩, ⟨.bool, (takeS b n).2⟩], []⟩
theorem takeC_eq {b : List Int} {n : Int} : takeC [.val ⟨.slice (.int .u8), b⟩, .val ⟨.int .i64, n⟩] = some ⟨.tup [⟨.int .i64, (takeS b n).1⟩, ⟨.bool, (takeS b n).2⟩], []⟩ := conN_mk (ks := [(.v, .slice (.int .u8)), (.v, .int .i64)]) (b, n, ())
def Γtake : Cons := cons []
theorem take_ex (b : List Int) (n : Int) : Ex tab Γtake (Tryz.f105.body.getD .skip) (EndsF tab Tryz.f105.results.toList [.val ⟨.slice (.int .u8), b⟩, .val ⟨.int .i64, n⟩] ⟨.tup [⟨.int .i64, (takeS b n).1⟩, ⟨.bool, (takeS b n).2⟩], []⟩) (ini [.val ⟨.slice (.int .u8), b⟩, .val ⟨.int .i64, n⟩]) := by
  simp only [Tryz.f105, Option.getD_some]
  simp (implicitDefEqProofs := false) (decide := true) (maxSteps := 4000000) [ini]
  refine br_dec (fun h1 => by simp [takeS, h1]) (fun h1 => br_dec (fun h4 => by simp [takeS, h4]) (fun h4 => fun hl => br_dec (fun h5 => by simp [takeS, h5]) fun h5 => ⟨⟨by omega, by omega⟩, fun hl2 => ?_⟩))
  obtain ⟨c, rfl⟩ := Int.eq_ofNat_of_zero_le (show 0 ≤ n by omega)
  refine ex_loopU (σ := Nat × Int) [6, 7, 8, 25, 26, 27, 28, 29, 30, 31, 32, 33, 34, 35, 36, 37] (fun s => [(25, .val (.int .i64) (s.1 : Int)), (6, .val (.int .i64) s.2)])
    (fun s => s.1 ≤ c ∧ s.2 = orN b s.1) (fun s => c - s.1) (0, _) ?_ (hc rfl (hc rfl hn)) ?_
  · exact ⟨by simp, rfl⟩
  rintro j ⟨k, v⟩ ⟨hk, hv⟩
  simp only at hk hv
  simp (implicitDefEqProofs := false) (decide := true) [ini]
  refine br_dec (fun h6 => ⟨h6, ?_, k + 1, _, ⟨by omega, ?_⟩, by omega, w_nat rfl (by omega), rfl⟩) (fun h6 => ?_)
  · rw [w_nat (n := 8 * k) (by simp) (by omega)]; omega
  · rw [hv, w_nat (z := 8 * (k : Int)) (n := 8 * k) (by simp) (by omega)]
    simp only [orN, Int.toNat_natCast]
    rw [Nat.min_eq_left (show 8 * k ≤ IntKind.i64.bits by show 8 * k ≤ 64; omega), List.getElem?_take_of_lt (by omega), List.getD_eq_getElem?_getD]
  · have : k = c := by omega
    subst this
    simp [takeS, h1, h4, h5, hv]
theorem take_ok : ConOK Tryz.prog 105 takeC := by
  refine con_ok tab_ok (Γ := Γtake) consOK_nil (by kernel_rfl) Tryz.func105 (by kernel_rfl) ?_
  intro args out h
  obtain ⟨x, e, h1⟩ := conN_inv h
  clear h
  obtain ⟨b, n, x0⟩ := x
  subst e
  replace h1 : (some ⟨.tup [⟨.int .i64, (takeS b n).1⟩, ⟨.bool, (takeS b n).2⟩], []⟩) = some out := h1
  injection h1 with h1
  subst h1
  exact ⟨by rw [mkArgs_len]; decide, take_ex b n⟩

def textS (b : List Int) (s : ByteArray) : List Int := if 255 < s.size then b else b ++ IntKind.u8.wrap (s.size : Int) :: bytesOf s
/-- The contract of bits.Text. -/
def textC : Con := conN [(.v, .slice (.int .u8)), (.v, .str)] fun (b, s, _) => if b.length + s.size ≤ 140737488355000 then some ⟨.own (.int .u8) (textS b s), []⟩ else none
theorem textC_eq {b : List Int} {s : ByteArray} : textC [.val ⟨.slice (.int .u8), b⟩, .val ⟨.str, s⟩] = if b.length + s.size ≤ 140737488355000 then some ⟨.own (.int .u8) (textS b s), []⟩ else none := conN_mk (ks := [(.v, .slice (.int .u8)), (.v, .str)]) (b, s, ())
def Γtext : Cons := cons [(108, cloneC)]
theorem text_ex (b : List Int) (s : ByteArray) (hr : b.length + s.size ≤ 140737488355000) : Ex tab Γtext (Tryz.f92.body.getD .skip) (EndsF tab Tryz.f92.results.toList [.val ⟨.slice (.int .u8), b⟩, .val ⟨.str, s⟩] ⟨.own (.int .u8) (textS b s), []⟩) (ini [.val ⟨.slice (.int .u8), b⟩, .val ⟨.str, s⟩]) := by
  have g_clone : Γtext 108 = some cloneC := rfl
  simp only [Tryz.f92, Option.getD_some]
  simp (implicitDefEqProofs := false) (decide := true) (maxSteps := 4000000) [ini, g_clone, cloneC_eq]
  refine ⟨by omega, br_dec (fun h => by rw [textS, if_pos (by omega)]) (fun h => ⟨by omega, ?_, by rw [textS, if_neg (by omega)]⟩)⟩
  rw [bytesOf_len]; omega
theorem text_ok : ConOK Tryz.prog 92 textC := by
  refine con_ok tab_ok (Γ := Γtext) (consOK_cons clone_ok consOK_nil) (by kernel_rfl) Tryz.func92 (by kernel_rfl) ?_
  intro args out h
  obtain ⟨x, e, h1⟩ := conN_inv h
  clear h
  obtain ⟨b, s, x0⟩ := x
  subst e
  replace h1 : (if b.length + s.size ≤ 140737488355000 then some ⟨.own (.int .u8) (textS b s), []⟩ else none) = some out := h1
  split at h1
  case isFalse => cases h1
  rename_i hr
  injection h1 with h1
  subst h1
  exact ⟨by rw [mkArgs_len]; decide, text_ex b s hr⟩

def takeTextS (b : List Int) : ByteArray × Int × Bool :=
  if b.length = 0 ∨ (b.length : Int) ≤ IntKind.i64.wrap (b.getD 0 0) then (⟨#[]⟩, 0, false) else
  (strOf ((b.drop 1).take (b.getD 0 0).toNat), 1 + b.getD 0 0, true)
/-- The contract of bits.TakeText. -/
def takeTextC : Con := conN [(.v, .slice (.int .u8))] fun (b, _) => if 0 ≤ b.getD 0 0 ∧ b.getD 0 0 < 256 then some ⟨.tup [⟨.str, (takeTextS b).1⟩, ⟨.int .i64, (takeTextS b).2.1⟩, ⟨.bool, (takeTextS b).2.2⟩], []⟩ else none
theorem takeTextC_eq {b : List Int} : takeTextC [.val ⟨.slice (.int .u8), b⟩] = if 0 ≤ b.getD 0 0 ∧ b.getD 0 0 < 256 then some ⟨.tup [⟨.str, (takeTextS b).1⟩, ⟨.int .i64, (takeTextS b).2.1⟩, ⟨.bool, (takeTextS b).2.2⟩], []⟩ else none := conN_mk (ks := [(.v, .slice (.int .u8))]) (b, ())
def ΓtakeText : Cons := cons []
theorem takeText_ex (b : List Int) (hr : 0 ≤ b.getD 0 0 ∧ b.getD 0 0 < 256) : Ex tab ΓtakeText (Tryz.f104.body.getD .skip) (EndsF tab Tryz.f104.results.toList [.val ⟨.slice (.int .u8), b⟩] ⟨.tup [⟨.str, (takeTextS b).1⟩, ⟨.int .i64, (takeTextS b).2.1⟩, ⟨.bool, (takeTextS b).2.2⟩], []⟩) (ini [.val ⟨.slice (.int .u8), b⟩]) := by
  simp only [Tryz.f104, Option.getD_some]
  simp (implicitDefEqProofs := false) (decide := true) (maxSteps := 4000000) [ini]
  intro hl
  refine br_intro (fun h => ?_) (fun h => ?_)
  · simp at h
    simp [takeTextS, h]
  intro _
  have hne : ¬ b = [] := by simpa using h
  have h0 : 0 < b.length := List.length_pos_iff.2 hne
  have e0 : b[0]?.getD 0 = b.getD 0 0 := (List.getD_eq_getElem?_getD).symm
  rw [e0]
  generalize hx : b.getD 0 0 = x at hr ⊢
  have w1 : IntKind.i64.wrap x = x := i64_in _ (by omega)
  have w2 : IntKind.i64.wrap (1 + x) = 1 + x := i64_in _ (by omega)
  rw [w1, w2]
  refine ⟨h0, br_dec (fun h1 => ?_) (fun h1 => ⟨h0, ⟨by omega, by omega⟩, by omega, ?_⟩)⟩
  · rw [show takeTextS b = (⟨#[]⟩, 0, false) by rw [takeTextS, hx, w1, if_pos (.inr h1)]]
    exact ⟨rfl, rfl, rfl⟩
  · rw [show takeTextS b = (strOf ((b.drop 1).take x.toNat), 1 + x, true) by rw [takeTextS, hx, w1, if_neg (by omega)]]
    refine ⟨?_, rfl, rfl⟩
    rw [show (1 + x).toNat - 1 = x.toNat by omega, List.drop_one]
theorem takeText_ok : ConOK Tryz.prog 104 takeTextC := by
  refine con_ok tab_ok (Γ := ΓtakeText) consOK_nil (by kernel_rfl) Tryz.func104 (by kernel_rfl) ?_
  intro args out h
  obtain ⟨x, e, h1⟩ := conN_inv h
  clear h
  obtain ⟨b, x0⟩ := x
  subst e
  replace h1 : (if 0 ≤ b.getD 0 0 ∧ b.getD 0 0 < 256 then some ⟨.tup [⟨.str, (takeTextS b).1⟩, ⟨.int .i64, (takeTextS b).2.1⟩, ⟨.bool, (takeTextS b).2.2⟩], []⟩ else none) = some out := h1
  split at h1
  case isFalse => cases h1
  rename_i hr
  injection h1 with h1
  subst h1
  exact ⟨by rw [mkArgs_len]; decide, takeText_ex b hr⟩
end Go.Proofs.YtodkmhamaahjmaaGreatDoor

/- Small facts that many texts use. -/
set_option maxRecDepth 10000
set_option maxHeartbeats 1000000
set_option linter.unusedSimpArgs false
set_option linter.unusedVariables false
set_option pp.deepTerms.threshold 10
namespace Go.Proofs.YtodkmhamaahjmaaGreatDoor
open Go.Tm Go.IntWalk

theorem not_t {b : Bool} (h : (!b) = true) : b = false := by simpa using h
theorem not_f {b : Bool} (h : (!b) = false) : b = true := by simpa using h
theorem putS_len (b : List Int) (n : Int) (l : List Int) : (putS b n l).length ≤ b.length + 4 * l.length := by
  unfold putS
  split
  · omega
  · rw [List.length_append, flatMap_len (bytesN_len _)]
    have := Nat.mul_le_mul_left l.length (show n.toNat ≤ 4 by omega)
    omega
theorem byteN_B (x : Int) (k : Nat) : 0 ≤ byteN x k ∧ byteN x k < 256 := by
  unfold byteN
  rw [IntKind.wrap_u8]
  omega
theorem isB_bytesN (n : Nat) (x : Int) : isB (bytesN n x) := by
  intro y hy
  simp only [bytesN, List.mem_map] at hy
  obtain ⟨k, _, rfl⟩ := hy
  exact byteN_B x k
theorem take_rest (l : List Int) (k : Nat) : List.take (l.length - k) (l.drop k) = l.drop k := List.take_of_length_le (by rw [List.length_drop]; exact Nat.le_refl _)
theorem takeS_true {b : List Int} {n : Int} (h : (takeS b n).2 = true) : 1 ≤ n ∧ n ≤ 4 ∧ n ≤ b.length := by
  unfold takeS at h
  split at h
  · cases h
  · omega
theorem takeTextS_true {b : List Int} (h0 : 0 ≤ b.getD 0 0 ∧ b.getD 0 0 < 256) (h : (takeTextS b).2.2 = true) : 0 ≤ (takeTextS b).2.1 ∧ (takeTextS b).2.1 ≤ b.length := by
  have w : IntKind.i64.wrap (b.getD 0 0) = b.getD 0 0 := i64_in _ (by omega)
  unfold takeTextS at h ⊢
  split at h
  · cases h
  · rename_i hn
    rw [if_neg hn]
    rw [w] at hn
    simp only
    omega
theorem same_refl : ∀ {t : Ty}, flat t = true → ∀ x : t.den, same t x x = true
  | .int _, _, x => by simp [same]
  | .bool, _, x => by simp [same]
  | .str, _, x => by simp [same]
  | .unit, _, _ => rfl
  | .prod a b, h, x => by
    simp only [flat, Bool.and_eq_true] at h
    simp only [same, same_refl h.1, same_refl h.2, Bool.and_self]
  | .slice _, h, _ => by cases h
  | .arr _ _, h, _ => by cases h
theorem same_eq : ∀ {t : Ty}, flat t = true → ∀ {x y : t.den}, same t x y = true → x = y
  | .int _, _, x, y, h => by simpa [same] using h
  | .bool, _, x, y, h => by simpa [same] using h
  | .str, _, x, y, h => ba_inj (by simpa [same] using h)
  | .unit, _, _, _, _ => rfl
  | .prod a b, h, x, y, h2 => by
    simp only [flat, Bool.and_eq_true] at h
    simp only [same, Bool.and_eq_true] at h2
    exact Prod.ext (same_eq h.1 h2.1) (same_eq h.2 h2.2)
  | .slice _, h, _, _, _ => by cases h
  | .arr _ _, h, _, _, _ => by cases h
theorem isB_set {l : List Int} (h : isB l) {v : Int} (hv : 0 ≤ v ∧ v < 256) {k : Nat} : isB (l.set k v) := fun x hx => by
  rcases List.mem_or_eq_of_mem_set hx with h1 | h1
  · exact h x h1
  · rw [h1]; exact hv
theorem isB_rep (n : Nat) : isB (List.replicate n 0) := fun x hx => by
  rw [(List.mem_replicate.1 hx).2]; omega
theorem str_eq {s t : ByteArray} (h : (!s.toList == t.toList) = false) : s = t := ba_inj (by simpa using h)
theorem str_ne {s t : ByteArray} (h : (!s.toList == t.toList) = true) : ¬ s = t := fun e => by rw [e] at h; simp at h
theorem extract_strOf (b : List Int) (i n : Nat) : (strOf b).extract i (i + n) = strOf ((b.drop i).take n) := by
  apply bl_inj
  rw [bl_extract, bl_strOf, bl_strOf, Nat.add_sub_cancel_left, List.map_take, List.map_drop]
end Go.Proofs.YtodkmhamaahjmaaGreatDoor

/- dir: folders' bytes, by the program. -/
set_option maxRecDepth 10000
set_option maxHeartbeats 1000000
set_option linter.unusedSimpArgs false
set_option linter.unusedVariables false
set_option pp.deepTerms.threshold 12
namespace Go.Proofs.YtodkmhamaahjmaaGreatDoor
open Go.Tm Go.IntWalk

def li (x : List UInt8) : List Int := x.map fun c => (c.toNat : Int)
theorem li_len (x : List UInt8) : (li x).length = x.length := by simp [li]
theorem li_append (x y : List UInt8) : li (x ++ y) = li x ++ li y := by simp [li]
theorem strOf_li (x : List UInt8) : strOf (li x) = ofL x := by
  apply bl_inj
  rw [bl_strOf, bl_ofL, li, List.map_map]
  conv => rhs; rw [← List.map_id x]
  exact List.map_congr_left fun c _ => by simp
theorem bytesOf_li (s : ByteArray) : bytesOf s = li (bl s) := rfl
theorem dirL_len8 : ∀ {l : List Ent}, (∀ e ∈ l, okE e = true) → (dirL l).length ≤ 8 * l.length
  | [], _ => by simp [dirL]
  | e :: l, h => by
    rw [dirL_cons, List.length_append, entL_len, List.length_cons]
    have h1 := (ownS_size (okE_out (h e (by simp))).1).2
    have h2 := dirL_len8 (l := l) fun x hx => h x (by simp [hx])
    omega
theorem text_ent (row : List Int) {e : Ent} (h : okE e = true) : textS row e.1 = row ++ (e.1.size : Int) :: bytesOf e.1 := by
  have h1 := (ownS_size (okE_out h).1).2
  rw [textS, if_neg (by omega), wrap_u8_nat, Nat.mod_eq_of_lt (by omega)]
theorem put_ent (row : List Int) {e : Ent} (h : okE e = true) : putS (textS row e.1) 1 [e.2.1] = row ++ li (entL e) := by
  obtain ⟨o1, o2, o3⟩ := okE_out h
  have h1 := (ownS_size o1).2
  obtain ⟨n, hn⟩ : ∃ n : Nat, (e.2.1 : Int) = n := ⟨e.2.1.toNat, by omega⟩
  have hb : bytesN (1 : Int).toNat e.2.1 = [e.2.1] := by
    rw [hn]
    simp [bytesN, byteN, wrap_u8_nat]
    omega
  have hn2 : (n : Int) ≤ 9 := by omega
  rw [putS, if_neg (by omega), text_ent row h, List.flatMap_cons, List.flatMap_nil, hb, bytesOf_li, entL, hn]
  simp [li]
  omega
/-- The contract of dir.Put. -/
def dputC : Con := conN [(.v, .slice (.prod .str (.prod (.int .i64) .unit)))] fun (l, _) => if l.length ≤ 1000000000000 ∧ ∀ e ∈ l, e.1.size ≤ 4000000000 then some ⟨.tup [⟨.str, (putD l).1⟩, ⟨.bool, (putD l).2⟩], []⟩ else none
theorem dputC_eq {l : List (Ty.den (.prod .str (.prod (.int .i64) .unit)))} : dputC [.val ⟨.slice (.prod .str (.prod (.int .i64) .unit)), l⟩] = if l.length ≤ 1000000000000 ∧ ∀ e ∈ l, e.1.size ≤ 4000000000 then some ⟨.tup [⟨.str, (putD l).1⟩, ⟨.bool, (putD l).2⟩], []⟩ else none := conN_mk (ks := [(.v, .slice (.prod .str (.prod (.int .i64) .unit)))]) (l, ())
def Γdput : Cons := cons [(84, downC), (92, textC), (91, putC)]
theorem dput_ex (l : List (Ty.den (.prod .str (.prod (.int .i64) .unit)))) (hr : l.length ≤ 1000000000000 ∧ ∀ e ∈ l, e.1.size ≤ 4000000000) : Ex tab Γdput (Tryz.f69.body.getD .skip) (EndsF tab Tryz.f69.results.toList [.val ⟨.slice (.prod .str (.prod (.int .i64) .unit)), l⟩] ⟨.tup [⟨.str, (putD l).1⟩, ⟨.bool, (putD l).2⟩], []⟩) (ini [.val ⟨.slice (.prod .str (.prod (.int .i64) .unit)), l⟩]) := by
  have g_down : Γdput 84 = some downC := rfl
  have g_text : Γdput 92 = some textC := rfl
  have g_put : Γdput 91 = some putC := rfl
  simp only [Tryz.f69, Option.getD_some]
  simp (implicitDefEqProofs := false) (decide := true) (maxSteps := 4000000) [ini, g_down, downC_eq, g_text, textC_eq, g_put, putC_eq]
  intro hl
  refine ex_loopN 4 (.int .u8) rfl (σ := Nat × Nat × List Int) [2, 3, 4, 5, 6, 9, 10, 11, 12, 13, 14, 15, 16, 17, 18, 19, 20, 21, 22, 23, 24, 25, 26, 27, 28, 29, 30, 31, 32, 33, 34, 35, 36, 37, 38, 39, 40, 41, 42, 43, 44, 45, 46, 47, 48, 49, 50, 51] (fun a => [(9, .val (.int .i64) (a.1 : Int)), (4, .own a.2.1 (.int .u8) a.2.2)])
    (fun a => a.1 ≤ l.length ∧ (∀ e ∈ l.take a.1, okE e = true) ∧ (∀ k, k + 1 < a.1 → ltB (l.getD k dfltE).1 (l.getD (k + 1) dfltE).1 = true) ∧ a.2.2 = li (dirL (l.take a.1))) (fun a => l.length - a.1) (fun m => ⟨(0, m, []), ⟨Nat.zero_le _, by simp, fun k hk => absurd hk (by omega), rfl⟩, hc rfl (hc rfl hn)⟩) ?_
  rintro m j ⟨i, q, row⟩ ⟨hi, hok, hri, hs⟩
  simp only at hi hok hri hs
  simp (implicitDefEqProofs := false) (decide := true) (maxSteps := 4000000) [ini, g_down, downC_eq, g_text, textC_eq, g_put, putC_eq]
  obtain ⟨hlm, hsz⟩ := hr
  refine br_dec (fun hlt => ?_) fun hge => ?_
  · obtain ⟨e, he⟩ : ∃ e : Ent, l[i] = e := ⟨_, rfl⟩
    have hg : l[i]?.getD dfltE = e := by rw [List.getElem?_eq_getElem hlt, he]; rfl
    have hmem : e ∈ l := by rw [← he]; exact List.getElem_mem hlt
    have htk : l.take (i + 1) = l.take i ++ [e] := by rw [List.take_succ_eq_append_getElem hlt, he]
    rw [show l[i]?.getD (({ data := #[] }, 0, ()) : Ent) = e from hg]
    have hbad : okE e = false → putD l = (no, false) := fun h => putD_no fun hd => by rw [hd.1 e hmem] at h; cases h
    have hes : e.1.size ≤ 4000000000 := hsz e hmem
    refine ⟨hlt, by omega, br_intro (fun h => ?_) fun h1 => br_dec (fun h4 => ?_) fun h4 => ?_⟩
    · rw [hbad (by rw [okE, show ownS e.1 = false from not_t h]; rfl)]; exact ⟨rfl, rfl⟩
    · obtain ⟨p, rfl⟩ : ∃ p, i = p + 1 := ⟨i - 1, by omega⟩
      have w1 : IntKind.i64.wrap (((p + 1 : Nat) : Int) - 1) = (p : Int) := w_nat (by omega) (by omega)
      rw [w1, Int.toNat_natCast]
      have hgp : l[p]?.getD (({ data := #[] }, 0, ()) : Ent) = l[p] := by rw [List.getElem?_eq_getElem (by omega)]; rfl
      rw [hgp]
      refine ⟨⟨by omega, by omega⟩, br_intro (fun h => ?_) fun h5 => ?_⟩
      · rw [geq_eq] at h
        rw [putD_no fun hd => ?_]; exact ⟨rfl, rfl⟩
        have := one_rises hd.2.1 p hlt
        rw [he] at this
        rw [this] at h; cases h
      rw [geq_eq] at h5
      have hri2 : ∀ k, k + 1 < p + 1 + 1 → ltB (l.getD k dfltE).1 (l.getD (k + 1) dfltE).1 = true := fun k hk => by
        rcases Nat.lt_or_ge (k + 1) (p + 1) with hk2 | hk2
        · exact hri k hk2
        · obtain rfl : k = p := by omega
          rw [List.getD_eq_getElem?_getD, List.getD_eq_getElem?_getD, hg, show l[k]?.getD dfltE = l[k] from hgp]
          simpa using h5
      refine br_dec (fun h => ?_) fun h2 => br_dec (fun h => ?_) fun h3 m' => ?_
      · rw [hbad (by rw [okE]; simp; omega)]; exact ⟨rfl, rfl⟩
      · rw [hbad (by rw [okE]; simp; omega)]; exact ⟨rfl, rfl⟩
      have ho : okE e = true := by rw [okE, show ownS e.1 = true from not_f h1]; simp; omega
      obtain ⟨o1, o2, o3⟩ := okE_out ho
      obtain ⟨o4, o5⟩ := ownS_size o1
      have hx := put_ent row ho
      have hrl : row.length ≤ 8 * (p + 1) := by
        rw [hs, li_len]
        have := dirL_len8 hok
        rw [List.length_take] at this
        omega
      have htl : (textS row e.1).length = row.length + 1 + e.1.size := by rw [text_ent row ho, List.length_append, List.length_cons, bytesOf_len]; omega
      refine ⟨by omega, by omega, p + 1 + 1, _, _, ⟨hlt, ?_, fun k hk => ?_, ?_⟩, by omega, w_nat rfl (by omega), rfl, rfl⟩
      · intro a b u hm
        rw [htk, List.mem_append, List.mem_singleton] at hm
        rcases hm with hm | hm
        · exact hok _ hm
        · rw [hm]; exact ho
      · have := hri2 k hk
        rw [List.getD_eq_getElem?_getD, List.getD_eq_getElem?_getD] at this
        exact this
      · rw [hx, hs, htk, dirL_append, li_append]
        simp [dirL]
    · have hri2 : ∀ k, k + 1 < i + 1 → ltB (l.getD k dfltE).1 (l.getD (k + 1) dfltE).1 = true := fun k hk => by omega
      refine br_dec (fun h => ?_) fun h2 => br_dec (fun h => ?_) fun h3 m' => ?_
      · rw [hbad (by rw [okE]; simp; omega)]; exact ⟨rfl, rfl⟩
      · rw [hbad (by rw [okE]; simp; omega)]; exact ⟨rfl, rfl⟩
      have ho : okE e = true := by rw [okE, show ownS e.1 = true from not_f h1]; simp; omega
      obtain ⟨o1, o2, o3⟩ := okE_out ho
      obtain ⟨o4, o5⟩ := ownS_size o1
      have hx := put_ent row ho
      have hrl : row.length ≤ 8 * i := by
        rw [hs, li_len]
        have := dirL_len8 hok
        rw [List.length_take] at this
        omega
      have htl : (textS row e.1).length = row.length + 1 + e.1.size := by rw [text_ent row ho, List.length_append, List.length_cons, bytesOf_len]; omega
      refine ⟨by omega, by omega, i + 1, _, _, ⟨hlt, ?_, fun k hk => ?_, ?_⟩, by omega, w_nat rfl (by omega), rfl, rfl⟩
      · intro a b u hm
        rw [htk, List.mem_append, List.mem_singleton] at hm
        rcases hm with hm | hm
        · exact hok _ hm
        · rw [hm]; exact ho
      · have := hri2 k hk
        rw [List.getD_eq_getElem?_getD, List.getD_eq_getElem?_getD] at this
        exact this
      · rw [hx, hs, htk, dirL_append, li_append]
        simp [dirL]
  · have hi2 : i = l.length := by omega
    rw [hi2, List.take_length] at hs hok
    have hrise : Rises l := rises_one fun k hk => by
      have := hri k (by omega)
      rw [List.getD_eq_getElem?_getD, List.getD_eq_getElem?_getD, List.getElem?_eq_getElem (by omega), List.getElem?_eq_getElem hk] at this
      exact this
    intro _
    have hrl : row.length = (dirL l).length := by rw [hs, li_len]
    refine br_dec (fun h => ?_) fun h => ?_
    · rw [putD_no fun hd => by have := hd.2.2; omega]; exact ⟨rfl, rfl⟩
    · rw [putD_ok ⟨hok, hrise, by omega⟩, hs, strOf_li]; exact ⟨rfl, rfl⟩
theorem dput_ok : ConOK Tryz.prog 69 dputC := by
  refine con_ok tab_ok (Γ := Γdput) (consOK_cons down_ok (consOK_cons text_ok (consOK_cons put_ok consOK_nil))) (by kernel_rfl) Tryz.func69 (by kernel_rfl) ?_
  intro args out h
  obtain ⟨x, e, h1⟩ := conN_inv h
  clear h
  obtain ⟨l, x0⟩ := x
  subst e
  replace h1 : (if l.length ≤ 1000000000000 ∧ ∀ e ∈ l, e.1.size ≤ 4000000000 then some ⟨.tup [⟨.str, (putD l).1⟩, ⟨.bool, (putD l).2⟩], []⟩ else none) = some out := h1
  split at h1
  case isFalse => cases h1
  rename_i hr
  injection h1 with h1
  subst h1
  exact ⟨by rw [mkArgs_len]; decide, dput_ex l hr⟩
end Go.Proofs.YtodkmhamaahjmaaGreatDoor

/- Numbers as bytes, the least first: numbers and lists alone. -/
set_option linter.unusedVariables false
set_option linter.unusedSimpArgs false
namespace Go.Proofs.YtodkmhamaahjmaaGreatDoor
open Go.Tm Go.IntWalk

theorem or_i64 {a b : Nat} (ha : a < 2 ^ 62) (hb : b < 2 ^ 62) : Tm.bits .or .i64 (a : Int) (b : Int) = ((a ||| b : Nat) : Int) := by
  have h : a ||| b < 2 ^ 62 := Nat.or_lt_two_pow ha hb
  show IntKind.i64.wrap (((BitVec.ofInt 64 (a : Int) ||| BitVec.ofInt 64 (b : Int)).toNat : Nat) : Int) = _
  rw [BitVec.toNat_or, BitVec.toNat_ofInt, BitVec.toNat_ofInt]
  have e1 : ((a : Int) % ((2 ^ 64 : Nat) : Int)).toNat = a := by omega
  have e2 : ((b : Int) % ((2 ^ 64 : Nat) : Int)).toNat = b := by omega
  rw [e1, e2]
  exact w_nat rfl (by omega)

def le : List Nat → Nat
  | [] => 0
  | x :: l => x + 256 * le l
theorem le_append (l m : List Nat) : le (l ++ m) = le l + 256 ^ l.length * le m := by
  induction l with
  | nil => simp [le]
  | cons x l ih =>
    simp only [List.cons_append, le, ih, List.length_cons, Nat.pow_succ]
    rw [Nat.mul_add, ← Nat.mul_assoc, Nat.mul_comm 256 (256 ^ l.length)]
    omega
theorem le_lt {l : List Nat} (h : ∀ x ∈ l, x < 256) : le l < 256 ^ l.length := by
  induction l with
  | nil => simp [le]
  | cons x l ih =>
    have hx := h x (by simp)
    have hl := ih (fun y hy => h y (by simp [hy]))
    simp only [le, List.length_cons, Nat.pow_succ]
    omega
theorem take_lt {l : List Nat} (h : ∀ x ∈ l, x < 256) (k : Nat) : ∀ x ∈ l.take k, x < 256 := fun x hx => h x (List.mem_of_mem_take hx)

theorem pow8 (k : Nat) : 256 ^ k = 2 ^ (8 * k) := by rw [show (256 : Nat) = 2 ^ 8 by rfl, ← Nat.pow_mul]

theorem orN_nat {b : List Nat} (hb : ∀ x ∈ b, x < 256) : ∀ {k : Nat}, k ≤ 4 → k ≤ b.length → orN (ints b) k = (le (b.take k) : Int)
  | 0, _, _ => by simp [orN, le]
  | k + 1, h, hl => by
    have ih := orN_nat hb (k := k) (by omega) (by omega)
    have hlt := le_lt (take_lt hb k)
    rw [List.length_take, Nat.min_eq_left (by omega), pow8] at hlt
    have hx := getD_lt hb k
    have hp : 2 ^ (8 * k) ≤ 2 ^ 24 := Nat.pow_le_pow_right (by decide) (by omega)
    have hm : b.getD k 0 * 2 ^ (8 * k) ≤ 255 * 2 ^ 24 := Nat.mul_le_mul (by omega) hp
    simp only [orN, ih, ints_getD]
    rw [w_nat (z := ((b.getD k 0 : Nat) : Int)) rfl (by omega), show ((b.getD k 0 : Nat) : Int) * 2 ^ (8 * k) = ((b.getD k 0 * 2 ^ (8 * k) : Nat) : Int) by simp, w_nat rfl (by omega), or_i64 (by omega) (by omega)]
    rw [Nat.or_comm, Nat.mul_comm, ← Nat.two_pow_add_eq_or_of_lt hlt, List.take_succ_eq_append_getElem (by omega), le_append]
    simp only [le, List.length_take, Nat.min_eq_left (show k ≤ b.length by omega), pow8, List.getD_eq_getElem?_getD, List.getElem?_eq_getElem (show k < b.length by omega), Option.getD_some, Nat.mul_zero, Nat.add_zero]
    rw [Nat.add_comm]

/-- What both take of bytes. -/
theorem takeS_nat {b : List Nat} (hb : ∀ x ∈ b, x < 256) (n : Int) : takeS (ints b) n = if (n < 1 ∨ 4 < n) ∨ (b.length : Int) < n then (0, false) else ((le (b.take n.toNat) : Int), true) := by
  unfold takeS
  rw [ints_length]
  split
  · rfl
  · rw [orN_nat hb (by omega) (by omega)]
def leB (n u : Nat) : List Nat := (List.range n).map fun k => u / 256 ^ k % 256
theorem leB_len (n u : Nat) : (leB n u).length = n := by simp [leB]
theorem leB_lt (n u : Nat) : ∀ x ∈ leB n u, x < 256 := by
  intro x hx
  simp only [leB, List.mem_map] at hx
  obtain ⟨k, _, rfl⟩ := hx
  exact Nat.mod_lt _ (by decide)
theorem leB_succ (n u : Nat) : leB (n + 1) u = leB n u ++ [u / 256 ^ n % 256] := by simp [leB, List.range_succ]
theorem le_leB (n u : Nat) : le (leB n u) = u % 256 ^ n := by
  induction n with
  | zero => simp [leB, le, Nat.mod_one]
  | succ n ih =>
    rw [leB_succ, le_append, ih, leB_len]
    simp only [le, Nat.mul_zero, Nat.add_zero]
    rw [Nat.pow_succ, Nat.mod_mul]
theorem bytesN_nat (n u : Nat) : bytesN n (u : Int) = ints (leB n u) := by
  unfold bytesN leB ints
  rw [List.map_map]
  refine List.map_congr_left fun k _ => ?_
  simp only [byteN, Function.comp]
  have : (u : Int).fdiv (2 ^ (8 * k)) = ((u / 256 ^ k : Nat) : Int) := by
    rw [pow8, ← fdiv_nat u (2 ^ (8 * k))]
    congr 1
  rw [this, wrap_u8_nat]
theorem ints_append (l m : List Nat) : ints (l ++ m) = ints l ++ ints m := by simp [ints]

/-- What is put is taken. -/
theorem take_put {n u : Nat} {rest : List Nat} (hn1 : 1 ≤ n) (hn4 : n ≤ 4) (hu : u < 256 ^ n) (hr : ∀ x ∈ rest, x < 256) : takeS (bytesN n (u : Int) ++ ints rest) (n : Int) = ((u : Int), true) := by
  rw [bytesN_nat, ← ints_append, takeS_nat (fun x hx => by rcases List.mem_append.1 hx with h | h; exact leB_lt n u x h; exact hr x h), if_neg (by rw [List.length_append, leB_len]; omega), Int.toNat_natCast, List.take_left' (leB_len n u), le_leB, Nat.mod_eq_of_lt hu]

/-- A text's bytes. -/
theorem textS_small {s : ByteArray} (h : s.size ≤ 255) (b : List Int) : textS b s = b ++ (s.size : Int) :: bytesOf s := by
  rw [textS, if_neg (by omega), wrap_u8_nat, Nat.mod_eq_of_lt (by omega)]
theorem takeText_text {s : ByteArray} (h : s.size ≤ 255) (rest : List Int) : takeTextS ((s.size : Int) :: bytesOf s ++ rest) = (s, 1 + (s.size : Int), true) := by
  have w : IntKind.i64.wrap (s.size : Int) = (s.size : Int) := w_nat rfl (by omega)
  rw [takeTextS, List.cons_append, List.getD_cons_zero, w, if_neg (by simp [bytesOf_len]; omega)]
  simp only [List.drop_succ_cons, List.drop_zero, Int.toNat_natCast]
  rw [List.take_left' (bytesOf_len s), strOf_bytesOf]
theorem takeText_cut {s : ByteArray} (h : s.size ≤ 255) {k : Nat} (hk : k ≤ s.size) : (takeTextS (((s.size : Int) :: bytesOf s).take k)).2.2 = false := by
  have w : IntKind.i64.wrap (s.size : Int) = (s.size : Int) := w_nat rfl (by omega)
  cases k with
  | zero => simp [takeTextS]
  | succ k =>
    rw [List.take_succ_cons, takeTextS, List.getD_cons_zero, w, if_pos (.inr (by simp [bytesOf_len]; omega))]
end Go.Proofs.YtodkmhamaahjmaaGreatDoor
