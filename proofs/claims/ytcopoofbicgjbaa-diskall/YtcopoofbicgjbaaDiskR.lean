/- The reference's disks, walked. -/
import Derived.Test.YtcopoofbicgjbaaPDisk
import Derived.Test.YtcopoofbicgjbaaPNum
import Derived.Test.YtcopoofbicgjbaaTab
set_option maxRecDepth 100000
set_option maxHeartbeats 1000000
set_option linter.unusedSimpArgs false
set_option linter.unusedVariables false
set_option pp.deepTerms.threshold 60
namespace Go.Proofs.Ytcopoofbicgjbaa
open Go.Tm Go.IntWalk
/-- The contract of glacisref1.noughts. -/
def knoughtC : Con := conN [] fun _ => some ⟨.val ⟨.str, nought64⟩, []⟩
theorem knoughtC_eq  : knoughtC [] = some ⟨.val ⟨.str, nought64⟩, []⟩ := conN_mk (ks := []) (())
def Γknought : Cons := cons []
theorem knought_ex  : Ex tab Γknought (Try.f23.body.getD .skip) (EndsF tab Try.f23.results.toList [] ⟨.val ⟨.str, nought64⟩, []⟩) (ini []) := by
  simp only [Try.f23, Option.getD_some]
  simp (implicitDefEqProofs := false) (decide := true) (maxSteps := 4000000) [ini]
theorem knought_ok : ConOK Try.prog 23 knoughtC := by
  refine con_ok tab_ok (Γ := Γknought) consOK_nil (by kernel_rfl) Try.func23 (by kernel_rfl) ?_
  intro args out h
  obtain ⟨x, e, h1⟩ := conN_inv h
  clear h
  subst e
  replace h1 : (some ⟨.val ⟨.str, nought64⟩, []⟩) = some out := h1
  injection h1 with h1
  subst h1
  exact ⟨by rw [mkArgs_len]; decide, knought_ex⟩
/-- The contract of glacisref1.is. -/
def kisC : Con := conN [(.v, DkT), (.v, .int .i64)] fun (d, i, _) => some ⟨.val ⟨.bool, isK d i⟩, []⟩
theorem kisC_eq {d : Ty.den (DkT)} {i : Int} : kisC [.val ⟨DkT, d⟩, .val ⟨.int .i64, i⟩] = some ⟨.val ⟨.bool, isK d i⟩, []⟩ := conN_mk (ks := [(.v, DkT), (.v, .int .i64)]) (d, i, ())
def Γkis : Cons := cons []
theorem kis_ex (d : Ty.den (DkT)) (i : Int) : Ex tab Γkis (Try.f29.body.getD .skip) (EndsF tab Try.f29.results.toList [.val ⟨DkT, d⟩, .val ⟨.int .i64, i⟩] ⟨.val ⟨.bool, isK d i⟩, []⟩) (ini [.val ⟨DkT, d⟩, .val ⟨.int .i64, i⟩]) := by
  simp only [Try.f29, Option.getD_some]
  simp (implicitDefEqProofs := false) (decide := true) (maxSteps := 4000000) [ini]
  refine br_intro (fun h => br_dec (fun h1 _ => ?_) fun h1 => ?_) fun h => ?_
  · have h1 : (0 : Int) ≤ i := h1
    rw [isK, show (!d.2.2.2.1) = true from h, show decide ((0 : Int) ≤ i) = true from decide_eq_true h1]; rfl
  · have h1 : ¬ (0 : Int) ≤ i := h1
    rw [isK, show decide ((0 : Int) ≤ i) = false from decide_eq_false h1, Bool.and_false]; rfl
  · rw [isK, show (!d.2.2.2.1) = false from h]; rfl
theorem kis_ok : ConOK Try.prog 29 kisC := by
  refine con_ok tab_ok (Γ := Γkis) consOK_nil (by kernel_rfl) Try.func29 (by kernel_rfl) ?_
  intro args out h
  obtain ⟨x, e, h1⟩ := conN_inv h
  clear h
  obtain ⟨d, i, x0⟩ := x
  subst e
  replace h1 : (some ⟨.val ⟨.bool, isK d i⟩, []⟩) = some out := h1
  injection h1 with h1
  subst h1
  exact ⟨by rw [mkArgs_len]; decide, kis_ex d i⟩
/-- The contract of glacisref1.Read. -/
def kreadC : Con := conN [(.v, DkT), (.v, .int .i64)] fun (d, i, _) => if okD d then some ⟨.tup [⟨.str, (readK d i).1⟩, ⟨.bool, (readK d i).2⟩], []⟩ else none
theorem kreadC_eq {d : Ty.den (DkT)} {i : Int} : kreadC [.val ⟨DkT, d⟩, .val ⟨.int .i64, i⟩] = if okD d then some ⟨.tup [⟨.str, (readK d i).1⟩, ⟨.bool, (readK d i).2⟩], []⟩ else none := conN_mk (ks := [(.v, DkT), (.v, .int .i64)]) (d, i, ())
def Γkread : Cons := cons [(29, kisC)]
theorem kread_ex (d : Ty.den (DkT)) (i : Int) (hr : okD d) : Ex tab Γkread (Try.f16.body.getD .skip) (EndsF tab Try.f16.results.toList [.val ⟨DkT, d⟩, .val ⟨.int .i64, i⟩] ⟨.tup [⟨.str, (readK d i).1⟩, ⟨.bool, (readK d i).2⟩], []⟩) (ini [.val ⟨DkT, d⟩, .val ⟨.int .i64, i⟩]) := by
  have g_kis : Γkread 29 = some kisC := rfl
  simp only [Try.f16, Option.getD_some]
  simp (implicitDefEqProofs := false) (decide := true) (maxSteps := 4000000) [ini, g_kis, kisC_eq]
  obtain ⟨d1, d2, d3, d4⟩ := hr
  intro m
  refine br_intro (fun h => ?_) fun h hl => ?_
  · rw [readK, if_neg (by simpa using h)]; exact ⟨rfl, rfl⟩
  have hk : isK d i = true := by simpa using h
  rw [readK, if_pos hk]
  have hl : List.length d.2.1 ≤ 1000 := d2
  have w1 : IntKind.i64.wrap ((List.length d.2.1 : Int) - 1) = (List.length d.2.1 : Int) - 1 := i64_in _ (by omega)
  rw [w1]
  refine ex_loopU (σ := Nat) [4, 5, 6, 15, 16, 17, 18, 19, 20, 21, 22, 23, 24, 25, 26, 27, 28, 29, 30, 31, 32] (fun a => [(6, .val (.int .i64) ((a : Int) - 1))]) (fun a => a ≤ List.length d.2.1 ∧ lastW d.2.1 i = lastN d.2.1 i a) (fun a => a) (List.length d.2.1) ⟨Nat.le_refl _, rfl⟩ (hc rfl hn) ?_
  rintro j k ⟨hk1, hk2⟩
  simp (implicitDefEqProofs := false) (decide := true) (maxSteps := 4000000) [ini, g_kis, kisC_eq]
  have hb : (0 : Int) ≤ i ∧ (i : Int) < (List.length d.1 : Int) := by
    unfold isK at hk
    simp only [Bool.and_eq_true, decide_eq_true_eq] at hk
    exact ⟨hk.1.2, hk.2⟩
  refine br_dec (fun h1 => ?_) fun h1 => ?_
  · obtain ⟨p, rfl⟩ : ∃ p, k = p + 1 := ⟨k - 1, by omega⟩
    rw [Nat.add_sub_cancel]
    have hk1 : p + 1 ≤ List.length d.2.1 := hk1
    have w2 : IntKind.i64.wrap (((p + 1 : Nat) : Int) - 1 - 1) = (p : Int) - 1 := by rw [i64_in _ (by omega)]; omega
    have hg : (d.2.1[p]?.getD ((0, { data := #[] }, ()) : Pt)) = List.getD d.2.1 p dfltP := by rw [List.getD_eq_getElem?_getD]; rfl
    rw [hg, hk2, lastN]
    refine ⟨⟨by omega, by omega⟩, br_intro (fun h2 => ⟨⟨by omega, by omega⟩, ?_⟩) fun h2 => ⟨p, ⟨by omega, ?_⟩, by omega, w2⟩⟩
    · rw [if_pos h2]; rfl
    · rw [if_neg (by rw [h2]; decide)]
  · obtain rfl : k = 0 := by omega
    rw [hk2]
    exact ⟨hb, rfl⟩
theorem kread_ok : ConOK Try.prog 16 kreadC := by
  refine con_ok tab_ok (Γ := Γkread) (consOK_cons kis_ok consOK_nil) (by kernel_rfl) Try.func16 (by kernel_rfl) ?_
  intro args out h
  obtain ⟨x, e, h1⟩ := conN_inv h
  clear h
  obtain ⟨d, i, x0⟩ := x
  subst e
  replace h1 : (if okD d then some ⟨.tup [⟨.str, (readK d i).1⟩, ⟨.bool, (readK d i).2⟩], []⟩ else none) = some out := h1
  split at h1
  case isFalse => cases h1
  rename_i hr
  injection h1 with h1
  subst h1
  exact ⟨by rw [mkArgs_len]; decide, kread_ex d i hr⟩
/-- The contract of glacisref1.Write. -/
def kwriteC : Con := conN [(.v, DkT), (.v, .int .i64), (.v, .str)] fun (d, i, b, _) => if okD d then some ⟨.tup [⟨DkT, (writeK d i b).1⟩, ⟨.bool, (writeK d i b).2⟩], []⟩ else none
theorem kwriteC_eq {d : Ty.den (DkT)} {i : Int} {b : ByteArray} : kwriteC [.val ⟨DkT, d⟩, .val ⟨.int .i64, i⟩, .val ⟨.str, b⟩] = if okD d then some ⟨.tup [⟨DkT, (writeK d i b).1⟩, ⟨.bool, (writeK d i b).2⟩], []⟩ else none := conN_mk (ks := [(.v, DkT), (.v, .int .i64), (.v, .str)]) (d, i, b, ())
def Γkwrite : Cons := cons [(29, kisC)]
theorem kwrite_ex (d : Ty.den (DkT)) (i : Int) (b : ByteArray) (hr : okD d) : Ex tab Γkwrite (Try.f18.body.getD .skip) (EndsF tab Try.f18.results.toList [.val ⟨DkT, d⟩, .val ⟨.int .i64, i⟩, .val ⟨.str, b⟩] ⟨.tup [⟨DkT, (writeK d i b).1⟩, ⟨.bool, (writeK d i b).2⟩], []⟩) (ini [.val ⟨DkT, d⟩, .val ⟨.int .i64, i⟩, .val ⟨.str, b⟩]) := by
  have g_kis : Γkwrite 29 = some kisC := rfl
  simp only [Try.f18, Option.getD_some]
  simp (implicitDefEqProofs := false) (decide := true) (maxSteps := 4000000) [ini, g_kis, kisC_eq]
  obtain ⟨d1, d2, d3, d4⟩ := hr
  have w1 : IntKind.i64.wrap (d.2.2.1 - 1) = d.2.2.1 - 1 := i64_in _ (by omega)
  rw [w1]
  refine br_intro (fun h => ?_) fun h => br_intro (fun h2 => ?_) fun h2 => ⟨by omega, by omega, br_dec (fun h3 => ?_) fun h3 => ?_⟩
  · rw [writeK, if_neg (fun hc => by rw [hc.1] at h; cases h)]; exact ⟨rfl, rfl⟩
  · rw [writeK, if_neg (fun hc => by rw [hc.2] at h2; cases h2)]; exact ⟨rfl, rfl⟩
  all_goals
    have h64 : ByteArray.size b = 64 := by have : (ByteArray.size b : Int) = 64 := by simpa using h2
                                           omega
    rw [writeK, if_pos ⟨by simpa using h, h64⟩]
  · rw [armK, if_pos h3]
    exact ⟨Prod.ext rfl (Prod.ext rfl (Prod.ext rfl (Prod.ext (by simp only; rw [Bool.eq_iff_iff]; simp) rfl))), by rw [Bool.eq_iff_iff]; simp⟩
  · rw [armK, if_neg h3]; exact ⟨rfl, by simp⟩
theorem kwrite_ok : ConOK Try.prog 18 kwriteC := by
  refine con_ok tab_ok (Γ := Γkwrite) (consOK_cons kis_ok consOK_nil) (by kernel_rfl) Try.func18 (by kernel_rfl) ?_
  intro args out h
  obtain ⟨x, e, h1⟩ := conN_inv h
  clear h
  obtain ⟨d, i, b, x0⟩ := x
  subst e
  replace h1 : (if okD d then some ⟨.tup [⟨DkT, (writeK d i b).1⟩, ⟨.bool, (writeK d i b).2⟩], []⟩ else none) = some out := h1
  split at h1
  case isFalse => cases h1
  rename_i hr
  injection h1 with h1
  subst h1
  exact ⟨by rw [mkArgs_len]; decide, kwrite_ex d i b hr⟩
def keepB (keep : List Bool) (all : Bool) (k : Nat) : Bool := all || keepL keep k
/-- The contract of glacisref1.lasts. -/
def klastsC : Con := conN [(.v, DkT), (.v, .slice .bool), (.v, .bool)] fun (d, keep, all, _) => if okD d then some ⟨.own .str (lastsK (keepB keep all) 0 d.2.1 d.1), []⟩ else none
theorem klastsC_eq {d : Ty.den (DkT)} {keep : List Bool} {all : Bool} : klastsC [.val ⟨DkT, d⟩, .val ⟨.slice .bool, keep⟩, .val ⟨.bool, all⟩] = if okD d then some ⟨.own .str (lastsK (keepB keep all) 0 d.2.1 d.1), []⟩ else none := conN_mk (ks := [(.v, DkT), (.v, .slice .bool), (.v, .bool)]) (d, keep, all, ())
def Γklasts : Cons := cons []
theorem klasts_ex (d : Ty.den (DkT)) (keep : List Bool) (all : Bool) (hr : okD d) : Ex tab Γklasts (Try.f26.body.getD .skip) (EndsF tab Try.f26.results.toList [.val ⟨DkT, d⟩, .val ⟨.slice .bool, keep⟩, .val ⟨.bool, all⟩] ⟨.own .str (lastsK (keepB keep all) 0 d.2.1 d.1), []⟩) (ini [.val ⟨DkT, d⟩, .val ⟨.slice .bool, keep⟩, .val ⟨.bool, all⟩]) := by
  simp only [Try.f26, Option.getD_some]
  simp (implicitDefEqProofs := false) (decide := true) (maxSteps := 4000000) [ini]
  obtain ⟨d1, d2, d3, d4⟩ := hr
  intro m m1
  refine ⟨by omega, ?_⟩
  refine ex_loopU (σ := Nat × Nat × List ByteArray) [8, 9, 14, 15, 16, 17, 18, 19, 20, 21, 22, 23, 24, 25, 26, 27, 28, 29, 30, 31, 32, 33, 34, 35, 36, 37, 38, 39, 40, 41, 42, 43, 44, 45, 46, 47, 48, 49, 50, 51, 52, 53, 54, 55, 56, 57, 58, 7] (fun a => [(8, .val (.int .i64) (a.1 : Int)), (7, .own a.2.1 .str a.2.2)]) (fun a => a.1 ≤ List.length d.2.1 ∧ List.length a.2.2 = List.length d.1 ∧ lastsK (keepB keep all) 0 d.2.1 d.1 = lastsK (keepB keep all) a.1 (d.2.1.drop a.1) a.2.2) (fun a => List.length d.2.1 - a.1) (0, _, d.1) ⟨Nat.zero_le _, rfl, rfl⟩ (hc rfl (hc rfl hn)) ?_
  rintro j ⟨k, q, out⟩ ⟨hk1, hk2, hk3⟩
  simp only at hk1 hk2 hk3
  simp (implicitDefEqProofs := false) (decide := true) (maxSteps := 4000000) [ini]
  have hd2 : List.length d.2.1 ≤ 1000 := d2
  have w1 : IntKind.i64.wrap ((k : Int) + 1) = ((k + 1 : Nat) : Int) := w_nat rfl (by omega)
  rw [w1]
  intro _
  refine br_dec (fun hlt => ⟨hlt, ?_⟩) fun hge => ?_
  · obtain ⟨p, hp⟩ : ∃ p : Pt, d.2.1[k] = p := ⟨_, rfl⟩
    have hg : d.2.1[k]?.getD ((0, { data := #[] }, ()) : Pt) = p := by rw [List.getElem?_eq_getElem hlt, hp]; rfl
    have hdr : d.2.1.drop k = p :: d.2.1.drop (k + 1) := by rw [List.drop_eq_getElem_cons hlt, hp]
    rw [hg]
    rw [hdr, lastsK] at hk3
    have fin : ∀ b : List ByteArray, b.length = List.length d.1 → b = (if keepB keep all k = true then putK out p else out) → ∃ a a_1 b_1, (a ≤ List.length d.2.1 ∧ List.length b_1 = List.length d.1 ∧ lastsK (keepB keep all) 0 d.2.1 d.1 = lastsK (keepB keep all) a (List.drop a d.2.1) b_1) ∧ List.length d.2.1 - a < List.length d.2.1 - k ∧ ((k + 1 : Nat) : Int) = (a : Int) ∧ q = a_1 ∧ b = b_1 := fun b hb1 hb2 => ⟨k + 1, q, b, ⟨hlt, hb1, by rw [hk3, hb2]⟩, by omega, rfl, rfl, rfl⟩
    have hno : ¬ (0 ≤ p.1 ∧ p.1 < (out.length : Int)) → out = (if keepB keep all k = true then putK out p else out) := fun h => by
      split
      · rw [putK, if_neg h]
      · rfl
    have hyes : 0 ≤ p.1 → p.1 < (out.length : Int) → keepB keep all k = true → out.set p.1.toNat p.2.1 = (if keepB keep all k = true then putK out p else out) := fun h1 h2 h3 => by
      rw [if_pos h3, putK, if_pos ⟨h1, h2⟩]
    have hoff : keepB keep all k = false → out = (if keepB keep all k = true then putK out p else out) := fun h => by rw [if_neg (by rw [h]; decide)]
    refine br_dec (fun h1 _ => br_dec (fun h2 => br_intro (fun h3 => ?_) fun h3 _ => br_dec (fun h4 => ?_) fun h4 => ?_) fun h2 => ?_) fun h1 => ?_
    · exact ⟨hlt, ⟨h1, h2⟩, by omega, fin _ (by rw [List.length_set]; exact hk2) (hyes h1 h2 (by rw [keepB, h3]; rfl))⟩
    · have hkl : keep[k]?.getD false = keepL keep k := by rw [keepL, List.getD_eq_getElem?_getD]
      rw [hkl]
      refine ⟨h4, br_intro (fun h5 => ?_) fun h5 => ?_⟩
      · exact ⟨hlt, ⟨h1, h2⟩, by omega, fin _ (by rw [List.length_set]; exact hk2) (hyes h1 h2 (by rw [keepB, h3, h5]; rfl))⟩
      · exact fin out hk2 (hoff (by rw [keepB, h3, h5]; rfl))
    · have hkl : keepL keep k = false := by rw [keepL, List.getD_eq_getElem?_getD, List.getElem?_eq_none (by omega)]; rfl
      exact fin out hk2 (hoff (by rw [keepB, h3, hkl]; rfl))
    · exact fin out hk2 (hno fun h => h2 h.2)
    · exact fin out hk2 (hno fun h => h1 h.1)
  · rw [List.drop_eq_nil_of_le (by omega), lastsK] at hk3
    exact hk3.symm
theorem klasts_ok : ConOK Try.prog 26 klastsC := by
  refine con_ok tab_ok (Γ := Γklasts) consOK_nil (by kernel_rfl) Try.func26 (by kernel_rfl) ?_
  intro args out h
  obtain ⟨x, e, h1⟩ := conN_inv h
  clear h
  obtain ⟨d, keep, all, x0⟩ := x
  subst e
  replace h1 : (if okD d then some ⟨.own .str (lastsK (keepB keep all) 0 d.2.1 d.1), []⟩ else none) = some out := h1
  split at h1
  case isFalse => cases h1
  rename_i hr
  injection h1 with h1
  subst h1
  exact ⟨by rw [mkArgs_len]; decide, klasts_ex d keep all hr⟩
/-- The contract of glacisref1.Flush. -/
def kflushC : Con := conN [(.v, DkT)] fun (d, _) => if okD d then some ⟨.tup [⟨DkT, (flushK d).1⟩, ⟨.bool, (flushK d).2⟩], []⟩ else none
theorem kflushC_eq {d : Ty.den (DkT)} : kflushC [.val ⟨DkT, d⟩] = if okD d then some ⟨.tup [⟨DkT, (flushK d).1⟩, ⟨.bool, (flushK d).2⟩], []⟩ else none := conN_mk (ks := [(.v, DkT)]) (d, ())
def Γkflush : Cons := cons [(26, klastsC)]
theorem kflush_ex (d : Ty.den (DkT)) (hr : okD d) : Ex tab Γkflush (Try.f12.body.getD .skip) (EndsF tab Try.f12.results.toList [.val ⟨DkT, d⟩] ⟨.tup [⟨DkT, (flushK d).1⟩, ⟨.bool, (flushK d).2⟩], []⟩) (ini [.val ⟨DkT, d⟩]) := by
  have g_klasts : Γkflush 26 = some klastsC := rfl
  simp only [Try.f12, Option.getD_some]
  simp (implicitDefEqProofs := false) (decide := true) (maxSteps := 4000000) [ini, g_klasts, klastsC_eq]
  have hk : keepB [] true = fun _ => true := by funext k; rfl
  refine br_intro (fun h => ?_) fun h _ => br_dec (fun h2 => ⟨hr, ?_⟩) fun h2 => ?_
  · rw [flushK, if_pos h]; exact ⟨rfl, rfl⟩
  · rw [flushK, if_neg (by rw [h]; decide), hk]; exact ⟨rfl, rfl⟩
  · have e : d.2.1 = [] := List.eq_nil_of_length_eq_zero (by omega)
    rw [flushK, if_neg (by rw [h]; decide), e]; exact ⟨rfl, rfl⟩
theorem kflush_ok : ConOK Try.prog 12 kflushC := by
  refine con_ok tab_ok (Γ := Γkflush) (consOK_cons klasts_ok consOK_nil) (by kernel_rfl) Try.func12 (by kernel_rfl) ?_
  intro args out h
  obtain ⟨x, e, h1⟩ := conN_inv h
  clear h
  obtain ⟨d, x0⟩ := x
  subst e
  replace h1 : (if okD d then some ⟨.tup [⟨DkT, (flushK d).1⟩, ⟨.bool, (flushK d).2⟩], []⟩ else none) = some out := h1
  split at h1
  case isFalse => cases h1
  rename_i hr
  injection h1 with h1
  subst h1
  exact ⟨by rw [mkArgs_len]; decide, kflush_ex d hr⟩
/-- The contract of glacisref1.Crash. -/
def kcrashC : Con := conN [(.v, DkT), (.v, .slice .bool)] fun (d, keep, _) => if okD d then some ⟨.val ⟨DkT, crashK d keep⟩, []⟩ else none
theorem kcrashC_eq {d : Ty.den (DkT)} {keep : List Bool} : kcrashC [.val ⟨DkT, d⟩, .val ⟨.slice .bool, keep⟩] = if okD d then some ⟨.val ⟨DkT, crashK d keep⟩, []⟩ else none := conN_mk (ks := [(.v, DkT), (.v, .slice .bool)]) (d, keep, ())
def Γkcrash : Cons := cons [(26, klastsC)]
theorem kcrash_ex (d : Ty.den (DkT)) (keep : List Bool) (hr : okD d) : Ex tab Γkcrash (Try.f14.body.getD .skip) (EndsF tab Try.f14.results.toList [.val ⟨DkT, d⟩, .val ⟨.slice .bool, keep⟩] ⟨.val ⟨DkT, crashK d keep⟩, []⟩) (ini [.val ⟨DkT, d⟩, .val ⟨.slice .bool, keep⟩]) := by
  have g_klasts : Γkcrash 26 = some klastsC := rfl
  simp only [Try.f14, Option.getD_some]
  simp (implicitDefEqProofs := false) (decide := true) (maxSteps := 4000000) [ini, g_klasts, klastsC_eq]
  have hk : keepB keep false = keepL keep := by funext k; rfl
  rw [hk]
  exact ⟨hr, rfl⟩
theorem kcrash_ok : ConOK Try.prog 14 kcrashC := by
  refine con_ok tab_ok (Γ := Γkcrash) (consOK_cons klasts_ok consOK_nil) (by kernel_rfl) Try.func14 (by kernel_rfl) ?_
  intro args out h
  obtain ⟨x, e, h1⟩ := conN_inv h
  clear h
  obtain ⟨d, keep, x0⟩ := x
  subst e
  replace h1 : (if okD d then some ⟨.val ⟨DkT, crashK d keep⟩, []⟩ else none) = some out := h1
  split at h1
  case isFalse => cases h1
  rename_i hr
  injection h1 with h1
  subst h1
  exact ⟨by rw [mkArgs_len]; decide, kcrash_ex d keep hr⟩
def blockK (n : Nat) : ByteArray := strOf ((List.range 64).map fun i => (((n * 7 + i + 1) % 256 : Nat) : Int))
/-- The contract of glacislaw1.block. -/
def kblockC : Con := conN [(.v, .int .u8)] fun (n, _) => if 0 ≤ n ∧ n < 256 then some ⟨.val ⟨.str, blockK n.toNat⟩, []⟩ else none
theorem kblockC_eq {n : Int} : kblockC [.val ⟨.int .u8, n⟩] = if 0 ≤ n ∧ n < 256 then some ⟨.val ⟨.str, blockK n.toNat⟩, []⟩ else none := conN_mk (ks := [(.v, .int .u8)]) (n, ())
def Γkblock : Cons := cons []
theorem kblock_ex (n : Int) (hr : 0 ≤ n ∧ n < 256) : Ex tab Γkblock (Try.f19.body.getD .skip) (EndsF tab Try.f19.results.toList [.val ⟨.int .u8, n⟩] ⟨.val ⟨.str, blockK n.toNat⟩, []⟩) (ini [.val ⟨.int .u8, n⟩]) := by
  simp only [Try.f19, Option.getD_some]
  simp (implicitDefEqProofs := false) (decide := true) (maxSteps := 4000000) [ini]
  obtain ⟨h1, h2⟩ := hr
  obtain ⟨c, rfl⟩ : ∃ c : Nat, n = (c : Int) := ⟨Int.toNat n, (Int.toNat_of_nonneg h1).symm⟩
  have hcc : c < 256 := by omega
  intro m
  refine ex_loopU (σ := Nat × Nat × List Int) [4, 6, 7, 8, 9, 10, 11, 12, 13, 14, 15, 16, 17, 18, 19, 20, 21, 3] (fun a => [(4, .val (.int .i64) (a.1 : Int)), (3, .own a.2.1 (.int .u8) a.2.2)]) (fun a => a.1 ≤ 64 ∧ a.2.2 = (List.range a.1).map (fun i => (((c * 7 + i + 1) % 256 : Nat) : Int)) ++ List.replicate (64 - a.1) 0) (fun a => 64 - a.1) (0, _, List.replicate 64 0) ⟨Nat.zero_le _, rfl⟩ (hc rfl (hc rfl hn)) ?_
  rintro j ⟨k, q, W⟩ ⟨hk1, hk2⟩
  simp only at hk1 hk2
  simp (implicitDefEqProofs := false) (decide := true) (maxSteps := 4000000) [ini]
  have hWl : W.length = 64 := by rw [hk2, List.length_append, List.length_map, List.length_range, List.length_replicate]; omega
  intro _
  refine br_dec (fun hlt => ?_) fun hge => ?_
  · have hk64 : k < 64 := by omega
    have v1 : IntKind.i64.wrap (c : Int) = (c : Int) := w_nat rfl (by omega)
    have v2 : IntKind.i64.wrap ((c : Int) * 7) = ((c * 7 : Nat) : Int) := w_nat (by omega) (by omega)
    have v3 : IntKind.i64.wrap (((c * 7 : Nat) : Int) + (k : Int)) = ((c * 7 + k : Nat) : Int) := w_nat (by omega) (by omega)
    have v4 : IntKind.i64.wrap (((c * 7 + k : Nat) : Int) + 1) = ((c * 7 + k + 1 : Nat) : Int) := w_nat (by omega) (by omega)
    have v5 : IntKind.u8.wrap ((c * 7 + k + 1 : Nat) : Int) = (((c * 7 + k + 1) % 256 : Nat) : Int) := by rw [wrap_u8_nat]
    rw [v1, v2, v3, v4, v5]
    refine ⟨hlt, k + 1, q, _, ⟨hk64, ?_⟩, by omega, w_nat rfl (by omega), rfl, rfl⟩
    rw [hk2, List.range_succ, List.map_append, List.set_append_right _ _ (by rw [List.length_map, List.length_range]; exact Nat.le_refl _), List.length_map, List.length_range, Nat.sub_self, show 64 - k = (64 - (k + 1)) + 1 by omega, List.replicate_succ, List.set_cons_zero, List.append_assoc]
    rfl
  · have hk : k = 64 := by omega
    show strOf W = blockK c
    rw [hk2, hk, blockK]
    simp
theorem kblock_ok : ConOK Try.prog 19 kblockC := by
  refine con_ok tab_ok (Γ := Γkblock) consOK_nil (by kernel_rfl) Try.func19 (by kernel_rfl) ?_
  intro args out h
  obtain ⟨x, e, h1⟩ := conN_inv h
  clear h
  obtain ⟨n, x0⟩ := x
  subst e
  replace h1 : (if 0 ≤ n ∧ n < 256 then some ⟨.val ⟨.str, blockK n.toNat⟩, []⟩ else none) = some out := h1
  split at h1
  case isFalse => cases h1
  rename_i hr
  injection h1 with h1
  subst h1
  exact ⟨by rw [mkArgs_len]; decide, kblock_ex n hr⟩
end Go.Proofs.Ytcopoofbicgjbaa
