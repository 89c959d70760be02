/- The reference's changes of bodies, walked. -/
import Derived.Test.YthhjlbpmpffapaaGreatDoorRef6d
import Derived.Test.YthhjlbpmpffapaaGreatDoorPEdit
set_option maxRecDepth 100000
set_option maxHeartbeats 1000000
set_option linter.unusedSimpArgs false
set_option linter.unusedVariables false
set_option pp.deepTerms.threshold 30
namespace Go.Proofs.YthhjlbpmpffapaaGreatDoor
open Go.Tm Go.IntWalk
/-- The contract of glacisref6.file. -/
def rfileTC : Con := conN [(.v, TreeT), (.v, .str), (.v, .bool)] fun (t, p, own, _) => if fitT t ∧ p.size ≤ 4000000000 then some ⟨.tup [⟨.int .i64, (fileT t p own).1⟩, ⟨.int .i64, (fileT t p own).2⟩], []⟩ else none
theorem rfileTC_eq {t : Ty.den (TreeT)} {p : ByteArray} {own : Bool} : rfileTC [.val ⟨TreeT, t⟩, .val ⟨.str, p⟩, .val ⟨.bool, own⟩] = if fitT t ∧ p.size ≤ 4000000000 then some ⟨.tup [⟨.int .i64, (fileT t p own).1⟩, ⟨.int .i64, (fileT t p own).2⟩], []⟩ else none := conN_mk (ks := [(.v, TreeT), (.v, .str), (.v, .bool)]) (t, p, own, ())
def ΓrfileT : Cons := cons [(26, rfindTC)]
theorem rfileT_ex (t : Ty.den (TreeT)) (p : ByteArray) (own : Bool) (hr : fitT t ∧ p.size ≤ 4000000000) : Ex tab ΓrfileT (Tryz.f31.body.getD .skip) (EndsF tab Tryz.f31.results.toList [.val ⟨TreeT, t⟩, .val ⟨.str, p⟩, .val ⟨.bool, own⟩] ⟨.tup [⟨.int .i64, (fileT t p own).1⟩, ⟨.int .i64, (fileT t p own).2⟩], []⟩) (ini [.val ⟨TreeT, t⟩, .val ⟨.str, p⟩, .val ⟨.bool, own⟩]) := by
  have g_rfindT : ΓrfileT 26 = some rfindTC := rfl
  simp only [Tryz.f31, Option.getD_some]
  simp (implicitDefEqProofs := false) (decide := true) (maxSteps := 4000000) [ini, g_rfindT, rfindTC_eq]
  obtain ⟨h1, h2⟩ := hr
  have ht : t.length ≤ 1000 := h1.1
  refine ⟨⟨h1, h2⟩, br_intro (fun h => ?_) fun h => ?_⟩
  · have h : (findT t p own).2 = 0 := by simpa using h
    have hf := findT_range h
    have w1 : IntKind.i64.wrap ((findT t p own).1 - 1) = (findT t p own).1 - 1 := i64_in _ (by omega)
    rw [w1, kind_at]
    refine ⟨⟨by omega, by omega⟩, br_intro (fun hk => ?_) fun hk => ?_⟩
    · rw [fileT, if_pos ⟨h, by unfold kindT; simpa using hk⟩]; exact ⟨rfl, rfl⟩
    · rw [fileT, if_neg fun hc => ?_]
      · exact ⟨rfl, rfl⟩
      · have := hc.2
        unfold kindT at this
        rw [this] at hk; simp at hk
  · rw [fileT, if_neg fun hc => ?_]
    · exact ⟨rfl, rfl⟩
    · rw [hc.1] at h; simp at h
theorem rfileT_ok : ConOK Tryz.prog 31 rfileTC := by
  refine con_ok tab_ok (Γ := ΓrfileT) (consOK_cons rfindT_ok consOK_nil) (by kernel_rfl) Tryz.func31 (by kernel_rfl) ?_
  intro args out h
  obtain ⟨x, e, h1⟩ := conN_inv h
  clear h
  obtain ⟨t, p, own, x0⟩ := x
  subst e
  replace h1 : (if fitT t ∧ p.size ≤ 4000000000 then some ⟨.tup [⟨.int .i64, (fileT t p own).1⟩, ⟨.int .i64, (fileT t p own).2⟩], []⟩ else none) = some out := h1
  split at h1
  case isFalse => cases h1
  rename_i hr
  injection h1 with h1
  subst h1
  exact ⟨by rw [mkArgs_len]; decide, rfileT_ex t p own hr⟩
/-- The contract of glacisref6.long. -/
def rlongC : Con := conN [(.v, .str), (.v, .int .i64)] fun (s, n, _) => if 0 ≤ n ∧ n ≤ 4000001000 then some ⟨.val ⟨.str, longB s n⟩, []⟩ else none
theorem rlongC_eq {s : ByteArray} {n : Int} : rlongC [.val ⟨.str, s⟩, .val ⟨.int .i64, n⟩] = if 0 ≤ n ∧ n ≤ 4000001000 then some ⟨.val ⟨.str, longB s n⟩, []⟩ else none := conN_mk (ks := [(.v, .str), (.v, .int .i64)]) (s, n, ())
def Γrlong : Cons := cons []
theorem rlong_ex (s : ByteArray) (n : Int) (hr : 0 ≤ n ∧ n ≤ 4000001000) : Ex tab Γrlong (Tryz.f34.body.getD .skip) (EndsF tab Tryz.f34.results.toList [.val ⟨.str, s⟩, .val ⟨.int .i64, n⟩] ⟨.val ⟨.str, longB s n⟩, []⟩) (ini [.val ⟨.str, s⟩, .val ⟨.int .i64, n⟩]) := by
  simp only [Tryz.f34, Option.getD_some]
  simp (implicitDefEqProofs := false) (decide := true) (maxSteps := 4000000) [ini]
  exact ⟨⟨hr.1, by omega⟩, rfl⟩
theorem rlong_ok : ConOK Tryz.prog 34 rlongC := by
  refine con_ok tab_ok (Γ := Γrlong) consOK_nil (by kernel_rfl) Tryz.func34 (by kernel_rfl) ?_
  intro args out h
  obtain ⟨x, e, h1⟩ := conN_inv h
  clear h
  obtain ⟨s, n, x0⟩ := x
  subst e
  replace h1 : (if 0 ≤ n ∧ n ≤ 4000001000 then some ⟨.val ⟨.str, longB s n⟩, []⟩ else none) = some out := h1
  split at h1
  case isFalse => cases h1
  rename_i hr
  injection h1 with h1
  subst h1
  exact ⟨by rw [mkArgs_len]; decide, rlong_ex s n hr⟩
/-- The contract of glacisref6.Write. -/
def rwriteTC : Con := conN [(.v, TreeT), (.v, .str), (.v, .int .i64), (.v, .str), (.v, .bool)] fun (t, p, off, x, own, _) => if fitT t ∧ p.size ≤ 4000000000 ∧ x.size ≤ 4000000000 then some ⟨.tup [⟨TreeT, (writeT t p off x own).1⟩, ⟨.int .i64, (writeT t p off x own).2⟩], []⟩ else none
theorem rwriteTC_eq {t : Ty.den (TreeT)} {p : ByteArray} {off : Int} {x : ByteArray} {own : Bool} : rwriteTC [.val ⟨TreeT, t⟩, .val ⟨.str, p⟩, .val ⟨.int .i64, off⟩, .val ⟨.str, x⟩, .val ⟨.bool, own⟩] = if fitT t ∧ p.size ≤ 4000000000 ∧ x.size ≤ 4000000000 then some ⟨.tup [⟨TreeT, (writeT t p off x own).1⟩, ⟨.int .i64, (writeT t p off x own).2⟩], []⟩ else none := conN_mk (ks := [(.v, TreeT), (.v, .str), (.v, .int .i64), (.v, .str), (.v, .bool)]) (t, p, off, x, own, ())
def ΓrwriteT : Cons := cons [(31, rfileTC), (34, rlongC), (35, rset6C)]
theorem rwriteT_ex (t : Ty.den (TreeT)) (p : ByteArray) (off : Int) (x : ByteArray) (own : Bool) (hr : fitT t ∧ p.size ≤ 4000000000 ∧ x.size ≤ 4000000000) : Ex tab ΓrwriteT (Tryz.f14.body.getD .skip) (EndsF tab Tryz.f14.results.toList [.val ⟨TreeT, t⟩, .val ⟨.str, p⟩, .val ⟨.int .i64, off⟩, .val ⟨.str, x⟩, .val ⟨.bool, own⟩] ⟨.tup [⟨TreeT, (writeT t p off x own).1⟩, ⟨.int .i64, (writeT t p off x own).2⟩], []⟩) (ini [.val ⟨TreeT, t⟩, .val ⟨.str, p⟩, .val ⟨.int .i64, off⟩, .val ⟨.str, x⟩, .val ⟨.bool, own⟩]) := by
  have g_rfileT : ΓrwriteT 31 = some rfileTC := rfl
  have g_rlong : ΓrwriteT 34 = some rlongC := rfl
  have g_rset6 : ΓrwriteT 35 = some rset6C := rfl
  simp only [Tryz.f14, Option.getD_some]
  simp (implicitDefEqProofs := false) (decide := true) (maxSteps := 4000000) [ini, g_rfileT, rfileTC_eq, g_rlong, rlongC_eq, g_rset6, rset6C_eq]
  obtain ⟨h1, h2, h3⟩ := hr
  have ht : t.length ≤ 1000 := h1.1
  refine ⟨⟨h1, h2⟩, br_intro (fun h => ?_) fun h => ?_⟩
  · rw [writeT, if_pos (by simpa using h)]; exact ⟨rfl, rfl⟩
  have h0 : (fileT t p own).2 = 0 := by simpa using h
  have hf := fileT_range h0
  have hb := fit_body h1 (fileT t p own).1
  have w1 : IntKind.i64.wrap ((fileT t p own).1 - 1) = (fileT t p own).1 - 1 := i64_in _ (by omega)
  have n0 : ¬ (fileT t p own).2 ≠ 0 := by rw [h0]; decide
  rw [w1, kind_at]
  refine br_dec (fun h4 => ?_) fun h4 => br_dec (fun h5 => ?_) fun h5 => ?_
  · rw [writeT, if_neg n0, if_pos h4]; exact ⟨rfl, rfl⟩
  · rw [writeT, if_neg n0, if_neg h4, if_pos (.inl h5)]; exact ⟨rfl, rfl⟩
  have w2 : IntKind.i64.wrap (120 - off) = 120 - off := i64_in _ (by omega)
  have w3 : IntKind.i64.wrap (off + (x.size : Int)) = off + (x.size : Int) := i64_in _ (by omega)
  rw [w2, w3]
  have n5 : ∀ h6 : ¬ 120 - off < (x.size : Int), ¬ (120 < off ∨ 120 - off < (x.size : Int)) := fun h6 h => h.elim h5 h6
  refine br_dec (fun h6 => ?_) fun h6 => br_intro (fun h7 => ?_) fun h7 => ?_
  · rw [writeT, if_neg n0, if_neg h4, if_pos (.inr h6)]; exact ⟨rfl, rfl⟩
  · have h7 : x.size = 0 := by rw [beq_iff_eq] at h7; exact Int.ofNat.inj h7
    rw [writeT, if_neg n0, if_neg h4, if_neg (n5 h6), if_pos h7]; exact ⟨rfl, rfl⟩
  have h7 : ¬ x.size = 0 := fun e => by rw [e] at h7; simp at h7
  have hW : writeT t p off x own = (setT t (fileT t p own).1 (withBody (nodeT t (fileT t p own).1) (writeB (bodyT t (fileT t p own).1) off x)), 0) := by
    rw [writeT, if_neg n0, if_neg h4, if_neg (n5 h6), if_neg h7]
  rw [hW]
  have hn : 0 ≤ writeN (bodyT t (fileT t p own).1) off x ∧ writeN (bodyT t (fileT t p own).1) off x ≤ 4000001000 ∧ off ≤ writeN (bodyT t (fileT t p own).1) off x := by
    unfold writeN; split <;> omega
  have hN : (if ((nodeT t (fileT t p own).1).2.2.1.size : Int) < off + (x.size : Int) then off + (x.size : Int) else ((nodeT t (fileT t p own).1).2.2.1.size : Int)) = writeN (bodyT t (fileT t p own).1) off x := rfl
  rw [hN]
  exact ⟨⟨by omega, by omega⟩, ⟨hn.1, hn.2.1⟩, by rw [longB_size]; omega, ⟨by omega, by rw [bytesOf_len, longB_size]; omega⟩, ⟨h1, hf⟩, rfl, rfl⟩
theorem rwriteT_ok : ConOK Tryz.prog 14 rwriteTC := by
  refine con_ok tab_ok (Γ := ΓrwriteT) (consOK_cons rfileT_ok (consOK_cons rlong_ok (consOK_cons rset6_ok consOK_nil))) (by kernel_rfl) Tryz.func14 (by kernel_rfl) ?_
  intro args out h
  obtain ⟨x, e, h1⟩ := conN_inv h
  clear h
  obtain ⟨t, p, off, x, own, x0⟩ := x
  subst e
  replace h1 : (if fitT t ∧ p.size ≤ 4000000000 ∧ x.size ≤ 4000000000 then some ⟨.tup [⟨TreeT, (writeT t p off x own).1⟩, ⟨.int .i64, (writeT t p off x own).2⟩], []⟩ else none) = some out := h1
  split at h1
  case isFalse => cases h1
  rename_i hr
  injection h1 with h1
  subst h1
  exact ⟨by rw [mkArgs_len]; decide, rwriteT_ex t p off x own hr⟩
/-- The contract of glacisref6.Cut. -/
def rsizeTC : Con := conN [(.v, TreeT), (.v, .str), (.v, .int .i64), (.v, .bool)] fun (t, p, n, own, _) => if fitT t ∧ p.size ≤ 4000000000 then some ⟨.tup [⟨TreeT, (sizeT t p n own).1⟩, ⟨.int .i64, (sizeT t p n own).2⟩], []⟩ else none
theorem rsizeTC_eq {t : Ty.den (TreeT)} {p : ByteArray} {n : Int} {own : Bool} : rsizeTC [.val ⟨TreeT, t⟩, .val ⟨.str, p⟩, .val ⟨.int .i64, n⟩, .val ⟨.bool, own⟩] = if fitT t ∧ p.size ≤ 4000000000 then some ⟨.tup [⟨TreeT, (sizeT t p n own).1⟩, ⟨.int .i64, (sizeT t p n own).2⟩], []⟩ else none := conN_mk (ks := [(.v, TreeT), (.v, .str), (.v, .int .i64), (.v, .bool)]) (t, p, n, own, ())
def ΓrsizeT : Cons := cons [(31, rfileTC), (34, rlongC), (35, rset6C)]
theorem rsizeT_ex (t : Ty.den (TreeT)) (p : ByteArray) (n : Int) (own : Bool) (hr : fitT t ∧ p.size ≤ 4000000000) : Ex tab ΓrsizeT (Tryz.f17.body.getD .skip) (EndsF tab Tryz.f17.results.toList [.val ⟨TreeT, t⟩, .val ⟨.str, p⟩, .val ⟨.int .i64, n⟩, .val ⟨.bool, own⟩] ⟨.tup [⟨TreeT, (sizeT t p n own).1⟩, ⟨.int .i64, (sizeT t p n own).2⟩], []⟩) (ini [.val ⟨TreeT, t⟩, .val ⟨.str, p⟩, .val ⟨.int .i64, n⟩, .val ⟨.bool, own⟩]) := by
  have g_rfileT : ΓrsizeT 31 = some rfileTC := rfl
  have g_rlong : ΓrsizeT 34 = some rlongC := rfl
  have g_rset6 : ΓrsizeT 35 = some rset6C := rfl
  simp only [Tryz.f17, Option.getD_some]
  simp (implicitDefEqProofs := false) (decide := true) (maxSteps := 4000000) [ini, g_rfileT, rfileTC_eq, g_rlong, rlongC_eq, g_rset6, rset6C_eq]
  obtain ⟨h1, h2⟩ := hr
  have ht : t.length ≤ 1000 := h1.1
  refine ⟨⟨h1, h2⟩, br_intro (fun h => ?_) fun h => ?_⟩
  · rw [sizeT, if_pos (by simpa using h)]; exact ⟨rfl, rfl⟩
  have h0 : (fileT t p own).2 = 0 := by simpa using h
  have hf := fileT_range h0
  have w1 : IntKind.i64.wrap ((fileT t p own).1 - 1) = (fileT t p own).1 - 1 := i64_in _ (by omega)
  rw [w1, kind_at, sizeT, if_neg (by rw [h0]; decide)]
  refine br_dec (fun h4 => ?_) fun h4 => br_dec (fun h5 => ?_) fun h5 => ?_
  · rw [if_pos h4]; exact ⟨rfl, rfl⟩
  · rw [if_neg h4, if_pos h5]; exact ⟨rfl, rfl⟩
  rw [if_neg h4, if_neg h5]
  exact ⟨⟨by omega, by omega⟩, ⟨by omega, by omega⟩, ⟨h1, hf⟩, rfl, rfl⟩
theorem rsizeT_ok : ConOK Tryz.prog 17 rsizeTC := by
  refine con_ok tab_ok (Γ := ΓrsizeT) (consOK_cons rfileT_ok (consOK_cons rlong_ok (consOK_cons rset6_ok consOK_nil))) (by kernel_rfl) Tryz.func17 (by kernel_rfl) ?_
  intro args out h
  obtain ⟨x, e, h1⟩ := conN_inv h
  clear h
  obtain ⟨t, p, n, own, x0⟩ := x
  subst e
  replace h1 : (if fitT t ∧ p.size ≤ 4000000000 then some ⟨.tup [⟨TreeT, (sizeT t p n own).1⟩, ⟨.int .i64, (sizeT t p n own).2⟩], []⟩ else none) = some out := h1
  split at h1
  case isFalse => cases h1
  rename_i hr
  injection h1 with h1
  subst h1
  exact ⟨by rw [mkArgs_len]; decide, rsizeT_ex t p n own hr⟩
/-- The contract of glacisref6.Mode. -/
def rmodeTC : Con := conN [(.v, TreeT), (.v, .str), (.v, .int .i64), (.v, .bool)] fun (t, p, m, own, _) => if fitT t ∧ p.size ≤ 4000000000 then some ⟨.tup [⟨TreeT, (modeT t p m own).1⟩, ⟨.int .i64, (modeT t p m own).2⟩], []⟩ else none
theorem rmodeTC_eq {t : Ty.den (TreeT)} {p : ByteArray} {m : Int} {own : Bool} : rmodeTC [.val ⟨TreeT, t⟩, .val ⟨.str, p⟩, .val ⟨.int .i64, m⟩, .val ⟨.bool, own⟩] = if fitT t ∧ p.size ≤ 4000000000 then some ⟨.tup [⟨TreeT, (modeT t p m own).1⟩, ⟨.int .i64, (modeT t p m own).2⟩], []⟩ else none := conN_mk (ks := [(.v, TreeT), (.v, .str), (.v, .int .i64), (.v, .bool)]) (t, p, m, own, ())
def ΓrmodeT : Cons := cons [(26, rfindTC), (35, rset6C)]
theorem rmodeT_ex (t : Ty.den (TreeT)) (p : ByteArray) (m : Int) (own : Bool) (hr : fitT t ∧ p.size ≤ 4000000000) : Ex tab ΓrmodeT (Tryz.f19.body.getD .skip) (EndsF tab Tryz.f19.results.toList [.val ⟨TreeT, t⟩, .val ⟨.str, p⟩, .val ⟨.int .i64, m⟩, .val ⟨.bool, own⟩] ⟨.tup [⟨TreeT, (modeT t p m own).1⟩, ⟨.int .i64, (modeT t p m own).2⟩], []⟩) (ini [.val ⟨TreeT, t⟩, .val ⟨.str, p⟩, .val ⟨.int .i64, m⟩, .val ⟨.bool, own⟩]) := by
  have g_rfindT : ΓrmodeT 26 = some rfindTC := rfl
  have g_rset6 : ΓrmodeT 35 = some rset6C := rfl
  simp only [Tryz.f19, Option.getD_some]
  simp (implicitDefEqProofs := false) (decide := true) (maxSteps := 4000000) [ini, g_rfindT, rfindTC_eq, g_rset6, rset6C_eq]
  obtain ⟨h1, h2⟩ := hr
  have ht : t.length ≤ 1000 := h1.1
  refine ⟨⟨h1, h2⟩, br_intro (fun h => ?_) fun h => ?_⟩
  · rw [modeT, if_pos (by simpa using h)]; exact ⟨rfl, rfl⟩
  have h0 : (findT t p own).2 = 0 := by simpa using h
  have hf := findT_range h0
  have w1 : IntKind.i64.wrap ((findT t p own).1 - 1) = (findT t p own).1 - 1 := i64_in _ (by omega)
  rw [w1, kind_at, modeT, if_neg (by rw [h0]; decide)]
  refine br_dec (fun h4 => ?_) fun h4 => br_dec (fun h5 => ?_) fun h5 => ?_
  · rw [if_pos (.inl h4)]; exact ⟨rfl, rfl⟩
  · rw [if_pos (.inr h5)]; exact ⟨rfl, rfl⟩
  rw [if_neg (fun h => h.elim h4 h5)]
  exact ⟨⟨by omega, by omega⟩, ⟨h1, hf⟩, rfl, rfl⟩
theorem rmodeT_ok : ConOK Tryz.prog 19 rmodeTC := by
  refine con_ok tab_ok (Γ := ΓrmodeT) (consOK_cons rfindT_ok (consOK_cons rset6_ok consOK_nil)) (by kernel_rfl) Tryz.func19 (by kernel_rfl) ?_
  intro args out h
  obtain ⟨x, e, h1⟩ := conN_inv h
  clear h
  obtain ⟨t, p, m, own, x0⟩ := x
  subst e
  replace h1 : (if fitT t ∧ p.size ≤ 4000000000 then some ⟨.tup [⟨TreeT, (modeT t p m own).1⟩, ⟨.int .i64, (modeT t p m own).2⟩], []⟩ else none) = some out := h1
  split at h1
  case isFalse => cases h1
  rename_i hr
  injection h1 with h1
  subst h1
  exact ⟨by rw [mkArgs_len]; decide, rmodeT_ex t p m own hr⟩
end Go.Proofs.YthhjlbpmpffapaaGreatDoor
