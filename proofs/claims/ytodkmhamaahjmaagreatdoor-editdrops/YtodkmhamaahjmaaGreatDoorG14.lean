/- Texts joined: Ref6e, Ref6f, SameT6, PicksN. -/
import Derived.Test.YtodkmhamaahjmaaGreatDoorG5
import Derived.Test.YtodkmhamaahjmaaGreatDoorPEdit
import Derived.Test.YtodkmhamaahjmaaGreatDoorG3
import Derived.Test.YtodkmhamaahjmaaGreatDoorTab
import Derived.Test.YtodkmhamaahjmaaGreatDoorG0
/- The reference's changes of bodies, walked. -/
set_option maxRecDepth 100000
set_option maxHeartbeats 1000000
set_option linter.unusedSimpArgs false
set_option linter.unusedVariables false
set_option pp.deepTerms.threshold 30
namespace Go.Proofs.YtodkmhamaahjmaaGreatDoor
open Go.Tm Go.IntWalk
/-- The contract of glacisref6.file. -/
def rfileTC : Con := conN [(.v, TreeT), (.v, .str), (.v, .bool)] fun (t, p, own, _) => if fitT t ∧ p.size ≤ 4000000000 then some ⟨.tup [⟨.int .i64, (fileT t p own).1⟩, ⟨.int .i64, (fileT t p own).2⟩], []⟩ else none
theorem rfileTC_eq {t : Ty.den (TreeT)} {p : ByteArray} {own : Bool} : rfileTC [.val ⟨TreeT, t⟩, .val ⟨.str, p⟩, .val ⟨.bool, own⟩] = if fitT t ∧ p.size ≤ 4000000000 then some ⟨.tup [⟨.int .i64, (fileT t p own).1⟩, ⟨.int .i64, (fileT t p own).2⟩], []⟩ else none := conN_mk (ks := [(.v, TreeT), (.v, .str), (.v, .bool)]) (t, p, own, ())
def ΓrfileT : Cons := cons [(26, rfindTC)]
theorem rfileT_ex (t : Ty.den (TreeT)) (p : ByteArray) (own : Bool) (hr : fitT t ∧ p.size ≤ 4000000000) : Ex tab ΓrfileT (Tryz.f57.body.getD .skip) (EndsF tab Tryz.f57.results.toList [.val ⟨TreeT, t⟩, .val ⟨.str, p⟩, .val ⟨.bool, own⟩] ⟨.tup [⟨.int .i64, (fileT t p own).1⟩, ⟨.int .i64, (fileT t p own).2⟩], []⟩) (ini [.val ⟨TreeT, t⟩, .val ⟨.str, p⟩, .val ⟨.bool, own⟩]) := by
  have g_rfindT : ΓrfileT 26 = some rfindTC := rfl
  simp only [Tryz.f57, Option.getD_some]
  simp (implicitDefEqProofs := false) (decide := true) (maxSteps := 4000000) [ini, g_rfindT, rfindTC_eq]
  obtain ⟨h1, h2⟩ := hr
  have ht : t.length ≤ 1000 := h1.1
  refine ⟨⟨h1, h2⟩, br_intro (fun h => ?_) fun h => ?_⟩
  · have h : (findT t p own).2 = 0 := by simpa using h
    have hf := findT_range h
    have w1 : IntKind.i64.wrap ((findT t p own).1 - 1) = (findT t p own).1 - 1 := i64_in _ (by omega)
    rw [w1, kind_at]
    refine ⟨⟨by omega, by omega⟩, br_intro (fun hk => ?_) fun hk => ?_⟩
    · rw [fileT, if_pos ⟨h, by unfold kindT; simpa using hk⟩]; exact ⟨rfl, rfl⟩
    · rw [fileT, if_neg fun hc => ?_]
      · exact ⟨rfl, rfl⟩
      · have := hc.2
        unfold kindT at this
        rw [this] at hk; simp at hk
  · rw [fileT, if_neg fun hc => ?_]
    · exact ⟨rfl, rfl⟩
    · rw [hc.1] at h; simp at h
theorem rfileT_ok : ConOK Tryz.prog 57 rfileTC := by
  refine con_ok tab_ok (Γ := ΓrfileT) (consOK_cons rfindT_ok consOK_nil) (by kernel_rfl) Tryz.func57 (by kernel_rfl) ?_
  intro args out h
  obtain ⟨x, e, h1⟩ := conN_inv h
  clear h
  obtain ⟨t, p, own, x0⟩ := x
  subst e
  replace h1 : (if fitT t ∧ p.size ≤ 4000000000 then some ⟨.tup [⟨.int .i64, (fileT t p own).1⟩, ⟨.int .i64, (fileT t p own).2⟩], []⟩ else none) = some out := h1
  split at h1
  case isFalse => cases h1
  rename_i hr
  injection h1 with h1
  subst h1
  exact ⟨by rw [mkArgs_len]; decide, rfileT_ex t p own hr⟩
/-- The contract of glacisref6.long. -/
def rlongC : Con := conN [(.v, .str), (.v, .int .i64)] fun (s, n, _) => if 0 ≤ n ∧ n ≤ 4000001000 then some ⟨.val ⟨.str, longB s n⟩, []⟩ else none
theorem rlongC_eq {s : ByteArray} {n : Int} : rlongC [.val ⟨.str, s⟩, .val ⟨.int .i64, n⟩] = if 0 ≤ n ∧ n ≤ 4000001000 then some ⟨.val ⟨.str, longB s n⟩, []⟩ else none := conN_mk (ks := [(.v, .str), (.v, .int .i64)]) (s, n, ())
def Γrlong : Cons := cons []
theorem rlong_ex (s : ByteArray) (n : Int) (hr : 0 ≤ n ∧ n ≤ 4000001000) : Ex tab Γrlong (Tryz.f58.body.getD .skip) (EndsF tab Tryz.f58.results.toList [.val ⟨.str, s⟩, .val ⟨.int .i64, n⟩] ⟨.val ⟨.str, longB s n⟩, []⟩) (ini [.val ⟨.str, s⟩, .val ⟨.int .i64, n⟩]) := by
  simp only [Tryz.f58, Option.getD_some]
  simp (implicitDefEqProofs := false) (decide := true) (maxSteps := 4000000) [ini]
  exact ⟨⟨hr.1, by omega⟩, rfl⟩
theorem rlong_ok : ConOK Tryz.prog 58 rlongC := by
  refine con_ok tab_ok (Γ := Γrlong) consOK_nil (by kernel_rfl) Tryz.func58 (by kernel_rfl) ?_
  intro args out h
  obtain ⟨x, e, h1⟩ := conN_inv h
  clear h
  obtain ⟨s, n, x0⟩ := x
  subst e
  replace h1 : (if 0 ≤ n ∧ n ≤ 4000001000 then some ⟨.val ⟨.str, longB s n⟩, []⟩ else none) = some out := h1
  split at h1
  case isFalse => cases h1
  rename_i hr
  injection h1 with h1
  subst h1
  exact ⟨by rw [mkArgs_len]; decide, rlong_ex s n hr⟩
/-- The contract of glacisref6.Write. -/
def rwriteTC : Con := conN [(.v, TreeT), (.v, .str), (.v, .int .i64), (.v, .str), (.v, .bool)] fun (t, p, off, x, own, _) => if fitT t ∧ p.size ≤ 4000000000 ∧ x.size ≤ 4000000000 then some ⟨.tup [⟨TreeT, (writeT t p off x own).1⟩, ⟨.int .i64, (writeT t p off x own).2⟩], []⟩ else none
theorem rwriteTC_eq {t : Ty.den (TreeT)} {p : ByteArray} {off : Int} {x : ByteArray} {own : Bool} : rwriteTC [.val ⟨TreeT, t⟩, .val ⟨.str, p⟩, .val ⟨.int .i64, off⟩, .val ⟨.str, x⟩, .val ⟨.bool, own⟩] = if fitT t ∧ p.size ≤ 4000000000 ∧ x.size ≤ 4000000000 then some ⟨.tup [⟨TreeT, (writeT t p off x own).1⟩, ⟨.int .i64, (writeT t p off x own).2⟩], []⟩ else none := conN_mk (ks := [(.v, TreeT), (.v, .str), (.v, .int .i64), (.v, .str), (.v, .bool)]) (t, p, off, x, own, ())
def ΓrwriteT : Cons := cons [(57, rfileTC), (58, rlongC), (44, rset6C)]
theorem rwriteT_ex (t : Ty.den (TreeT)) (p : ByteArray) (off : Int) (x : ByteArray) (own : Bool) (hr : fitT t ∧ p.size ≤ 4000000000 ∧ x.size ≤ 4000000000) : Ex tab ΓrwriteT (Tryz.f27.body.getD .skip) (EndsF tab Tryz.f27.results.toList [.val ⟨TreeT, t⟩, .val ⟨.str, p⟩, .val ⟨.int .i64, off⟩, .val ⟨.str, x⟩, .val ⟨.bool, own⟩] ⟨.tup [⟨TreeT, (writeT t p off x own).1⟩, ⟨.int .i64, (writeT t p off x own).2⟩], []⟩) (ini [.val ⟨TreeT, t⟩, .val ⟨.str, p⟩, .val ⟨.int .i64, off⟩, .val ⟨.str, x⟩, .val ⟨.bool, own⟩]) := by
  have g_rfileT : ΓrwriteT 57 = some rfileTC := rfl
  have g_rlong : ΓrwriteT 58 = some rlongC := rfl
  have g_rset6 : ΓrwriteT 44 = some rset6C := rfl
  simp only [Tryz.f27, Option.getD_some]
  simp (implicitDefEqProofs := false) (decide := true) (maxSteps := 4000000) [ini, g_rfileT, rfileTC_eq, g_rlong, rlongC_eq, g_rset6, rset6C_eq]
  obtain ⟨h1, h2, h3⟩ := hr
  have ht : t.length ≤ 1000 := h1.1
  refine ⟨⟨h1, h2⟩, br_intro (fun h => ?_) fun h => ?_⟩
  · rw [writeT, if_pos (by simpa using h)]; exact ⟨rfl, rfl⟩
  have h0 : (fileT t p own).2 = 0 := by simpa using h
  have hf := fileT_range h0
  have hb := fit_body h1 (fileT t p own).1
  have w1 : IntKind.i64.wrap ((fileT t p own).1 - 1) = (fileT t p own).1 - 1 := i64_in _ (by omega)
  have n0 : ¬ (fileT t p own).2 ≠ 0 := by rw [h0]; decide
  rw [w1, kind_at]
  refine br_dec (fun h4 => ?_) fun h4 => br_dec (fun h5 => ?_) fun h5 => ?_
  · rw [writeT, if_neg n0, if_pos h4]; exact ⟨rfl, rfl⟩
  · rw [writeT, if_neg n0, if_neg h4, if_pos (.inl h5)]; exact ⟨rfl, rfl⟩
  have w2 : IntKind.i64.wrap (120 - off) = 120 - off := i64_in _ (by omega)
  have w3 : IntKind.i64.wrap (off + (x.size : Int)) = off + (x.size : Int) := i64_in _ (by omega)
  rw [w2, w3]
  have n5 : ∀ h6 : ¬ 120 - off < (x.size : Int), ¬ (120 < off ∨ 120 - off < (x.size : Int)) := fun h6 h => h.elim h5 h6
  refine br_dec (fun h6 => ?_) fun h6 => br_intro (fun h7 => ?_) fun h7 => ?_
  · rw [writeT, if_neg n0, if_neg h4, if_pos (.inr h6)]; exact ⟨rfl, rfl⟩
  · have h7 : x.size = 0 := by rw [beq_iff_eq] at h7; exact Int.ofNat.inj h7
    rw [writeT, if_neg n0, if_neg h4, if_neg (n5 h6), if_pos h7]; exact ⟨rfl, rfl⟩
  have h7 : ¬ x.size = 0 := fun e => by rw [e] at h7; simp at h7
  have hW : writeT t p off x own = (setT t (fileT t p own).1 (withBody (nodeT t (fileT t p own).1) (writeB (bodyT t (fileT t p own).1) off x)), 0) := by
    rw [writeT, if_neg n0, if_neg h4, if_neg (n5 h6), if_neg h7]
  rw [hW]
  have hn : 0 ≤ writeN (bodyT t (fileT t p own).1) off x ∧ writeN (bodyT t (fileT t p own).1) off x ≤ 4000001000 ∧ off ≤ writeN (bodyT t (fileT t p own).1) off x := by
    unfold writeN; split <;> omega
  have hN : (if ((nodeT t (fileT t p own).1).2.2.1.size : Int) < off + (x.size : Int) then off + (x.size : Int) else ((nodeT t (fileT t p own).1).2.2.1.size : Int)) = writeN (bodyT t (fileT t p own).1) off x := rfl
  rw [hN]
  exact ⟨⟨by omega, by omega⟩, ⟨hn.1, hn.2.1⟩, by rw [longB_size]; omega, ⟨by omega, by rw [bytesOf_len, longB_size]; omega⟩, ⟨h1, hf⟩, rfl, rfl⟩
theorem rwriteT_ok : ConOK Tryz.prog 27 rwriteTC := by
  refine con_ok tab_ok (Γ := ΓrwriteT) (consOK_cons rfileT_ok (consOK_cons rlong_ok (consOK_cons rset6_ok consOK_nil))) (by kernel_rfl) Tryz.func27 (by kernel_rfl) ?_
  intro args out h
  obtain ⟨x, e, h1⟩ := conN_inv h
  clear h
  obtain ⟨t, p, off, x, own, x0⟩ := x
  subst e
  replace h1 : (if fitT t ∧ p.size ≤ 4000000000 ∧ x.size ≤ 4000000000 then some ⟨.tup [⟨TreeT, (writeT t p off x own).1⟩, ⟨.int .i64, (writeT t p off x own).2⟩], []⟩ else none) = some out := h1
  split at h1
  case isFalse => cases h1
  rename_i hr
  injection h1 with h1
  subst h1
  exact ⟨by rw [mkArgs_len]; decide, rwriteT_ex t p off x own hr⟩
/-- The contract of glacisref6.Cut. -/
def rsizeTC : Con := conN [(.v, TreeT), (.v, .str), (.v, .int .i64), (.v, .bool)] fun (t, p, n, own, _) => if fitT t ∧ p.size ≤ 4000000000 then some ⟨.tup [⟨TreeT, (sizeT t p n own).1⟩, ⟨.int .i64, (sizeT t p n own).2⟩], []⟩ else none
theorem rsizeTC_eq {t : Ty.den (TreeT)} {p : ByteArray} {n : Int} {own : Bool} : rsizeTC [.val ⟨TreeT, t⟩, .val ⟨.str, p⟩, .val ⟨.int .i64, n⟩, .val ⟨.bool, own⟩] = if fitT t ∧ p.size ≤ 4000000000 then some ⟨.tup [⟨TreeT, (sizeT t p n own).1⟩, ⟨.int .i64, (sizeT t p n own).2⟩], []⟩ else none := conN_mk (ks := [(.v, TreeT), (.v, .str), (.v, .int .i64), (.v, .bool)]) (t, p, n, own, ())
def ΓrsizeT : Cons := cons [(57, rfileTC), (58, rlongC), (44, rset6C)]
theorem rsizeT_ex (t : Ty.den (TreeT)) (p : ByteArray) (n : Int) (own : Bool) (hr : fitT t ∧ p.size ≤ 4000000000) : Ex tab ΓrsizeT (Tryz.f80.body.getD .skip) (EndsF tab Tryz.f80.results.toList [.val ⟨TreeT, t⟩, .val ⟨.str, p⟩, .val ⟨.int .i64, n⟩, .val ⟨.bool, own⟩] ⟨.tup [⟨TreeT, (sizeT t p n own).1⟩, ⟨.int .i64, (sizeT t p n own).2⟩], []⟩) (ini [.val ⟨TreeT, t⟩, .val ⟨.str, p⟩, .val ⟨.int .i64, n⟩, .val ⟨.bool, own⟩]) := by
  have g_rfileT : ΓrsizeT 57 = some rfileTC := rfl
  have g_rlong : ΓrsizeT 58 = some rlongC := rfl
  have g_rset6 : ΓrsizeT 44 = some rset6C := rfl
  simp only [Tryz.f80, Option.getD_some]
  simp (implicitDefEqProofs := false) (decide := true) (maxSteps := 4000000) [ini, g_rfileT, rfileTC_eq, g_rlong, rlongC_eq, g_rset6, rset6C_eq]
  obtain ⟨h1, h2⟩ := hr
  have ht : t.length ≤ 1000 := h1.1
  refine ⟨⟨h1, h2⟩, br_intro (fun h => ?_) fun h => ?_⟩
  · rw [sizeT, if_pos (by simpa using h)]; exact ⟨rfl, rfl⟩
  have h0 : (fileT t p own).2 = 0 := by simpa using h
  have hf := fileT_range h0
  have w1 : IntKind.i64.wrap ((fileT t p own).1 - 1) = (fileT t p own).1 - 1 := i64_in _ (by omega)
  rw [w1, kind_at, sizeT, if_neg (by rw [h0]; decide)]
  refine br_dec (fun h4 => ?_) fun h4 => br_dec (fun h5 => ?_) fun h5 => ?_
  · rw [if_pos h4]; exact ⟨rfl, rfl⟩
  · rw [if_neg h4, if_pos h5]; exact ⟨rfl, rfl⟩
  rw [if_neg h4, if_neg h5]
  exact ⟨⟨by omega, by omega⟩, ⟨by omega, by omega⟩, ⟨h1, hf⟩, rfl, rfl⟩
theorem rsizeT_ok : ConOK Tryz.prog 80 rsizeTC := by
  refine con_ok tab_ok (Γ := ΓrsizeT) (consOK_cons rfileT_ok (consOK_cons rlong_ok (consOK_cons rset6_ok consOK_nil))) (by kernel_rfl) Tryz.func80 (by kernel_rfl) ?_
  intro args out h
  obtain ⟨x, e, h1⟩ := conN_inv h
  clear h
  obtain ⟨t, p, n, own, x0⟩ := x
  subst e
  replace h1 : (if fitT t ∧ p.size ≤ 4000000000 then some ⟨.tup [⟨TreeT, (sizeT t p n own).1⟩, ⟨.int .i64, (sizeT t p n own).2⟩], []⟩ else none) = some out := h1
  split at h1
  case isFalse => cases h1
  rename_i hr
  injection h1 with h1
  subst h1
  exact ⟨by rw [mkArgs_len]; decide, rsizeT_ex t p n own hr⟩
/-- The contract of glacisref6.Mode. -/
def rmodeTC : Con := conN [(.v, TreeT), (.v, .str), (.v, .int .i64), (.v, .bool)] fun (t, p, m, own, _) => if fitT t ∧ p.size ≤ 4000000000 then some ⟨.tup [⟨TreeT, (modeT t p m own).1⟩, ⟨.int .i64, (modeT t p m own).2⟩], []⟩ else none
theorem rmodeTC_eq {t : Ty.den (TreeT)} {p : ByteArray} {m : Int} {own : Bool} : rmodeTC [.val ⟨TreeT, t⟩, .val ⟨.str, p⟩, .val ⟨.int .i64, m⟩, .val ⟨.bool, own⟩] = if fitT t ∧ p.size ≤ 4000000000 then some ⟨.tup [⟨TreeT, (modeT t p m own).1⟩, ⟨.int .i64, (modeT t p m own).2⟩], []⟩ else none := conN_mk (ks := [(.v, TreeT), (.v, .str), (.v, .int .i64), (.v, .bool)]) (t, p, m, own, ())
def ΓrmodeT : Cons := cons [(26, rfindTC), (44, rset6C)]
theorem rmodeT_ex (t : Ty.den (TreeT)) (p : ByteArray) (m : Int) (own : Bool) (hr : fitT t ∧ p.size ≤ 4000000000) : Ex tab ΓrmodeT (Tryz.f81.body.getD .skip) (EndsF tab Tryz.f81.results.toList [.val ⟨TreeT, t⟩, .val ⟨.str, p⟩, .val ⟨.int .i64, m⟩, .val ⟨.bool, own⟩] ⟨.tup [⟨TreeT, (modeT t p m own).1⟩, ⟨.int .i64, (modeT t p m own).2⟩], []⟩) (ini [.val ⟨TreeT, t⟩, .val ⟨.str, p⟩, .val ⟨.int .i64, m⟩, .val ⟨.bool, own⟩]) := by
  have g_rfindT : ΓrmodeT 26 = some rfindTC := rfl
  have g_rset6 : ΓrmodeT 44 = some rset6C := rfl
  simp only [Tryz.f81, Option.getD_some]
  simp (implicitDefEqProofs := false) (decide := true) (maxSteps := 4000000) [ini, g_rfindT, rfindTC_eq, g_rset6, rset6C_eq]
  obtain ⟨h1, h2⟩ := hr
  have ht : t.length ≤ 1000 := h1.1
  refine ⟨⟨h1, h2⟩, br_intro (fun h => ?_) fun h => ?_⟩
  · rw [modeT, if_pos (by simpa using h)]; exact ⟨rfl, rfl⟩
  have h0 : (findT t p own).2 = 0 := by simpa using h
  have hf := findT_range h0
  have w1 : IntKind.i64.wrap ((findT t p own).1 - 1) = (findT t p own).1 - 1 := i64_in _ (by omega)
  rw [w1, kind_at, modeT, if_neg (by rw [h0]; decide)]
  refine br_dec (fun h4 => ?_) fun h4 => br_dec (fun h5 => ?_) fun h5 => ?_
  · rw [if_pos (.inl h4)]; exact ⟨rfl, rfl⟩
  · rw [if_pos (.inr h5)]; exact ⟨rfl, rfl⟩
  rw [if_neg (fun h => h.elim h4 h5)]
  exact ⟨⟨by omega, by omega⟩, ⟨h1, hf⟩, rfl, rfl⟩
theorem rmodeT_ok : ConOK Tryz.prog 81 rmodeTC := by
  refine con_ok tab_ok (Γ := ΓrmodeT) (consOK_cons rfindT_ok (consOK_cons rset6_ok consOK_nil)) (by kernel_rfl) Tryz.func81 (by kernel_rfl) ?_
  intro args out h
  obtain ⟨x, e, h1⟩ := conN_inv h
  clear h
  obtain ⟨t, p, m, own, x0⟩ := x
  subst e
  replace h1 : (if fitT t ∧ p.size ≤ 4000000000 then some ⟨.tup [⟨TreeT, (modeT t p m own).1⟩, ⟨.int .i64, (modeT t p m own).2⟩], []⟩ else none) = some out := h1
  split at h1
  case isFalse => cases h1
  rename_i hr
  injection h1 with h1
  subst h1
  exact ⟨by rw [mkArgs_len]; decide, rmodeT_ex t p m own hr⟩
end Go.Proofs.YtodkmhamaahjmaaGreatDoor

/- The reference's changes of names, walked. -/
set_option maxRecDepth 100000
set_option maxHeartbeats 2000000
set_option linter.unusedSimpArgs false
set_option linter.unusedVariables false
set_option pp.deepTerms.threshold 30
namespace Go.Proofs.YtodkmhamaahjmaaGreatDoor
open Go.Tm Go.IntWalk
theorem freeT_loop {t : List Node} {i : Nat} (h : ∀ k, k < i → kindT t ((k : Int) + 1) ≠ 0) (hi : i ≤ t.length) : (i = t.length → freeT t = 0) ∧ (i < t.length → kindT t ((i : Int) + 1) = 0 → freeT t = (i : Int) + 1) := by
  have hat : ∀ k, k < t.length → kindT t ((k : Int) + 1) = (t.getD k dfltN).1 := fun k hk => by
    unfold kindT nodeT
    congr 2; omega
  constructor
  · intro e
    have : t.findIdx? (fun n => n.1 == 0) = none := by
      rw [List.findIdx?_eq_none_iff]
      intro x hx
      obtain ⟨k, hk, rfl⟩ := List.mem_iff_getElem.1 hx
      have := h k (by omega)
      rw [hat k hk, List.getD_eq_getElem?_getD, List.getElem?_eq_getElem hk] at this
      simpa using this
    rw [freeT, this]
  · intro hlt h0
    have : t.findIdx? (fun n => n.1 == 0) = some i := by
      rw [List.findIdx?_eq_some_iff_getElem]
      refine ⟨hlt, ?_, fun j hj => ?_⟩
      · rw [hat i hlt, List.getD_eq_getElem?_getD, List.getElem?_eq_getElem hlt] at h0
        simpa using h0
      · have := h j hj
        rw [hat j (by omega), List.getD_eq_getElem?_getD, List.getElem?_eq_getElem (by omega)] at this
        simpa using this
    rw [freeT, this]
/-- The contract of glacisref6.Make. -/
def rmakeTC : Con := conN [(.v, TreeT), (.v, .str), (.v, .int .i64), (.v, .int .i64), (.v, .int .i64), (.v, .bool)] fun (t, p, kind, mode, ino, own, _) => if fitT t ∧ p.size ≤ 4000000000 then some ⟨.tup [⟨TreeT, (makeT t p kind mode ino own).1⟩, ⟨.int .i64, (makeT t p kind mode ino own).2⟩], []⟩ else none
theorem rmakeTC_eq {t : Ty.den (TreeT)} {p : ByteArray} {kind : Int} {mode : Int} {ino : Int} {own : Bool} : rmakeTC [.val ⟨TreeT, t⟩, .val ⟨.str, p⟩, .val ⟨.int .i64, kind⟩, .val ⟨.int .i64, mode⟩, .val ⟨.int .i64, ino⟩, .val ⟨.bool, own⟩] = if fitT t ∧ p.size ≤ 4000000000 then some ⟨.tup [⟨TreeT, (makeT t p kind mode ino own).1⟩, ⟨.int .i64, (makeT t p kind mode ino own).2⟩], []⟩ else none := conN_mk (ks := [(.v, TreeT), (.v, .str), (.v, .int .i64), (.v, .int .i64), (.v, .int .i64), (.v, .bool)]) (t, p, kind, mode, ino, own, ())
def ΓrmakeT : Cons := cons [(39, rpartsC), (40, rplaceC), (42, rnamesC), (41, rfindDC), (43, rputTC), (44, rset6C)]
theorem rmakeT_ex (t : Ty.den (TreeT)) (p : ByteArray) (kind : Int) (mode : Int) (ino : Int) (own : Bool) (hr : fitT t ∧ p.size ≤ 4000000000) : Ex tab ΓrmakeT (Tryz.f14.body.getD .skip) (EndsF tab Tryz.f14.results.toList [.val ⟨TreeT, t⟩, .val ⟨.str, p⟩, .val ⟨.int .i64, kind⟩, .val ⟨.int .i64, mode⟩, .val ⟨.int .i64, ino⟩, .val ⟨.bool, own⟩] ⟨.tup [⟨TreeT, (makeT t p kind mode ino own).1⟩, ⟨.int .i64, (makeT t p kind mode ino own).2⟩], []⟩) (ini [.val ⟨TreeT, t⟩, .val ⟨.str, p⟩, .val ⟨.int .i64, kind⟩, .val ⟨.int .i64, mode⟩, .val ⟨.int .i64, ino⟩, .val ⟨.bool, own⟩]) := by
  have g_rparts : ΓrmakeT 39 = some rpartsC := rfl
  have g_rplace : ΓrmakeT 40 = some rplaceC := rfl
  have g_rnames : ΓrmakeT 42 = some rnamesC := rfl
  have g_rfindD : ΓrmakeT 41 = some rfindDC := rfl
  have g_rputT : ΓrmakeT 43 = some rputTC := rfl
  have g_rset6 : ΓrmakeT 44 = some rset6C := rfl
  simp only [Tryz.f14, Option.getD_some]
  simp (implicitDefEqProofs := false) (decide := true) (maxSteps := 4000000) [ini, g_rparts, rpartsC_eq, g_rplace, rplaceC_eq, g_rnames, rnamesC_eq, g_rfindD, rfindDC_eq, g_rputT, rputTC_eq, g_rset6, rset6C_eq]
  obtain ⟨h1, h2⟩ := hr
  have ht : t.length ≤ 1000 := h1.1
  have hpl := parts_len p own
  refine ⟨h2, br_intro (fun h => ?_) fun hp => br_intro (fun hk1 => br_intro (fun hk2 => ?_) fun hk2 => ?_) fun hk1 => ?_⟩
  · rw [makeT, if_pos (.inl (by simpa using h))]; exact ⟨rfl, rfl⟩
  · rw [makeT, if_pos (.inr (.inl ⟨by simpa using hk1, by simpa using hk2⟩))]; exact ⟨rfl, rfl⟩
  all_goals
    have hk : ¬ (kind ≠ 1 ∧ kind ≠ 2) := by
      rintro ⟨a, b⟩
      simp_all
    have hp : ¬ (partsS p own).2 = false := by simpa using hp
    refine br_dec (fun h3 => ?_) fun h3 => br_dec (fun h4 => ?_) fun h4 => br_dec (fun h5 => ?_) fun h5 => br_dec (fun h6 => ?_) fun h6 _ => br_intro (fun h7 => ?_) fun h7 => ?_
    · rw [makeT, if_pos (.inr (.inr (.inl h3)))]; exact ⟨rfl, rfl⟩
    · rw [makeT, if_pos (.inr (.inr (.inr (.inl h4))))]; exact ⟨rfl, rfl⟩
    · rw [makeT, if_pos (.inr (.inr (.inr (.inr (.inl h5)))))]; exact ⟨rfl, rfl⟩
    · rw [makeT, if_pos (.inr (.inr (.inr (.inr (.inr h6)))))]; exact ⟨rfl, rfl⟩
    · have n1 : ¬ ((partsS p own).2 = false ∨ (kind ≠ 1 ∧ kind ≠ 2) ∨ mode < 0 ∨ 255 < mode ∨ ino < 0 ∨ 9 < ino) := by
        rintro (h | h | h | h | h | h)
        · exact hp h
        · exact hk h
        · exact h3 h
        · exact h4 h
        · exact h5 h
        · exact h6 h
      rw [makeT, if_neg n1, if_pos (by rw [beq_iff_eq] at h7; exact Int.ofNat.inj h7)]; exact ⟨rfl, rfl⟩
    have n1 : ¬ ((partsS p own).2 = false ∨ (kind ≠ 1 ∧ kind ≠ 2) ∨ mode < 0 ∨ 255 < mode ∨ ino < 0 ∨ 9 < ino) := by
      rintro (h | h | h | h | h | h)
      · exact hp h
      · exact hk h
      · exact h3 h
      · exact h4 h
      · exact h5 h
      · exact h6 h
    have n2 : ¬ (partsS p own).1.length = 0 := fun e => by rw [e] at h7; simp at h7
    have hne : (partsS p own).1 ≠ [] := fun e => n2 (by rw [e]; rfl)
    obtain ⟨W, hW⟩ : ∃ W, placeT t (partsS p own).1 = W := ⟨_, rfl⟩
    have hpo := @placeT_ok t (partsS p own).1
    have hpn := @place_name t p own
    rw [hW] at hpo hpn ⊢
    have hM := makeT.eq_1 t p kind mode ino own
    rw [if_neg n1, if_neg n2, hW] at hM
    generalize makeT t p kind mode ino own = M at hM ⊢
    refine ⟨⟨h1, by omega, by omega⟩, br_intro (fun h => ?_) fun h8 => ⟨h1, br_intro (fun h => ?_) fun h9 => ?_⟩⟩
    · rw [hM, if_pos (by simpa using h)]; exact ⟨rfl, rfl⟩
    · rw [hM, if_neg (by simpa using h8), if_pos h]; exact ⟨rfl, rfl⟩
    have h8 : W.2.2 = 0 := by simpa using h8
    obtain ⟨w1, w2, w3, w4, w5, w6⟩ := hpo h8
    have hnm := ownS_size (partOK_own (hpn h8 hne))
    rw [if_neg (by rw [h8]; simp), if_neg (by rw [h9]; simp)] at hM
    have hino : -9223372036854775808 ≤ ino ∧ ino ≤ 9 := by omega
    have fin : ∀ N : Int, M = (if N = 0 then (t, 8) else if (putT t W.1 (W.2.1, N, ())).2 = false then (t, 8) else (setT (putT t W.1 (W.2.1, N, ())).1 N (kind, mode, no, ()), 0)) → (N ≠ 0 → 1 ≤ N ∧ N ≤ (t.length : Int)) →
        br (N == 0) (t = M.1 ∧ 8 = M.2) ((fitT t ∧ 1 ≤ W.1 ∧ W.1 ≤ (t.length : Int) ∧ W.2.1.size ≤ 4000000000) ∧ br (!(putT t W.1 (W.2.1, N, ())).2) (t = M.1 ∧ 8 = M.2)
          ((fitT (putT t W.1 (W.2.1, N, ())).1 ∧ 1 ≤ N ∧ N ≤ ((putT t W.1 (W.2.1, N, ())).1.length : Int)) ∧ setT (putT t W.1 (W.2.1, N, ())).1 N (kind, mode, no, ()) = M.1 ∧ 0 = M.2)) := by
      intro N hN hr
      refine br_intro (fun h => ?_) fun h => ⟨⟨h1, w1, w2, by omega⟩, br_intro (fun h2 => ?_) fun h2 => ?_⟩
      · rw [hN, if_pos (by simpa using h)]; exact ⟨rfl, rfl⟩
      · rw [hN, if_neg (by simpa using h), if_pos (by simpa using h2)]; exact ⟨rfl, rfl⟩
      · have := hr (by simpa using h)
        rw [hN, if_neg (by simpa using h), if_neg (by simpa using h2)]
        exact ⟨⟨putT_fit h1 _ _, this.1, by rw [putT_len]; exact this.2⟩, rfl, rfl⟩
    refine br_dec (fun h10 _ => br_dec (fun h => ?_) fun h11 => ?_) fun h10 => ?_
    · rw [hM, if_pos ⟨h10, .inl h⟩]; exact ⟨rfl, rfl⟩
    · have wi : IntKind.i64.wrap (ino - 1) = ino - 1 := i64_in _ (by omega)
      rw [wi, kind_at]
      refine ⟨⟨by omega, by omega⟩, br_intro (fun h => ?_) fun h12 => ?_⟩
      · rw [hM, if_pos ⟨h10, .inr (by unfold kindT; simpa using h)⟩]; exact ⟨rfl, rfl⟩
      · rw [if_neg (fun hc => hc.2.elim h11 (fun h => h (by unfold kindT; simpa using h12)))] at hM
        rw [if_neg (show ¬ ino = 0 by omega)] at hM
        refine ex_loopU (σ := Unit) [4, 21, 99, 100, 101, 102, 103, 104, 105, 106, 107, 108, 109, 110, 111, 112, 113, 114, 115, 116] (fun a => [(21, .val (.int .i64) 1), (4, .val (.int .i64) ino)]) (fun _ => True) (fun _ => 0) () trivial (hc rfl (hc rfl hn)) ?_
        rintro j2 _ _
        simp (implicitDefEqProofs := false) (decide := true) (maxSteps := 4000000) [ini, g_rparts, rpartsC_eq, g_rplace, rplaceC_eq, g_rnames, rnamesC_eq, g_rfindD, rfindDC_eq, g_rputT, rputTC_eq, g_rset6, rset6C_eq]
        have f := fin ino hM (fun _ => ⟨by omega, by omega⟩)
        intro _
        exact br_dec (fun _ => ⟨by omega, f⟩) (fun _ => f)
    · obtain rfl : ino = 0 := by omega
      rw [if_neg (fun hc => h10 hc.1), if_pos rfl] at hM
      refine ex_loopU (σ := Nat × Int) [4, 21, 99, 100, 101, 102, 103, 104, 105, 106, 107, 108, 109, 110, 111, 112, 113, 114, 115, 116] (fun a => [(21, .val (.int .i64) ((a.1 : Int) + 1)), (4, .val (.int .i64) a.2)]) (fun a => a.1 ≤ t.length ∧ (a.2 = 0 → ∀ k, k < a.1 → kindT t ((k : Int) + 1) ≠ 0) ∧ (a.2 ≠ 0 → a.2 = freeT t ∧ 1 ≤ a.2 ∧ a.2 ≤ (t.length : Int))) (fun a => t.length - a.1) (0, 0) ⟨Nat.zero_le _, fun _ k hk => by omega, fun h => absurd rfl h⟩ (hc rfl (hc rfl hn)) ?_
      rintro j2 ⟨i, z⟩ ⟨hi, hz0, hz1⟩
      simp only at hi hz0 hz1
      simp (implicitDefEqProofs := false) (decide := true) (maxSteps := 4000000) [ini, g_rparts, rpartsC_eq, g_rplace, rplaceC_eq, g_rnames, rnamesC_eq, g_rfindD, rfindDC_eq, g_rputT, rputTC_eq, g_rset6, rset6C_eq]
      have wi : IntKind.i64.wrap (i : Int) = ((i : Nat) : Int) := w_nat rfl (by omega)
      have wj : IntKind.i64.wrap ((i : Int) + 1 + 1) = ((i + 1 : Nat) : Int) + 1 := wz (by omega) (by omega) (by omega)
      rw [wi, wj]
      intro _
      have hk : t[(i : Int).toNat]?.getD ((0, 0, { data := #[] }, ()) : Node) = nodeT t ((i : Int) + 1) := by
        rw [← kind_at]; congr 2; omega
      refine br_dec (fun hlt => br_intro (fun h0 => ⟨⟨by omega, by omega⟩, ?_⟩) fun h0 => ?_) fun hge => ?_
      · have h0 : z = 0 := by simpa using h0
        obtain ⟨hf1, hf2⟩ := freeT_loop (hz0 h0) hi
        rw [hk]
        refine br_intro (fun h => ?_) fun h => ?_
        · have h : kindT t ((i : Int) + 1) = 0 := by unfold kindT; simpa using h
          exact ⟨i + 1, _, ⟨by omega, fun e => by omega, fun _ => ⟨(hf2 (by omega) h).symm, by omega, by omega⟩⟩, by omega, rfl, rfl⟩
        · refine ⟨i + 1, _, ⟨by omega, fun _ k hk2 => ?_, fun e => absurd h0 e⟩, by omega, rfl, rfl⟩
          rcases Nat.lt_or_ge k i with hk3 | hk3
          · exact hz0 h0 k hk3
          · obtain rfl : k = i := by omega
            unfold kindT; simpa using h
      · have h0 : z ≠ 0 := by simpa using h0
        obtain ⟨e1, e2, e3⟩ := hz1 h0
        subst e1
        exact fin _ hM (fun _ => ⟨e2, e3⟩)
      · by_cases h0 : z = 0
        · obtain ⟨hf1, hf2⟩ := freeT_loop (hz0 h0) hi
          have e := hf1 (by omega)
          subst h0
          rw [e] at hM
          exact fin 0 hM (fun h => absurd rfl h)
        · obtain ⟨e1, e2, e3⟩ := hz1 h0
          subst e1
          exact fin _ hM (fun _ => ⟨e2, e3⟩)
theorem rmakeT_ok : ConOK Tryz.prog 14 rmakeTC := by
  refine con_ok tab_ok (Γ := ΓrmakeT) (consOK_cons rparts_ok (consOK_cons rplace_ok (consOK_cons rnames_ok (consOK_cons rfindD_ok (consOK_cons rputT_ok (consOK_cons rset6_ok consOK_nil)))))) (by kernel_rfl) Tryz.func14 (by kernel_rfl) ?_
  intro args out h
  obtain ⟨x, e, h1⟩ := conN_inv h
  clear h
  obtain ⟨t, p, kind, mode, ino, own, x0⟩ := x
  subst e
  replace h1 : (if fitT t ∧ p.size ≤ 4000000000 then some ⟨.tup [⟨TreeT, (makeT t p kind mode ino own).1⟩, ⟨.int .i64, (makeT t p kind mode ino own).2⟩], []⟩ else none) = some out := h1
  split at h1
  case isFalse => cases h1
  rename_i hr
  injection h1 with h1
  subst h1
  exact ⟨by rw [mkArgs_len]; decide, rmakeT_ex t p kind mode ino own hr⟩
/-- The contract of glacisref6.Link. -/
def rlinkTC : Con := conN [(.v, TreeT), (.v, .str), (.v, .str), (.v, .bool)] fun (t, f, p, own, _) => if fitT t ∧ f.size ≤ 4000000000 ∧ p.size ≤ 4000000000 then some ⟨.tup [⟨TreeT, (linkT t f p own).1⟩, ⟨.int .i64, (linkT t f p own).2⟩], []⟩ else none
theorem rlinkTC_eq {t : Ty.den (TreeT)} {f : ByteArray} {p : ByteArray} {own : Bool} : rlinkTC [.val ⟨TreeT, t⟩, .val ⟨.str, f⟩, .val ⟨.str, p⟩, .val ⟨.bool, own⟩] = if fitT t ∧ f.size ≤ 4000000000 ∧ p.size ≤ 4000000000 then some ⟨.tup [⟨TreeT, (linkT t f p own).1⟩, ⟨.int .i64, (linkT t f p own).2⟩], []⟩ else none := conN_mk (ks := [(.v, TreeT), (.v, .str), (.v, .str), (.v, .bool)]) (t, f, p, own, ())
def ΓrlinkT : Cons := cons [(39, rpartsC), (26, rfindTC), (40, rplaceC), (42, rnamesC), (41, rfindDC), (43, rputTC)]
theorem rlinkT_ex (t : Ty.den (TreeT)) (f : ByteArray) (p : ByteArray) (own : Bool) (hr : fitT t ∧ f.size ≤ 4000000000 ∧ p.size ≤ 4000000000) : Ex tab ΓrlinkT (Tryz.f17.body.getD .skip) (EndsF tab Tryz.f17.results.toList [.val ⟨TreeT, t⟩, .val ⟨.str, f⟩, .val ⟨.str, p⟩, .val ⟨.bool, own⟩] ⟨.tup [⟨TreeT, (linkT t f p own).1⟩, ⟨.int .i64, (linkT t f p own).2⟩], []⟩) (ini [.val ⟨TreeT, t⟩, .val ⟨.str, f⟩, .val ⟨.str, p⟩, .val ⟨.bool, own⟩]) := by
  have g_rparts : ΓrlinkT 39 = some rpartsC := rfl
  have g_rfindT : ΓrlinkT 26 = some rfindTC := rfl
  have g_rplace : ΓrlinkT 40 = some rplaceC := rfl
  have g_rnames : ΓrlinkT 42 = some rnamesC := rfl
  have g_rfindD : ΓrlinkT 41 = some rfindDC := rfl
  have g_rputT : ΓrlinkT 43 = some rputTC := rfl
  simp only [Tryz.f17, Option.getD_some]
  simp (implicitDefEqProofs := false) (decide := true) (maxSteps := 4000000) [ini, g_rparts, rpartsC_eq, g_rfindT, rfindTC_eq, g_rplace, rplaceC_eq, g_rnames, rnamesC_eq, g_rfindD, rfindDC_eq, g_rputT, rputTC_eq]
  obtain ⟨h1, h2, h3⟩ := hr
  have ht : t.length ≤ 1000 := h1.1
  have hpl := parts_len p own
  have hM := linkT.eq_1 t f p own
  generalize linkT t f p own = M at hM ⊢
  refine ⟨h2, h3, br_intro (fun h => ?_) fun h4 => br_intro (fun h => ?_) fun h5 => ⟨⟨h1, h2⟩, br_intro (fun h => ?_) fun h6 => ?_⟩⟩
  · rw [hM, if_pos (.inl (by simpa using h))]; exact ⟨rfl, rfl⟩
  · rw [hM, if_pos (.inr (by simpa using h))]; exact ⟨rfl, rfl⟩
  · rw [hM, if_neg (by rintro (k | k) <;> simp_all), if_pos (by simpa using h)]; exact ⟨rfl, rfl⟩
  rw [if_neg (by rintro (k | k) <;> simp_all), if_neg (by simpa using h6)] at hM
  have h6 : (findT t f own).2 = 0 := by simpa using h6
  have hf := findT_range h6
  have w1 : IntKind.i64.wrap ((findT t f own).1 - 1) = (findT t f own).1 - 1 := i64_in _ (by omega)
  rw [w1, kind_at]
  refine ⟨⟨by omega, by omega⟩, br_intro (fun h => ?_) fun h7 _ => br_intro (fun h => ?_) fun h8 => ?_⟩
  · rw [hM, if_pos (by unfold kindT; simpa using h)]; exact ⟨rfl, rfl⟩
  · rw [hM, if_neg (by unfold kindT; simpa using h7), if_pos (by rw [beq_iff_eq] at h; exact Int.ofNat.inj h)]; exact ⟨rfl, rfl⟩
  have n2 : ¬ (partsS p own).1.length = 0 := fun e => by rw [e] at h8; simp at h8
  have hne : (partsS p own).1 ≠ [] := fun e => n2 (by rw [e]; rfl)
  rw [if_neg (by unfold kindT; simpa using h7), if_neg n2] at hM
  obtain ⟨W, hW⟩ : ∃ W, placeT t (partsS p own).1 = W := ⟨_, rfl⟩
  have hpo := @placeT_ok t (partsS p own).1
  have hpn := @place_name t p own
  rw [hW] at hpo hpn hM ⊢
  refine ⟨⟨h1, by omega, by omega⟩, br_intro (fun h => ?_) fun h9 => ⟨h1, br_intro (fun h => ?_) fun h10 => ?_⟩⟩
  · rw [hM, if_pos (by simpa using h)]; exact ⟨rfl, rfl⟩
  · rw [hM, if_neg (by simpa using h9), if_pos h]; exact ⟨rfl, rfl⟩
  have h9 : W.2.2 = 0 := by simpa using h9
  obtain ⟨w1, w2, w3, w4, w5, w6⟩ := hpo h9
  have hnm := ownS_size (partOK_own (hpn h9 hne))
  rw [if_neg (by rw [h9]; simp), if_neg (by rw [h10]; simp)] at hM
  refine ⟨⟨h1, w1, w2, by omega⟩, br_intro (fun h => ?_) fun h11 => ?_⟩
  · rw [hM, if_pos (by simpa using h)]; exact ⟨rfl, rfl⟩
  · rw [hM, if_neg (by simpa using h11)]; exact ⟨rfl, rfl⟩
theorem rlinkT_ok : ConOK Tryz.prog 17 rlinkTC := by
  refine con_ok tab_ok (Γ := ΓrlinkT) (consOK_cons rparts_ok (consOK_cons rfindT_ok (consOK_cons rplace_ok (consOK_cons rnames_ok (consOK_cons rfindD_ok (consOK_cons rputT_ok consOK_nil)))))) (by kernel_rfl) Tryz.func17 (by kernel_rfl) ?_
  intro args out h
  obtain ⟨x, e, h1⟩ := conN_inv h
  clear h
  obtain ⟨t, f, p, own, x0⟩ := x
  subst e
  replace h1 : (if fitT t ∧ f.size ≤ 4000000000 ∧ p.size ≤ 4000000000 then some ⟨.tup [⟨TreeT, (linkT t f p own).1⟩, ⟨.int .i64, (linkT t f p own).2⟩], []⟩ else none) = some out := h1
  split at h1
  case isFalse => cases h1
  rename_i hr
  injection h1 with h1
  subst h1
  exact ⟨by rw [mkArgs_len]; decide, rlinkT_ex t f p own hr⟩
/-- The contract of glacisref6.Drop. -/
def rdelTC : Con := conN [(.v, TreeT), (.v, .str), (.v, .bool)] fun (t, p, own, _) => if fitT t ∧ p.size ≤ 4000000000 then some ⟨.tup [⟨TreeT, (delT t p own).1⟩, ⟨.int .i64, (delT t p own).2⟩], []⟩ else none
theorem rdelTC_eq {t : Ty.den (TreeT)} {p : ByteArray} {own : Bool} : rdelTC [.val ⟨TreeT, t⟩, .val ⟨.str, p⟩, .val ⟨.bool, own⟩] = if fitT t ∧ p.size ≤ 4000000000 then some ⟨.tup [⟨TreeT, (delT t p own).1⟩, ⟨.int .i64, (delT t p own).2⟩], []⟩ else none := conN_mk (ks := [(.v, TreeT), (.v, .str), (.v, .bool)]) (t, p, own, ())
def ΓrdelT : Cons := cons [(39, rpartsC), (26, rfindTC), (40, rplaceC), (51, rcutTC), (28, rlinksC), (44, rset6C)]
theorem rdelT_ex (t : Ty.den (TreeT)) (p : ByteArray) (own : Bool) (hr : fitT t ∧ p.size ≤ 4000000000) : Ex tab ΓrdelT (Tryz.f21.body.getD .skip) (EndsF tab Tryz.f21.results.toList [.val ⟨TreeT, t⟩, .val ⟨.str, p⟩, .val ⟨.bool, own⟩] ⟨.tup [⟨TreeT, (delT t p own).1⟩, ⟨.int .i64, (delT t p own).2⟩], []⟩) (ini [.val ⟨TreeT, t⟩, .val ⟨.str, p⟩, .val ⟨.bool, own⟩]) := by
  have g_rparts : ΓrdelT 39 = some rpartsC := rfl
  have g_rfindT : ΓrdelT 26 = some rfindTC := rfl
  have g_rplace : ΓrdelT 40 = some rplaceC := rfl
  have g_rcutT : ΓrdelT 51 = some rcutTC := rfl
  have g_rlinks : ΓrdelT 28 = some rlinksC := rfl
  have g_rset6 : ΓrdelT 44 = some rset6C := rfl
  simp only [Tryz.f21, Option.getD_some]
  simp (implicitDefEqProofs := false) (decide := true) (maxSteps := 4000000) [ini, g_rparts, rpartsC_eq, g_rfindT, rfindTC_eq, g_rplace, rplaceC_eq, g_rcutT, rcutTC_eq, g_rlinks, rlinksC_eq, g_rset6, rset6C_eq]
  obtain ⟨h1, h2⟩ := hr
  have ht : t.length ≤ 1000 := h1.1
  have hpl := parts_len p own
  have hM := delT.eq_1 t p own
  generalize delT t p own = M at hM ⊢
  refine ⟨⟨h1, h2⟩, br_intro (fun h => ?_) fun h3 => br_intro (fun h => ?_) fun h4 => ?_⟩
  · rw [hM, if_pos (by simpa using h)]; exact ⟨rfl, rfl⟩
  · rw [hM, if_neg (by simpa using h3), if_pos (by simpa using h)]; exact ⟨rfl, rfl⟩
  rw [if_neg (by simpa using h3), if_neg (by simpa using h4)] at hM
  have h3 : (findT t p own).2 = 0 := by simpa using h3
  have h4 : (findT t p own).1 ≠ 1 := by simpa using h4
  have hf := findT_range h3
  have hne := find_root h3 h4
  have hn1 : 1 ≤ (partsS p own).1.length := by
    cases e : (partsS p own).1 with
    | nil => exact absurd e hne
    | cons x r => simp
  obtain ⟨p1, p2, p3⟩ := walk_snoc (by rw [← (find_parts h3).2]; exact h3) hne
  obtain ⟨W, hW⟩ : ∃ W, placeT t (partsS p own).1 = W := ⟨_, rfl⟩
  have hpo := @placeT_ok t (partsS p own).1
  rw [hW] at hpo hM p1 p2 p3 ⊢
  obtain ⟨v1, v2, v3, v4, v5, v6⟩ := hpo p1
  have w1 : IntKind.i64.wrap ((findT t p own).1 - 1) = (findT t p own).1 - 1 := i64_in _ (by omega)
  rw [w1, kind_at]
  have hdf := dropT_fit h1 W.1 W.2.1
  have hdl := dropT_len t W.1 W.2.1
  have tl : ¬ (kindT t (findT t p own).1 = 2 ∧ bodyT t (findT t p own).1 ≠ no) → (p.size ≤ 4000000000 ∧ (fitT t ∧ 1 ≤ (partsS p own).1.length ∧ (partsS p own).1.length ≤ 1000) ∧ (fitT t ∧ 1 ≤ W.1 ∧ W.1 ≤ (t.length : Int)) ∧ fitT (dropT t W.1 W.2.1) ∧
      br (linksT (dropT t W.1 W.2.1) (findT t p own).1 == 0) ((fitT (dropT t W.1 W.2.1) ∧ 1 ≤ (findT t p own).1 ∧ (findT t p own).1 ≤ ((dropT t W.1 W.2.1).length : Int)) ∧ setT (dropT t W.1 W.2.1) (findT t p own).1 dfltN = M.1 ∧ 0 = M.2) (dropT t W.1 W.2.1 = M.1 ∧ 0 = M.2)) := by
    intro hx
    rw [if_neg hx] at hM
    refine ⟨h2, ⟨h1, hn1, by omega⟩, ⟨h1, v1, v2⟩, hdf, br_intro (fun h => ?_) fun h => ?_⟩
    · rw [hM, if_pos (by simpa using h)]
      exact ⟨⟨hdf, by omega, by rw [hdl]; omega⟩, rfl, rfl⟩
    · rw [hM, if_neg (by simpa using h)]; exact ⟨rfl, rfl⟩
  refine ⟨⟨by omega, by omega⟩, br_intro (fun hk => ⟨⟨by omega, by omega⟩, br_intro (fun hb => ?_) fun hb => ?_⟩) fun hk => ?_⟩
  · have hc : kindT t (findT t p own).1 = 2 ∧ bodyT t (findT t p own).1 ≠ no := by
      refine ⟨by unfold kindT; simpa using hk, fun e => ?_⟩
      rw [toList_bl, show (nodeT t (findT t p own).1).2.2.1 = no from e] at hb
      simp at hb
    rw [hM, if_pos hc]; exact ⟨rfl, rfl⟩
  · refine tl fun hc => hc.2 ?_
    show (nodeT t (findT t p own).1).2.2.1 = no
    apply bl_inj
    rw [toList_bl] at hb
    simpa using hb
  · refine tl fun hc => ?_
    have hc1 := hc.1
    unfold kindT at hc1
    rw [hc1] at hk
    simp at hk
theorem rdelT_ok : ConOK Tryz.prog 21 rdelTC := by
  refine con_ok tab_ok (Γ := ΓrdelT) (consOK_cons rparts_ok (consOK_cons rfindT_ok (consOK_cons rplace_ok (consOK_cons rcutT_ok (consOK_cons rlinks_ok (consOK_cons rset6_ok consOK_nil)))))) (by kernel_rfl) Tryz.func21 (by kernel_rfl) ?_
  intro args out h
  obtain ⟨x, e, h1⟩ := conN_inv h
  clear h
  obtain ⟨t, p, own, x0⟩ := x
  subst e
  replace h1 : (if fitT t ∧ p.size ≤ 4000000000 then some ⟨.tup [⟨TreeT, (delT t p own).1⟩, ⟨.int .i64, (delT t p own).2⟩], []⟩ else none) = some out := h1
  split at h1
  case isFalse => cases h1
  rename_i hr
  injection h1 with h1
  subst h1
  exact ⟨by rw [mkArgs_len]; decide, rdelT_ex t p own hr⟩
end Go.Proofs.YtodkmhamaahjmaaGreatDoor

/- Are two trees alike? -/
set_option maxRecDepth 100000
set_option maxHeartbeats 4000000
set_option linter.unusedSimpArgs false
set_option linter.unusedVariables false
set_option pp.deepTerms.threshold 30
namespace Go.Proofs.YtodkmhamaahjmaaGreatDoor
open Go.Tm Go.IntWalk
/-- The contract of glacisref6.SameTree. -/
def rsameT6C : Con := conN [(.v, TreeT), (.v, TreeT)] fun (a, b, _) => some ⟨.val ⟨.bool, decide (a = b)⟩, []⟩
theorem rsameT6C_eq {a : Ty.den (TreeT)} {b : Ty.den (TreeT)} : rsameT6C [.val ⟨TreeT, a⟩, .val ⟨TreeT, b⟩] = some ⟨.val ⟨.bool, decide (a = b)⟩, []⟩ := conN_mk (ks := [(.v, TreeT), (.v, TreeT)]) (a, b, ())
def ΓrsameT6 : Cons := cons []
theorem rsameT6_ex (a : Ty.den (TreeT)) (b : Ty.den (TreeT)) : Ex tab ΓrsameT6 (Tryz.f15.body.getD .skip) (EndsF tab Tryz.f15.results.toList [.val ⟨TreeT, a⟩, .val ⟨TreeT, b⟩] ⟨.val ⟨.bool, decide (a = b)⟩, []⟩) (ini [.val ⟨TreeT, a⟩, .val ⟨TreeT, b⟩]) := by
  simp only [Tryz.f15, Option.getD_some]
  simp (implicitDefEqProofs := false) (decide := true) (maxSteps := 4000000) [ini]
  intro hla hlb
  have hla : a.length ≤ 9223372036854775807 := hla
  refine br_intro (fun h e => by rw [e] at h; simp at h) fun h => ?_
  have hl : a.length = b.length := Int.ofNat.inj (by simpa using h)
  refine ex_loopU (σ := Nat) [4, 5, 11, 12, 13, 14, 15, 16, 17, 18, 19, 20, 21, 22, 23, 24, 25] (fun s => [(5, .val (.int .i64) (s : Int))]) (fun s => s ≤ a.length ∧ a.take s = b.take s) (fun s => a.length - s) 0 ⟨by simp, by simp⟩ (hc rfl hn) ?_
  rintro j i ⟨hi, he⟩
  simp (implicitDefEqProofs := false) (decide := true) [ini]
  intro _
  refine br_dec (fun hlt => ⟨hlt, by omega, br_intro (fun h e => ?_) fun h => ⟨i + 1, ⟨by omega, ?_⟩, by omega, w_nat rfl (by omega)⟩⟩) fun hge => ?_
  · rw [e, same_refl (t := NodeT) (by decide)] at h; cases h
  · have h : a[i]?.getD ((0, 0, { data := #[] }, ()) : Node) = b[i]?.getD ((0, 0, { data := #[] }, ()) : Node) := same_eq (t := NodeT) (by decide) (not_f h)
    rw [List.getElem?_eq_getElem hlt, List.getElem?_eq_getElem (by omega)] at h
    rw [List.take_succ_eq_append_getElem hlt, List.take_succ_eq_append_getElem (by omega), he]
    simp only [Option.getD_some] at h
    rw [h]
  · obtain rfl : i = a.length := by omega
    rw [List.take_length, hl, List.take_length] at he
    exact he
theorem rsameT6_ok : ConOK Tryz.prog 15 rsameT6C := by
  refine con_ok tab_ok (Γ := ΓrsameT6) consOK_nil (by kernel_rfl) Tryz.func15 (by kernel_rfl) ?_
  intro args out h
  obtain ⟨x, e, h1⟩ := conN_inv h
  clear h
  obtain ⟨a, b, x0⟩ := x
  subst e
  replace h1 : (some ⟨.val ⟨.bool, decide (a = b)⟩, []⟩) = some out := h1
  injection h1 with h1
  subst h1
  exact ⟨by rw [mkArgs_len]; decide, rsameT6_ex a b⟩
end Go.Proofs.YtodkmhamaahjmaaGreatDoor

/- Numbers from which choices are read. -/
set_option maxRecDepth 10000
set_option maxHeartbeats 1000000
set_option linter.unusedSimpArgs false
set_option linter.unusedVariables false
set_option pp.deepTerms.threshold 12
namespace Go.Proofs.YtodkmhamaahjmaaGreatDoor
open Go.Tm Go.IntWalk

abbrev PkT : Ty := .prod (.slice (.int .u8)) (.prod (.int .i64) .unit)
abbrev Pk : Type := List Int × Int × Unit
def okP (p : Pk) : Prop := isB p.1 ∧ 0 ≤ p.2.1 ∧ p.2.1 ≤ p.1.length ∧ p.1.length ≤ 1000000000

instance (p : Pk) : Decidable (okP p) := by unfold okP; infer_instance
def numP (p : Pk) (m : Int) : Int × Pk := if (p.1.length : Int) ≤ p.2.1 ∨ m < 1 then (0, p) else ((p.1.getD p.2.1.toNat 0).tmod m, (p.1, p.2.1 + 1, ()))
theorem numP_ok {p : Pk} (h : okP p) (m : Int) : okP (numP p m).2 := by
  unfold numP
  split
  · exact h
  · obtain ⟨h1, h2, h3, h4⟩ := h
    exact ⟨h1, by simp only; omega, by simp only; omega, h4⟩
theorem numP_lt {p : Pk} (h : okP p) {m : Int} (hm : 1 ≤ m) : 0 ≤ (numP p m).1 ∧ (numP p m).1 < m := by
  unfold numP
  split
  · simp only; omega
  · have h0 := isB_getD h.1 p.2.1.toNat
    exact ⟨Int.tmod_nonneg _ h0.1, Int.tmod_lt_of_pos _ (by omega)⟩
/-- The contract of glacismade.Made. -/
def pmadeC : Con := conN [(.v, .slice (.int .u8))] fun (l, _) => some ⟨.obj PkT (l, 0, ()), []⟩
theorem pmadeC_eq {l : List Int} : pmadeC [.val ⟨.slice (.int .u8), l⟩] = some ⟨.obj PkT (l, 0, ()), []⟩ := conN_mk (ks := [(.v, .slice (.int .u8))]) (l, ())
def Γpmade : Cons := cons []
theorem pmade_ex (l : List Int) : Ex tab Γpmade (Tryz.f9.body.getD .skip) (EndsF tab Tryz.f9.results.toList [.val ⟨.slice (.int .u8), l⟩] ⟨.obj PkT (l, 0, ()), []⟩) (ini [.val ⟨.slice (.int .u8), l⟩]) := by
  simp only [Tryz.f9, Option.getD_some]
  simp (implicitDefEqProofs := false) (decide := true) (maxSteps := 4000000) [ini]
theorem pmade_ok : ConOK Tryz.prog 9 pmadeC := by
  refine con_ok tab_ok (Γ := Γpmade) consOK_nil (by kernel_rfl) Tryz.func9 (by kernel_rfl) ?_
  intro args out h
  obtain ⟨x, e, h1⟩ := conN_inv h
  clear h
  obtain ⟨l, x0⟩ := x
  subst e
  replace h1 : (some ⟨.obj PkT (l, 0, ()), []⟩) = some out := h1
  injection h1 with h1
  subst h1
  exact ⟨by rw [mkArgs_len]; decide, pmade_ex l⟩
/-- The contract of (*glacismade.Picks).Num. -/
def pnumC : Con := conN [(.o, .prod (.slice (.int .u8)) (.prod (.int .i64) .unit)), (.v, .int .i64)] fun (p, m, _) => if okP p then some ⟨.val ⟨.int .i64, (numP p m).1⟩, [⟨PkT, (numP p m).2⟩]⟩ else none
theorem pnumC_eq {p : Ty.den (.prod (.slice (.int .u8)) (.prod (.int .i64) .unit))} {m : Int} : pnumC [.obj ⟨.prod (.slice (.int .u8)) (.prod (.int .i64) .unit), p⟩, .val ⟨.int .i64, m⟩] = if okP p then some ⟨.val ⟨.int .i64, (numP p m).1⟩, [⟨PkT, (numP p m).2⟩]⟩ else none := conN_mk (ks := [(.o, .prod (.slice (.int .u8)) (.prod (.int .i64) .unit)), (.v, .int .i64)]) (p, m, ())
def Γpnum : Cons := cons []
theorem pnum_ex (p : Ty.den (.prod (.slice (.int .u8)) (.prod (.int .i64) .unit))) (m : Int) (hr : okP p) : Ex tab Γpnum (Tryz.f12.body.getD .skip) (EndsF tab Tryz.f12.results.toList [.obj ⟨.prod (.slice (.int .u8)) (.prod (.int .i64) .unit), p⟩, .val ⟨.int .i64, m⟩] ⟨.val ⟨.int .i64, (numP p m).1⟩, [⟨PkT, (numP p m).2⟩]⟩) (ini [.obj ⟨.prod (.slice (.int .u8)) (.prod (.int .i64) .unit), p⟩, .val ⟨.int .i64, m⟩]) := by
  simp only [Tryz.f12, Option.getD_some]
  simp (implicitDefEqProofs := false) (decide := true) (maxSteps := 4000000) [ini]
  obtain ⟨h1, h2, h3, h4⟩ := hr
  have h2 : (0 : Int) ≤ p.2.1 := h2
  have h3 : (p.2.1 : Int) ≤ p.1.length := h3
  refine br_dec (fun h => ?_) fun h5 => br_dec (fun h => ?_) fun h6 => ?_
  · rw [numP, if_pos (.inl h)]; exact ⟨rfl, rfl⟩
  · rw [numP, if_pos (.inr h)]; exact ⟨rfl, rfl⟩
  · have h5 : ¬ (p.1.length : Int) ≤ p.2.1 := h5
    have w1 : IntKind.i64.wrap (p.2.1 + 1) = p.2.1 + 1 := i64_in _ (by omega)
    have w2 : IntKind.i64.wrap (p.2.1 + 1 - 1) = p.2.1 := by rw [i64_in _ (by omega)]; omega
    have h0 := isB_getD h1 p.2.1.toNat
    have w3 : IntKind.i64.wrap (p.1.getD p.2.1.toNat 0) = p.1.getD p.2.1.toNat 0 := i64_in _ (by omega)
    rw [List.getD_eq_getElem?_getD] at w3
    rw [w1, w2, w3, numP, if_neg (by omega)]
    refine ⟨⟨h2, by omega⟩, by omega, ?_, rfl⟩
    rw [List.getD_eq_getElem?_getD]
theorem pnum_ok : ConOK Tryz.prog 12 pnumC := by
  refine con_ok tab_ok (Γ := Γpnum) consOK_nil (by kernel_rfl) Tryz.func12 (by kernel_rfl) ?_
  intro args out h
  obtain ⟨x, e, h1⟩ := conN_inv h
  clear h
  obtain ⟨p, m, x0⟩ := x
  subst e
  replace h1 : (if okP p then some ⟨.val ⟨.int .i64, (numP p m).1⟩, [⟨PkT, (numP p m).2⟩]⟩ else none) = some out := h1
  split at h1
  case isFalse => cases h1
  rename_i hr
  injection h1 with h1
  subst h1
  exact ⟨by rw [mkArgs_len]; decide, pnum_ex p m hr⟩
end Go.Proofs.YtodkmhamaahjmaaGreatDoor
