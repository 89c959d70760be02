/- body: the contracts. -/
import Derived.Test.YthhjlbpmpffapaaGreatDoorBody5
import Derived.Test.YthhjlbpmpffapaaGreatDoorRef6h
set_option maxRecDepth 100000
set_option maxHeartbeats 4000000
set_option linter.unusedSimpArgs false
set_option linter.unusedVariables false
set_option pp.deepTerms.threshold 20
namespace Go.Proofs.YthhjlbpmpffapaaGreatDoor
open Go.Tm Go.IntWalk Go.RowKit
abbrev FndT : Ty := .prod NodeT (.prod (.int .i64) (.prod TreeT .unit))
def fndO (t : List Node) (p : ByteArray) (own : Bool) : FndT.den := (fndN t p own, (findT t p own).1, t, ())
/-- The contract of body.find. -/
def bfindC : Con := conN [(.v, TreeT), (.v, .str), (.v, .bool)] fun (t, p, own, _) => if fitT t ∧ t.length = 9 ∧ p.size ≤ 1000000000 then some ⟨.tup [⟨FndT, fndO t p own⟩, ⟨.int .i64, (findT t p own).2⟩], []⟩ else none
theorem bfindC_eq {t : Ty.den (TreeT)} {p : ByteArray} {own : Bool} : bfindC [.val ⟨TreeT, t⟩, .val ⟨.str, p⟩, .val ⟨.bool, own⟩] = if fitT t ∧ t.length = 9 ∧ p.size ≤ 1000000000 then some ⟨.tup [⟨FndT, fndO t p own⟩, ⟨.int .i64, (findT t p own).2⟩], []⟩ else none := conN_mk (ks := [(.v, TreeT), (.v, .str), (.v, .bool)]) (t, p, own, ())
def Γbfind : Cons := cons []
/-- The contract of body.file. -/
def bfileC : Con := conN [(.v, TreeT), (.v, .str), (.v, .bool)] fun (t, p, own, _) => if fitT t ∧ t.length = 9 ∧ p.size ≤ 1000000000 then some ⟨.tup [⟨FndT, fndO t p own⟩, ⟨.int .i64, (fileT t p own).2⟩], []⟩ else none
theorem bfileC_eq {t : Ty.den (TreeT)} {p : ByteArray} {own : Bool} : bfileC [.val ⟨TreeT, t⟩, .val ⟨.str, p⟩, .val ⟨.bool, own⟩] = if fitT t ∧ t.length = 9 ∧ p.size ≤ 1000000000 then some ⟨.tup [⟨FndT, fndO t p own⟩, ⟨.int .i64, (fileT t p own).2⟩], []⟩ else none := conN_mk (ks := [(.v, TreeT), (.v, .str), (.v, .bool)]) (t, p, own, ())
def Γbfile : Cons := cons []
/-- The contract of body.Mode. -/
def bmodeC : Con := conN [(.v, TreeT), (.v, .str), (.v, .int .i64), (.v, .bool)] fun (t, p, m, own, _) => if fitT t ∧ t.length = 9 ∧ p.size ≤ 1000000000 then some ⟨.tup [⟨TreeT, (modeT t p m own).1⟩, ⟨.int .i64, (modeT t p m own).2⟩], []⟩ else none
theorem bmodeC_eq {t : Ty.den (TreeT)} {p : ByteArray} {m : Int} {own : Bool} : bmodeC [.val ⟨TreeT, t⟩, .val ⟨.str, p⟩, .val ⟨.int .i64, m⟩, .val ⟨.bool, own⟩] = if fitT t ∧ t.length = 9 ∧ p.size ≤ 1000000000 then some ⟨.tup [⟨TreeT, (modeT t p m own).1⟩, ⟨.int .i64, (modeT t p m own).2⟩], []⟩ else none := conN_mk (ks := [(.v, TreeT), (.v, .str), (.v, .int .i64), (.v, .bool)]) (t, p, m, own, ())
def Γbmode : Cons := cons []
/-- The contract of body.Cut. -/
def bcutC : Con := conN [(.v, TreeT), (.v, .str), (.v, .int .i64), (.v, .bool)] fun (t, p, n, own, _) => if fitT t ∧ t.length = 9 ∧ p.size ≤ 1000000000 then some ⟨.tup [⟨TreeT, (sizeT t p n own).1⟩, ⟨.int .i64, (sizeT t p n own).2⟩], []⟩ else none
theorem bcutC_eq {t : Ty.den (TreeT)} {p : ByteArray} {n : Int} {own : Bool} : bcutC [.val ⟨TreeT, t⟩, .val ⟨.str, p⟩, .val ⟨.int .i64, n⟩, .val ⟨.bool, own⟩] = if fitT t ∧ t.length = 9 ∧ p.size ≤ 1000000000 then some ⟨.tup [⟨TreeT, (sizeT t p n own).1⟩, ⟨.int .i64, (sizeT t p n own).2⟩], []⟩ else none := conN_mk (ks := [(.v, TreeT), (.v, .str), (.v, .int .i64), (.v, .bool)]) (t, p, n, own, ())
def Γbcut : Cons := cons []
/-- The contract of body.Write. -/
def bwriteC : Con := conN [(.v, TreeT), (.v, .str), (.v, .int .i64), (.v, .str), (.v, .bool)] fun (t, p, off, x, own, _) => if fitT t ∧ t.length = 9 ∧ p.size ≤ 1000000000 ∧ x.size ≤ 4000000000 then some ⟨.tup [⟨TreeT, (writeT t p off x own).1⟩, ⟨.int .i64, (writeT t p off x own).2⟩], []⟩ else none
theorem bwriteC_eq {t : Ty.den (TreeT)} {p : ByteArray} {off : Int} {x : ByteArray} {own : Bool} : bwriteC [.val ⟨TreeT, t⟩, .val ⟨.str, p⟩, .val ⟨.int .i64, off⟩, .val ⟨.str, x⟩, .val ⟨.bool, own⟩] = if fitT t ∧ t.length = 9 ∧ p.size ≤ 1000000000 ∧ x.size ≤ 4000000000 then some ⟨.tup [⟨TreeT, (writeT t p off x own).1⟩, ⟨.int .i64, (writeT t p off x own).2⟩], []⟩ else none := conN_mk (ks := [(.v, TreeT), (.v, .str), (.v, .int .i64), (.v, .str), (.v, .bool)]) (t, p, off, x, own, ())
def Γbwrite : Cons := cons []
theorem mode_len (t : List Node) (p : ByteArray) (m : Int) (own : Bool) : (modeT t p m own).1.length = t.length := by
  unfold modeT; split
  · rfl
  · split
    · rfl
    · exact setT_len _ _ _
theorem size_len (t : List Node) (p : ByteArray) (m : Int) (own : Bool) : (sizeT t p m own).1.length = t.length := by
  unfold sizeT; split
  · rfl
  · split
    · rfl
    · split
      · rfl
      · exact setT_len _ _ _
theorem write_len (t : List Node) (p : ByteArray) (o : Int) (x : ByteArray) (own : Bool) : (writeT t p o x own).1.length = t.length := by
  unfold writeT; split
  · rfl
  · split
    · rfl
    · split
      · rfl
      · split
        · rfl
        · exact setT_len _ _ _
theorem fnd_after {f : FuncId} {fn : Func} (hf : Tryz.prog.funcs[f]? = some fn) (hname : (fn.name == "runtime.NumGoroutine") = false) (hb : fn.body.isSome = true) {args : List Arg} {vals : List Value} {w : World} {R : Nat → Prop} {t : List Node} {n : Node} {ino er : Int} (h9 : t.length = 9) (ha : ∀ a ∈ args, ∃ d, a = .val d) (hl : args.length = vals.length)
    (h : Calls Tryz.prog f vals.toArray w fun e w' => ∃ A c cs, e = .returned (.tuple #[fndV n ino (.slice A 9 c), .int .i64 er]) ∧ 9 ≤ c ∧ c ≤ maxLen ∧ cs.length = 27 ∧ (∀ v ∈ cs, v.oneCell' = true) ∧ (∀ w R, repList (rep w R NodeT) t cs) ∧
      (∃ ad, A = some ad ∧ Mem w' ad (c * 3) cs ∧ w.heap.size ≤ ad.block) ∧ But w none w') :
    Goes Tryz.prog f vals w (.tup [⟨FndT, (n, ino, t, ())⟩, ⟨.int .i64, er⟩]) (After w R args vals ⟨.tup [⟨FndT, (n, ino, t, ())⟩, ⟨.int .i64, er⟩], []⟩) := by
  refine .inl ⟨f, vals.toArray, w, enters hf hname hb _ _, h.mono ?_⟩
  rintro _ w' ⟨A, c, cs, rfl, k1, k2, k3, k4, k5, ⟨ad, rfl, k6, k7⟩, k8⟩
  obtain ⟨k0, m0, s0, ⟨⟩⟩ := n
  refine ⟨_, rfl, ⟨k8.os, k8.tape, k8.output, k8.size, fun x hx _ => k8.block x hx (fun _ h => by cases h)⟩, (fun x hx => by cases hx), ⟨[_, _], rfl, _, _, rfl, ⟨_, ⟨[.int .i64 k0, .int .i64 m0, .string s0], _, rfl, ⟨[.int .i64 k0], [.int .i64 m0, .string s0], rfl, rfl, [.int .i64 m0], [.string s0], rfl, rfl, [.string s0], [], rfl, rfl, rfl⟩, ⟨[.int .i64 ino], _, rfl, rfl, ⟨_, [], rfl, ⟨some ad, c, by rw [h9], by rw [h9]; exact k1, k2, .inr ⟨ad, cs, rfl, ⟨.inr k7, fun h => by cases h⟩, k6.block_lt, k5 _ _, k6.lies⟩⟩, rfl⟩⟩⟩, rfl⟩, _, _, rfl, ⟨_, rfl, rfl⟩, rfl⟩, iosN hl ha⟩
theorem bfind_ok : ConOK Tryz.prog 36 bfindC := by
  intro args out vals w R h hrd
  obtain ⟨x, e, h1⟩ := conN_inv h
  clear h
  obtain ⟨t, p, own, x0⟩ := x
  subst e
  replace h1 : (if fitT t ∧ List.length t = 9 ∧ ByteArray.size p ≤ 1000000000 then some (⟨.tup [⟨FndT, fndO t p own⟩, ⟨.int .i64, (findT t p own).2⟩], []⟩ : Out) else none) = some out := h1
  split at h1
  case isFalse => cases h1
  rename_i hr
  injection h1 with h1
  subst h1
  obtain ⟨hrep, hnd, hap⟩ := hrd
  obtain ⟨v0, r0, rfl, hv0, v1, r1, rfl, hv1, v2, r2, rfl, hv2, e9⟩ := hrep
  subst e9
  have hv1 := vrep_str hv1
  subst hv1
  have hv2 := vrep_bool hv2
  subst hv2
  exact fnd_after Tryz.func36 (by kernel_rfl) (by kernel_rfl) hr.2.1 (by intro a ha; simp [mkArgs, mkA] at ha; rcases ha with rfl | rfl | rfl <;> exact ⟨_, rfl⟩) rfl (find_calls t p own hr.1 hr.2.1 hr.2.2 hv0)
theorem bfile_ok : ConOK Tryz.prog 30 bfileC := by
  intro args out vals w R h hrd
  obtain ⟨x, e, h1⟩ := conN_inv h
  clear h
  obtain ⟨t, p, own, x0⟩ := x
  subst e
  replace h1 : (if fitT t ∧ List.length t = 9 ∧ ByteArray.size p ≤ 1000000000 then some (⟨.tup [⟨FndT, fndO t p own⟩, ⟨.int .i64, (fileT t p own).2⟩], []⟩ : Out) else none) = some out := h1
  split at h1
  case isFalse => cases h1
  rename_i hr
  injection h1 with h1
  subst h1
  obtain ⟨hrep, hnd, hap⟩ := hrd
  obtain ⟨v0, r0, rfl, hv0, v1, r1, rfl, hv1, v2, r2, rfl, hv2, e9⟩ := hrep
  subst e9
  have hv1 := vrep_str hv1
  subst hv1
  have hv2 := vrep_bool hv2
  subst hv2
  exact fnd_after Tryz.func30 (by kernel_rfl) (by kernel_rfl) hr.2.1 (by intro a ha; simp [mkArgs, mkA] at ha; rcases ha with rfl | rfl | rfl <;> exact ⟨_, rfl⟩) rfl (file_calls t p own hr.1 hr.2.1 hr.2.2 hv0)
theorem bmode_ok : ConOK Tryz.prog 18 bmodeC := by
  intro args out vals w R h hrd
  obtain ⟨x, e, h1⟩ := conN_inv h
  clear h
  obtain ⟨t, p, m, own, x0⟩ := x
  subst e
  replace h1 : (if fitT t ∧ List.length t = 9 ∧ ByteArray.size p ≤ 1000000000 then some (⟨.tup [⟨TreeT, (modeT t p m own).1⟩, ⟨.int .i64, (modeT t p m own).2⟩], []⟩ : Out) else none) = some out := h1
  split at h1
  case isFalse => cases h1
  rename_i hr
  injection h1 with h1
  subst h1
  obtain ⟨hrep, hnd, hap⟩ := hrd
  obtain ⟨v0, r0, rfl, hv0, v1, r1, rfl, hv1, v2, r2, rfl, hv2, v3, r3, rfl, hv3, e9⟩ := hrep
  subst e9
  have hv1 := vrep_str hv1
  subst hv1
  have hv2 := vrep_int hv2
  subst hv2
  have hv3 := vrep_bool hv3
  subst hv3
  exact chg_after Tryz.func18 (by kernel_rfl) (by kernel_rfl) (by rw [mode_len]; exact hr.2.1) (by intro a ha; simp [mkArgs, mkA] at ha; rcases ha with rfl | rfl | rfl | rfl <;> exact ⟨_, rfl⟩) rfl (mode_calls t p m own hr.1 hr.2.1 hr.2.2 hv0)
theorem bcut_ok : ConOK Tryz.prog 16 bcutC := by
  intro args out vals w R h hrd
  obtain ⟨x, e, h1⟩ := conN_inv h
  clear h
  obtain ⟨t, p, m, own, x0⟩ := x
  subst e
  replace h1 : (if fitT t ∧ List.length t = 9 ∧ ByteArray.size p ≤ 1000000000 then some (⟨.tup [⟨TreeT, (sizeT t p m own).1⟩, ⟨.int .i64, (sizeT t p m own).2⟩], []⟩ : Out) else none) = some out := h1
  split at h1
  case isFalse => cases h1
  rename_i hr
  injection h1 with h1
  subst h1
  obtain ⟨hrep, hnd, hap⟩ := hrd
  obtain ⟨v0, r0, rfl, hv0, v1, r1, rfl, hv1, v2, r2, rfl, hv2, v3, r3, rfl, hv3, e9⟩ := hrep
  subst e9
  have hv1 := vrep_str hv1
  subst hv1
  have hv2 := vrep_int hv2
  subst hv2
  have hv3 := vrep_bool hv3
  subst hv3
  exact chg_after Tryz.func16 (by kernel_rfl) (by kernel_rfl) (by rw [size_len]; exact hr.2.1) (by intro a ha; simp [mkArgs, mkA] at ha; rcases ha with rfl | rfl | rfl | rfl <;> exact ⟨_, rfl⟩) rfl (cut_calls t p m own hr.1 hr.2.1 hr.2.2 hv0)
theorem bwrite_ok : ConOK Tryz.prog 13 bwriteC := by
  intro args out vals w R h hrd
  obtain ⟨x, e, h1⟩ := conN_inv h
  clear h
  obtain ⟨t, p, off, x, own, x0⟩ := x
  subst e
  replace h1 : (if fitT t ∧ List.length t = 9 ∧ ByteArray.size p ≤ 1000000000 ∧ ByteArray.size x ≤ 4000000000 then some (⟨.tup [⟨TreeT, (writeT t p off x own).1⟩, ⟨.int .i64, (writeT t p off x own).2⟩], []⟩ : Out) else none) = some out := h1
  split at h1
  case isFalse => cases h1
  rename_i hr
  injection h1 with h1
  subst h1
  obtain ⟨hrep, hnd, hap⟩ := hrd
  obtain ⟨v0, r0, rfl, hv0, v1, r1, rfl, hv1, v2, r2, rfl, hv2, v3, r3, rfl, hv3, v4, r4, rfl, hv4, e9⟩ := hrep
  subst e9
  have hv1 := vrep_str hv1
  subst hv1
  have hv2 := vrep_int hv2
  subst hv2
  have hv3 := vrep_str hv3
  subst hv3
  have hv4 := vrep_bool hv4
  subst hv4
  exact chg_after Tryz.func13 (by kernel_rfl) (by kernel_rfl) (by rw [write_len]; exact hr.2.1) (by intro a ha; simp [mkArgs, mkA] at ha; rcases ha with rfl | rfl | rfl | rfl | rfl <;> exact ⟨_, rfl⟩) rfl (write_calls t p off x own hr.1 hr.2.1 hr.2.2.1 hr.2.2.2 hv0)
/-- The contract of body.Read. -/
def breadC : Con := conN [(.v, TreeT), (.v, .str), (.v, .bool)] fun (t, p, own, _) => if fitT t ∧ t.length = 9 ∧ p.size ≤ 1000000000 then some ⟨.tup [⟨.str, (readT t p own).1⟩, ⟨.int .i64, (readT t p own).2⟩], []⟩ else none
theorem breadC_eq {t : Ty.den (TreeT)} {p : ByteArray} {own : Bool} : breadC [.val ⟨TreeT, t⟩, .val ⟨.str, p⟩, .val ⟨.bool, own⟩] = if fitT t ∧ t.length = 9 ∧ p.size ≤ 1000000000 then some ⟨.tup [⟨.str, (readT t p own).1⟩, ⟨.int .i64, (readT t p own).2⟩], []⟩ else none := conN_mk (ks := [(.v, TreeT), (.v, .str), (.v, .bool)]) (t, p, own, ())
def Γbread : Cons := cons [(30, bfileC)]
theorem bread_ex (t : Ty.den (TreeT)) (p : ByteArray) (own : Bool) (hr : fitT t ∧ t.length = 9 ∧ p.size ≤ 1000000000) : Ex tab Γbread (Tryz.f11.body.getD .skip) (EndsF tab Tryz.f11.results.toList [.val ⟨TreeT, t⟩, .val ⟨.str, p⟩, .val ⟨.bool, own⟩] ⟨.tup [⟨.str, (readT t p own).1⟩, ⟨.int .i64, (readT t p own).2⟩], []⟩) (ini [.val ⟨TreeT, t⟩, .val ⟨.str, p⟩, .val ⟨.bool, own⟩]) := by
  have g_bfile : Γbread 30 = some bfileC := rfl
  simp only [Tryz.f11, Option.getD_some]
  simp (implicitDefEqProofs := false) (decide := true) (maxSteps := 4000000) [ini, g_bfile, bfileC_eq]
  refine ⟨hr, br_intro (fun h => ?_) fun h => ?_⟩
  · rw [readT, if_pos (by simpa using h)]; exact ⟨rfl, rfl⟩
  · have h0 : (fileT t p own).2 = 0 := by simpa using h
    obtain ⟨h00, h01⟩ := file_nat h0
    rw [readT, if_neg (by simpa using h0), h01]
    have hn : fndN t p own = nodeT t (findT t p own).1 := if_pos h00
    refine ⟨?_, rfl⟩
    show (fndN t p own).2.2.1 = _
    rw [hn]; rfl
theorem bread_ok : ConOK Tryz.prog 11 breadC := by
  refine con_ok tab_ok (Γ := Γbread) (consOK_cons bfile_ok consOK_nil) (by kernel_rfl) Tryz.func11 (by kernel_rfl) ?_
  intro args out h
  obtain ⟨x, e, h1⟩ := conN_inv h
  clear h
  obtain ⟨t, p, own, x0⟩ := x
  subst e
  replace h1 : (if fitT t ∧ t.length = 9 ∧ p.size ≤ 1000000000 then some ⟨.tup [⟨.str, (readT t p own).1⟩, ⟨.int .i64, (readT t p own).2⟩], []⟩ else none) = some out := h1
  split at h1
  case isFalse => cases h1
  rename_i hr
  injection h1 with h1
  subst h1
  exact ⟨by rw [mkArgs_len]; decide, bread_ex t p own hr⟩
/-- The contract of body.Stat. -/
def bstatC : Con := conN [(.v, TreeT), (.v, .str), (.v, .bool)] fun (t, p, own, _) => if fitT t ∧ t.length = 9 ∧ p.size ≤ 1000000000 then some ⟨.tup [⟨StatT, (statT t p own).1⟩, ⟨.int .i64, (statT t p own).2⟩], []⟩ else none
theorem bstatC_eq {t : Ty.den (TreeT)} {p : ByteArray} {own : Bool} : bstatC [.val ⟨TreeT, t⟩, .val ⟨.str, p⟩, .val ⟨.bool, own⟩] = if fitT t ∧ t.length = 9 ∧ p.size ≤ 1000000000 then some ⟨.tup [⟨StatT, (statT t p own).1⟩, ⟨.int .i64, (statT t p own).2⟩], []⟩ else none := conN_mk (ks := [(.v, TreeT), (.v, .str), (.v, .bool)]) (t, p, own, ())
def Γbstat : Cons := cons [(36, bfindC), (37, tlinksC)]
theorem bstat_ex (t : Ty.den (TreeT)) (p : ByteArray) (own : Bool) (hr : fitT t ∧ t.length = 9 ∧ p.size ≤ 1000000000) : Ex tab Γbstat (Tryz.f20.body.getD .skip) (EndsF tab Tryz.f20.results.toList [.val ⟨TreeT, t⟩, .val ⟨.str, p⟩, .val ⟨.bool, own⟩] ⟨.tup [⟨StatT, (statT t p own).1⟩, ⟨.int .i64, (statT t p own).2⟩], []⟩) (ini [.val ⟨TreeT, t⟩, .val ⟨.str, p⟩, .val ⟨.bool, own⟩]) := by
  have g_bfind : Γbstat 36 = some bfindC := rfl
  have g_tlinks : Γbstat 37 = some tlinksC := rfl
  simp only [Tryz.f20, Option.getD_some]
  simp (implicitDefEqProofs := false) (decide := true) (maxSteps := 4000000) [ini, g_bfind, bfindC_eq, g_tlinks, tlinksC_eq]
  refine ⟨hr, br_intro (fun h => ?_) fun h => ?_⟩
  · rw [statT, if_pos (by simpa using h)]; exact ⟨rfl, rfl⟩
  · have h0 : (findT t p own).2 = 0 := by simpa using h
    rw [statT, if_neg (by simpa using h0)]
    have hn : fndN t p own = nodeT t (findT t p own).1 := if_pos h0
    refine ⟨hr.1, ?_, rfl⟩
    show ((findT t p own).1, (fndN t p own).1, (fndN t p own).2.1, linksT t (findT t p own).1, (((fndN t p own).2.2.1).size : Int), ()) = _
    rw [hn]; rfl
theorem bstat_ok : ConOK Tryz.prog 20 bstatC := by
  refine con_ok tab_ok (Γ := Γbstat) (consOK_cons bfind_ok (consOK_cons tlinks_ok consOK_nil)) (by kernel_rfl) Tryz.func20 (by kernel_rfl) ?_
  intro args out h
  obtain ⟨x, e, h1⟩ := conN_inv h
  clear h
  obtain ⟨t, p, own, x0⟩ := x
  subst e
  replace h1 : (if fitT t ∧ t.length = 9 ∧ p.size ≤ 1000000000 then some ⟨.tup [⟨StatT, (statT t p own).1⟩, ⟨.int .i64, (statT t p own).2⟩], []⟩ else none) = some out := h1
  split at h1
  case isFalse => cases h1
  rename_i hr
  injection h1 with h1
  subst h1
  exact ⟨by rw [mkArgs_len]; decide, bstat_ex t p own hr⟩
/-- The contract of body.List. -/
def blistC : Con := conN [(.v, TreeT), (.v, .str), (.v, .bool)] fun (t, p, own, _) => if fitT t ∧ t.length = 9 ∧ p.size ≤ 1000000000 then some ⟨.tup [⟨.slice EntT, (listT t p own).1⟩, ⟨.int .i64, (listT t p own).2⟩], []⟩ else none
theorem blistC_eq {t : Ty.den (TreeT)} {p : ByteArray} {own : Bool} : blistC [.val ⟨TreeT, t⟩, .val ⟨.str, p⟩, .val ⟨.bool, own⟩] = if fitT t ∧ t.length = 9 ∧ p.size ≤ 1000000000 then some ⟨.tup [⟨.slice EntT, (listT t p own).1⟩, ⟨.int .i64, (listT t p own).2⟩], []⟩ else none := conN_mk (ks := [(.v, TreeT), (.v, .str), (.v, .bool)]) (t, p, own, ())
def Γblist : Cons := cons [(36, bfindC), (39, dtakeC)]
theorem blist_ex (t : Ty.den (TreeT)) (p : ByteArray) (own : Bool) (hr : fitT t ∧ t.length = 9 ∧ p.size ≤ 1000000000) : Ex tab Γblist (Tryz.f22.body.getD .skip) (EndsF tab Tryz.f22.results.toList [.val ⟨TreeT, t⟩, .val ⟨.str, p⟩, .val ⟨.bool, own⟩] ⟨.tup [⟨.slice EntT, (listT t p own).1⟩, ⟨.int .i64, (listT t p own).2⟩], []⟩) (ini [.val ⟨TreeT, t⟩, .val ⟨.str, p⟩, .val ⟨.bool, own⟩]) := by
  have g_bfind : Γblist 36 = some bfindC := rfl
  have g_dtake : Γblist 39 = some dtakeC := rfl
  simp only [Tryz.f22, Option.getD_some]
  simp (implicitDefEqProofs := false) (decide := true) (maxSteps := 4000000) [ini, g_bfind, bfindC_eq, g_dtake, dtakeC_eq]
  refine ⟨hr, br_intro (fun h => ?_) fun h => ?_⟩
  · rw [listT, if_pos (by simpa using h)]; exact ⟨rfl, rfl⟩
  · have h0 : (findT t p own).2 = 0 := by simpa using h
    have hn : fndN t p own = nodeT t (findT t p own).1 := if_pos h0
    have hrg := findT_range h0
    have hb := fit_body hr.1 (findT t p own).1
    have e1 : (fndO t p own).1 = nodeT t (findT t p own).1 := hn
    rw [e1]
    rw [listT, if_neg (by simpa using h0)]
    refine br_intro (fun h2 => ?_) fun h2 => ?_
    · rw [if_pos (fun e => by rw [show (nodeT t (findT t p own).1).1 = 2 from e] at h2; cases h2)]; exact ⟨rfl, rfl⟩
    · have hk : kindT t (findT t p own).1 = 2 := by
        show (nodeT t (findT t p own).1).1 = 2
        simpa using h2
      rw [if_neg (by simpa using hk)]
      refine ⟨by have : (bodyT t (findT t p own).1).size ≤ 4000000000 := hb; show (bodyT t (findT t p own).1).size ≤ _; omega, ?_, rfl⟩
      rw [namesT, if_neg (fun h => by
        rcases h with h | h | h
        · omega
        · omega
        · exact h hk)]
      rfl
theorem blist_ok : ConOK Tryz.prog 22 blistC := by
  refine con_ok tab_ok (Γ := Γblist) (consOK_cons bfind_ok (consOK_cons dtake_ok consOK_nil)) (by kernel_rfl) Tryz.func22 (by kernel_rfl) ?_
  intro args out h
  obtain ⟨x, e, h1⟩ := conN_inv h
  clear h
  obtain ⟨t, p, own, x0⟩ := x
  subst e
  replace h1 : (if fitT t ∧ t.length = 9 ∧ p.size ≤ 1000000000 then some ⟨.tup [⟨.slice EntT, (listT t p own).1⟩, ⟨.int .i64, (listT t p own).2⟩], []⟩ else none) = some out := h1
  split at h1
  case isFalse => cases h1
  rename_i hr
  injection h1 with h1
  subst h1
  exact ⟨by rw [mkArgs_len]; decide, blist_ex t p own hr⟩
end Go.Proofs.YthhjlbpmpffapaaGreatDoor
