/- body: a node that is found, in a tree of its own: on the machine. -/
import Derived.Test.YthhjlbpmpffapaaGreatDoorTree1
import Derived.Test.YthhjlbpmpffapaaGreatDoorPBody
import Derived.Test.YthhjlbpmpffapaaGreatDoorDirMem
import Derived.WalkKit
import Derived.Shelf.RegionOpenPlain
set_option maxRecDepth 100000
set_option maxHeartbeats 1000000
set_option linter.unusedSimpArgs false
set_option linter.unusedVariables false
set_option pp.deepTerms.threshold 20
namespace Go.Proofs.YthhjlbpmpffapaaGreatDoor
open Go.Tm Go.IntWalk Go.RowKit
/-- The contract of body.grown. -/
def bgrownC : Con := conN [(.v, .str), (.v, .int .i64)] fun (s, n, _) => if s.size ≤ 4000000000 ∧ 0 ≤ n ∧ n ≤ 1000000 then some ⟨.val ⟨.str, grownB s n.toNat⟩, []⟩ else none
theorem bgrownC_eq {s : ByteArray} {n : Int} : bgrownC [.val ⟨.str, s⟩, .val ⟨.int .i64, n⟩] = if s.size ≤ 4000000000 ∧ 0 ≤ n ∧ n ≤ 1000000 then some ⟨.val ⟨.str, grownB s n.toNat⟩, []⟩ else none := conN_mk (ks := [(.v, .str), (.v, .int .i64)]) (s, n, ())
def Γbgrown : Cons := cons [(50, repeat6C)]
theorem bgrown_ex (s : ByteArray) (n : Int) (hr : s.size ≤ 4000000000 ∧ 0 ≤ n ∧ n ≤ 1000000) : Ex tab Γbgrown (Tryz.f32.body.getD .skip) (EndsF tab Tryz.f32.results.toList [.val ⟨.str, s⟩, .val ⟨.int .i64, n⟩] ⟨.val ⟨.str, grownB s n.toNat⟩, []⟩) (ini [.val ⟨.str, s⟩, .val ⟨.int .i64, n⟩]) := by
  have g_repeat6 : Γbgrown 50 = some repeat6C := rfl
  simp only [Tryz.f32, Option.getD_some]
  simp (implicitDefEqProofs := false) (decide := true) (maxSteps := 4000000) [ini, g_repeat6, repeat6C_eq]
  obtain ⟨h1, h2, h3⟩ := hr
  obtain ⟨m, rfl⟩ : ∃ m : Nat, n = (m : Int) := ⟨n.toNat, by omega⟩
  have w1 : IntKind.i64.wrap ((m : Int) - (s.size : Int)) = (m : Int) - (s.size : Int) := i64_in _ (by omega)
  rw [w1]
  obtain ⟨k, hk, hk2⟩ : ∃ k : Nat, (if (m : Int) - (s.size : Int) < 0 then 0 else (m : Int) - (s.size : Int)) = (k : Int) ∧ k = m - s.size := ⟨m - s.size, by split <;> omega, rfl⟩
  rw [hk, Int.toNat_natCast, Int.toNat_natCast]
  have hs : (repB { data := #[0] } k).size = k := by rw [bl_size, bl_rep0, List.length_replicate]
  refine ⟨⟨by omega, by omega⟩, by rw [hs]; omega, ?_⟩
  rw [hk2]; rfl
theorem bgrown_ok : ConOK Tryz.prog 32 bgrownC := by
  refine con_ok tab_ok (Γ := Γbgrown) (consOK_cons repeat6_ok consOK_nil) (by kernel_rfl) Tryz.func32 (by kernel_rfl) ?_
  intro args out h
  obtain ⟨x, e, h1⟩ := conN_inv h
  clear h
  obtain ⟨s, n, x0⟩ := x
  subst e
  replace h1 : (if s.size ≤ 4000000000 ∧ 0 ≤ n ∧ n ≤ 1000000 then some ⟨.val ⟨.str, grownB s n.toNat⟩, []⟩ else none) = some out := h1
  split at h1
  case isFalse => cases h1
  rename_i hr
  injection h1 with h1
  subst h1
  exact ⟨by rw [mkArgs_len]; decide, bgrown_ex s n hr⟩
/-- The contract of slices.Clone[api.Tree,api.Node]. -/
def bcloneC : Con := conN [(.v, TreeT)] fun (l, _) => if l.length ≤ 1000000000000 then some ⟨.own NodeT l, []⟩ else none
theorem bcloneC_eq {l : Ty.den (TreeT)} : bcloneC [.val ⟨TreeT, l⟩] = if l.length ≤ 1000000000000 then some ⟨.own NodeT l, []⟩ else none := conN_mk (ks := [(.v, TreeT)]) (l, ())
def Γbclone : Cons := cons []
theorem bclone_ex (l : Ty.den (TreeT)) (hr : l.length ≤ 1000000000000) : Ex tab Γbclone (Tryz.f52.body.getD .skip) (EndsF tab Tryz.f52.results.toList [.val ⟨TreeT, l⟩] ⟨.own NodeT l, []⟩) (ini [.val ⟨TreeT, l⟩]) := by
  simp only [Tryz.f52, Option.getD_some]
  simp (implicitDefEqProofs := false) (decide := true) (maxSteps := 4000000) [ini]
  have hr : List.length l ≤ 1000000000000 := hr
  omega
theorem bclone_ok : ConOK Tryz.prog 52 bcloneC := by
  refine con_ok tab_ok (Γ := Γbclone) consOK_nil (by kernel_rfl) Tryz.func52 (by kernel_rfl) ?_
  intro args out h
  obtain ⟨x, e, h1⟩ := conN_inv h
  clear h
  obtain ⟨l, x0⟩ := x
  subst e
  replace h1 : (if l.length ≤ 1000000000000 then some ⟨.own NodeT l, []⟩ else none) = some out := h1
  split at h1
  case isFalse => cases h1
  rename_i hr
  injection h1 with h1
  subst h1
  exact ⟨by rw [mkArgs_len]; decide, bclone_ex l hr⟩
theorem goes_calls {P : Program} {f : FuncId} {fn : Func} {vals : List Value} {w : World} {r : Res} {R : Value → World → Prop} (hf : P.funcs[f]? = some fn) (hname : (fn.name == "runtime.NumGoroutine") = false) (hb : fn.body.isSome = true) (h : Goes P f vals w r R) :
    Calls P f vals.toArray w fun e w' => ∃ v, e = ends r v ∧ R v w' := by
  have e := enters hf hname hb vals.toArray w
  rcases h with ⟨g, gs, w1, h1, h2⟩ | ⟨_, v, w', h1, _⟩
  · rw [e] at h1
    injection h1 with h1 h3
    injection h1 with h1 h4
    subst h1 h3 h4
    exact h2
  · rw [e] at h1
    injection h1 with h1 _
    cases h1
theorem But.ofDrew {w w' : World} {A : Option Addr} (h : But w.drew A w') : But w A w' := ⟨h.os, h.tape, h.output, h.size, h.block⟩
theorem vrep_but {w w' : World} {R : Nat → Prop} {t : Ty} {x : t.den} {v : Value} (h : vrep w R t x v) (hb : But w none w') : vrep w' R t x v :=
  vrep_mono hb.size (fun _ _ h => h) (fun b hb' _ => hb.block b hb' (fun _ h => by cases h)) h
theorem kept_but {w w' : World} {L : Nat → Prop} (h : Kept w L w') (hn : ∀ b, ¬ L b) : But w none w' := ⟨h.os, h.tape, h.output, h.size, fun x hx _ => h.block x hx (hn x)⟩
theorem find_tree_calls (t : List Node) (p : ByteArray) (own : Bool) (hf : fitT t) (h9 : t.length = 9) (hp : p.size ≤ 1000000000) {w : World} {R : Nat → Prop} {v : Value} (hv : vrep w R TreeT t v) :
    Calls Tryz.prog 51 #[v, .string p, .bool own] w fun e w' => e = .returned (.tuple #[.int .i64 (findT t p own).1, .int .i64 (findT t p own).2]) ∧ But w none w' := by
  have hc : tfindC [.val ⟨TreeT, t⟩, .val ⟨.str, p⟩, .val ⟨.bool, own⟩] = some ⟨.tup [⟨.int .i64, (findT t p own).1⟩, ⟨.int .i64, (findT t p own).2⟩], []⟩ := by
    rw [tfindC_eq, if_pos ⟨hf, h9, hp⟩]
  have hrd : Ready w R [.val ⟨TreeT, t⟩, .val ⟨.str, p⟩, .val ⟨.bool, own⟩] [v, .string p, .bool own] :=
    ⟨⟨v, _, rfl, hv, _, _, rfl, mk_str _ _ _, _, _, rfl, mk_bool _ _ _, rfl⟩, List.nodup_nil, fun b hb => by cases hb⟩
  refine (goes_calls Tryz.func51 (by kernel_rfl) (by kernel_rfl) (tfind_ok _ _ _ _ _ hc hrd)).mono ?_
  rintro e w' ⟨v', rfl, h⟩
  obtain ⟨vs, hvs, h1⟩ := (show ∃ vs, v' = .tuple vs.toArray ∧ tupRep w' _ [⟨.int .i64, (findT t p own).1⟩, ⟨.int .i64, (findT t p own).2⟩] vs from h.res)
  obtain ⟨a, r, rfl, ha, b, r2, rfl, hb, rfl⟩ := h1
  have ha := vrep_int ha
  have hb := vrep_int hb
  subst ha hb hvs
  exact ⟨rfl, kept_but h.kept (fun b hb => by cases hb)⟩
theorem clone_calls (xs : List Node) (hl : xs.length ≤ 1000000000000) {w : World} {R : Nat → Prop} {v : Value} (hv : vrep w R TreeT xs v) :
    Calls Tryz.prog 52 #[v] w fun e w' => ∃ A c cs, e = .returned (.slice A xs.length c) ∧ xs.length ≤ c ∧ c ≤ maxLen ∧ cs.length = xs.length * 3 ∧ (∀ v ∈ cs, v.oneCell' = true) ∧ (∀ w R, repList (rep w R NodeT) xs cs) ∧
      ((A = none ∧ c = 0) ∨ ∃ ad, A = some ad ∧ Mem w' ad (c * 3) cs) ∧ (∀ ad, A = some ad → w.heap.size ≤ ad.block) ∧ But w none w' := by
  have hc : bcloneC [.val ⟨TreeT, xs⟩] = some ⟨.own NodeT xs, []⟩ := by rw [bcloneC_eq, if_pos hl]
  have hrd : Ready w R [.val ⟨TreeT, xs⟩] [v] := ⟨⟨v, [], rfl, hv, rfl⟩, List.nodup_nil, fun b hb => by cases hb⟩
  refine (goes_calls Tryz.func52 (by kernel_rfl) (by kernel_rfl) (bclone_ok _ _ _ _ _ hc hrd)).mono ?_
  rintro e w' ⟨v', rfl, h⟩
  obtain ⟨A, c, cs, rfl, g1, g2, g3, g4⟩ := (show OwnS w' _ NodeT xs v' from h.res)
  refine ⟨A, c, cs, rfl, g1, g2, g3.length (fun x c hx => rep_len NodeT hx), rep_cells (.arr xs.length NodeT) (x := xs) ⟨rfl, g3⟩, fun w R => g3.imp fun x c _ hx => rep_near NodeT (by rfl) hx, g4, fun ad e => ?_, kept_but h.kept (fun b hb => by cases hb)⟩
  subst e
  rcases h.fresh ad.block rfl with h1 | ⟨_, h1⟩
  · exact h1
  · cases h1
end Go.Proofs.YthhjlbpmpffapaaGreatDoor
