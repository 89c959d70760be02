/- tree: nodes, entries, ways and links, by the program. -/
import Derived.Test.YtodkmhamaahjmaaGreatDoorG1
import Derived.Test.YtodkmhamaahjmaaGreatDoorName1
import Derived.Test.YtodkmhamaahjmaaGreatDoorG4
import Derived.Test.YtodkmhamaahjmaaGreatDoorG5
set_option maxRecDepth 100000
set_option maxHeartbeats 1000000
set_option linter.unusedSimpArgs false
set_option linter.unusedVariables false
set_option pp.deepTerms.threshold 14
namespace Go.Proofs.YtodkmhamaahjmaaGreatDoor
open Go.Tm Go.IntWalk
theorem takeD_rises (s : ByteArray) : Rises (takeD s).1 := by
  rcases takeD_cases s with ⟨l, hl⟩ | hl <;> rw [hl]
  · exact (takeD_iff.1 hl).1.2.1
  · exact List.Pairwise.nil
theorem namesT_rises (t : List Node) (i : Int) : Rises (namesT t i) := by
  unfold namesT
  split
  · exact List.Pairwise.nil
  · exact takeD_rises _
/-- A node; of none the zero one. -/
def nodeV (t : List Node) (i : Int) : Node := if i < 1 ∨ (t.length : Int) < i then dfltN else nodeT t i
theorem nodeV_in {t : List Node} {i : Int} (h1 : 1 ≤ i) (h2 : i ≤ t.length) : nodeV t i = nodeT t i := if_neg (fun h => by omega)
/-- The contract of (tree.view).node. -/
def tnodeC : Con := conN [(.v, .prod TreeT .unit), (.v, .int .i64)] fun (v, i, _) => if v.1.length ≤ 1000 then some ⟨.val ⟨NodeT, nodeV v.1 i⟩, []⟩ else none
theorem tnodeC_eq {v : Ty.den (.prod TreeT .unit)} {i : Int} : tnodeC [.val ⟨.prod TreeT .unit, v⟩, .val ⟨.int .i64, i⟩] = if v.1.length ≤ 1000 then some ⟨.val ⟨NodeT, nodeV v.1 i⟩, []⟩ else none := conN_mk (ks := [(.v, .prod TreeT .unit), (.v, .int .i64)]) (v, i, ())
def Γtnode : Cons := cons []
theorem tnode_ex (v : Ty.den (.prod TreeT .unit)) (i : Int) (hr : v.1.length ≤ 1000) : Ex tab Γtnode (Tryz.f93.body.getD .skip) (EndsF tab Tryz.f93.results.toList [.val ⟨.prod TreeT .unit, v⟩, .val ⟨.int .i64, i⟩] ⟨.val ⟨NodeT, nodeV v.1 i⟩, []⟩) (ini [.val ⟨.prod TreeT .unit, v⟩, .val ⟨.int .i64, i⟩]) := by
  simp only [Tryz.f93, Option.getD_some]
  simp (implicitDefEqProofs := false) (decide := true) (maxSteps := 4000000) [ini]
  have hl : (List.length v.1 : Int) ≤ 1000 := Int.ofNat_le.2 hr
  refine br_dec (fun h => ?_) fun h1 _ => br_dec (fun h => ?_) fun h2 => ?_
  · rw [nodeV, if_pos (.inl h)]; rfl
  · rw [nodeV, if_pos (.inr h)]; rfl
  · have h1 : ¬ (i : Int) < 1 := h1
    have h2 : ¬ (List.length v.1 : Int) < (i : Int) := h2
    have w1 : IntKind.i64.wrap ((i : Int) - 1) = (i : Int) - 1 := i64_in _ (by omega)
    rw [w1, nodeV_in (by omega) (by omega)]
    exact ⟨⟨by omega, by omega⟩, kind_at⟩
theorem tnode_ok : ConOK Tryz.prog 93 tnodeC := by
  refine con_ok tab_ok (Γ := Γtnode) consOK_nil (by kernel_rfl) Tryz.func93 (by kernel_rfl) ?_
  intro args out h
  obtain ⟨x, e, h1⟩ := conN_inv h
  clear h
  obtain ⟨v, i, x0⟩ := x
  subst e
  replace h1 : (if v.1.length ≤ 1000 then some ⟨.val ⟨NodeT, nodeV v.1 i⟩, []⟩ else none) = some out := h1
  split at h1
  case isFalse => cases h1
  rename_i hr
  injection h1 with h1
  subst h1
  exact ⟨by rw [mkArgs_len]; decide, tnode_ex v i hr⟩
/-- The contract of (tree.view).entries. -/
def tentriesC : Con := conN [(.v, .prod TreeT .unit), (.v, .int .i64)] fun (v, i, _) => if fitT v.1 then some ⟨.val ⟨.slice EntT, namesT v.1 i⟩, []⟩ else none
theorem tentriesC_eq {v : Ty.den (.prod TreeT .unit)} {i : Int} : tentriesC [.val ⟨.prod TreeT .unit, v⟩, .val ⟨.int .i64, i⟩] = if fitT v.1 then some ⟨.val ⟨.slice EntT, namesT v.1 i⟩, []⟩ else none := conN_mk (ks := [(.v, .prod TreeT .unit), (.v, .int .i64)]) (v, i, ())
def Γtentries : Cons := cons [(93, tnodeC), (88, dtakeC)]
theorem tentries_ex (v : Ty.den (.prod TreeT .unit)) (i : Int) (hr : fitT v.1) : Ex tab Γtentries (Tryz.f79.body.getD .skip) (EndsF tab Tryz.f79.results.toList [.val ⟨.prod TreeT .unit, v⟩, .val ⟨.int .i64, i⟩] ⟨.val ⟨.slice EntT, namesT v.1 i⟩, []⟩) (ini [.val ⟨.prod TreeT .unit, v⟩, .val ⟨.int .i64, i⟩]) := by
  have g_tnode : Γtentries 93 = some tnodeC := rfl
  have g_dtake : Γtentries 88 = some dtakeC := rfl
  simp only [Tryz.f79, Option.getD_some]
  simp (implicitDefEqProofs := false) (decide := true) (maxSteps := 4000000) [ini, g_tnode, tnodeC_eq, g_dtake, dtakeC_eq]
  have hl : List.length v.1 ≤ 1000 := hr.1
  by_cases hout : (i : Int) < 1 ∨ (List.length v.1 : Int) < (i : Int)
  · have e : nodeV v.1 i = dfltN := if_pos hout
    rw [e]
    refine ⟨hl, br_intro (fun _ => ?_) fun h => absurd h (by decide)⟩
    rw [namesT, if_pos (hout.elim .inl fun h => .inr (.inl h))]
  · have e : nodeV v.1 i = nodeT v.1 i := if_neg hout
    rw [e]
    refine ⟨hl, br_intro (fun h => ?_) fun h => ?_⟩
    · rw [namesT, if_pos (.inr (.inr fun e => by rw [show (nodeT v.1 i).1 = 2 from e] at h; cases h))]
    · have h2 : kindT v.1 i = 2 := by
        show (nodeT v.1 i).1 = 2
        simpa using h
      have hb := fit_body hr i
      refine ⟨by have : (bodyT v.1 i).size ≤ 4000000000 := hb; show (bodyT v.1 i).size ≤ _; omega, ?_⟩
      rw [namesT, if_neg (fun h => h.elim (fun h => hout (.inl h)) fun h => h.elim (fun h => hout (.inr h)) fun h => h h2)]
      rfl
theorem tentries_ok : ConOK Tryz.prog 79 tentriesC := by
  refine con_ok tab_ok (Γ := Γtentries) (consOK_cons tnode_ok (consOK_cons dtake_ok consOK_nil)) (by kernel_rfl) Tryz.func79 (by kernel_rfl) ?_
  intro args out h
  obtain ⟨x, e, h1⟩ := conN_inv h
  clear h
  obtain ⟨v, i, x0⟩ := x
  subst e
  replace h1 : (if fitT v.1 then some ⟨.val ⟨.slice EntT, namesT v.1 i⟩, []⟩ else none) = some out := h1
  split at h1
  case isFalse => cases h1
  rename_i hr
  injection h1 with h1
  subst h1
  exact ⟨by rw [mkArgs_len]; decide, tentries_ex v i hr⟩
/-- The contract of tree.Find. -/
def tfindC : Con := conN [(.v, TreeT), (.v, .str), (.v, .bool)] fun (t, p, own, _) => if fitT t ∧ t.length = 9 ∧ p.size ≤ 1000000000 then some ⟨.tup [⟨.int .i64, (findT t p own).1⟩, ⟨.int .i64, (findT t p own).2⟩], []⟩ else none
theorem tfindC_eq {t : Ty.den (TreeT)} {p : ByteArray} {own : Bool} : tfindC [.val ⟨TreeT, t⟩, .val ⟨.str, p⟩, .val ⟨.bool, own⟩] = if fitT t ∧ t.length = 9 ∧ p.size ≤ 1000000000 then some ⟨.tup [⟨.int .i64, (findT t p own).1⟩, ⟨.int .i64, (findT t p own).2⟩], []⟩ else none := conN_mk (ks := [(.v, TreeT), (.v, .str), (.v, .bool)]) (t, p, own, ())
def Γtfind : Cons := cons [(62, npartsC), (93, tnodeC), (79, tentriesC), (64, dfindDC)]
theorem tfind_ex (t : Ty.den (TreeT)) (p : ByteArray) (own : Bool) (hr : fitT t ∧ t.length = 9 ∧ p.size ≤ 1000000000) : Ex tab Γtfind (Tryz.f74.body.getD .skip) (EndsF tab Tryz.f74.results.toList [.val ⟨TreeT, t⟩, .val ⟨.str, p⟩, .val ⟨.bool, own⟩] ⟨.tup [⟨.int .i64, (findT t p own).1⟩, ⟨.int .i64, (findT t p own).2⟩], []⟩) (ini [.val ⟨TreeT, t⟩, .val ⟨.str, p⟩, .val ⟨.bool, own⟩]) := by
  have g_nparts : Γtfind 62 = some npartsC := rfl
  have g_tnode : Γtfind 93 = some tnodeC := rfl
  have g_tentries : Γtfind 79 = some tentriesC := rfl
  have g_dfindD : Γtfind 64 = some dfindDC := rfl
  simp only [Tryz.f74, Option.getD_some]
  simp (implicitDefEqProofs := false) (decide := true) (maxSteps := 4000000) [ini, g_nparts, npartsC_eq, g_tnode, tnodeC_eq, g_tentries, tentriesC_eq, g_dfindD, dfindDC_eq]
  obtain ⟨hfit, h9, hp⟩ := hr
  have h9 : List.length t = 9 := h9
  refine ⟨hp, br_intro (fun h => ?_) fun h m hml => ?_⟩
  · rw [findT, if_pos (by simpa using h)]; exact ⟨rfl, rfl⟩
  have hfd : findT t p own = walkT t 1 (partsS p own).1 := by
    rw [findT, if_neg (by simpa using h), walk0, if_neg (by omega)]
  rw [hfd]
  obtain ⟨l, hl⟩ : ∃ l, (partsS p own).1 = l := ⟨_, rfl⟩
  rw [hl] at hml ⊢
  have hml : l.length ≤ 9223372036854775807 := hml
  refine ex_loopU (σ := Nat × Int) [6, 7, 9, 11, 13, 26, 27, 28, 29, 30, 31, 32, 33, 34, 35, 36, 37, 38, 39, 40, 41, 42, 43, 44, 45] (fun a => [(26, .val (.int .i64) (a.1 : Int)), (11, .val (.int .i64) a.2)]) (fun a => a.1 ≤ l.length ∧ 1 ≤ a.2 ∧ a.2 ≤ 9 ∧ walkT t 1 l = walkT t a.2 (l.drop a.1)) (fun a => l.length - a.1) (0, 1) ⟨Nat.zero_le _, by decide, by decide, rfl⟩ (hc rfl (hc rfl hn)) ?_
  rintro j ⟨i, at'⟩ ⟨hi, ha1, ha2, hw⟩
  simp only at hi ha1 ha2 hw
  simp (implicitDefEqProofs := false) (decide := true) (maxSteps := 4000000) [ini, g_nparts, npartsC_eq, g_tnode, tnodeC_eq, g_tentries, tentriesC_eq, g_dfindD, dfindDC_eq]
  refine br_dec (fun hlt => ?_) fun hge => ?_
  · have hlen : List.length t ≤ 1000 := by omega
    obtain ⟨x, hd, hx, _, _⟩ := split_at hlt
    rw [hd] at hw
    rw [nodeV_in ha1 (by omega), hx]
    have hnl := namesT_len t at'
    refine ⟨hlt, hlen, br_intro (fun hk => ?_) fun hk => ⟨hfit, ⟨namesT_rises _ _, by omega⟩, br_intro (fun hf => ?_) fun hf => ?_⟩⟩
    · have hk : kindT t at' ≠ 2 := fun e => by rw [show (nodeT t at').1 = 2 from e] at hk; cases hk
      rw [hw, walkT, if_pos hk]; exact ⟨rfl, rfl⟩
    all_goals
      have hk : ¬ kindT t at' ≠ 2 := fun e => e (by show (nodeT t at').1 = 2; simpa using hk)
    · rw [hw, walkT, if_neg hk, if_pos (.inl (by simpa using hf))]; exact ⟨rfl, rfl⟩
    · have hf : (findD (namesT t at') x).2 = true := by simpa using hf
      have hrg := findD_range (fun e he => namesT_ok he) x hf
      refine ⟨i + 1, (findD (namesT t at') x).1, ⟨hlt, hrg.1, hrg.2, ?_⟩, by omega, w_nat rfl (by omega), rfl⟩
      rw [hw, walkT, if_neg hk, if_neg (fun h => h.elim (fun h => by rw [hf] at h; cases h) fun h => by omega)]
  · rw [hw, List.drop_eq_nil_of_le (by omega), walkT]
    exact ⟨rfl, rfl⟩
theorem tfind_ok : ConOK Tryz.prog 74 tfindC := by
  refine con_ok tab_ok (Γ := Γtfind) (consOK_cons nparts_ok (consOK_cons tnode_ok (consOK_cons tentries_ok (consOK_cons dfindD_ok consOK_nil)))) (by kernel_rfl) Tryz.func74 (by kernel_rfl) ?_
  intro args out h
  obtain ⟨x, e, h1⟩ := conN_inv h
  clear h
  obtain ⟨t, p, own, x0⟩ := x
  subst e
  replace h1 : (if fitT t ∧ t.length = 9 ∧ p.size ≤ 1000000000 then some ⟨.tup [⟨.int .i64, (findT t p own).1⟩, ⟨.int .i64, (findT t p own).2⟩], []⟩ else none) = some out := h1
  split at h1
  case isFalse => cases h1
  rename_i hr
  injection h1 with h1
  subst h1
  exact ⟨by rw [mkArgs_len]; decide, tfind_ex t p own hr⟩
/-- The contract of tree.Links. -/
def tlinksC : Con := conN [(.v, TreeT), (.v, .int .i64)] fun (t, ino, _) => if fitT t then some ⟨.val ⟨.int .i64, linksT t ino⟩, []⟩ else none
theorem tlinksC_eq {t : Ty.den (TreeT)} {ino : Int} : tlinksC [.val ⟨TreeT, t⟩, .val ⟨.int .i64, ino⟩] = if fitT t then some ⟨.val ⟨.int .i64, linksT t ino⟩, []⟩ else none := conN_mk (ks := [(.v, TreeT), (.v, .int .i64)]) (t, ino, ())
def Γtlinks : Cons := cons [(79, tentriesC)]
theorem tlinks_ex (t : Ty.den (TreeT)) (ino : Int) (hr : fitT t) : Ex tab Γtlinks (Tryz.f53.body.getD .skip) (EndsF tab Tryz.f53.results.toList [.val ⟨TreeT, t⟩, .val ⟨.int .i64, ino⟩] ⟨.val ⟨.int .i64, linksT t ino⟩, []⟩) (ini [.val ⟨TreeT, t⟩, .val ⟨.int .i64, ino⟩]) := by
  have g_tentries : Γtlinks 79 = some tentriesC := rfl
  simp only [Tryz.f53, Option.getD_some]
  simp (implicitDefEqProofs := false) (decide := true) (maxSteps := 4000000) [ini, g_tentries, tentriesC_eq]
  have ht : List.length t ≤ 1000 := hr.1
  refine br_intro (fun h => ?_) fun h0 htl => ?_
  · rw [linksT, if_pos (by simpa using h)]
  have hlk : linksT t ino = (cntT t ino (List.length t) : Int) := if_neg (by simpa using h0)
  refine ex_loopU (σ := Nat) [5, 6, 8, 13, 14, 15, 16, 17, 18, 19, 20, 21, 22, 23, 24, 25, 26, 27, 28, 29, 30, 31, 32, 33] (fun a => [(13, .val (.int .i64) (a : Int)), (5, .val (.int .i64) (cntT t ino a : Int))]) (fun a => a ≤ List.length t) (fun a => List.length t - a) 0 (Nat.zero_le _) (hc rfl (hc rfl hn)) ?_
  rintro j i hi
  simp (implicitDefEqProofs := false) (decide := true) (maxSteps := 4000000) [ini, g_tentries, tentriesC_eq]
  refine br_dec (fun hlt => ⟨hr, ?_⟩) fun hge => ?_
  · have w0 : IntKind.i64.wrap ((i : Int) + 1) = ((i + 1 : Nat) : Int) := w_nat rfl (by omega)
    rw [w0]
    obtain ⟨L, hL⟩ : ∃ L, namesT t ((i + 1 : Nat) : Int) = L := ⟨_, rfl⟩
    have h40 := namesT_len t ((i + 1 : Nat) : Int)
    have hs := cntT_succ t ino i
    have hle := cntT_le t ino i
    rw [hL] at h40 hs ⊢
    intro _
    refine ex_loopU (σ := Nat) [5, 8, 22, 23, 24, 25, 26, 27, 28, 29, 30, 31, 32] (fun a => [(22, .val (.int .i64) (a : Int)), (5, .val (.int .i64) ((cntT t ino i + cntE (L.take a) ino : Nat) : Int))]) (fun a => a ≤ L.length) (fun a => L.length - a) 0 (Nat.zero_le _) (hc rfl (hc rfl hn)) ?_
    rintro j2 k hk
    simp (implicitDefEqProofs := false) (decide := true) (maxSteps := 4000000) [ini, g_tentries, tentriesC_eq]
    refine br_dec (fun hlt2 => ⟨hlt2, ?_⟩) fun hge => ?_
    · obtain ⟨x, hd, hx, _, ht2⟩ := split_at hlt2
      rw [hx]
      have hc1 := cntE_le (L.take k) ino
      rw [List.length_take] at hc1
      have hc2 : cntE (L.take (k + 1)) ino = cntE (L.take k) ino + if (x.2.1 == ino) = true then 1 else 0 := by
        rw [ht2]; simp [cntE, List.countP_append, List.countP_cons]
      refine br_intro (fun h => ⟨k + 1, by omega, by omega, w_nat rfl (by omega), ?_⟩) fun h => ⟨k + 1, by omega, by omega, w_nat rfl (by omega), ?_⟩
      · rw [hc2, if_pos h]; exact wz (by omega) (by omega) (by omega)
      · rw [hc2, if_neg (by rw [h]; decide)]; rfl
    · refine ⟨i + 1, by omega, by omega, wz (by omega) (by omega) (by omega), ?_⟩
      rw [hs, List.take_of_length_le (by omega)]; exact iz (by omega)
  · have e : i = List.length t := by omega
    rw [hlk, e]
theorem tlinks_ok : ConOK Tryz.prog 53 tlinksC := by
  refine con_ok tab_ok (Γ := Γtlinks) (consOK_cons tentries_ok consOK_nil) (by kernel_rfl) Tryz.func53 (by kernel_rfl) ?_
  intro args out h
  obtain ⟨x, e, h1⟩ := conN_inv h
  clear h
  obtain ⟨t, ino, x0⟩ := x
  subst e
  replace h1 : (if fitT t then some ⟨.val ⟨.int .i64, linksT t ino⟩, []⟩ else none) = some out := h1
  split at h1
  case isFalse => cases h1
  rename_i hr
  injection h1 with h1
  subst h1
  exact ⟨by rw [mkArgs_len]; decide, tlinks_ex t ino hr⟩
end Go.Proofs.YtodkmhamaahjmaaGreatDoor
