/- Texts joined: Ref6c, Ref6d. -/
import Derived.Test.YtodkmhamaahjmaaGreatDoorG4
import Derived.Test.YtodkmhamaahjmaaGreatDoorG1
/- The reference's folders and trees, walked. -/
set_option maxRecDepth 100000
set_option maxHeartbeats 1000000
set_option linter.unusedSimpArgs false
set_option linter.unusedVariables false
set_option pp.deepTerms.threshold 60
namespace Go.Proofs.YtodkmhamaahjmaaGreatDoor
open Go.Tm Go.IntWalk
/-- The contract of glacisref6.Names. -/
def rnamesC : Con := conN [(.v, TreeT), (.v, .int .i64)] fun (t, i, _) => if fitT t then some ⟨.val ⟨.slice EntT, namesT t i⟩, []⟩ else none
theorem rnamesC_eq {t : Ty.den (TreeT)} {i : Int} : rnamesC [.val ⟨TreeT, t⟩, .val ⟨.int .i64, i⟩] = if fitT t then some ⟨.val ⟨.slice EntT, namesT t i⟩, []⟩ else none := conN_mk (ks := [(.v, TreeT), (.v, .int .i64)]) (t, i, ())
def Γrnames : Cons := cons [(55, rtakeDC)]
theorem rnames_ex (t : Ty.den (TreeT)) (i : Int) (hr : fitT t) : Ex tab Γrnames (Tryz.f42.body.getD .skip) (EndsF tab Tryz.f42.results.toList [.val ⟨TreeT, t⟩, .val ⟨.int .i64, i⟩] ⟨.val ⟨.slice EntT, namesT t i⟩, []⟩) (ini [.val ⟨TreeT, t⟩, .val ⟨.int .i64, i⟩]) := by
  have g_rtakeD : Γrnames 55 = some rtakeDC := rfl
  simp only [Tryz.f42, Option.getD_some]
  simp (implicitDefEqProofs := false) (decide := true) (maxSteps := 4000000) [ini, g_rtakeD, rtakeDC_eq]
  have hb := fit_body hr i
  refine br_dec (fun h => ?_) fun h1 hl => br_dec (fun h => ?_) fun h2 => ?_
  · rw [namesT, if_pos (.inl h)]
  · rw [namesT, if_pos (.inr (.inl h))]
  have w1 : IntKind.i64.wrap (i - 1) = i - 1 := i64_in _ (by have : t.length ≤ 1000 := hr.1; omega)
  rw [w1]
  have hg : t[(i - 1).toNat]?.getD ((0, 0, no, ()) : Node) = nodeT t i := by unfold nodeT; rw [List.getD_eq_getElem?_getD]; rfl
  rw [show t[(i - 1).toNat]?.getD ((0, 0, { data := #[] }, ()) : Node) = nodeT t i from hg]
  refine ⟨⟨by omega, by omega⟩, br_intro (fun h => ?_) fun h3 => ⟨⟨by omega, by omega⟩, hb, ?_⟩⟩
  · rw [namesT, if_pos (.inr (.inr (by unfold kindT; simpa using h)))]
  · rw [namesT, if_neg (by
      rintro (h | h | h)
      · exact h1 h
      · exact h2 h
      · apply h; unfold kindT; simpa using h3)]
    rfl
theorem rnames_ok : ConOK Tryz.prog 42 rnamesC := by
  refine con_ok tab_ok (Γ := Γrnames) (consOK_cons rtakeD_ok consOK_nil) (by kernel_rfl) Tryz.func42 (by kernel_rfl) ?_
  intro args out h
  obtain ⟨x, e, h1⟩ := conN_inv h
  clear h
  obtain ⟨t, i, x0⟩ := x
  subst e
  replace h1 : (if fitT t then some ⟨.val ⟨.slice EntT, namesT t i⟩, []⟩ else none) = some out := h1
  split at h1
  case isFalse => cases h1
  rename_i hr
  injection h1 with h1
  subst h1
  exact ⟨by rw [mkArgs_len]; decide, rnames_ex t i hr⟩
/-- The contract of glacisref6.NewTree. -/
def rnewTC : Con := conN [] fun _ => some ⟨.val ⟨TreeT, newT⟩, []⟩
theorem rnewTC_eq  : rnewTC [] = some ⟨.val ⟨TreeT, newT⟩, []⟩ := conN_mk (ks := []) (())
def ΓrnewT : Cons := cons []
theorem rnewT_ex  : Ex tab ΓrnewT (Tryz.f22.body.getD .skip) (EndsF tab Tryz.f22.results.toList [] ⟨.val ⟨TreeT, newT⟩, []⟩) (ini []) := by
  simp only [Tryz.f22, Option.getD_some]
  simp (implicitDefEqProofs := false) (decide := true) (maxSteps := 4000000) [ini]
theorem rnewT_ok : ConOK Tryz.prog 22 rnewTC := by
  refine con_ok tab_ok (Γ := ΓrnewT) consOK_nil (by kernel_rfl) Tryz.func22 (by kernel_rfl) ?_
  intro args out h
  obtain ⟨x, e, h1⟩ := conN_inv h
  clear h
  subst e
  replace h1 : (some ⟨.val ⟨TreeT, newT⟩, []⟩) = some out := h1
  injection h1 with h1
  subst h1
  exact ⟨by rw [mkArgs_len]; decide, rnewT_ex⟩
/-- The contract of glacisref6.with. -/
def rset6C : Con := conN [(.v, TreeT), (.v, .int .i64), (.v, NodeT)] fun (t, i, n, _) => if fitT t ∧ 1 ≤ i ∧ i ≤ (t.length : Int) then some ⟨.val ⟨TreeT, setT t i n⟩, []⟩ else none
theorem rset6C_eq {t : Ty.den (TreeT)} {i : Int} {n : Ty.den (NodeT)} : rset6C [.val ⟨TreeT, t⟩, .val ⟨.int .i64, i⟩, .val ⟨NodeT, n⟩] = if fitT t ∧ 1 ≤ i ∧ i ≤ (t.length : Int) then some ⟨.val ⟨TreeT, setT t i n⟩, []⟩ else none := conN_mk (ks := [(.v, TreeT), (.v, .int .i64), (.v, NodeT)]) (t, i, n, ())
def Γrset6 : Cons := cons []
theorem rset6_ex (t : Ty.den (TreeT)) (i : Int) (n : Ty.den (NodeT)) (hr : fitT t ∧ 1 ≤ i ∧ i ≤ (t.length : Int)) : Ex tab Γrset6 (Tryz.f44.body.getD .skip) (EndsF tab Tryz.f44.results.toList [.val ⟨TreeT, t⟩, .val ⟨.int .i64, i⟩, .val ⟨NodeT, n⟩] ⟨.val ⟨TreeT, setT t i n⟩, []⟩) (ini [.val ⟨TreeT, t⟩, .val ⟨.int .i64, i⟩, .val ⟨NodeT, n⟩]) := by
  simp only [Tryz.f44, Option.getD_some]
  simp (implicitDefEqProofs := false) (decide := true) (maxSteps := 4000000) [ini]
  obtain ⟨⟨h1, h2⟩, h3, h4⟩ := hr
  have w1 : IntKind.i64.wrap (i - 1) = i - 1 := i64_in _ (by omega)
  rw [w1]
  exact ⟨by omega, ⟨by omega, by omega⟩, by omega, rfl⟩
theorem rset6_ok : ConOK Tryz.prog 44 rset6C := by
  refine con_ok tab_ok (Γ := Γrset6) consOK_nil (by kernel_rfl) Tryz.func44 (by kernel_rfl) ?_
  intro args out h
  obtain ⟨x, e, h1⟩ := conN_inv h
  clear h
  obtain ⟨t, i, n, x0⟩ := x
  subst e
  replace h1 : (if fitT t ∧ 1 ≤ i ∧ i ≤ (t.length : Int) then some ⟨.val ⟨TreeT, setT t i n⟩, []⟩ else none) = some out := h1
  split at h1
  case isFalse => cases h1
  rename_i hr
  injection h1 with h1
  subst h1
  exact ⟨by rw [mkArgs_len]; decide, rset6_ex t i n hr⟩
end Go.Proofs.YtodkmhamaahjmaaGreatDoor

/- The reference's ways, walked in a tree. -/
set_option maxRecDepth 100000
set_option maxHeartbeats 1000000
set_option linter.unusedSimpArgs false
set_option linter.unusedVariables false
set_option pp.deepTerms.threshold 60
namespace Go.Proofs.YtodkmhamaahjmaaGreatDoor
open Go.Tm Go.IntWalk
theorem kind_at {t : List Node} {i : Int} : t[(i - 1).toNat]?.getD ((0, 0, { data := #[] }, ()) : Node) = nodeT t i := by unfold nodeT; rw [List.getD_eq_getElem?_getD]; rfl
theorem withD_mem {l : List Ent} {e x : Ent} (h : x ∈ (withD l e).1) : x = e ∨ x ∈ l := by
  unfold withD at h
  split at h
  · exact .inr h
  · have key : ∀ l : List Ent, x ∈ insD e l → x = e ∨ x ∈ l := by
      intro l
      induction l with
      | nil => intro h; exact .inl (List.mem_singleton.1 h)
      | cons y r ih =>
        intro h
        rw [insD] at h
        split at h
        · exact List.mem_cons.1 h
        · rcases List.mem_cons.1 h with rfl | h
          · exact .inr (by simp)
          · exact (ih h).imp id (List.mem_cons_of_mem _)
    exact key l h
theorem lessD_mem {l : List Ent} {nm : ByteArray} {x : Ent} (h : x ∈ (lessD l nm).1) : x ∈ l := by
  unfold lessD at h
  split at h
  · exact (List.mem_filter.1 h).1
  · exact h
theorem wz {a b : Int} (h : a = b) (h1 : -9223372036854775808 ≤ b) (h2 : b ≤ 9223372036854775807) : IntKind.i64.wrap a = b := by rw [h]; exact i64_in _ ⟨h1, h2⟩
theorem iz {a b : Int} (h : a = b) : a = b := h
/-- The contract of glacisref6.walk. -/
def rwalkC : Con := conN [(.v, TreeT), (.v, .slice .str)] fun (t, l, _) => if fitT t then some ⟨.tup [⟨.int .i64, (walk0 t l).1⟩, ⟨.int .i64, (walk0 t l).2⟩], []⟩ else none
theorem rwalkC_eq {t : Ty.den (TreeT)} {l : List ByteArray} : rwalkC [.val ⟨TreeT, t⟩, .val ⟨.slice .str, l⟩] = if fitT t then some ⟨.tup [⟨.int .i64, (walk0 t l).1⟩, ⟨.int .i64, (walk0 t l).2⟩], []⟩ else none := conN_mk (ks := [(.v, TreeT), (.v, .slice .str)]) (t, l, ())
def Γrwalk : Cons := cons [(42, rnamesC), (41, rfindDC)]
theorem rwalk_ex (t : Ty.den (TreeT)) (l : List ByteArray) (hr : fitT t) : Ex tab Γrwalk (Tryz.f56.body.getD .skip) (EndsF tab Tryz.f56.results.toList [.val ⟨TreeT, t⟩, .val ⟨.slice .str, l⟩] ⟨.tup [⟨.int .i64, (walk0 t l).1⟩, ⟨.int .i64, (walk0 t l).2⟩], []⟩) (ini [.val ⟨TreeT, t⟩, .val ⟨.slice .str, l⟩]) := by
  have g_rnames : Γrwalk 42 = some rnamesC := rfl
  have g_rfindD : Γrwalk 41 = some rfindDC := rfl
  simp only [Tryz.f56, Option.getD_some]
  simp (implicitDefEqProofs := false) (decide := true) (maxSteps := 4000000) [ini, g_rnames, rnamesC_eq, g_rfindD, rfindDC_eq]
  have ht : t.length ≤ 1000 := hr.1
  intro _
  refine br_dec (fun h => ?_) fun h0 => ?_
  · rw [walk0, if_pos (by omega)]; exact ⟨rfl, rfl⟩
  have hw0 : walk0 t l = walkT t 1 l := if_neg (by omega)
  refine ex_loopU (σ := Nat × Int) [4, 5, 6, 7, 8, 9, 13, 14, 15, 16, 17, 18, 19, 20, 21, 22, 23, 24, 25, 26, 27, 28, 29, 30, 31, 32, 33, 34, 35, 36, 37, 38, 39, 40, 41, 42, 43, 44, 45] (fun a => [(7, .val (.int .i64) (a.1 : Int)), (6, .val (.int .i64) a.2)]) (fun a => a.1 ≤ l.length ∧ 1 ≤ a.2 ∧ a.2 ≤ (t.length : Int) ∧ walkT t a.2 (l.drop a.1) = walk0 t l) (fun a => l.length - a.1) (0, 1) ⟨Nat.zero_le _, by decide, by simp only; omega, by rw [hw0]; rfl⟩ (hc rfl (hc rfl hn)) ?_
  rintro j ⟨i, at'⟩ ⟨hi, ha1, ha2, hw⟩
  simp only at hi ha1 ha2 hw
  simp (implicitDefEqProofs := false) (decide := true) (maxSteps := 4000000) [ini, g_rnames, rnamesC_eq, g_rfindD, rfindDC_eq]
  intro hl63
  have hl63 : l.length ≤ 9223372036854775807 := hl63
  have w1 : IntKind.i64.wrap (at' - 1) = at' - 1 := i64_in _ (by omega)
  rw [w1, kind_at]
  refine br_dec (fun hlt => ⟨⟨by omega, by omega⟩, ?_⟩) fun hge => ?_
  · obtain ⟨x, hd, hx, _, _⟩ := split_at hlt
    rw [hx]
    rw [hd, walkT] at hw
    refine br_intro (fun h => ?_) fun h1 => ⟨hr, hlt, ?_⟩
    · rw [if_pos (by unfold kindT; simpa using h)] at hw
      rw [← hw]; exact ⟨rfl, rfl⟩
    rw [if_neg (by unfold kindT; simpa using h1)] at hw
    refine br_intro (fun h => ?_) fun h2 _ => br_dec (fun h => ?_) fun h3 => ?_
    · rw [if_pos (.inl (by simpa using h))] at hw
      rw [← hw]; exact ⟨rfl, rfl⟩
    · rw [if_pos (.inr h)] at hw
      rw [← hw]; exact ⟨rfl, rfl⟩
    · have hf : (findD (namesT t at') x).2 = true := by simpa using h2
      have hfr := findD_range (fun e he => namesT_ok he) x hf
      rw [if_neg (by
        rintro (h | h)
        · rw [hf] at h; cases h
        · exact h3 h)] at hw
      exact ⟨i + 1, _, ⟨by omega, hfr.1, by omega, hw⟩, by omega, w_nat rfl (by omega), rfl⟩
  · rw [List.drop_eq_nil_of_le (by omega), walkT] at hw
    rw [← hw]; exact ⟨rfl, rfl⟩
theorem rwalk_ok : ConOK Tryz.prog 56 rwalkC := by
  refine con_ok tab_ok (Γ := Γrwalk) (consOK_cons rnames_ok (consOK_cons rfindD_ok consOK_nil)) (by kernel_rfl) Tryz.func56 (by kernel_rfl) ?_
  intro args out h
  obtain ⟨x, e, h1⟩ := conN_inv h
  clear h
  obtain ⟨t, l, x0⟩ := x
  subst e
  replace h1 : (if fitT t then some ⟨.tup [⟨.int .i64, (walk0 t l).1⟩, ⟨.int .i64, (walk0 t l).2⟩], []⟩ else none) = some out := h1
  split at h1
  case isFalse => cases h1
  rename_i hr
  injection h1 with h1
  subst h1
  exact ⟨by rw [mkArgs_len]; decide, rwalk_ex t l hr⟩
/-- The contract of glacisref6.Find. -/
def rfindTC : Con := conN [(.v, TreeT), (.v, .str), (.v, .bool)] fun (t, p, own, _) => if fitT t ∧ p.size ≤ 4000000000 then some ⟨.tup [⟨.int .i64, (findT t p own).1⟩, ⟨.int .i64, (findT t p own).2⟩], []⟩ else none
theorem rfindTC_eq {t : Ty.den (TreeT)} {p : ByteArray} {own : Bool} : rfindTC [.val ⟨TreeT, t⟩, .val ⟨.str, p⟩, .val ⟨.bool, own⟩] = if fitT t ∧ p.size ≤ 4000000000 then some ⟨.tup [⟨.int .i64, (findT t p own).1⟩, ⟨.int .i64, (findT t p own).2⟩], []⟩ else none := conN_mk (ks := [(.v, TreeT), (.v, .str), (.v, .bool)]) (t, p, own, ())
def ΓrfindT : Cons := cons [(39, rpartsC), (56, rwalkC)]
theorem rfindT_ex (t : Ty.den (TreeT)) (p : ByteArray) (own : Bool) (hr : fitT t ∧ p.size ≤ 4000000000) : Ex tab ΓrfindT (Tryz.f26.body.getD .skip) (EndsF tab Tryz.f26.results.toList [.val ⟨TreeT, t⟩, .val ⟨.str, p⟩, .val ⟨.bool, own⟩] ⟨.tup [⟨.int .i64, (findT t p own).1⟩, ⟨.int .i64, (findT t p own).2⟩], []⟩) (ini [.val ⟨TreeT, t⟩, .val ⟨.str, p⟩, .val ⟨.bool, own⟩]) := by
  have g_rparts : ΓrfindT 39 = some rpartsC := rfl
  have g_rwalk : ΓrfindT 56 = some rwalkC := rfl
  simp only [Tryz.f26, Option.getD_some]
  simp (implicitDefEqProofs := false) (decide := true) (maxSteps := 4000000) [ini, g_rparts, rpartsC_eq, g_rwalk, rwalkC_eq]
  refine ⟨hr.2, br_intro (fun h => ?_) fun h => ⟨hr.1, ?_⟩⟩
  · rw [findT, if_pos (by simpa using h)]; exact ⟨rfl, rfl⟩
  · rw [findT, if_neg (by simpa using h)]; exact ⟨rfl, rfl⟩
theorem rfindT_ok : ConOK Tryz.prog 26 rfindTC := by
  refine con_ok tab_ok (Γ := ΓrfindT) (consOK_cons rparts_ok (consOK_cons rwalk_ok consOK_nil)) (by kernel_rfl) Tryz.func26 (by kernel_rfl) ?_
  intro args out h
  obtain ⟨x, e, h1⟩ := conN_inv h
  clear h
  obtain ⟨t, p, own, x0⟩ := x
  subst e
  replace h1 : (if fitT t ∧ p.size ≤ 4000000000 then some ⟨.tup [⟨.int .i64, (findT t p own).1⟩, ⟨.int .i64, (findT t p own).2⟩], []⟩ else none) = some out := h1
  split at h1
  case isFalse => cases h1
  rename_i hr
  injection h1 with h1
  subst h1
  exact ⟨by rw [mkArgs_len]; decide, rfindT_ex t p own hr⟩
/-- The contract of glacisref6.Links. -/
def rlinksC : Con := conN [(.v, TreeT), (.v, .int .i64)] fun (t, ino, _) => if fitT t then some ⟨.val ⟨.int .i64, linksT t ino⟩, []⟩ else none
theorem rlinksC_eq {t : Ty.den (TreeT)} {ino : Int} : rlinksC [.val ⟨TreeT, t⟩, .val ⟨.int .i64, ino⟩] = if fitT t then some ⟨.val ⟨.int .i64, linksT t ino⟩, []⟩ else none := conN_mk (ks := [(.v, TreeT), (.v, .int .i64)]) (t, ino, ())
def Γrlinks : Cons := cons [(42, rnamesC)]
theorem rlinks_ex (t : Ty.den (TreeT)) (ino : Int) (hr : fitT t) : Ex tab Γrlinks (Tryz.f28.body.getD .skip) (EndsF tab Tryz.f28.results.toList [.val ⟨TreeT, t⟩, .val ⟨.int .i64, ino⟩] ⟨.val ⟨.int .i64, linksT t ino⟩, []⟩) (ini [.val ⟨TreeT, t⟩, .val ⟨.int .i64, ino⟩]) := by
  have g_rnames : Γrlinks 42 = some rnamesC := rfl
  simp only [Tryz.f28, Option.getD_some]
  simp (implicitDefEqProofs := false) (decide := true) (maxSteps := 4000000) [ini, g_rnames, rnamesC_eq]
  have ht : t.length ≤ 1000 := hr.1
  refine br_intro (fun h => ?_) fun h0 => ?_
  · rw [linksT, if_pos (by simpa using h)]
  have hlk : linksT t ino = (cntT t ino t.length : Int) := if_neg (by simpa using h0)
  refine ex_loopU (σ := Nat) [5, 6, 7, 8, 11, 12, 13, 14, 15, 16, 17, 18, 19, 20, 21, 22, 23, 24, 25, 26, 27, 28, 29, 30, 31, 32, 33, 34] (fun a => [(6, .val (.int .i64) ((a + 1 : Nat) : Int)), (5, .val (.int .i64) (cntT t ino a : Int))]) (fun a => a ≤ t.length) (fun a => t.length - a) 0 (Nat.zero_le _) (hc rfl (hc rfl hn)) ?_
  rintro j i hi
  simp (implicitDefEqProofs := false) (decide := true) (maxSteps := 4000000) [ini, g_rnames, rnamesC_eq]
  intro _
  refine br_dec (fun hlt => ⟨hr, ?_⟩) fun hge => ?_
  · refine ex_loopU (σ := Nat) [5, 8, 20, 21, 22, 23, 24, 25, 26, 27, 28, 29, 30, 31, 32, 33, 34] (fun a => [(8, .val (.int .i64) (a : Int)), (5, .val (.int .i64) ((cntT t ino i + cntE ((namesT t ((i + 1 : Nat) : Int)).take a) ino : Nat) : Int))]) (fun a => a ≤ (namesT t ((i + 1 : Nat) : Int)).length) (fun a => (namesT t ((i + 1 : Nat) : Int)).length - a) 0 (Nat.zero_le _) (hc rfl (hc rfl hn)) ?_
    rintro j2 k hk
    have hlt : i + 1 ≤ t.length := by omega
    simp (implicitDefEqProofs := false) (decide := true) (maxSteps := 4000000) [ini, g_rnames, rnamesC_eq]
    intro _
    have h40 := namesT_len t ((i : Int) + 1)
    have hs := cntT_succ t ino i
    have hle := cntT_le t ino i
    rw [show ((i + 1 : Nat) : Int) = (i : Int) + 1 by omega] at hs hk
    obtain ⟨L, hL⟩ : ∃ L, namesT t ((i : Int) + 1) = L := ⟨_, rfl⟩
    rw [hL] at hs h40 hk ⊢
    have hk : k ≤ L.length := hk
    refine br_dec (fun hlt2 => ⟨hlt2, ?_⟩) fun hge => ?_
    · obtain ⟨x, hd, hx, _, ht2⟩ := split_at hlt2
      rw [hx]
      have hc1 := cntE_le (L.take k) ino
      rw [List.length_take] at hc1
      have hc2 : cntE (L.take (k + 1)) ino = cntE (L.take k) ino + if (x.2.1 == ino) = true then 1 else 0 := by
        rw [ht2]; simp [cntE, List.countP_append, List.countP_cons]
      refine br_intro (fun h => ⟨k + 1, by omega, by omega, w_nat rfl (by omega), ?_⟩) fun h => ⟨k + 1, by omega, by omega, w_nat rfl (by omega), ?_⟩
      · rw [hc2, if_pos h]; exact wz (by omega) (by omega) (by omega)
      · rw [hc2, if_neg (by rw [h]; decide)]; rfl
    · refine ⟨i + 1, by omega, by omega, wz (by omega) (by omega) (by omega), ?_⟩
      rw [hs, List.take_of_length_le (by omega)]; exact iz (by omega)
  · obtain rfl : i = t.length := by omega
    exact hlk.symm
theorem rlinks_ok : ConOK Tryz.prog 28 rlinksC := by
  refine con_ok tab_ok (Γ := Γrlinks) (consOK_cons rnames_ok consOK_nil) (by kernel_rfl) Tryz.func28 (by kernel_rfl) ?_
  intro args out h
  obtain ⟨x, e, h1⟩ := conN_inv h
  clear h
  obtain ⟨t, ino, x0⟩ := x
  subst e
  replace h1 : (if fitT t then some ⟨.val ⟨.int .i64, linksT t ino⟩, []⟩ else none) = some out := h1
  split at h1
  case isFalse => cases h1
  rename_i hr
  injection h1 with h1
  subst h1
  exact ⟨by rw [mkArgs_len]; decide, rlinks_ex t ino hr⟩
/-- The contract of glacisref6.place. -/
def rplaceC : Con := conN [(.v, TreeT), (.v, .slice .str)] fun (t, l, _) => if fitT t ∧ 1 ≤ l.length ∧ l.length ≤ 1000 then some ⟨.tup [⟨.int .i64, (placeT t l).1⟩, ⟨.str, (placeT t l).2.1⟩, ⟨.int .i64, (placeT t l).2.2⟩], []⟩ else none
theorem rplaceC_eq {t : Ty.den (TreeT)} {l : List ByteArray} : rplaceC [.val ⟨TreeT, t⟩, .val ⟨.slice .str, l⟩] = if fitT t ∧ 1 ≤ l.length ∧ l.length ≤ 1000 then some ⟨.tup [⟨.int .i64, (placeT t l).1⟩, ⟨.str, (placeT t l).2.1⟩, ⟨.int .i64, (placeT t l).2.2⟩], []⟩ else none := conN_mk (ks := [(.v, TreeT), (.v, .slice .str)]) (t, l, ())
def Γrplace : Cons := cons [(56, rwalkC)]
theorem rplace_ex (t : Ty.den (TreeT)) (l : List ByteArray) (hr : fitT t ∧ 1 ≤ l.length ∧ l.length ≤ 1000) : Ex tab Γrplace (Tryz.f40.body.getD .skip) (EndsF tab Tryz.f40.results.toList [.val ⟨TreeT, t⟩, .val ⟨.slice .str, l⟩] ⟨.tup [⟨.int .i64, (placeT t l).1⟩, ⟨.str, (placeT t l).2.1⟩, ⟨.int .i64, (placeT t l).2.2⟩], []⟩) (ini [.val ⟨TreeT, t⟩, .val ⟨.slice .str, l⟩]) := by
  have g_rwalk : Γrplace 56 = some rwalkC := rfl
  simp only [Tryz.f40, Option.getD_some]
  simp (implicitDefEqProofs := false) (decide := true) (maxSteps := 4000000) [ini, g_rwalk, rwalkC_eq]
  intro _
  obtain ⟨h1, h2, h3⟩ := hr
  have ht : t.length ≤ 1000 := h1.1
  have w1 : IntKind.i64.wrap ((l.length : Int) - 1) = ((l.length - 1 : Nat) : Int) := w_nat (by omega) (by omega)
  have hdl : l.take (l.length - 1) = l.dropLast := by rw [List.dropLast_eq_take]
  have hgl : l[l.length - 1]?.getD no = l.getLast?.getD no := by rw [List.getLast?_eq_getElem?]
  rw [w1, Int.toNat_natCast, hdl]
  refine ⟨⟨by omega, by omega⟩, h1, br_intro (fun h => ?_) fun hw => ?_⟩
  · rw [placeT, if_pos (by simpa using h)]; exact ⟨rfl, rfl, rfl⟩
  have hw : (walk0 t l.dropLast).2 = 0 := by simpa using hw
  have hwr := walk0_range hw
  have w2 : IntKind.i64.wrap ((walk0 t l.dropLast).1 - 1) = (walk0 t l.dropLast).1 - 1 := i64_in _ (by omega)
  rw [w2, kind_at]
  refine ⟨⟨by omega, by omega⟩, br_intro (fun h => ?_) fun hk => ⟨⟨by omega, by omega⟩, ?_⟩⟩
  · rw [placeT]
    rw [if_neg (by rw [hw]; decide), if_pos (by unfold kindT; simpa using h)]; exact ⟨rfl, rfl, rfl⟩
  · rw [placeT]
    rw [if_neg (by rw [hw]; decide), if_neg (by unfold kindT; simpa using hk)]; exact ⟨rfl, hgl, rfl⟩
theorem rplace_ok : ConOK Tryz.prog 40 rplaceC := by
  refine con_ok tab_ok (Γ := Γrplace) (consOK_cons rwalk_ok consOK_nil) (by kernel_rfl) Tryz.func40 (by kernel_rfl) ?_
  intro args out h
  obtain ⟨x, e, h1⟩ := conN_inv h
  clear h
  obtain ⟨t, l, x0⟩ := x
  subst e
  replace h1 : (if fitT t ∧ 1 ≤ l.length ∧ l.length ≤ 1000 then some ⟨.tup [⟨.int .i64, (placeT t l).1⟩, ⟨.str, (placeT t l).2.1⟩, ⟨.int .i64, (placeT t l).2.2⟩], []⟩ else none) = some out := h1
  split at h1
  case isFalse => cases h1
  rename_i hr
  injection h1 with h1
  subst h1
  exact ⟨by rw [mkArgs_len]; decide, rplace_ex t l hr⟩
/-- The contract of glacisref6.put. -/
def rputTC : Con := conN [(.v, TreeT), (.v, .int .i64), (.v, EntT)] fun (t, d, e, _) => if fitT t ∧ 1 ≤ d ∧ d ≤ (t.length : Int) ∧ e.1.size ≤ 4000000000 then some ⟨.tup [⟨TreeT, (putT t d e).1⟩, ⟨.bool, (putT t d e).2⟩], []⟩ else none
theorem rputTC_eq {t : Ty.den (TreeT)} {d : Int} {e : Ty.den (EntT)} : rputTC [.val ⟨TreeT, t⟩, .val ⟨.int .i64, d⟩, .val ⟨EntT, e⟩] = if fitT t ∧ 1 ≤ d ∧ d ≤ (t.length : Int) ∧ e.1.size ≤ 4000000000 then some ⟨.tup [⟨TreeT, (putT t d e).1⟩, ⟨.bool, (putT t d e).2⟩], []⟩ else none := conN_mk (ks := [(.v, TreeT), (.v, .int .i64), (.v, EntT)]) (t, d, e, ())
def ΓrputT : Cons := cons [(42, rnamesC), (72, rwithDC), (73, rputDC), (44, rset6C)]
theorem rputT_ex (t : Ty.den (TreeT)) (d : Int) (e : Ty.den (EntT)) (hr : fitT t ∧ 1 ≤ d ∧ d ≤ (t.length : Int) ∧ e.1.size ≤ 4000000000) : Ex tab ΓrputT (Tryz.f43.body.getD .skip) (EndsF tab Tryz.f43.results.toList [.val ⟨TreeT, t⟩, .val ⟨.int .i64, d⟩, .val ⟨EntT, e⟩] ⟨.tup [⟨TreeT, (putT t d e).1⟩, ⟨.bool, (putT t d e).2⟩], []⟩) (ini [.val ⟨TreeT, t⟩, .val ⟨.int .i64, d⟩, .val ⟨EntT, e⟩]) := by
  have g_rnames : ΓrputT 42 = some rnamesC := rfl
  have g_rwithD : ΓrputT 72 = some rwithDC := rfl
  have g_rputD : ΓrputT 73 = some rputDC := rfl
  have g_rset6 : ΓrputT 44 = some rset6C := rfl
  simp only [Tryz.f43, Option.getD_some]
  simp (implicitDefEqProofs := false) (decide := true) (maxSteps := 4000000) [ini, g_rnames, rnamesC_eq, g_rwithD, rwithDC_eq, g_rputD, rputDC_eq, g_rset6, rset6C_eq]
  obtain ⟨h1, h2, h3, h4⟩ := hr
  have ht : t.length ≤ 1000 := h1.1
  have hl := namesT_len t d
  have hsz : ∀ x ∈ (withD (namesT t d) e).1, x.1.size ≤ 4000000000 := fun x hx => by
    rcases withD_mem hx with rfl | hx
    · exact h4
    · have := namesT_size x hx; omega
  have w1 : IntKind.i64.wrap (d - 1) = d - 1 := i64_in _ (by omega)
  rw [w1, kind_at]
  refine ⟨h1, by omega, fun a b u hx => hsz _ hx, br_intro (fun h => ?_) fun h => ⟨⟨by omega, by omega⟩, ⟨h1, h2, h3⟩, ?_⟩⟩
  · rw [putT]
    rw [if_pos (by simpa using h)]; exact ⟨rfl, rfl⟩
  · rw [putT]
    rw [if_neg (by simpa using h)]; exact ⟨rfl, rfl⟩
theorem rputT_ok : ConOK Tryz.prog 43 rputTC := by
  refine con_ok tab_ok (Γ := ΓrputT) (consOK_cons rnames_ok (consOK_cons rwithD_ok (consOK_cons rputD_ok (consOK_cons rset6_ok consOK_nil)))) (by kernel_rfl) Tryz.func43 (by kernel_rfl) ?_
  intro args out h
  obtain ⟨x, e, h1⟩ := conN_inv h
  clear h
  obtain ⟨t, d, e, x0⟩ := x
  subst e
  replace h1 : (if fitT t ∧ 1 ≤ d ∧ d ≤ (t.length : Int) ∧ e.1.size ≤ 4000000000 then some ⟨.tup [⟨TreeT, (putT t d e).1⟩, ⟨.bool, (putT t d e).2⟩], []⟩ else none) = some out := h1
  split at h1
  case isFalse => cases h1
  rename_i hr
  injection h1 with h1
  subst h1
  exact ⟨by rw [mkArgs_len]; decide, rputT_ex t d e hr⟩
/-- The contract of glacisref6.take. -/
def rcutTC : Con := conN [(.v, TreeT), (.v, .int .i64), (.v, .str)] fun (t, d, nm, _) => if fitT t ∧ 1 ≤ d ∧ d ≤ (t.length : Int) then some ⟨.val ⟨TreeT, dropT t d nm⟩, []⟩ else none
theorem rcutTC_eq {t : Ty.den (TreeT)} {d : Int} {nm : ByteArray} : rcutTC [.val ⟨TreeT, t⟩, .val ⟨.int .i64, d⟩, .val ⟨.str, nm⟩] = if fitT t ∧ 1 ≤ d ∧ d ≤ (t.length : Int) then some ⟨.val ⟨TreeT, dropT t d nm⟩, []⟩ else none := conN_mk (ks := [(.v, TreeT), (.v, .int .i64), (.v, .str)]) (t, d, nm, ())
def ΓrcutT : Cons := cons [(42, rnamesC), (78, rlessDC), (73, rputDC), (44, rset6C)]
theorem rcutT_ex (t : Ty.den (TreeT)) (d : Int) (nm : ByteArray) (hr : fitT t ∧ 1 ≤ d ∧ d ≤ (t.length : Int)) : Ex tab ΓrcutT (Tryz.f51.body.getD .skip) (EndsF tab Tryz.f51.results.toList [.val ⟨TreeT, t⟩, .val ⟨.int .i64, d⟩, .val ⟨.str, nm⟩] ⟨.val ⟨TreeT, dropT t d nm⟩, []⟩) (ini [.val ⟨TreeT, t⟩, .val ⟨.int .i64, d⟩, .val ⟨.str, nm⟩]) := by
  have g_rnames : ΓrcutT 42 = some rnamesC := rfl
  have g_rlessD : ΓrcutT 78 = some rlessDC := rfl
  have g_rputD : ΓrcutT 73 = some rputDC := rfl
  have g_rset6 : ΓrcutT 44 = some rset6C := rfl
  simp only [Tryz.f51, Option.getD_some]
  simp (implicitDefEqProofs := false) (decide := true) (maxSteps := 4000000) [ini, g_rnames, rnamesC_eq, g_rlessD, rlessDC_eq, g_rputD, rputDC_eq, g_rset6, rset6C_eq]
  obtain ⟨h1, h2, h3⟩ := hr
  have ht : t.length ≤ 1000 := h1.1
  have hl := namesT_len t d
  have hsz : ∀ x ∈ (lessD (namesT t d) nm).1, x.1.size ≤ 4000000000 := fun x hx => by
    have := namesT_size x (lessD_mem hx); omega
  have w1 : IntKind.i64.wrap (d - 1) = d - 1 := i64_in _ (by omega)
  rw [w1, kind_at]
  exact ⟨h1, by omega, fun a b u hx => hsz _ hx, ⟨by omega, by omega⟩, ⟨h1, h2, h3⟩, rfl⟩
theorem rcutT_ok : ConOK Tryz.prog 51 rcutTC := by
  refine con_ok tab_ok (Γ := ΓrcutT) (consOK_cons rnames_ok (consOK_cons rlessD_ok (consOK_cons rputD_ok (consOK_cons rset6_ok consOK_nil)))) (by kernel_rfl) Tryz.func51 (by kernel_rfl) ?_
  intro args out h
  obtain ⟨x, e, h1⟩ := conN_inv h
  clear h
  obtain ⟨t, d, nm, x0⟩ := x
  subst e
  replace h1 : (if fitT t ∧ 1 ≤ d ∧ d ≤ (t.length : Int) then some ⟨.val ⟨TreeT, dropT t d nm⟩, []⟩ else none) = some out := h1
  split at h1
  case isFalse => cases h1
  rename_i hr
  injection h1 with h1
  subst h1
  exact ⟨by rw [mkArgs_len]; decide, rcutT_ex t d nm hr⟩
end Go.Proofs.YtodkmhamaahjmaaGreatDoor
