/- ops: rows of steps are put. -/
import Derived.Test.YtmcemcdjfodchaaOps5
set_option maxRecDepth 10000
set_option maxHeartbeats 4000000
set_option linter.unusedSimpArgs false
set_option linter.unusedVariables false
set_option pp.deepTerms.threshold 12
namespace Go.Proofs.Ytmcemcdjfodchaa
open Go.Tm Go.IntWalk
theorem isB_putS {b : List Int} (h : isB b) (n : Int) (l : List Int) : isB (putS b n l) := by
  unfold putS
  split
  · exact h
  · intro x hx
    rcases List.mem_append.1 hx with hx | hx
    · exact h x hx
    · obtain ⟨y, _, hy⟩ := List.mem_flatMap.1 hx
      exact isB_bytesN _ _ x hy
theorem isB_textS {b : List Int} (h : isB b) (s : ByteArray) : isB (textS b s) := by
  unfold textS
  split
  · exact h
  · intro x hx
    rcases List.mem_append.1 hx with hx | hx
    · exact h x hx
    · rcases List.mem_cons.1 hx with e | hx
      · rw [e, IntKind.wrap_u8]; omega
      · exact isB_bytesOf s x hx
theorem isB_keepB : ∀ (l : List Bool) {b : List Int}, isB b → isB (keepB b l)
  | [], b, h => h
  | x :: l, b, h => isB_keepB l (isB_putS h _ _)
theorem keepB_len : ∀ (l : List Bool) (b : List Int), (keepB b l).length ≤ b.length + 4 * l.length
  | [], b => Nat.le_refl _
  | x :: l, b => by
    have h1 := keepB_len l (putS b 1 [bitI x])
    have h2 := putS_len b 1 [bitI x]
    rw [keepB]
    simp only [List.length_cons, List.length_nil] at *
    omega
theorem isB_putO (s : Step) : isB (putO s) := by
  obtain ⟨k, v, id, mo, off, path, to, txt, keep, un⟩ := s
  have h0 : isB ([] : List Int) := fun x hx => by cases hx
  have h1 := isB_putS h0 1 [k, v]
  have h2 := isB_textS h1 path
  unfold putO
  simp only
  repeat' first
    | exact isB_putS h2 _ _
    | exact isB_textS h2 _
    | exact h2
    | exact isB_textS (isB_putS h2 _ _) _
    | exact isB_putS h1 _ _
    | exact isB_keepB _ (isB_putS h1 _ _)
    | exact h1
    | split
    | fail
theorem putO_len0 (s : Step) : (putO s).length ≤ 30 + s.2.2.2.2.2.1.size + s.2.2.2.2.2.2.1.size + s.2.2.2.2.2.2.2.1.size + 4 * s.2.2.2.2.2.2.2.2.1.length := by
  obtain ⟨k, v, id, mo, off, path, to, txt, keep, un⟩ := s
  simp only
  have a1 := putS_len [] 1 [k, v]
  have a2 := textS_len (putS [] 1 [k, v]) path
  have b1 := fun n x => putS_len (textS (putS [] 1 [k, v]) path) n [x]
  have b2 := textS_len (textS (putS [] 1 [k, v]) path) to
  have b3 := textS_len (putS (textS (putS [] 1 [k, v]) path) 2 [off]) txt
  have c1 := fun n x => putS_len (putS [] 1 [k, v]) n [x]
  have c2 := putS_len (putS [] 1 [k, v]) 1 [id, off]
  have c3 := keepB_len keep (putS (putS [] 1 [k, v]) 1 [(keep.length : Int)])
  have d1 := b1 2 off
  have c4 := c1 1 (keep.length : Int)
  simp only [List.length_cons, List.length_nil] at a1 a2 b1 b2 b3 c1 c2 c3 c4 d1
  unfold putO
  simp only
  repeat' first
    | omega
    | exact Nat.le_trans (b1 _ _) (by omega)
    | exact Nat.le_trans (c1 _ _) (by omega)
    | split
    | fail
theorem putO_len {s : Step} (h : okSz s) : (putO s).length ≤ 40000000 := by
  obtain ⟨z1, z2, z3, z4⟩ := h
  have := putO_len0 s
  omega
/-- May a step be said? -/
def sayS (s : Step) : Bool := decide (1 ≤ s.1) && decide (s.1 < 21) && decide (s.2.2.2.2.2.2.2.2.1.length ≤ 40) && decide (stepsD (putO s) = [s])
def putL (l : List Step) : List Int := l.flatMap fun s => if sayS s = true then putO s else []
theorem sayS_lo {s : Step} (h : s.1 < 1) : sayS s = false := by
  unfold sayS; rw [decide_eq_false (p := 1 ≤ s.1) (by omega)]; rfl
theorem sayS_hi {s : Step} (h : 21 ≤ s.1) : sayS s = false := by
  unfold sayS; rw [decide_eq_false (p := s.1 < 21) (by omega)]; simp
theorem sayS_long {s : Step} (h : 40 < ((s.2.2.2.2.2.2.2.2.1.length : Nat) : Int)) : sayS s = false := by
  unfold sayS; rw [decide_eq_false (p := s.2.2.2.2.2.2.2.2.1.length ≤ 40) (by omega)]; simp
theorem sayS_yes {s : Step} (h1 : ¬ s.1 < 1) (h2 : ¬ 21 ≤ s.1) (h3 : ¬ 40 < ((s.2.2.2.2.2.2.2.2.1.length : Nat) : Int)) (h4 : stepsD (putO s) = [s]) : sayS s = true := by
  unfold sayS
  rw [decide_eq_true (p := 1 ≤ s.1) (by omega), decide_eq_true (p := s.1 < 21) (by omega), decide_eq_true (p := s.2.2.2.2.2.2.2.2.1.length ≤ 40) (by omega), decide_eq_true h4]
  rfl
theorem sayS_kind {s : Step} (h1 : ¬ s.1 < 1) (h2 : ¬ 21 ≤ s.1) : 1 ≤ s.1 ∧ s.1 ≤ 20 := by omega
theorem one_is {x : List Step} {s d : Step} (h : ((x.length : Int) == 1) = true) (h2 : sameS (x[0]?.getD d) s = true) : x = [s] := by
  have h := eq_of_beq h
  match x, h with
  | [y], _ => rw [← sameS_is h2]; rfl
theorem putL_next {l : List Step} {i : Nat} (h : i < l.length) : putL (l.take (i + 1)) = putL (l.take i) ++ if sayS l[i] = true then putO l[i] else [] := by
  rw [List.take_succ_eq_append_getElem h]
  unfold putL
  rw [List.flatMap_append]
  simp
theorem split_at {α : Type} {l : List α} {i : Nat} (h : i < l.length) : ∃ x, l.drop i = x :: l.drop (i + 1) ∧ (∀ d, l[i]?.getD d = x) ∧ x ∈ l ∧ l.take (i + 1) = l.take i ++ [x] :=
  ⟨l[i], List.drop_eq_getElem_cons h, fun d => by rw [List.getElem?_eq_getElem h]; rfl, List.getElem_mem h, List.take_succ_eq_append_getElem h⟩
def allSz (l : List Step) : Prop := ∀ s ∈ l, okSz s
instance {l : List Step} : Decidable (allSz l) := inferInstanceAs (Decidable (∀ s ∈ l, okSz s))
/-- The contract of ops.Put. -/
def oPutC : Con := conN [(.v, .slice (.prod (.int .i64) (.prod (.int .i64) (.prod (.int .i64) (.prod (.int .i64) (.prod (.int .i64) (.prod .str (.prod .str (.prod .str (.prod (.slice .bool) .unit))))))))))] fun (l, _) => if allSz l ∧ l.length ≤ 1000 then some ⟨.own (.int .u8) (putL l), []⟩ else none
theorem oPutC_eq {l : List (Ty.den (.prod (.int .i64) (.prod (.int .i64) (.prod (.int .i64) (.prod (.int .i64) (.prod (.int .i64) (.prod .str (.prod .str (.prod .str (.prod (.slice .bool) .unit))))))))))} : oPutC [.val ⟨.slice (.prod (.int .i64) (.prod (.int .i64) (.prod (.int .i64) (.prod (.int .i64) (.prod (.int .i64) (.prod .str (.prod .str (.prod .str (.prod (.slice .bool) .unit))))))))), l⟩] = if allSz l ∧ l.length ≤ 1000 then some ⟨.own (.int .u8) (putL l), []⟩ else none := conN_mk (ks := [(.v, .slice (.prod (.int .i64) (.prod (.int .i64) (.prod (.int .i64) (.prod (.int .i64) (.prod (.int .i64) (.prod .str (.prod .str (.prod .str (.prod (.slice .bool) .unit))))))))))]) (l, ())
def ΓoPut : Cons := cons [(26, oputC), (13, ostepsC), (27, osameC)]
theorem oPut_ex (l : List (Ty.den (.prod (.int .i64) (.prod (.int .i64) (.prod (.int .i64) (.prod (.int .i64) (.prod (.int .i64) (.prod .str (.prod .str (.prod .str (.prod (.slice .bool) .unit))))))))))) (hr : allSz l ∧ l.length ≤ 1000) : Ex tab ΓoPut (Try.f15.body.getD .skip) (EndsF tab Try.f15.results.toList [.val ⟨.slice (.prod (.int .i64) (.prod (.int .i64) (.prod (.int .i64) (.prod (.int .i64) (.prod (.int .i64) (.prod .str (.prod .str (.prod .str (.prod (.slice .bool) .unit))))))))), l⟩] ⟨.own (.int .u8) (putL l), []⟩) (ini [.val ⟨.slice (.prod (.int .i64) (.prod (.int .i64) (.prod (.int .i64) (.prod (.int .i64) (.prod (.int .i64) (.prod .str (.prod .str (.prod .str (.prod (.slice .bool) .unit))))))))), l⟩]) := by
  have g_oput : ΓoPut 26 = some oputC := rfl
  have g_osteps : ΓoPut 13 = some ostepsC := rfl
  have g_osame : ΓoPut 27 = some osameC := rfl
  simp only [Try.f15, Option.getD_some]
  simp (implicitDefEqProofs := false) (decide := true) (maxSteps := 4000000) [ini, g_oput, oputC_eq, g_osteps, ostepsC_eq, g_osame, osameC_eq]
  obtain ⟨hz, hl⟩ := hr
  intro _
  refine ex_loopN 3 (.int .u8) rfl (σ := Nat × Nat × List Int) (Dn [3, 5, 6, 7, 10] 11 35) (fun a => [(10, .val (.int .i64) (a.1 : Int)), (3, .own a.2.1 (.int .u8) a.2.2)]) (fun a => a.1 ≤ l.length ∧ a.2.2.length ≤ 40000000 * a.1 ∧ a.2.2 = putL (l.take a.1)) (fun a => l.length - a.1) (fun m => ⟨(0, m, []), ⟨Nat.zero_le _, Nat.le_refl _, rfl⟩, hc rfl (hc rfl hn)⟩) ?_
  rintro m j ⟨i, q, row⟩ ⟨hi, hr1, hr2⟩
  simp only at hi hr1 hr2
  by_cases hlt : i < l.length
  · obtain ⟨s, _, hs, hmem, htk⟩ := split_at hlt
    have hzs := hz s hmem
    have hlt2 : (i : Int) < l.length := by omega
    simp (implicitDefEqProofs := false) (decide := true) (maxSteps := 4000000) [ini, g_oput, oputC_eq, g_osteps, ostepsC_eq, g_osame, osameC_eq, hlt]
    have hzs : okSz l[i] := hz _ (List.getElem_mem hlt)
    have hpl := putO_len hzs
    have hnx := putL_next hlt
    generalize l[i] = s at hzs hpl hnx ⊢
    have hno : sayS s = false → ∃ a a_1 b, (a ≤ l.length ∧ b.length ≤ 40000000 * a ∧ b = putL (List.take a l)) ∧ l.length - a < l.length - i ∧ IntKind.i64.wrap ((i : Int) + 1) = (a : Int) ∧ q = a_1 ∧ row = b := by
      intro hs
      refine ⟨i + 1, q, row, ⟨hlt, by omega, ?_⟩, by omega, w_nat rfl (by omega), rfl, rfl⟩
      rw [hnx, hs, hr2]
      simp
    refine br_dec (fun h => hno ?_) fun h1 => br_dec (fun h => hno ?_) fun h2 _ => br_dec (fun h => hno ?_) fun h3 => ⟨⟨hzs, sayS_kind h1 h2⟩, ⟨isB_putO _, by omega⟩, br_intro (fun h4 => ⟨?_, br_intro (fun h5 m3 => ?_) fun h5 => hno ?_⟩) fun h4 => hno ?_⟩
    · exact sayS_lo h
    · exact sayS_hi h
    · exact sayS_long h
    · have := eq_of_beq h4
      omega
    · have hs : sayS s = true := sayS_yes h1 h2 h3 (one_is h4 h5)
      refine ⟨by omega, i + 1, _, row ++ putO s, ⟨hlt, ?_, ?_⟩, by omega, w_nat rfl (by omega), rfl, rfl⟩
      · rw [List.length_append]; omega
      · rw [hnx, hs, hr2]
        rfl
    · unfold sayS
      rw [Bool.and_eq_false_iff]
      refine .inr (decide_eq_false fun e => ?_)
      rw [e] at h5
      have := sameS_self s
      rw [show sameS s s = false from h5] at this
      cases this
    · unfold sayS
      rw [Bool.and_eq_false_iff]
      refine .inr (decide_eq_false fun e => ?_)
      rw [e] at h4
      cases h4
  ·
    simp (implicitDefEqProofs := false) (decide := true) (maxSteps := 4000000) [ini, g_oput, oputC_eq, g_osteps, ostepsC_eq, g_osame, osameC_eq, hlt]
    rw [hr2, List.take_of_length_le (by omega)]
theorem oPut_ok : ConOK Try.prog 15 oPutC := by
  refine con_ok tab_ok (Γ := ΓoPut) (consOK_cons oput_ok (consOK_cons osteps_ok (consOK_cons osame_ok consOK_nil))) (by kernel_rfl) Try.func15 (by kernel_rfl) ?_
  intro args out h
  obtain ⟨x, e, h1⟩ := conN_inv h
  clear h
  obtain ⟨l, x0⟩ := x
  subst e
  replace h1 : (if allSz l ∧ l.length ≤ 1000 then some ⟨.own (.int .u8) (putL l), []⟩ else none) = some out := h1
  split at h1
  case isFalse => cases h1
  rename_i hr
  injection h1 with h1
  subst h1
  exact ⟨by rw [mkArgs_len]; decide, oPut_ex l hr⟩
end Go.Proofs.Ytmcemcdjfodchaa
