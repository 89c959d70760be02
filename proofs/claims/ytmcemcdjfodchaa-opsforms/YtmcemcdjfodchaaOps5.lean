/- ops: steps are put. -/
import Derived.Test.YtmcemcdjfodchaaOps4
set_option maxRecDepth 10000
set_option maxHeartbeats 4000000
set_option linter.unusedSimpArgs false
set_option linter.unusedVariables false
set_option pp.deepTerms.threshold 12
namespace Go.Proofs.Ytmcemcdjfodchaa
open Go.Tm Go.IntWalk
def bitI (x : Bool) : Int := if x = true then 1 else 0
def keepB : List Int → List Bool → List Int
  | b, [] => b
  | b, x :: l => keepB (putS b 1 [bitI x]) l
def putO (s : Step) : List Int :=
  let b := putS [] 1 [s.1, s.2.1]
  let w := textS b s.2.2.2.2.2.1
  if s.1 = 1 ∨ s.1 = 7 then putS w 1 [s.2.2.2.1]
  else if s.1 = 2 ∨ s.1 = 4 then textS w s.2.2.2.2.2.2.1
  else if s.1 = 3 then w
  else if s.1 = 5 then textS (putS w 2 [s.2.2.2.2.1]) s.2.2.2.2.2.2.2.1
  else if s.1 = 6 then putS w 2 [s.2.2.2.2.1]
  else if s.1 = 8 ∨ s.1 = 9 ∨ s.1 = 10 then putS w 1 [s.2.2.1]
  else if s.1 = 13 ∨ s.1 = 14 then putS b 1 [s.2.2.1]
  else if s.1 = 16 then putS b 1 [s.2.2.1, s.2.2.2.2.1]
  else if s.1 = 17 then putS b 2 [s.2.2.2.2.1]
  else if s.1 = 19 then putS b 1 [s.2.2.2.2.1]
  else if s.1 = 20 then keepB (putS b 1 [(s.2.2.2.2.2.2.2.2.1.length : Int)]) s.2.2.2.2.2.2.2.2.1
  else b
/-- Texts of a step are not too long for the machine. -/
def okSz (s : Step) : Prop := s.2.2.2.2.2.1.size ≤ 10000000 ∧ s.2.2.2.2.2.2.1.size ≤ 10000000 ∧ s.2.2.2.2.2.2.2.1.size ≤ 10000000 ∧ s.2.2.2.2.2.2.2.2.1.length ≤ 1000
instance {s : Step} : Decidable (okSz s) := inferInstanceAs (Decidable (_ ∧ _ ∧ _ ∧ _))
theorem textS_len (b : List Int) (s : ByteArray) : (textS b s).length ≤ b.length + s.size + 1 := by
  unfold textS
  split
  · omega
  · rw [List.length_append, List.length_cons, bytesOf_len]
    omega
/-- The contract of ops.head. -/
def oheadC : Con := conN [(.v, .prod (.int .i64) (.prod (.int .i64) (.prod (.int .i64) (.prod (.int .i64) (.prod (.int .i64) (.prod .str (.prod .str (.prod .str (.prod (.slice .bool) .unit)))))))))] fun (s, _) => some ⟨.own (.int .u8) (putS [] 1 [s.1, s.2.1]), []⟩
theorem oheadC_eq {s : Ty.den (.prod (.int .i64) (.prod (.int .i64) (.prod (.int .i64) (.prod (.int .i64) (.prod (.int .i64) (.prod .str (.prod .str (.prod .str (.prod (.slice .bool) .unit)))))))))} : oheadC [.val ⟨.prod (.int .i64) (.prod (.int .i64) (.prod (.int .i64) (.prod (.int .i64) (.prod (.int .i64) (.prod .str (.prod .str (.prod .str (.prod (.slice .bool) .unit)))))))), s⟩] = some ⟨.own (.int .u8) (putS [] 1 [s.1, s.2.1]), []⟩ := conN_mk (ks := [(.v, .prod (.int .i64) (.prod (.int .i64) (.prod (.int .i64) (.prod (.int .i64) (.prod (.int .i64) (.prod .str (.prod .str (.prod .str (.prod (.slice .bool) .unit)))))))))]) (s, ())
def Γohead : Cons := cons [(38, putC)]
theorem ohead_ex (s : Ty.den (.prod (.int .i64) (.prod (.int .i64) (.prod (.int .i64) (.prod (.int .i64) (.prod (.int .i64) (.prod .str (.prod .str (.prod .str (.prod (.slice .bool) .unit)))))))))) : Ex tab Γohead (Try.f36.body.getD .skip) (EndsF tab Try.f36.results.toList [.val ⟨.prod (.int .i64) (.prod (.int .i64) (.prod (.int .i64) (.prod (.int .i64) (.prod (.int .i64) (.prod .str (.prod .str (.prod .str (.prod (.slice .bool) .unit)))))))), s⟩] ⟨.own (.int .u8) (putS [] 1 [s.1, s.2.1]), []⟩) (ini [.val ⟨.prod (.int .i64) (.prod (.int .i64) (.prod (.int .i64) (.prod (.int .i64) (.prod (.int .i64) (.prod .str (.prod .str (.prod .str (.prod (.slice .bool) .unit)))))))), s⟩]) := by
  have g_put : Γohead 38 = some putC := rfl
  simp only [Try.f36, Option.getD_some]
  simp (implicitDefEqProofs := false) (decide := true) (maxSteps := 4000000) [ini, g_put, putC_eq]
theorem ohead_ok : ConOK Try.prog 36 oheadC := by
  refine con_ok tab_ok (Γ := Γohead) (consOK_cons put_ok consOK_nil) (by kernel_rfl) Try.func36 (by kernel_rfl) ?_
  intro args out h
  obtain ⟨x, e, h1⟩ := conN_inv h
  clear h
  obtain ⟨s, x0⟩ := x
  subst e
  replace h1 : (some ⟨.own (.int .u8) (putS [] 1 [s.1, s.2.1]), []⟩) = some out := h1
  injection h1 with h1
  subst h1
  exact ⟨by rw [mkArgs_len]; decide, ohead_ex s⟩
/-- The contract of ops.put. -/
def oputC : Con := conN [(.v, .prod (.int .i64) (.prod (.int .i64) (.prod (.int .i64) (.prod (.int .i64) (.prod (.int .i64) (.prod .str (.prod .str (.prod .str (.prod (.slice .bool) .unit)))))))))] fun (s, _) => if okSz s ∧ 1 ≤ s.1 ∧ s.1 ≤ 20 then some ⟨.own (.int .u8) (putO s), []⟩ else none
theorem oputC_eq {s : Ty.den (.prod (.int .i64) (.prod (.int .i64) (.prod (.int .i64) (.prod (.int .i64) (.prod (.int .i64) (.prod .str (.prod .str (.prod .str (.prod (.slice .bool) .unit)))))))))} : oputC [.val ⟨.prod (.int .i64) (.prod (.int .i64) (.prod (.int .i64) (.prod (.int .i64) (.prod (.int .i64) (.prod .str (.prod .str (.prod .str (.prod (.slice .bool) .unit)))))))), s⟩] = if okSz s ∧ 1 ≤ s.1 ∧ s.1 ≤ 20 then some ⟨.own (.int .u8) (putO s), []⟩ else none := conN_mk (ks := [(.v, .prod (.int .i64) (.prod (.int .i64) (.prod (.int .i64) (.prod (.int .i64) (.prod (.int .i64) (.prod .str (.prod .str (.prod .str (.prod (.slice .bool) .unit)))))))))]) (s, ())
def Γoput : Cons := cons [(36, oheadC), (38, putC), (37, textC)]
theorem oput_ex (s : Ty.den (.prod (.int .i64) (.prod (.int .i64) (.prod (.int .i64) (.prod (.int .i64) (.prod (.int .i64) (.prod .str (.prod .str (.prod .str (.prod (.slice .bool) .unit)))))))))) (hr : okSz s ∧ 1 ≤ s.1 ∧ s.1 ≤ 20) : Ex tab Γoput (Try.f26.body.getD .skip) (EndsF tab Try.f26.results.toList [.val ⟨.prod (.int .i64) (.prod (.int .i64) (.prod (.int .i64) (.prod (.int .i64) (.prod (.int .i64) (.prod .str (.prod .str (.prod .str (.prod (.slice .bool) .unit)))))))), s⟩] ⟨.own (.int .u8) (putO s), []⟩) (ini [.val ⟨.prod (.int .i64) (.prod (.int .i64) (.prod (.int .i64) (.prod (.int .i64) (.prod (.int .i64) (.prod .str (.prod .str (.prod .str (.prod (.slice .bool) .unit)))))))), s⟩]) := by
  have g_ohead : Γoput 36 = some oheadC := rfl
  have g_put : Γoput 38 = some putC := rfl
  have g_text : Γoput 37 = some textC := rfl

  obtain ⟨⟨z1, z2, z3, z4⟩, h1, h2⟩ := hr
  obtain ⟨k, v, id, mo, off, path, to, txt, keep, un⟩ := s
  simp only at z1 z2 z3 z4
  replace h1 : (1 : Int) ≤ k := h1
  replace h2 : k ≤ (20 : Int) := h2
  have a1 : (putS [] 1 [k, v]).length ≤ 8 := putS_len [] 1 [k, v]
  have a2 : (textS (putS [] 1 [k, v]) path).length ≤ 10000009 := by
    have := textS_len (putS [] 1 [k, v]) path
    omega
  have a3 : (putS (textS (putS [] 1 [k, v]) path) 2 [off]).length ≤ 10000013 := by
    have := putS_len (textS (putS [] 1 [k, v]) path) 2 [off]
    simp only [List.length_cons, List.length_nil] at this
    omega
  have hk0 : ∀ k : Int, 1 ≤ k → k ≤ 20 → (k = 1 ∨ k = 2 ∨ k = 3 ∨ k = 4 ∨ k = 5 ∨ k = 6 ∨ k = 7 ∨ k = 8 ∨ k = 9 ∨ k = 10 ∨ k = 11 ∨ k = 12 ∨ k = 13 ∨ k = 14 ∨ k = 15 ∨ k = 16 ∨ k = 17 ∨ k = 18 ∨ k = 19 ∨ k = 20) := by omega
  have hk := hk0 k h1 h2
  clear hk0
  clear h1 h2
  obtain ⟨Z, hZ⟩ : ∃ Z, putO (k, v, id, mo, off, path, to, txt, keep, un) = Z := ⟨_, rfl⟩
  rw [hZ]
  rcases hk with rfl | rfl | rfl | rfl | rfl | rfl | rfl | rfl | rfl | rfl | rfl | rfl | rfl | rfl | rfl | rfl | rfl | rfl | rfl | rfl
  case inr.inr.inr.inr.inr.inr.inr.inr.inr.inr.inr.inr.inr.inr.inr.inr.inr.inr.inr =>
    simp only [Try.f26, Option.getD_some]
    simp (implicitDefEqProofs := false) (decide := true) (maxSteps := 4000000) [ini, g_ohead, oheadC_eq, g_put, putC_eq, g_text, textC_eq]
    refine fun m m1 => ⟨by omega, fun m2 _ => ⟨by omega, fun _ => ?_⟩⟩
    have e : Z = keepB (putS (putS [] 1 [20, v]) 1 [(keep.length : Int)]) keep := by
      subst hZ
      simp [putO]
    have a4 : (putS (putS [] 1 [20, v]) 1 [(keep.length : Int)]).length ≤ 12 := by
      have := putS_len (putS [] 1 [20, v]) 1 [(keep.length : Int)]
      simp only [List.length_cons, List.length_nil] at this
      omega
    refine ex_loopU (σ := Nat × Nat × List Int) (Dn [3, 6, 7] 103 10) (fun a => [(103, .val (.int .i64) (a.1 : Int)), (3, .own a.2.1 (.int .u8) a.2.2)]) (fun a => a.1 ≤ keep.length ∧ a.2.2.length ≤ 12 + 4 * a.1 ∧ Z = keepB a.2.2 (keep.drop a.1)) (fun a => keep.length - a.1) (0, _, _) ⟨Nat.zero_le _, a4, e⟩ (hc rfl (hc rfl hn)) ?_
    rintro j ⟨i, q, row⟩ ⟨hi, hl, hk⟩
    simp only at hi hl hk
    simp (implicitDefEqProofs := false) (decide := true) (maxSteps := 4000000) [ini, g_ohead, oheadC_eq, g_put, putC_eq, g_text, textC_eq]
    have hnext : ∀ hlt : i < keep.length, keepB row (keep.drop i) = keepB (putS row 1 [bitI (keep[i]?.getD false)]) (keep.drop (i + 1)) := by
      intro hlt
      rw [List.drop_eq_getElem_cons hlt, keepB, List.getElem?_eq_getElem hlt]
      rfl
    have hlen : ∀ x : Int, (putS row 1 [x]).length ≤ 12 + 4 * (i + 1) := by
      intro x
      have := putS_len row 1 [x]
      simp only [List.length_cons, List.length_nil] at this
      omega
    refine br_dec (fun hlt => ⟨hlt, br_intro (fun hx m3 => ⟨by omega, i + 1, _, putS row 1 [1], ⟨hlt, hlen 1, ?_⟩, by omega, w_nat rfl (by omega), rfl, rfl⟩) fun hx m3 => ⟨by omega, i + 1, _, putS row 1 [0], ⟨hlt, hlen 0, ?_⟩, by omega, w_nat rfl (by omega), rfl, rfl⟩⟩) fun hge => ?_
    · rw [hk, hnext hlt, hx]; rfl
    · rw [hk, hnext hlt, hx]; rfl
    · rw [hk, List.drop_of_length_le (by omega)]; rfl
  all_goals
    simp only [Try.f26, Option.getD_some]
    simp (implicitDefEqProofs := false) (decide := true) (maxSteps := 4000000) [ini, g_ohead, oheadC_eq, g_put, putC_eq, g_text, textC_eq]
    repeat' first
      | intro m0
      | refine ⟨by omega, ?_⟩
      | fail
    all_goals
      subst hZ
      simp [putO]
theorem oput_ok : ConOK Try.prog 26 oputC := by
  refine con_ok tab_ok (Γ := Γoput) (consOK_cons ohead_ok (consOK_cons put_ok (consOK_cons text_ok consOK_nil))) (by kernel_rfl) Try.func26 (by kernel_rfl) ?_
  intro args out h
  obtain ⟨x, e, h1⟩ := conN_inv h
  clear h
  obtain ⟨s, x0⟩ := x
  subst e
  replace h1 : (if okSz s ∧ 1 ≤ s.1 ∧ s.1 ≤ 20 then some ⟨.own (.int .u8) (putO s), []⟩ else none) = some out := h1
  split at h1
  case isFalse => cases h1
  rename_i hr
  injection h1 with h1
  subst h1
  exact ⟨by rw [mkArgs_len]; decide, oput_ex s hr⟩
end Go.Proofs.Ytmcemcdjfodchaa
