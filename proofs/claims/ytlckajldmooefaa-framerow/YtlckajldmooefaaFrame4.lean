/- frame: what is put, by the document's answer. -/
import Derived.Test.YtlckajldmooefaaFrame3
set_option maxRecDepth 10000
set_option maxHeartbeats 1000000
set_option linter.unusedSimpArgs false
set_option linter.unusedVariables false
set_option pp.deepTerms.threshold 8
namespace Go.Proofs.Ytlckajldmooefaa
open Go.Tm Go.IntWalk Go.Crc

theorem byteN_B (x : Int) (k : Nat) : 0 ≤ byteN x k ∧ byteN x k < 256 := by
  unfold byteN
  rw [IntKind.wrap_u8]
  omega
theorem isB_bytesN (n : Nat) (x : Int) : isB (bytesN n x) := by
  intro y hy
  simp only [bytesN, List.mem_map] at hy
  obtain ⟨k, _, rfl⟩ := hy
  exact byteN_B x k
theorem isB_putS {b : List Int} (h : isB b) (n : Int) (l : List Int) : isB (putS b n l) := by
  unfold putS
  split
  · exact h
  · refine isB_append.2 ⟨h, fun y hy => ?_⟩
    obtain ⟨x, _, hx⟩ := List.mem_flatMap.1 hy
    exact isB_bytesN _ _ y hx
theorem isB_textS {b : List Int} (h : isB b) (s : ByteArray) : isB (textS b s) := by
  unfold textS
  split
  · exact h
  · refine isB_append.2 ⟨h, isB_cons.2 ⟨?_, isB_bytesOf s⟩⟩
    rw [IntKind.wrap_u8]
    omega
theorem isB_headS (seq : Int) (c : Cmd) : isB (headS seq c) := isB_textS (isB_textS (isB_textS (isB_putS (isB_putS (isB_putS (isB_putS isB_nil _ _) _ _) _ _) _ _) _) _) _
theorem isB_longS {b : List Int} (h : isB b) : isB (longS b) := isB_append.2 ⟨isB_putS isB_nil _ _, h⟩
theorem isB_frameS (seq : Int) (c : Cmd) : isB (frameS seq c) := isB_putS (isB_longS (isB_headS seq c)) _ _
theorem crcRef_one {b : List Int} (h : isB b) : crcRef [b] = sum [b] := by
  rw [crcRef_nat (by simpa using h), sum_nat (by simpa using h)]
/-- The contract of glacisref1.Crc. -/
def rcrcC : Con := conN [(.v, .slice (.slice (.int .u8)))] fun (l, _) => some ⟨.val ⟨.int .u32, crcRef l⟩, []⟩
theorem rcrcC_eq {l : List (List Int)} : rcrcC [.val ⟨.slice (.slice (.int .u8)), l⟩] = some ⟨.val ⟨.int .u32, crcRef l⟩, []⟩ := conN_mk (ks := [(.v, .slice (.slice (.int .u8)))]) (l, ())
def Γrcrc : Cons := cons []
theorem rcrc_ok : ConOK Try.prog 24 rcrcC := by
  have e : rcrcC = crcC := by
    funext args
    unfold crcC
    split
    · rfl
    · rename_i h
      cases hc : rcrcC args with
      | none => rfl
      | some out =>
        obtain ⟨x, e, _⟩ := conN_inv hc
        obtain ⟨l, x0⟩ := x
        exact absurd e (h l)
  rw [e]
  exact crc_ok
/-- The contract of glacisref20.PutCmd. -/
def rfputC : Con := conN [(.v, .int .i64), (.v, .prod (.int .i64) (.prod (.int .i64) (.prod (.int .i64) (.prod (.int .i64) (.prod (.int .i64) (.prod (.int .i64) (.prod .str (.prod .str (.prod .str .unit)))))))))] fun (seq, c, _) => some ⟨.tup [⟨.slice (.int .u8), putF seq c⟩, ⟨.bool, okF seq c⟩], []⟩
theorem rfputC_eq {seq : Int} {c : Ty.den (.prod (.int .i64) (.prod (.int .i64) (.prod (.int .i64) (.prod (.int .i64) (.prod (.int .i64) (.prod (.int .i64) (.prod .str (.prod .str (.prod .str .unit)))))))))} : rfputC [.val ⟨.int .i64, seq⟩, .val ⟨.prod (.int .i64) (.prod (.int .i64) (.prod (.int .i64) (.prod (.int .i64) (.prod (.int .i64) (.prod (.int .i64) (.prod .str (.prod .str (.prod .str .unit)))))))), c⟩] = some ⟨.tup [⟨.slice (.int .u8), putF seq c⟩, ⟨.bool, okF seq c⟩], []⟩ := conN_mk (ks := [(.v, .int .i64), (.v, .prod (.int .i64) (.prod (.int .i64) (.prod (.int .i64) (.prod (.int .i64) (.prod (.int .i64) (.prod (.int .i64) (.prod .str (.prod .str (.prod .str .unit)))))))))]) (seq, c, ())
def Γrfput : Cons := cons [(14, rmayC), (21, oneC), (22, rputC), (23, rtextC), (24, rcrcC)]
theorem rfput_ex (seq : Int) (c : Ty.den (.prod (.int .i64) (.prod (.int .i64) (.prod (.int .i64) (.prod (.int .i64) (.prod (.int .i64) (.prod (.int .i64) (.prod .str (.prod .str (.prod .str .unit)))))))))) : Ex tab Γrfput (Try.f12.body.getD .skip) (EndsF tab Try.f12.results.toList [.val ⟨.int .i64, seq⟩, .val ⟨.prod (.int .i64) (.prod (.int .i64) (.prod (.int .i64) (.prod (.int .i64) (.prod (.int .i64) (.prod (.int .i64) (.prod .str (.prod .str (.prod .str .unit)))))))), c⟩] ⟨.tup [⟨.slice (.int .u8), putF seq c⟩, ⟨.bool, okF seq c⟩], []⟩) (ini [.val ⟨.int .i64, seq⟩, .val ⟨.prod (.int .i64) (.prod (.int .i64) (.prod (.int .i64) (.prod (.int .i64) (.prod (.int .i64) (.prod (.int .i64) (.prod .str (.prod .str (.prod .str .unit)))))))), c⟩]) := by
  have g_rmay : Γrfput 14 = some rmayC := rfl
  have g_one : Γrfput 21 = some oneC := rfl
  have g_rput : Γrfput 22 = some rputC := rfl
  have g_rtext : Γrfput 23 = some rtextC := rfl
  have g_rcrc : Γrfput 24 = some rcrcC := rfl
  simp only [Try.f12, Option.getD_some]
  simp (implicitDefEqProofs := false) (decide := true) (maxSteps := 4000000) [ini, g_rmay, rmayC_eq, g_one, oneC_eq, g_rput, rputC_eq, g_rtext, rtextC_eq, g_rcrc, rcrcC_eq]
  refine br_intro (fun h => ?_) fun h1 => br_dec (fun h => ?_) fun h2 => br_dec (fun h => ?_) fun h3 => ?_
  · have e : okF seq c = false := by unfold okF; rw [show mayS c = false by simpa using h]; rfl
    unfold putF; rw [e]; exact ⟨rfl, rfl⟩
  · have e : okF seq c = false := by unfold okF; rw [decide_eq_false (p := 0 ≤ seq) (by omega)]; simp
    unfold putF; rw [e]; exact ⟨rfl, rfl⟩
  · have e : okF seq c = false := by unfold okF; rw [decide_eq_false (p := seq ≤ 65535) (by omega)]; simp
    unfold putF; rw [e]; exact ⟨rfl, rfl⟩
  have h1' : mayS c = true := by simpa using h1
  have e : okF seq c = true := by unfold okF; rw [h1', decide_eq_true (p := 0 ≤ seq) (by omega), decide_eq_true (p := seq ≤ 65535) (by omega)]; rfl
  unfold putF; rw [if_pos e]
  have hr := may_txts h1'
  have h1 := putS_len [] 2 [seq]
  have h2 := putS_len (putS [] 2 [seq]) 1 [c.1]
  have h3 := putS_len (putS (putS [] 2 [seq]) 1 [c.1]) 4 [c.2.1, c.2.2.1, c.2.2.2.2.2.1]
  have h4 := putS_len (putS (putS (putS [] 2 [seq]) 1 [c.1]) 4 [c.2.1, c.2.2.1, c.2.2.2.2.2.1]) 1 [c.2.2.2.1, c.2.2.2.2.1]
  have h5 := textS_len (putS (putS (putS (putS [] 2 [seq]) 1 [c.1]) 4 [c.2.1, c.2.2.1, c.2.2.2.2.2.1]) 1 [c.2.2.2.1, c.2.2.2.2.1]) c.2.2.2.2.2.2.1
  have h6 := textS_len (textS (putS (putS (putS (putS [] 2 [seq]) 1 [c.1]) 4 [c.2.1, c.2.2.1, c.2.2.2.2.2.1]) 1 [c.2.2.2.1, c.2.2.2.2.1]) c.2.2.2.2.2.2.1) c.2.2.2.2.2.2.2.1
  have hl := headS_len seq c
  obtain ⟨r1, r2, r3⟩ := hr
  simp only [List.length_cons, List.length_nil] at h1 h2 h3 h4
  refine ⟨by omega, by omega, by omega, by omega, by omega, by omega, fun _ => ?_⟩
  have e2 : textS (textS (textS (putS (putS (putS (putS [] 2 [seq]) 1 [c.1]) 4 [c.2.1, c.2.2.1, c.2.2.2.2.2.1]) 1 [c.2.2.2.1, c.2.2.2.2.1]) c.2.2.2.2.2.2.1) c.2.2.2.2.2.2.2.1) c.2.2.2.2.2.2.2.2.1 = headS seq c := rfl
  rw [e2]
  clear e2 h1 h2 h3 h4 h5 h6
  generalize hh : headS seq c = hd at hl ⊢
  have h8 := putS_len [] 2 [(hd.length : Int) + 4]
  simp only [List.length_cons, List.length_nil] at h8
  have hw : IntKind.i64.wrap ((hd.length : Int) + 4) = (hd.length : Int) + 4 := i64_in _ (by omega)
  have hb : isB (putS [] 2 [(hd.length : Int) + 4] ++ hd) := isB_longS (hh ▸ isB_headS seq c)
  have hs := sum_range [putS [] 2 [(hd.length : Int) + 4] ++ hd]
  have hs2 : IntKind.i64.wrap (sum [putS [] 2 [(hd.length : Int) + 4] ++ hd]) = sum [putS [] 2 [(hd.length : Int) + 4] ++ hd] := i64_in _ (by omega)
  rw [hw, crcRef_one hb, hs2]
  refine ⟨by omega, by omega, ?_⟩
  rw [frameS, longS, hh]
  exact ⟨rfl, e⟩
theorem rfput_ok : ConOK Try.prog 12 rfputC := by
  refine con_ok tab_ok (Γ := Γrfput) (consOK_cons rmay_ok (consOK_cons one_ok (consOK_cons rput_ok (consOK_cons rtext_ok (consOK_cons rcrc_ok consOK_nil))))) (by kernel_rfl) Try.func12 (by kernel_rfl) ?_
  intro args out h
  obtain ⟨x, e, h1⟩ := conN_inv h
  clear h
  obtain ⟨seq, c, x0⟩ := x
  subst e
  replace h1 : (some ⟨.tup [⟨.slice (.int .u8), putF seq c⟩, ⟨.bool, okF seq c⟩], []⟩) = some out := h1
  injection h1 with h1
  subst h1
  exact ⟨by rw [mkArgs_len]; decide, rfput_ex seq c⟩
end Go.Proofs.Ytlckajldmooefaa
