/- frame: what is put. -/
import Derived.Test.YtlckajldmooefaaFrame2
import Derived.Test.YtlckajldmooefaaCrcN
import Derived.Test.YtlckajldmooefaaPNum
set_option maxRecDepth 10000
set_option maxHeartbeats 1000000
set_option linter.unusedSimpArgs false
set_option linter.unusedVariables false
set_option pp.deepTerms.threshold 8
namespace Go.Proofs.Ytlckajldmooefaa
open Go.Tm Go.IntWalk Go.Crc

/-- What stands ahead of the length and the sum. -/
def headS (seq : Int) (c : Cmd) : List Int :=
  textS (textS (textS (putS (putS (putS (putS [] 2 [seq]) 1 [c.1]) 4 [c.2.1, c.2.2.1, c.2.2.2.2.2.1]) 1 [c.2.2.2.1, c.2.2.2.2.1]) c.2.2.2.2.2.2.1) c.2.2.2.2.2.2.2.1) c.2.2.2.2.2.2.2.2.1
def longS (b : List Int) : List Int := putS [] 2 [(b.length : Int) + 4] ++ b
def frameS (seq : Int) (c : Cmd) : List Int := putS (longS (headS seq c)) 4 [sum [longS (headS seq c)]]
theorem putS_len (b : List Int) (n : Int) (l : List Int) : (putS b n l).length ≤ b.length + 4 * l.length := by
  unfold putS
  split
  · omega
  · rw [List.length_append, flatMap_len (bytesN_len _)]
    have := Nat.mul_le_mul_left l.length (show n.toNat ≤ 4 by omega)
    omega
theorem textS_len (b : List Int) (s : ByteArray) : (textS b s).length ≤ b.length + 256 := by
  unfold textS
  split
  · omega
  · simp [bytesOf_len]; omega
theorem headS_len (seq : Int) (c : Cmd) : (headS seq c).length ≤ 1000 := by
  unfold headS
  have h1 := putS_len [] 2 [seq]
  have h2 := putS_len (putS [] 2 [seq]) 1 [c.1]
  have h3 := putS_len (putS (putS [] 2 [seq]) 1 [c.1]) 4 [c.2.1, c.2.2.1, c.2.2.2.2.2.1]
  have h4 := putS_len (putS (putS (putS [] 2 [seq]) 1 [c.1]) 4 [c.2.1, c.2.2.1, c.2.2.2.2.2.1]) 1 [c.2.2.2.1, c.2.2.2.2.1]
  have h5 := textS_len (putS (putS (putS (putS [] 2 [seq]) 1 [c.1]) 4 [c.2.1, c.2.2.1, c.2.2.2.2.2.1]) 1 [c.2.2.2.1, c.2.2.2.2.1]) c.2.2.2.2.2.2.1
  have h6 := textS_len (textS (putS (putS (putS (putS [] 2 [seq]) 1 [c.1]) 4 [c.2.1, c.2.2.1, c.2.2.2.2.2.1]) 1 [c.2.2.2.1, c.2.2.2.2.1]) c.2.2.2.2.2.2.1) c.2.2.2.2.2.2.2.1
  have h7 := textS_len (textS (textS (putS (putS (putS (putS [] 2 [seq]) 1 [c.1]) 4 [c.2.1, c.2.2.1, c.2.2.2.2.2.1]) 1 [c.2.2.2.1, c.2.2.2.2.1]) c.2.2.2.2.2.2.1) c.2.2.2.2.2.2.2.1) c.2.2.2.2.2.2.2.2.1
  simp only [List.length_cons, List.length_nil] at h1 h2 h3 h4
  omega
theorem sumC_eq {l : List (List Int)} : sumC [.val ⟨.slice (.slice (.int .u8)), l⟩] = some ⟨.val ⟨.int .u32, sum l⟩, []⟩ := rfl
theorem crcC_eq {l : List (List Int)} : crcC [.val ⟨.slice (.slice (.int .u8)), l⟩] = some ⟨.val ⟨.int .u32, crcRef l⟩, []⟩ := rfl

def txts (c : Cmd) : Prop := (c.2.2.2.2.2.2.1).size ≤ 255 ∧ (c.2.2.2.2.2.2.2.1).size ≤ 255 ∧ (c.2.2.2.2.2.2.2.2.1).size ≤ 255
instance (c : Cmd) : Decidable (txts c) := by unfold txts; infer_instance
/-- The contract of crc.Sum. -/
def crcsumC : Con := conN [(.v, .slice (.slice (.int .u8)))] fun (l, _) => some ⟨.val ⟨.int .u32, sum l⟩, []⟩
theorem crcsumC_eq {l : List (List Int)} : crcsumC [.val ⟨.slice (.slice (.int .u8)), l⟩] = some ⟨.val ⟨.int .u32, sum l⟩, []⟩ := conN_mk (ks := [(.v, .slice (.slice (.int .u8)))]) (l, ())
def Γcrcsum : Cons := cons []
theorem crcsum_ok : ConOK Try.prog 36 crcsumC := by
  have e : crcsumC = sumC := by
    funext args
    unfold sumC
    split
    · rfl
    · rename_i h
      cases hc : crcsumC args with
      | none => rfl
      | some out =>
        obtain ⟨x, e, _⟩ := conN_inv hc
        obtain ⟨l, x0⟩ := x
        exact absurd e (h l)
  rw [e]
  exact sum_ok
theorem u32_range (x y : Int) : 0 ≤ Tm.bits .xor .u32 x y ∧ Tm.bits .xor .u32 x y < 4294967296 := by
  show 0 ≤ IntKind.u32.wrap _ ∧ IntKind.u32.wrap _ < 4294967296
  rw [IntKind.wrap_u32]
  omega
theorem sum_range (l : List (List Int)) : 0 ≤ sum l ∧ sum l < 4294967296 := u32_range _ _
theorem may_txts {c : Cmd} (h : mayS c = true) : txts c := by
  unfold mayS at h
  simp only [Bool.and_eq_true, decide_eq_true_eq] at h
  unfold txts
  omega
/-- The contract of frame.put. -/
def put1C : Con := conN [(.v, .int .i64), (.v, .prod (.int .i64) (.prod (.int .i64) (.prod (.int .i64) (.prod (.int .i64) (.prod (.int .i64) (.prod (.int .i64) (.prod .str (.prod .str (.prod .str .unit)))))))))] fun (seq, c, _) => if txts c then some ⟨.own (.int .u8) (frameS seq c), []⟩ else none
theorem put1C_eq {seq : Int} {c : Ty.den (.prod (.int .i64) (.prod (.int .i64) (.prod (.int .i64) (.prod (.int .i64) (.prod (.int .i64) (.prod (.int .i64) (.prod .str (.prod .str (.prod .str .unit)))))))))} : put1C [.val ⟨.int .i64, seq⟩, .val ⟨.prod (.int .i64) (.prod (.int .i64) (.prod (.int .i64) (.prod (.int .i64) (.prod (.int .i64) (.prod (.int .i64) (.prod .str (.prod .str (.prod .str .unit)))))))), c⟩] = if txts c then some ⟨.own (.int .u8) (frameS seq c), []⟩ else none := conN_mk (ks := [(.v, .int .i64), (.v, .prod (.int .i64) (.prod (.int .i64) (.prod (.int .i64) (.prod (.int .i64) (.prod (.int .i64) (.prod (.int .i64) (.prod .str (.prod .str (.prod .str .unit)))))))))]) (seq, c, ())
def Γput1 : Cons := cons [(34, putC), (35, textC), (36, crcsumC)]
theorem put1_ex (seq : Int) (c : Ty.den (.prod (.int .i64) (.prod (.int .i64) (.prod (.int .i64) (.prod (.int .i64) (.prod (.int .i64) (.prod (.int .i64) (.prod .str (.prod .str (.prod .str .unit)))))))))) (hr : txts c) : Ex tab Γput1 (Try.f20.body.getD .skip) (EndsF tab Try.f20.results.toList [.val ⟨.int .i64, seq⟩, .val ⟨.prod (.int .i64) (.prod (.int .i64) (.prod (.int .i64) (.prod (.int .i64) (.prod (.int .i64) (.prod (.int .i64) (.prod .str (.prod .str (.prod .str .unit)))))))), c⟩] ⟨.own (.int .u8) (frameS seq c), []⟩) (ini [.val ⟨.int .i64, seq⟩, .val ⟨.prod (.int .i64) (.prod (.int .i64) (.prod (.int .i64) (.prod (.int .i64) (.prod (.int .i64) (.prod (.int .i64) (.prod .str (.prod .str (.prod .str .unit)))))))), c⟩]) := by
  have g_put : Γput1 34 = some putC := rfl
  have g_text : Γput1 35 = some textC := rfl
  have g_crcsum : Γput1 36 = some crcsumC := rfl
  simp only [Try.f20, Option.getD_some]
  simp (implicitDefEqProofs := false) (decide := true) (maxSteps := 4000000) [ini, g_put, putC_eq, g_text, textC_eq, g_crcsum, crcsumC_eq]
  have h1 := putS_len [] 2 [seq]
  have h2 := putS_len (putS [] 2 [seq]) 1 [c.1]
  have h3 := putS_len (putS (putS [] 2 [seq]) 1 [c.1]) 4 [c.2.1, c.2.2.1, c.2.2.2.2.2.1]
  have h4 := putS_len (putS (putS (putS [] 2 [seq]) 1 [c.1]) 4 [c.2.1, c.2.2.1, c.2.2.2.2.2.1]) 1 [c.2.2.2.1, c.2.2.2.2.1]
  have h5 := textS_len (putS (putS (putS (putS [] 2 [seq]) 1 [c.1]) 4 [c.2.1, c.2.2.1, c.2.2.2.2.2.1]) 1 [c.2.2.2.1, c.2.2.2.2.1]) c.2.2.2.2.2.2.1
  have h6 := textS_len (textS (putS (putS (putS (putS [] 2 [seq]) 1 [c.1]) 4 [c.2.1, c.2.2.1, c.2.2.2.2.2.1]) 1 [c.2.2.2.1, c.2.2.2.2.1]) c.2.2.2.2.2.2.1) c.2.2.2.2.2.2.2.1
  have hl := headS_len seq c
  obtain ⟨r1, r2, r3⟩ := hr
  simp only [List.length_cons, List.length_nil] at h1 h2 h3 h4
  refine ⟨by omega, by omega, by omega, by omega, by omega, by omega, fun _ => ?_⟩
  have e : textS (textS (textS (putS (putS (putS (putS [] 2 [seq]) 1 [c.1]) 4 [c.2.1, c.2.2.1, c.2.2.2.2.2.1]) 1 [c.2.2.2.1, c.2.2.2.2.1]) c.2.2.2.2.2.2.1) c.2.2.2.2.2.2.2.1) c.2.2.2.2.2.2.2.2.1 = headS seq c := rfl
  rw [e]
  clear e h1 h2 h3 h4 h5 h6
  generalize hh : headS seq c = hd at hl ⊢
  have h8 := putS_len [] 2 [(hd.length : Int) + 4]
  simp only [List.length_cons, List.length_nil] at h8
  have hw : IntKind.i64.wrap ((hd.length : Int) + 4) = (hd.length : Int) + 4 := i64_in _ (by omega)
  have hs := sum_range [putS [] 2 [(hd.length : Int) + 4] ++ hd]
  have hs2 : IntKind.i64.wrap (sum [putS [] 2 [(hd.length : Int) + 4] ++ hd]) = sum [putS [] 2 [(hd.length : Int) + 4] ++ hd] := i64_in _ (by omega)
  rw [hw, hs2]
  refine ⟨by omega, by omega, ?_⟩
  rw [frameS, longS, hh]
theorem put1_ok : ConOK Try.prog 20 put1C := by
  refine con_ok tab_ok (Γ := Γput1) (consOK_cons put_ok (consOK_cons text_ok (consOK_cons crcsum_ok consOK_nil))) (by kernel_rfl) Try.func20 (by kernel_rfl) ?_
  intro args out h
  obtain ⟨x, e, h1⟩ := conN_inv h
  clear h
  obtain ⟨seq, c, x0⟩ := x
  subst e
  replace h1 : (if txts c then some ⟨.own (.int .u8) (frameS seq c), []⟩ else none) = some out := h1
  split at h1
  case isFalse => cases h1
  rename_i hr
  injection h1 with h1
  subst h1
  exact ⟨by rw [mkArgs_len]; decide, put1_ex seq c hr⟩

def okF (seq : Int) (c : Cmd) : Bool := mayS c && decide (0 ≤ seq) && decide (seq ≤ 65535)
def putF (seq : Int) (c : Cmd) : List Int := if okF seq c = true then frameS seq c else []
/-- The contract of frame.Put. -/
def fputC : Con := conN [(.v, .int .i64), (.v, .prod (.int .i64) (.prod (.int .i64) (.prod (.int .i64) (.prod (.int .i64) (.prod (.int .i64) (.prod (.int .i64) (.prod .str (.prod .str (.prod .str .unit)))))))))] fun (seq, c, _) => some ⟨.tup [⟨.slice (.int .u8), putF seq c⟩, ⟨.bool, okF seq c⟩], []⟩
theorem fputC_eq {seq : Int} {c : Ty.den (.prod (.int .i64) (.prod (.int .i64) (.prod (.int .i64) (.prod (.int .i64) (.prod (.int .i64) (.prod (.int .i64) (.prod .str (.prod .str (.prod .str .unit)))))))))} : fputC [.val ⟨.int .i64, seq⟩, .val ⟨.prod (.int .i64) (.prod (.int .i64) (.prod (.int .i64) (.prod (.int .i64) (.prod (.int .i64) (.prod (.int .i64) (.prod .str (.prod .str (.prod .str .unit)))))))), c⟩] = some ⟨.tup [⟨.slice (.int .u8), putF seq c⟩, ⟨.bool, okF seq c⟩], []⟩ := conN_mk (ks := [(.v, .int .i64), (.v, .prod (.int .i64) (.prod (.int .i64) (.prod (.int .i64) (.prod (.int .i64) (.prod (.int .i64) (.prod (.int .i64) (.prod .str (.prod .str (.prod .str .unit)))))))))]) (seq, c, ())
def Γfput : Cons := cons [(13, mayC), (20, put1C)]
theorem fput_ex (seq : Int) (c : Ty.den (.prod (.int .i64) (.prod (.int .i64) (.prod (.int .i64) (.prod (.int .i64) (.prod (.int .i64) (.prod (.int .i64) (.prod .str (.prod .str (.prod .str .unit)))))))))) : Ex tab Γfput (Try.f11.body.getD .skip) (EndsF tab Try.f11.results.toList [.val ⟨.int .i64, seq⟩, .val ⟨.prod (.int .i64) (.prod (.int .i64) (.prod (.int .i64) (.prod (.int .i64) (.prod (.int .i64) (.prod (.int .i64) (.prod .str (.prod .str (.prod .str .unit)))))))), c⟩] ⟨.tup [⟨.slice (.int .u8), putF seq c⟩, ⟨.bool, okF seq c⟩], []⟩) (ini [.val ⟨.int .i64, seq⟩, .val ⟨.prod (.int .i64) (.prod (.int .i64) (.prod (.int .i64) (.prod (.int .i64) (.prod (.int .i64) (.prod (.int .i64) (.prod .str (.prod .str (.prod .str .unit)))))))), c⟩]) := by
  have g_may : Γfput 13 = some mayC := rfl
  have g_put1 : Γfput 20 = some put1C := rfl
  simp only [Try.f11, Option.getD_some]
  simp (implicitDefEqProofs := false) (decide := true) (maxSteps := 4000000) [ini, g_may, mayC_eq, g_put1, put1C_eq]
  refine br_intro (fun h => ?_) fun h1 => br_dec (fun h => ?_) fun h2 => br_dec (fun h => ?_) fun h3 => ?_
  · have e : okF seq c = false := by unfold okF; rw [show mayS c = false by simpa using h]; rfl
    unfold putF; rw [e]; exact ⟨rfl, rfl⟩
  · have e : okF seq c = false := by unfold okF; rw [decide_eq_false (p := 0 ≤ seq) (by omega)]; simp
    unfold putF; rw [e]; exact ⟨rfl, rfl⟩
  · have e : okF seq c = false := by unfold okF; rw [decide_eq_false (p := seq ≤ 65535) (by omega)]; simp
    unfold putF; rw [e]; exact ⟨rfl, rfl⟩
  · have h1' : mayS c = true := by simpa using h1
    have e : okF seq c = true := by unfold okF; rw [h1', decide_eq_true (p := 0 ≤ seq) (by omega), decide_eq_true (p := seq ≤ 65535) (by omega)]; rfl
    unfold putF; rw [if_pos e]
    exact ⟨may_txts h1', rfl, e⟩
theorem fput_ok : ConOK Try.prog 11 fputC := by
  refine con_ok tab_ok (Γ := Γfput) (consOK_cons may_ok (consOK_cons put1_ok consOK_nil)) (by kernel_rfl) Try.func11 (by kernel_rfl) ?_
  intro args out h
  obtain ⟨x, e, h1⟩ := conN_inv h
  clear h
  obtain ⟨seq, c, x0⟩ := x
  subst e
  replace h1 : (some ⟨.tup [⟨.slice (.int .u8), putF seq c⟩, ⟨.bool, okF seq c⟩], []⟩) = some out := h1
  injection h1 with h1
  subst h1
  exact ⟨by rw [mkArgs_len]; decide, fput_ex seq c⟩
end Go.Proofs.Ytlckajldmooefaa
