/- ops: readers of steps. -/
import Derived.Test.YtmcemcdjfodchaaOpsC
import Derived.Test.YtmcemcdjfodchaaRdX
import Derived.Test.YtmcemcdjfodchaaPRng
import Derived.Test.YtmcemcdjfodchaaPInd
set_option maxRecDepth 10000
set_option maxHeartbeats 1000000
set_option linter.unusedSimpArgs false
set_option linter.unusedVariables false
set_option pp.deepTerms.threshold 10
namespace Go.Proofs.Ytmcemcdjfodchaa
open Go.Tm Go.IntWalk
abbrev OrT : Ty := .prod (.slice (.int .u8)) .unit
/-- The contract of (*ops.reader).num. -/
def onumC : Con := conN [(.o, .prod (.slice (.int .u8)) .unit), (.v, .int .i64)] fun (r, n, _) => orP ((takeS r.1 n).2) ⟨.val ⟨.int .i64, (takeS r.1 n).1⟩, [⟨OrT, (r.1.drop n.toNat, ())⟩]⟩ ⟨.panic [shortE], [⟨OrT, r⟩]⟩
theorem onumC_eq {r : Ty.den (.prod (.slice (.int .u8)) .unit)} {n : Int} : onumC [.obj ⟨.prod (.slice (.int .u8)) .unit, r⟩, .val ⟨.int .i64, n⟩] = orP ((takeS r.1 n).2) ⟨.val ⟨.int .i64, (takeS r.1 n).1⟩, [⟨OrT, (r.1.drop n.toNat, ())⟩]⟩ ⟨.panic [shortE], [⟨OrT, r⟩]⟩ := conN_mk (ks := [(.o, .prod (.slice (.int .u8)) .unit), (.v, .int .i64)]) (r, n, ())
def Γonum : Cons := cons [(31, takeC)]
theorem onum_ex (r : Ty.den (.prod (.slice (.int .u8)) .unit)) (n : Int) : Ex tab Γonum (Try.f22.body.getD .skip) (EndsF tab Try.f22.results.toList [.obj ⟨.prod (.slice (.int .u8)) .unit, r⟩, .val ⟨.int .i64, n⟩] (if ((takeS r.1 n).2) = true then (⟨.val ⟨.int .i64, (takeS r.1 n).1⟩, [⟨OrT, (r.1.drop n.toNat, ())⟩]⟩ : Out) else ⟨.panic [shortE], [⟨OrT, r⟩]⟩)) (ini [.obj ⟨.prod (.slice (.int .u8)) .unit, r⟩, .val ⟨.int .i64, n⟩]) := by
  have g_take : Γonum 31 = some takeC := rfl
  simp only [Try.f22, Option.getD_some]
  simp (implicitDefEqProofs := false) (decide := true) (maxSteps := 4000000) [ini, g_take, takeC_eq]
  refine br_intro (fun h => ?_) fun h => ?_
  · simp [not_t h]
    exact ⟨rfl, _, rfl⟩
  · have h2 := takeS_true (not_f h)
    simp [not_f h, take_rest]
    exact ⟨by omega, h2.2.2⟩
theorem onum_ok : ConOK Try.prog 22 onumC := by
  refine con_ok tab_ok (Γ := Γonum) (consOK_cons take_ok consOK_nil) (by kernel_rfl) Try.func22 (by kernel_rfl) ?_
  intro args out h
  obtain ⟨x, e, h1⟩ := conN_inv h
  clear h
  obtain ⟨r, n, x0⟩ := x
  subst e
  replace h1 : (orP ((takeS r.1 n).2) ⟨.val ⟨.int .i64, (takeS r.1 n).1⟩, [⟨OrT, (r.1.drop n.toNat, ())⟩]⟩ ⟨.panic [shortE], [⟨OrT, r⟩]⟩) = some out := h1
  injection h1 with h1
  subst h1
  exact ⟨by rw [mkArgs_len]; decide, onum_ex r n⟩
/-- The contract of (*ops.reader).text. -/
def otextC : Con := conN [(.o, .prod (.slice (.int .u8)) .unit)] fun (r, _) => if isB r.1 then orP ((takeTextS r.1).2.2) ⟨.val ⟨.str, (takeTextS r.1).1⟩, [⟨OrT, (r.1.drop (takeTextS r.1).2.1.toNat, ())⟩]⟩ ⟨.panic [shortE], [⟨OrT, r⟩]⟩ else none
theorem otextC_eq {r : Ty.den (.prod (.slice (.int .u8)) .unit)} : otextC [.obj ⟨.prod (.slice (.int .u8)) .unit, r⟩] = if isB r.1 then orP ((takeTextS r.1).2.2) ⟨.val ⟨.str, (takeTextS r.1).1⟩, [⟨OrT, (r.1.drop (takeTextS r.1).2.1.toNat, ())⟩]⟩ ⟨.panic [shortE], [⟨OrT, r⟩]⟩ else none := conN_mk (ks := [(.o, .prod (.slice (.int .u8)) .unit)]) (r, ())
def Γotext : Cons := cons [(44, takeTextC)]
theorem otext_ex (r : Ty.den (.prod (.slice (.int .u8)) .unit)) (hr : isB r.1) : Ex tab Γotext (Try.f32.body.getD .skip) (EndsF tab Try.f32.results.toList [.obj ⟨.prod (.slice (.int .u8)) .unit, r⟩] (if ((takeTextS r.1).2.2) = true then (⟨.val ⟨.str, (takeTextS r.1).1⟩, [⟨OrT, (r.1.drop (takeTextS r.1).2.1.toNat, ())⟩]⟩ : Out) else ⟨.panic [shortE], [⟨OrT, r⟩]⟩)) (ini [.obj ⟨.prod (.slice (.int .u8)) .unit, r⟩]) := by
  have g_takeText : Γotext 44 = some takeTextC := rfl
  simp only [Try.f32, Option.getD_some]
  simp (implicitDefEqProofs := false) (decide := true) (maxSteps := 4000000) [ini, g_takeText, takeTextC_eq]
  have g0 := isB_getD hr 0
  refine ⟨by rw [← List.getD_eq_getElem?_getD]; exact g0, br_intro (fun h => ?_) fun h => ?_⟩
  · simp [not_t h]
    exact ⟨rfl, _, rfl⟩
  · have h2 := takeTextS_true g0 (not_f h)
    simp [not_f h, take_rest]
    exact h2
theorem otext_ok : ConOK Try.prog 32 otextC := by
  refine con_ok tab_ok (Γ := Γotext) (consOK_cons takeText_ok consOK_nil) (by kernel_rfl) Try.func32 (by kernel_rfl) ?_
  intro args out h
  obtain ⟨x, e, h1⟩ := conN_inv h
  clear h
  obtain ⟨r, x0⟩ := x
  subst e
  replace h1 : (if isB r.1 then orP ((takeTextS r.1).2.2) ⟨.val ⟨.str, (takeTextS r.1).1⟩, [⟨OrT, (r.1.drop (takeTextS r.1).2.1.toNat, ())⟩]⟩ ⟨.panic [shortE], [⟨OrT, r⟩]⟩ else none) = some out := h1
  split at h1
  case isFalse => cases h1
  rename_i hr
  injection h1 with h1
  subst h1
  exact ⟨by rw [mkArgs_len]; decide, otext_ex r hr⟩
/-! ### Steps -/
theorem takeS_B {b : List Int} (hb : isB b) (n : Int) : 0 ≤ (takeS b n).1 ∧ (takeS b n).1 < 4294967296 := by
  have e : b = ints (nats b) := (ints_nats hb).symm
  rw [e, takeS_nat (nats_lt hb)]
  split
  · exact ⟨Int.le_refl 0, by decide⟩
  · rename_i h
    have h1 := le_lt (take_lt (nats_lt hb) n.toNat)
    have h2 : 256 ^ ((nats b).take n.toNat).length ≤ 256 ^ 4 := Nat.pow_le_pow_right (by decide) (by rw [List.length_take]; omega)
    simp only
    omega
theorem takeS_one {x : Int} {l : List Int} (h : isB (x :: l)) : takeS (x :: l) 1 = (x, true) := by
  have hx := h x (List.mem_cons_self ..)
  have e : x :: l = ints (nats (x :: l)) := (ints_nats h).symm
  rw [e, takeS_nat (nats_lt h), if_neg (by simp [nats]; omega)]
  simp only [nats, List.map_cons]
  show (((le [x.toNat] : Nat) : Int), true) = _
  simp only [le]
  rw [show ((x.toNat + 256 * 0 : Nat) : Int) = x by omega]
abbrev StepT : Ty := .prod (.int .i64) (.prod (.int .i64) (.prod (.int .i64) (.prod (.int .i64) (.prod (.int .i64) (.prod .str (.prod .str (.prod .str (.prod (.slice .bool) .unit))))))))
abbrev Step : Type := Int × Int × Int × Int × Int × ByteArray × ByteArray × ByteArray × List Bool × Unit
def keepN : Nat → Rd → List Bool × Rd
  | 0, r => ([], r)
  | k + 1, r => (((numS r 1).1.tmod 2 == 1) :: (keepN k (numS r 1).2).1, (keepN k (numS r 1).2).2)
def keepR (r : Rd) : List Bool × Rd :=
  if 40 < (numS r 1).1 then ([], ((numS r 1).2.1, true, ())) else keepN (numS r 1).1.toNat (numS r 1).2
theorem numS_stay {r : Rd} (h : r.2.1 = true) (n : Int) : numS r n = (0, r) := by
  rw [numS_bad (.inl h)]
  obtain ⟨b, c, u⟩ := r
  simp only at h
  rw [h]
theorem keepN_stay : ∀ (k : Nat) {r : Rd}, r.2.1 = true → (keepN k r).2 = r
  | 0, r, _ => rfl
  | k + 1, r, h => by
    rw [keepN, numS_stay h]
    exact keepN_stay k h
/-- A reader that has not come to an end. -/
def rdO (b : List Int) : Rd := (b, false, ())
theorem num_rd {b : List Int} {n : Int} (h : (takeS b n).2 = true) : numS (rdO b) n = ((takeS b n).1, rdO (b.drop n.toNat)) := numS_ok rfl h
theorem num_no {b : List Int} {n : Int} (h : (takeS b n).2 = false) : numS (rdO b) n = (0, (b, true, ())) := numS_bad (.inr h)
theorem text_rd {b : List Int} (h : (takeTextS b).2.2 = true) : textR (rdO b) = ((takeTextS b).1, rdO (b.drop (takeTextS b).2.1.toNat)) := textR_ok rfl h
theorem text_no {b : List Int} (h : (takeTextS b).2.2 = false) : textR (rdO b) = (no, (b, true, ())) := textR_bad (.inr h)
theorem keepN_no {k : Nat} {b : List Int} (h : (takeS b 1).2 = false) : keepN (k + 1) (rdO b) = ((((0 : Int).tmod 2 == 1) :: (keepN k (b, true, ())).1), (b, true, ())) := by
  rw [keepN, num_no h]
  simp only
  rw [keepN_stay (r := (b, true, ())) k rfl]
theorem keepN_ok {k : Nat} {b : List Int} (h : (takeS b 1).2 = true) : keepN (k + 1) (rdO b) = ((((takeS b 1).1.tmod 2 == 1) :: (keepN k (rdO (b.drop 1))).1), (keepN k (rdO (b.drop 1))).2) := by
  rw [keepN, num_rd h]
  rfl
/-- The contract of (*ops.reader).keep. -/
def okeepC : Con := conN [(.o, .prod (.slice (.int .u8)) .unit)] fun (r, _) => if isB r.1 then orP (!(keepR (rdO r.1)).2.2.1) ⟨.own .bool (keepR (rdO r.1)).1, [⟨OrT, ((keepR (rdO r.1)).2.1, ())⟩]⟩ ⟨.panic [shortE], [⟨OrT, ((keepR (rdO r.1)).2.1, ())⟩]⟩ else none
theorem okeepC_eq {r : Ty.den (.prod (.slice (.int .u8)) .unit)} : okeepC [.obj ⟨.prod (.slice (.int .u8)) .unit, r⟩] = if isB r.1 then orP (!(keepR (rdO r.1)).2.2.1) ⟨.own .bool (keepR (rdO r.1)).1, [⟨OrT, ((keepR (rdO r.1)).2.1, ())⟩]⟩ ⟨.panic [shortE], [⟨OrT, ((keepR (rdO r.1)).2.1, ())⟩]⟩ else none := conN_mk (ks := [(.o, .prod (.slice (.int .u8)) .unit)]) (r, ())
def Γokeep : Cons := cons [(22, onumC)]
theorem okeep_ex (r : Ty.den (.prod (.slice (.int .u8)) .unit)) (hr : isB r.1) : Ex tab Γokeep (Try.f33.body.getD .skip) (EndsF tab Try.f33.results.toList [.obj ⟨.prod (.slice (.int .u8)) .unit, r⟩] (if (!(keepR (rdO r.1)).2.2.1) = true then (⟨.own .bool (keepR (rdO r.1)).1, [⟨OrT, ((keepR (rdO r.1)).2.1, ())⟩]⟩ : Out) else ⟨.panic [shortE], [⟨OrT, ((keepR (rdO r.1)).2.1, ())⟩]⟩)) (ini [.obj ⟨.prod (.slice (.int .u8)) .unit, r⟩]) := by
  have g_onum : Γokeep 22 = some onumC := rfl
  simp only [Try.f33, Option.getD_some]
  simp (implicitDefEqProofs := false) (decide := true) (maxSteps := 4000000) [ini, g_onum, onumC_eq]
  refine br_intro (fun h => br_dec (fun h40 => ?_) fun h40 => ?_) fun h => ?_
  · have e : keepR (rdO r.1) = ([], (r.1.drop 1, true, ())) := by
      rw [keepR, num_rd h, if_pos h40]; rfl
    rw [e]
    simp
    exact rfl
  · have tt := takeS_true h
    have hx := takeS_B hr 1
    have e : keepR (rdO r.1) = keepN (takeS r.1 1).1.toNat (rdO (r.1.tail)) := by
      rw [keepR, num_rd h, if_neg h40, ← List.drop_one]; rfl
    rw [e]
    obtain ⟨N, hN⟩ : ∃ N : Nat, (takeS r.1 1).1 = (N : Int) := ⟨(takeS r.1 1).1.toNat, by omega⟩
    rw [hN] at h40 ⊢
    simp only [Int.toNat_natCast]
    refine ex_loopN 4 .bool rfl (σ := Nat × Nat × List Bool × List Int) (Dn [4, 1000000] 12 10) (fun a => [(12, .val (.int .i64) (a.1 : Int)), (4, .own a.2.1 .bool a.2.2.1), (1000000, .obj 0 OrT (a.2.2.2, ()))]) (fun a => a.1 ≤ N ∧ a.2.2.1.length = a.1 ∧ isB a.2.2.2 ∧ keepN N (rdO (r.1.tail)) = (a.2.2.1 ++ (keepN (N - a.1) (rdO a.2.2.2)).1, (keepN (N - a.1) (rdO a.2.2.2)).2)) (fun a => N - a.1) (fun m => ⟨(0, m, [], r.1.tail), ⟨Nat.zero_le _, rfl, List.drop_one (l := r.1) ▸ isB_drop hr 1, by simp⟩, hc rfl (hc rfl (hc rfl hn))⟩) ?_
    rintro m j ⟨i, q, row, b⟩ ⟨hi, hl, hb, hk⟩
    simp only at hi hl hb hk
    simp (implicitDefEqProofs := false) (decide := true) (maxSteps := 4000000) [ini, g_onum, onumC_eq]
    refine br_dec (fun hlt m2 => br_intro (fun hb2 => ?_) fun hb2 => ?_) fun hge m2 => ?_
    · have e1 : N - i = N - (i + 1) + 1 := by omega
      rw [e1, keepN_ok hb2, List.drop_one] at hk
      refine ⟨by omega, i + 1, _, row ++ [(takeS b 1).1.tmod 2 == 1], b.tail, ⟨by omega, by simp [hl], List.drop_one (l := b) ▸ isB_drop hb 1, ?_⟩, by omega, w_nat rfl (by omega), ⟨rfl, rfl⟩, rfl⟩
      rw [hk]
      simp
    · have e1 : N - i = N - (i + 1) + 1 := by omega
      rw [e1, keepN_no hb2] at hk
      simp [hk]
    · have e1 : N - i = 0 := by omega
      rw [e1, keepN] at hk
      rw [hk]
      simp [rdO]
  · have e : keepR (rdO r.1) = ([], (r.1, true, ())) := by
      rw [keepR, num_no h, if_neg (by simp only; omega)]; rfl
    rw [e]
    simp
theorem okeep_ok : ConOK Try.prog 33 okeepC := by
  refine con_ok tab_ok (Γ := Γokeep) (consOK_cons onum_ok consOK_nil) (by kernel_rfl) Try.func33 (by kernel_rfl) ?_
  intro args out h
  obtain ⟨x, e, h1⟩ := conN_inv h
  clear h
  obtain ⟨r, x0⟩ := x
  subst e
  replace h1 : (if isB r.1 then orP (!(keepR (rdO r.1)).2.2.1) ⟨.own .bool (keepR (rdO r.1)).1, [⟨OrT, ((keepR (rdO r.1)).2.1, ())⟩]⟩ ⟨.panic [shortE], [⟨OrT, ((keepR (rdO r.1)).2.1, ())⟩]⟩ else none) = some out := h1
  split at h1
  case isFalse => cases h1
  rename_i hr
  injection h1 with h1
  subst h1
  exact ⟨by rw [mkArgs_len]; decide, okeep_ex r hr⟩
end Go.Proofs.Ytmcemcdjfodchaa
