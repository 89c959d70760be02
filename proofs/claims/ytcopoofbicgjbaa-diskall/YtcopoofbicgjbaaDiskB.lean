/- slices.Backward over the writes that wait: what its function value gives. -/
import Derived.RangeFuncNested
import Derived.RangeFuncBound
import Derived.RangeFuncCalls
import Derived.RangeFuncLeaves
import Derived.Shelf.Abstract
import Derived.WalkKit
import Derived.OwnWalkIn
import Derived.TacticsInMore
import Derived.LoopNIn
import Derived.LoopIn
import Derived.Test.YtcopoofbicgjbaaDisk5
set_option maxRecDepth 100000
set_option maxHeartbeats 4000000
set_option linter.unusedSimpArgs false
set_option linter.unusedVariables false
set_option pp.deepTerms.threshold 20
namespace Go.Proofs.Ytcopoofbicgjbaa
open Go.Tm Go.IntWalk Go.RowKit Go.Shelf
attribute [local go_sem] Oper.semAt_some
def upto {α : Type} (f : Nat → α) (k : Nat) : List α := (List.range k).map f
theorem upto_succ {α : Type} (f : Nat → α) (k : Nat) : upto f (k + 1) = upto f k ++ [f k] := by simp [upto, List.range_succ]
theorem upto_length {α : Type} (f : Nat → α) (k : Nat) : (upto f k).length = k := by simp [upto]
def PutsAt (n₀ : Nat) (W : World) (A : Option Addr) (zs : List Pt) : Prop :=
  ∀ k, k < zs.length → ∃ ab ao, A = some ⟨ab, ao, none⟩ ∧ ab < n₀ ∧ W.cell? ⟨ab, ao + k * 2, none⟩ = some (.int .i64 (zs.getD k dfltP).1) ∧ W.cell? ⟨ab, ao + k * 2 + 1, none⟩ = some (.string (zs.getD k dfltP).2.1)
def backF (zs : List Pt) (j : Nat) : Nat × Pt := (zs.length - 1 - j, zs.getD (zs.length - 1 - j) dfltP)
abbrev encB (x : Nat × Pt) : Array Value := #[Value.int .i64 (x.1 : Int), .agg #[.int .i64 x.2.1, .string x.2.2.1]]
theorem PutsAt.below {n₀ : Nat} {A B : World} (h : Below n₀ A B) {a : Option Addr} {zs : List Pt} (hp : PutsAt n₀ A a zs) : PutsAt n₀ B a zs := fun k hk => by
  obtain ⟨ab, ao, e, h1, h2, h3⟩ := hp k hk
  exact ⟨ab, ao, e, h1, (h.cell (p := ⟨ab, ao + k * 2, none⟩) h1).trans h2, (h.cell (p := ⟨ab, ao + k * 2 + 1, none⟩) h1).trans h3⟩
theorem back_less (m : Nat) : (intOf (.int .i64 ((m : Int) - 1)) + 1).toNat < (intOf (.int .i64 (m : Int)) + 1).toNat := by
  show ((m : Int) - 1 + 1).toNat < ((m : Int) + 1).toNat
  omega
theorem back1_in (F : Fence) (n : Nat) (h7 : F.fn 39) (hro : F.round = none) (hn : 1 ≤ n) (l Bs n₀ cap : Nat) (A : Option Addr) (zs : List Pt) (hlen : zs.length ≤ 1000) (J Jx : List (Nat × Pt) → World → Prop)
    (hY : ∀ pre x W, J pre W → pre.length < zs.length → YieldAt F (n - 1) Try.prog l (encB x) W fun e W' =>
      (e = .returned (.bool true) ∧ J (pre ++ [x]) W' ∧ Below n₀ W W') ∨ (e = .returned (.bool false) ∧ Jx (pre ++ [x]) W'))
    (W : World) (hBs : W.cell? ⟨Bs, 0, none⟩ = some (.slice A zs.length cap)) (hBn : Bs < n₀) (hc : PutsAt n₀ W A zs) (h0 : J [] W) :
    CallsIn F n Try.prog 39 #[.func (.yield l) #[] #[], .pointer (some ⟨Bs, 0, none⟩)] W fun e W' => (∃ v, e = .returned v) ∧
      ((∃ ys, ys = upto (backF zs) zs.length ∧ J ys W') ∨ (∃ pre, (∃ k, k ≤ zs.length ∧ pre = upto (backF zs) k) ∧ Jx pre W')) := by
  have mixed : Try.prog.follows .mixedOrders = true := by kernel_rfl
  refine callsIn_of_wp Try.func39 rfl h7 ?_ hro
  simp only [Try.ntmps39, List.size_toArray, List.length_cons, List.length_nil, Nat.reduceAdd, Nat.reduceSub, Array.replicate_succ, Array.replicate_zero, List.push_toArray, List.append_toArray, List.nil_append, List.cons_append]
  have hw0 : wrap64 ((zs.length : Int) - 1) = (zs.length : Int) - 1 := wrap64_in _ (by omega)
  gi_wp2
  gi_loopw [3] (fun i wr => ∃ m : Nat, m ≤ zs.length ∧ i = .int .i64 ((m : Int) - 1) ∧ J (upto (backF zs) (zs.length - m)) wr ∧ Below n₀ W wr)
    (fun i _ => (intOf i + 1).toNat)
  case atStart => exact ⟨zs.length, Nat.le_refl _, rfl, by rw [Nat.sub_self]; exact h0, Below.refl _ _⟩
  case round =>
    obtain ⟨m, hm, rfl, hJs, hnx⟩ := hrel
    have hB1 := (hnx.cell (p := ⟨Bs, 0, none⟩) hBn).trans hBs
    cases m with
    | zero =>
      have e0 : ((0 : Nat) : Int) - 1 = -1 := by omega
      rw [e0]
      gi_wp2
      go_end0
      exact ⟨⟨_, rfl⟩, .inl ⟨_, rfl, hJs⟩⟩
    | succ m =>
      have e0 : ((m + 1 : Nat) : Int) - 1 = (m : Int) := by omega
      rw [e0]
      obtain ⟨ab, ao, rfl, hb, hc0, hc1⟩ := (hc.below hnx) m (by omega)
      obtain ⟨⟨p1, p2, ⟨⟩⟩, hp⟩ : ∃ p, zs.getD m dfltP = p := ⟨_, rfl⟩
      rw [hp] at hc0 hc1
      obtain ⟨fn, tmps, assign, body, hy, hR⟩ := hY _ (m, (p1, p2, ())) wr hJs (by rw [upto_length]; omega)
      dsimp only [encB] at hy
      have eU : upto (backF zs) (zs.length - (m + 1)) ++ [(m, (p1, p2, ()))] = upto (backF zs) (zs.length - m) := by
        rw [show zs.length - m = (zs.length - (m + 1)) + 1 by omega, upto_succ, backF, show zs.length - 1 - (zs.length - (m + 1)) = m by omega, hp]
      have hm0 : m < zs.length := hm
      have HP : Hid (m ≤ zs.length) := Nat.le_of_lt hm
      rw [eU] at hR
      have HL : Hid (zs.length ≤ 1000) := hlen
      have HW : Hid (wrap64 ((m : Int) - 1) = (m : Int) - 1) := wrap64_in _ (by omega)
      clear hp eU hw0 hm hlen
      gi_wp2
      refine hR.mono ?_
      rintro e W3 (⟨rfl, hJ3, hk3⟩ | ⟨rfl, hJx3⟩)
      · gi_wp2
        go_roundw
        case rel => exact ⟨m, HP.out, by rw [HW.out], hJ3, hnx.trans hk3⟩
        case measure =>
          show (intOf (.int .i64 (wrap64 ((m : Int) - 1))) + 1).toNat < (intOf (.int .i64 (m : Int)) + 1).toNat
          rw [HW.out]
          exact back_less m
      · gi_wp2
        refine bodyPost_ret (results_none rfl _ _ _) rfl ?_
        exact ⟨⟨_, rfl⟩, .inr ⟨_, ⟨zs.length - m, Nat.sub_le _ _, rfl⟩, hJx3⟩⟩
theorem back_in (F : Fence) (n : Nat) (h5 : F.fn 28) (hro : F.round = none) (a : Option Addr) (len cap : Nat) (w : World) :
    CallsIn F n Try.prog 28 #[.slice a len cap] w fun e w' => e = .returned (.func (.func 39) #[] #[.pointer (some ⟨w.heap.size, 0, none⟩)]) ∧ w' = w.alloc (.cells #[.slice a len cap] 26) := by
  have mixed : Try.prog.follows .mixedOrders = true := by kernel_rfl
  refine callsIn_of_wp Try.func28 rfl h5 ?_ hro
  simp only [Try.ntmps28, List.size_toArray, List.length_cons, List.length_nil, Nat.reduceAdd, Nat.reduceSub, Array.replicate_succ, Array.replicate_zero, List.push_toArray, List.append_toArray, List.nil_append, List.cons_append]
  gi_wp2
  go_ret
  exact ⟨rfl, rfl⟩
theorem back_stops (F : Fence) (n : Nat) (h8 : F.fn 39) (hro : F.round = none) (hn : 1 ≤ n) (Bs n₀ cap : Nat) (A : Option Addr) (zs : List Pt) (hlen : zs.length ≤ 1000) (w : World) (hBs : Bs < w.heap.size) (hn₀ : n₀ ≤ w.heap.size) (hBn : Bs < n₀)
    (hc : w.cell? ⟨Bs, 0, none⟩ = some (.slice A zs.length cap)) (hI : PutsAt n₀ w A zs) :
    SeqStopsK F n Try.prog 39 #[.pointer (some ⟨Bs, 0, none⟩)] encB (Below n₀) (fun ys => ys = upto (backF zs) zs.length)
      (fun pre => ∃ k, k ≤ zs.length ∧ pre = upto (backF zs) k) zs.length w := fun l J Jx W hW _ _ hY h0 =>
  back1_in F n h8 hro hn l Bs n₀ cap A zs hlen J Jx hY W ((hW.cell (p := ⟨Bs, 0, none⟩) hBs).trans hc) hBn (hI.below (hW.mono hn₀)) h0
theorem puts_at {w : World} {R : Nat → Prop} {l : List Pt} {A : Option Addr} {c : Nat} (hv : vrep w R (.slice PutT) l (.slice A l.length c)) : PutsAt w.heap.size w A l := by
  obtain ⟨csv, ⟨A', c', e1, h1, h2, h3⟩, e⟩ := hv
  subst e1
  have e : Value.slice A l.length c = .slice A' l.length c' := e
  injection e with e2 e3 e4
  subst e2 e4
  intro k hk
  rcases h3 with rfl | ⟨⟨ab, ao, sp⟩, inner, rfl, h4, h5, h6, h7⟩
  · simp at hk
  have hget := h6.get (n := PutT.sz) (fun x c hx => rep_len PutT hx) k l[k] (List.getElem?_eq_getElem hk)
  obtain ⟨c1, c2, e1, r1, c3, c4, rfl, r3, r6⟩ := hget
  have r1 : c1 = [.int .i64 (l[k]).1] := r1
  have r3 : c3 = [.string (l[k]).2.1] := r3
  have r6 : c4 = [] := r6
  subst r1 r3 r6
  have key : ∀ j u, ([.int .i64 (l[k]).1, .string (l[k]).2.1] : List Value)[j]? = some u → inner[k * 2 + j]? = some u := fun j u hj => by
    have hj3 : j < 2 := by
      rcases Nat.lt_or_ge j 2 with h | h
      · exact h
      · rw [List.getElem?_eq_none (by simpa using h)] at hj; cases hj
    have e2 : ((inner.drop (k * 2)).take 2)[j]? = some u := by
      have e1 : (inner.drop (k * 2)).take 2 = _ := e1
      rw [e1]; exact hj
    rw [List.getElem?_take, if_pos hj3, List.getElem?_drop] at e2
    exact e2
  have hsp : sp = none := by
    cases sp with
    | none => rfl
    | some s =>
      exfalso
      have e2 := key 0 _ rfl
      have h0 : 0 < inner.length := by have := (List.getElem?_eq_some_iff.1 e2).1; omega
      have := h7 0 _ (List.getElem?_eq_getElem h0)
      simp [Addr.add, World.cell?] at this
      split at this <;> simp at this
  subst hsp
  have eg : l.getD k dfltP = l[k] := by rw [List.getD_eq_getElem?_getD, List.getElem?_eq_getElem hk]; rfl
  rw [eg]
  have a0 := h7 _ _ (key 0 _ rfl)
  have a1 := h7 _ _ (key 1 _ rfl)
  rw [Addr.add_lit] at a0 a1
  exact ⟨ab, ao, rfl, h5, a0, by rw [Nat.add_assoc]; exact a1⟩
end Go.Proofs.Ytcopoofbicgjbaa
