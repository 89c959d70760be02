/- disk.Crash: on the machine. -/
import Derived.Test.YtcopoofbicgjbaaDisk4
set_option maxRecDepth 100000
set_option maxHeartbeats 4000000
set_option linter.unusedSimpArgs false
set_option linter.unusedVariables false
set_option pp.deepTerms.threshold 20
namespace Go.Proofs.Ytcopoofbicgjbaa
open Go.Tm Go.IntWalk Go.RowKit
theorem results_cell1 {fn : Func} {p : Tmp} {ty : TypeId} (h : fn.results = #[.cell p ty]) (tmps : Array Value) (P : Program) (w : World) :
    (results fn tmps).run P w = ((asAddr (tmps.getD p undef)).run P w).andThen fun a w₁ => (loadVar ty a).run P w₁ := by
  simp only [results, h]
  simp [Sem.run_bind, Result.andThen]
theorem bool_cells {w : World} {R : Nat → Prop} {l : List Bool} {v : Value} (hv : vrep w R (.slice .bool) l v) : ∃ A c, v = .slice A l.length c ∧ ∀ k (hk : k < l.length), ∃ ab ao, A = some ⟨ab, ao, none⟩ ∧ w.cell? ⟨ab, ao + k, none⟩ = some (.bool l[k]) ∧ ab < w.heap.size := by
  obtain ⟨csv, ⟨A, c, rfl, h1, h2, h3⟩, e⟩ := hv
  obtain rfl : v = .slice A l.length c := e
  refine ⟨A, c, rfl, fun k hk => ?_⟩
  rcases h3 with rfl | ⟨⟨ab, ao, sp⟩, inner, rfl, h4, h5, h6, h7⟩
  · simp at hk
  have hget := h6.get (n := 1) (fun x c hx => rep_len .bool hx) k l[k] (List.getElem?_eq_getElem hk)
  have hget : (inner.drop (k * 1)).take 1 = [.bool l[k]] := hget
  have e2 : inner[k]? = some (.bool l[k]) := by
    have h := congrArg (fun z => z[0]?) hget
    simp only [List.getElem?_take, List.getElem?_drop] at h
    simpa using h
  have hsp : sp = none := by
    have := h7 k _ e2
    cases sp with
    | none => rfl
    | some s =>
      exfalso
      have h0 : 0 < inner.length := by have := (List.getElem?_eq_some_iff.1 e2).1; omega
      have := h7 0 _ (List.getElem?_eq_getElem h0)
      simp [Addr.add, World.cell?] at this
      split at this <;> simp at this
  subst hsp
  exact ⟨ab, ao, rfl, by have := h7 k _ e2; rwa [Addr.add_lit] at this, h5⟩
theorem crash_calls (d : Dk) (keep : List Bool) (hd : okD d) {w : World} {R : Nat → Prop} {v vk : Value} (hv : vrep w R DkT d v) (hkv : vrep w R (.slice .bool) keep vk) :
    Calls Try.prog 13 #[v, vk] w fun e w' => ∃ u, e = .returned u ∧ DiskV w w' (crashK d keep) u ∧ But w none w' := by
  have mixed : Try.prog.follows .mixedOrders = true := by kernel_rfl
  obtain ⟨A1, k1, A2, k2, rfl, hv1, hv2⟩ := dk_cells hv
  obtain ⟨KA, kc, rfl, hK⟩ := bool_cells hkv
  rw [crashK]
  go_enter Try.func13, Try.ntmps13
  go_wp2_with fail
  refine (own_calls d hd (vrep_but hv ((but_alloc _ _ none).trans (but_alloc _ _ none)))).mono ?_
  rintro _ wa ⟨b, rfl, ⟨AL, cL, csL, AW, cW, csW, g1, g2, g3, g4, g5⟩, ba⟩
  have ez := box2_of _ _ ba
  have ezx := box4 ez
  obtain ⟨z0, z1, z2, z3, z4, z5, z6, z7, z8⟩ := ezx
  have ebx := box4 g2
  obtain ⟨x0, x1, x2, x3, y0, y1, y2, y3, x4⟩ := ebx
  simp only [World.size_alloc] at g1
  have l1 := fun {ad} => @freshp_lt _ _ _ _ _ _ _ g3 ad
  have l2 := fun {ad} => @freshp_lt _ _ _ _ _ _ _ g4 ad
  simp only [World.size_alloc] at l1 l2
  have hB0 : But w none wa := ((but_alloc _ _ none).trans (but_alloc _ _ none)).trans ba
  have g3 : FreshP w wa .str d.1 AL cL csL := g3.base (by simp only [World.size_alloc]; omega)
  have g4 : FreshP w wa PutT d.2.1 AW cW csW := g4.base (by simp only [World.size_alloc]; omega)
  clear ba hv hv1 hv2 hkv
  go_wp2_with fail
  go_loopw [16] (fun i wr => ∃ k : Nat, i = .int .i64 k ∧ k ≤ d.2.1.length ∧ (∃ cs, FreshP w wr .str (lastsK (keepL keep) 0 (d.2.1.take k) d.1) AL cL cs) ∧ FreshP w wr PutT d.2.1 AW cW csW ∧
    wr.heap[b]? = some (.cells #[.slice AL d.1.length cL, .slice AW d.2.1.length cW, .int .i64 d.2.2.1, .bool d.2.2.2.1] 54) ∧
    wr.heap[w.heap.size + 1]? = some (.cells #[.slice none 0 0, .slice none 0 0, .int .i64 0, .bool false] 28) ∧ But w none wr) (fun i _ => d.2.1.length - (intOf i).toNat)
  case atStart => exact ⟨0, rfl, Nat.zero_le _, ⟨_, g3⟩, g4, g2, ez, hB0⟩
  case round =>
    obtain ⟨k, rfl, hk, ⟨cs, hL⟩, hW, hb, hz, hB⟩ := hrel
    have ezx := box4 hz
    obtain ⟨z0, z1, z2, z3, z4, z5, z6, z7, z8⟩ := ezx
    have ebx := box4 hb
    obtain ⟨x0, x1, x2, x3, y0, y1, y2, y3, x4⟩ := ebx
    by_cases hlt : k < d.2.1.length
    case pos =>
      obtain ⟨ab, ao, rfl, c0, c1, c2⟩ := pt_cells hW hlt
      have hw1 : wrap64 ((k : Int) + 1) = (k : Int) + 1 := wrap64_in _ (by have := hd.2.1; omega)
      have hKk : k < keep.length → ∃ kb ko, KA = some ⟨kb, ko, none⟩ ∧ wr.cell? ⟨kb, ko + k, none⟩ = some (.bool (keep.getD k false)) ∧ kb < wr.heap.size := fun h => by
        obtain ⟨kb, ko, e, h1, h2⟩ := hK k h
        refine ⟨kb, ko, e, ?_, Nat.lt_of_lt_of_le h2 hB.size⟩
        rw [List.getD_eq_getElem?_getD, List.getElem?_eq_getElem h]
        have := hB.block kb h2 (fun _ h => by cases h)
        simp only [World.cell?] at h1 ⊢
        rw [this]; exact h1
      by_cases hkl : k < keep.length
      case pos =>
        obtain ⟨kb, ko, rfl, hKc, hKs⟩ := hKk hkl
        have hkI : ((k : Int) < (keep.length : Int)) := Int.ofNat_lt.2 hkl
        cases hkp : keep.getD k false with
        | true =>
          rw [hkp] at hKc
          go_wp2_with fail
          refine (putF_calls (lastsK (keepL keep) 0 (d.2.1.take k) d.1) d.1.length d.2.2.1 d.2.2.2.1 (d.2.1[k]) (by rw [lastsK_len]) (but_box hb (but_alloc _ _ none)) (hL.move fun ad e => (but_alloc _ _ none).block _ (freshp_lt hL e).2 (fun _ h => by cases h)) g5.1).mono ?_
          rintro _ w2 ⟨rfl, hL', hB'⟩
          go_wp2_with fail
          go_roundw
          case rel =>
            have hX := but_over (hB.trans (but_alloc _ _ none)) hB' (fun ad e => by have := l1 e; omega)
            refine ⟨k + 1, by simp; exact hw1, hlt, ⟨_, by rw [lastsK_take _ _ _ hlt, if_pos (show keepL keep k = true from hkp)]; exact hL'⟩, hW.move (fun ad e => ?_), app_beside hB' hb g5.1, app_beside hB' hz (fun ad e => by have := l1 e; omega), hX⟩
            exact (hB'.block _ (by have := freshp_lt hW e; rw [World.size_alloc]; omega) (fun ae h => (g5.2.2 ae ad h e))).trans ((but_alloc _ _ none).block _ (freshp_lt hW e).2 (fun _ h => by cases h))
          case measure =>
            show d.2.1.length - (intOf (.int .i64 (wrap64 ((k : Int) + 1)))).toNat < d.2.1.length - (intOf (.int .i64 (k : Int))).toNat
            rw [hw1]
            exact loop_less hlt
        | false =>
          rw [hkp] at hKc
          go_wp2_with fail
          go_roundw
          case rel =>
            refine ⟨k + 1, by simp; exact hw1, hlt, ⟨_, by rw [lastsK_take _ _ _ hlt, if_neg (show ¬ keepL keep k = true from by rw [show keepL keep k = false from hkp]; exact Bool.false_ne_true)]; exact hL.move (fun ad e => (but_alloc _ _ none).block _ (freshp_lt hL e).2 (fun _ h => by cases h))⟩,
              hW.move (fun ad e => (but_alloc _ _ none).block _ (freshp_lt hW e).2 (fun _ h => by cases h)), but_box hb (but_alloc _ _ none), but_box hz (but_alloc _ _ none), hB.trans (but_alloc _ _ none)⟩
          case measure =>
            show d.2.1.length - (intOf (.int .i64 (wrap64 ((k : Int) + 1)))).toNat < d.2.1.length - (intOf (.int .i64 (k : Int))).toNat
            rw [hw1]
            exact loop_less hlt
      case neg =>
        have hkp : keep.getD k false = false := by rw [List.getD_eq_getElem?_getD, List.getElem?_eq_none (Nat.le_of_not_lt hkl)]; rfl
        have hkI : ¬ ((k : Int) < (keep.length : Int)) := fun h => hkl (Int.ofNat_lt.1 h)
        go_wp2_with fail
        go_roundw
        case rel =>
          refine ⟨k + 1, by simp; exact hw1, hlt, ⟨_, by rw [lastsK_take _ _ _ hlt, if_neg (show ¬ keepL keep k = true from by rw [show keepL keep k = false from hkp]; exact Bool.false_ne_true)]; exact hL.move (fun ad e => (but_alloc _ _ none).block _ (freshp_lt hL e).2 (fun _ h => by cases h))⟩,
            hW.move (fun ad e => (but_alloc _ _ none).block _ (freshp_lt hW e).2 (fun _ h => by cases h)), but_box hb (but_alloc _ _ none), but_box hz (but_alloc _ _ none), hB.trans (but_alloc _ _ none)⟩
        case measure =>
          show d.2.1.length - (intOf (.int .i64 (wrap64 ((k : Int) + 1)))).toNat < d.2.1.length - (intOf (.int .i64 (k : Int))).toNat
          rw [hw1]
          exact loop_less hlt
    case neg =>
      obtain rfl : k = d.2.1.length := by omega
      rw [List.take_length] at hL
      go_wp2_with fail
      refine bodyPost_ret (v := .agg #[.slice AL d.1.length cL, .slice none 0 0, .int .i64 0, .bool false]) ((results_cell1 rfl _ _ _).trans ?_) rfl ?_
      · go_simp
        try rfl
      · have hbw : w.heap.size ≤ b := by omega
        refine ⟨_, rfl, ⟨AL, cL, cs, none, 0, [], by simp only [lastsK_len]; rfl, hL.move (fun ad e => ?_), freshp_nil _ _ _⟩, ?_⟩
        · have k1 := g5.1 ad e
          have k2 : ad.block ≠ w.heap.size + 1 := by have := l1 e; omega
          repeat (refine (RowKit.Below.heap_setCell _ _ _ _ ?_).trans ?_; · first | exact k2 | exact k1)
          rfl
        · repeat (refine butSet ?_ _ _ ?hx; case hx => first | exact hbw | exact Nat.le_succ _)
          exact hB
end Go.Proofs.Ytcopoofbicgjbaa
