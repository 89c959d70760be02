/- disk.Flush: on the machine. -/
import Derived.Test.YtcopoofbicgjbaaDisk3
set_option maxRecDepth 100000
set_option maxHeartbeats 4000000
set_option linter.unusedSimpArgs false
set_option linter.unusedVariables false
set_option pp.deepTerms.threshold 20
namespace Go.Proofs.Ytcopoofbicgjbaa
open Go.Tm Go.IntWalk Go.RowKit
theorem pt_cells {w0 w : World} {l : List Pt} {A : Option Addr} {c : Nat} {cs : List Value} (h : FreshP w0 w PutT l A c cs) {k : Nat} (hk : k < l.length) :
    ∃ ab ao, A = some ⟨ab, ao, none⟩ ∧ w.cell? ⟨ab, ao + k * 2, none⟩ = some (.int .i64 (l[k]).1) ∧ w.cell? ⟨ab, ao + k * 2 + 1, none⟩ = some (.string (l[k]).2.1) ∧ ab < w.heap.size := by
  obtain ⟨h2, h3, h4, h5, h6, h7⟩ := h
  rcases h7 with ⟨rfl, rfl⟩ | ⟨⟨ab, ao, sp⟩, rfl, hm, hg⟩
  · omega
  obtain rfl : sp = none := hm.out.1
  have hr := h6 w (fun _ => True)
  have hget := hr.get (fun x c hx => rep_len PutT hx) k l[k] (List.getElem?_eq_getElem hk)
  obtain ⟨c1, c2, e1, r1, c3, c4, rfl, r3, r6⟩ := hget
  have r1 : c1 = [.int .i64 (l[k]).1] := r1
  have r3 : c3 = [.string (l[k]).2.1] := r3
  have r6 : c4 = [] := r6
  subst r1 r3 r6
  have key : ∀ j u, ([.int .i64 (l[k]).1, .string (l[k]).2.1] : List Value)[j]? = some u → w.cell? ⟨ab, ao + (k * 2 + j), none⟩ = some u := fun j u hj => by
    have hj3 : j < 2 := by
      rcases Nat.lt_or_ge j 2 with h | h
      · exact h
      · rw [List.getElem?_eq_none (by simpa using h)] at hj; cases hj
    have e2 : ((cs.drop (k * 2)).take 2)[j]? = some u := by
      have e1 : (cs.drop (k * 2)).take 2 = _ := e1
      rw [e1]; exact hj
    rw [List.getElem?_take, if_pos hj3, List.getElem?_drop] at e2
    have := hm.lies _ u e2
    simpa [Addr.add_lit] using this
  exact ⟨ab, ao, rfl, by simpa using key 0 _ rfl, by have := key 1 _ rfl; rwa [← Nat.add_assoc] at this, hm.block_lt⟩
theorem lastsK_take (keep : Nat → Bool) (l : List Pt) (out : List ByteArray) {k : Nat} (hk : k < l.length) : lastsK keep 0 (l.take (k + 1)) out = if keep k = true then putK (lastsK keep 0 (l.take k) out) l[k] else lastsK keep 0 (l.take k) out := by
  rw [List.take_succ_eq_append_getElem hk, lastsK_append, List.length_take, Nat.min_eq_left (Nat.le_of_lt hk), Nat.zero_add]
  rfl
theorem loop_less {n k : Nat} (h : k < n) : n - (intOf (.int .i64 ((k : Int) + 1))).toNat < n - (intOf (.int .i64 (k : Int))).toNat := by
  show n - ((k : Int) + 1).toNat < n - ((k : Int)).toNat
  omega
theorem freshp_nil (w0 w : World) (t : Ty) : FreshP w0 w t [] none 0 [] := ⟨Nat.le_refl _, Nat.zero_le _, (Nat.zero_mul _).symm, fun v hv => (by cases hv), fun _ _ => rfl, .inl ⟨rfl, rfl⟩⟩
theorem flush_calls (d : Dk) (hd : okD d) {w : World} {R : Nat → Prop} {v : Value} (hv : vrep w R DkT d v) :
    Calls Try.prog 11 #[v] w fun e w' => ∃ u, e = .returned (.tuple #[u, .bool (flushK d).2]) ∧ DiskV w w' (flushK d).1 u ∧ But w none w' := by
  have mixed : Try.prog.follows .mixedOrders = true := by kernel_rfl
  obtain ⟨A1, k1, A2, k2, rfl, hv1, hv2⟩ := dk_cells hv
  by_cases hk : d.2.2.2.1 = true
  case pos =>
    rw [show flushK d = (d, false) from if_pos hk]
    have HK : Hid (d.2.2.2.1 = true) := hk
    clear hk
    go_enter Try.func11, Try.ntmps11
    go_wp2_with fail
    refine (own_calls d hd (vrep_but hv ((but_alloc _ _ none).trans (but_alloc _ _ none)))).mono ?_
    rintro _ wa ⟨b, rfl, ⟨AL, cL, csL, AW, cW, csW, g1, g2, g3, g4, g5⟩, ba⟩
    have ez := box2_of _ _ ba
    have ezx := box4 ez
    obtain ⟨z0, z1, z2, z3, z4, z5, z6, z7, z8⟩ := ezx
    have ebx := box4 g2
    obtain ⟨x0, x1, x2, x3, y0, y1, y2, y3, x4⟩ := ebx
    have hk := HK.out
    go_wp2_with fail
    refine bodyPost_ret (v := .tuple #[.agg #[.slice AL d.1.length cL, .slice AW d.2.1.length cW, .int .i64 d.2.2.1, .bool d.2.2.2.1], .bool false]) ((results_cell_tmp rfl _ _ _).trans ?_) rfl ?_
    · go_simp
    · have l1 := fun {ad} => @freshp_lt _ _ _ _ _ _ _ g3 ad
      have l2 := fun {ad} => @freshp_lt _ _ _ _ _ _ _ g4 ad
      simp only [World.size_alloc] at l1 l2
      exact ⟨_, rfl, ⟨AL, cL, csL, AW, cW, csW, rfl, fresh4 g3 (by simp only [World.size_alloc]; omega) (fun ad e => by have := l1 e; omega) _ _ _ _, fresh4 g4 (by simp only [World.size_alloc]; omega) (fun ad e => by have := l2 e; omega) _ _ _ _⟩,
        but4 (((but_alloc _ _ none).trans (but_alloc _ _ none)).trans ba) (by omega) _ _ _ _⟩
  case neg =>
    replace hk : d.2.2.2.1 = false := by simpa using hk
    rw [show flushK d = ((lastsK (fun _ => true) 0 d.2.1 d.1, [], d.2.2.1, d.2.2.2.1, ()), true) from if_neg (by rw [hk]; simp)]
    have HK : Hid (d.2.2.2.1 = false) := hk
    clear hk
    go_enter Try.func11, Try.ntmps11
    go_wp2_with fail
    refine (own_calls d hd (vrep_but hv ((but_alloc _ _ none).trans (but_alloc _ _ none)))).mono ?_
    rintro _ wa ⟨b, rfl, ⟨AL, cL, csL, AW, cW, csW, g1, g2, g3, g4, g5⟩, ba⟩
    have ez := box2_of _ _ ba
    have ezx := box4 ez
    obtain ⟨z0, z1, z2, z3, z4, z5, z6, z7, z8⟩ := ezx
    have ebx := box4 g2
    obtain ⟨x0, x1, x2, x3, y0, y1, y2, y3, x4⟩ := ebx
    simp only [World.size_alloc] at g1
    have l1 := fun {ad} => @freshp_lt _ _ _ _ _ _ _ g3 ad
    have l2 := fun {ad} => @freshp_lt _ _ _ _ _ _ _ g4 ad
    simp only [World.size_alloc] at l1 l2
    have hB0 : But w none wa := ((but_alloc _ _ none).trans (but_alloc _ _ none)).trans ba
    have g3 : FreshP w wa .str d.1 AL cL csL := g3.base (by simp only [World.size_alloc]; omega)
    have g4 : FreshP w wa PutT d.2.1 AW cW csW := g4.base (by simp only [World.size_alloc]; omega)
    clear ba hv hv1 hv2
    have hk := HK.out
    go_wp2_with fail
    clear hk
    go_loopw [24] (fun i wr => ∃ k : Nat, i = .int .i64 k ∧ k ≤ d.2.1.length ∧ (∃ cs, FreshP w wr .str (lastsK (fun _ => true) 0 (d.2.1.take k) d.1) AL cL cs) ∧ FreshP w wr PutT d.2.1 AW cW csW ∧
      wr.heap[b]? = some (.cells #[.slice AL d.1.length cL, .slice AW d.2.1.length cW, .int .i64 d.2.2.1, .bool d.2.2.2.1] 54) ∧
      wr.heap[w.heap.size + 1]? = some (.cells #[.slice none 0 0, .slice none 0 0, .int .i64 0, .bool false] 28) ∧ But w none wr) (fun i _ => d.2.1.length - (intOf i).toNat)
    case atStart => exact ⟨0, rfl, Nat.zero_le _, ⟨_, g3⟩, g4, g2, ez, hB0⟩
    case round =>
      obtain ⟨k, rfl, hk, ⟨cs, hL⟩, hW, hb, hz, hB⟩ := hrel
      have ezx := box4 hz
      obtain ⟨z0, z1, z2, z3, z4, z5, z6, z7, z8⟩ := ezx
      have ebx := box4 hb
      obtain ⟨x0, x1, x2, x3, y0, y1, y2, y3, x4⟩ := ebx
      by_cases hlt : k < d.2.1.length
      case pos =>
        obtain ⟨ab, ao, rfl, c0, c1, c2⟩ := pt_cells hW hlt
        have hw1 : wrap64 ((k : Int) + 1) = (k : Int) + 1 := wrap64_in _ (by have := hd.2.1; omega)
        go_wp2_with fail
        refine (putF_calls (lastsK (fun _ => true) 0 (d.2.1.take k) d.1) d.1.length d.2.2.1 d.2.2.2.1 (d.2.1[k]) (by rw [lastsK_len]) (but_box hb (but_alloc _ _ none)) (hL.move fun ad e => (but_alloc _ _ none).block _ (freshp_lt hL e).2 (fun _ h => by cases h)) g5.1).mono ?_
        rintro _ w2 ⟨rfl, hL', hB'⟩
        go_wp2_with fail
        go_roundw
        case rel =>
          have hX := but_over (hB.trans (but_alloc _ _ none)) hB' (fun ad e => by have := l1 e; omega)
          refine ⟨k + 1, by simp; exact hw1, hlt, ⟨_, by rw [lastsK_take _ _ _ hlt, if_pos rfl]; exact hL'⟩, hW.move (fun ad e => ?_), app_beside hB' hb g5.1, app_beside hB' hz (fun ad e => by have := l1 e; omega), hX⟩
          exact (hB'.block _ (by have := freshp_lt hW e; rw [World.size_alloc]; omega) (fun ae h => (g5.2.2 ae ad h e))).trans ((but_alloc _ _ none).block _ (freshp_lt hW e).2 (fun _ h => by cases h))
        case measure =>
          show d.2.1.length - (intOf (.int .i64 (wrap64 ((k : Int) + 1)))).toNat < d.2.1.length - (intOf (.int .i64 (k : Int))).toNat
          rw [hw1]
          exact loop_less hlt
      case neg =>
        obtain rfl : k = d.2.1.length := by omega
        rw [List.take_length] at hL
        go_wp2_with fail
        refine bodyPost_ret (v := .tuple #[.agg #[.slice AL d.1.length cL, .slice none 0 0, .int .i64 d.2.2.1, .bool d.2.2.2.1], .bool true]) ((results_cell_tmp rfl _ _ _).trans ?_) rfl ?_
        · go_simp
          try rfl
        · have hbw : w.heap.size ≤ b := by omega
          refine ⟨_, rfl, ⟨AL, cL, cs, none, 0, [], by simp only [lastsK_len]; rfl, hL.move (fun ad e => ?_), freshp_nil _ _ _⟩, ?_⟩
          · have k1 := g5.1 ad e
            have k2 : ad.block ≠ w.heap.size + 1 := by have := l1 e; omega
            repeat (refine (RowKit.Below.heap_setCell _ _ _ _ ?_).trans ?_; · first | exact k2 | exact k1)
            rfl
          · repeat (refine butSet ?_ _ _ ?hx; case hx => first | exact hbw | exact Nat.le_succ _)
            exact hB
end Go.Proofs.Ytcopoofbicgjbaa
