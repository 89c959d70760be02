/- Texts joined: EditG, EditH. -/
import Derived.Test.YtodkmhamaahjmaaGreatDoorEditE
import Derived.Test.YtodkmhamaahjmaaGreatDoorName2
/- edit: place, ways: on the machine. -/
set_option maxRecDepth 100000
set_option maxHeartbeats 4000000
set_option linter.unusedSimpArgs false
set_option linter.unusedVariables false
set_option pp.deepTerms.threshold 20
namespace Go.Proofs.YtodkmhamaahjmaaGreatDoor
open Go.Tm Go.IntWalk Go.RowKit
theorem str_cells {w : World} {R : Nat → Prop} {l : List ByteArray} {A : Option Addr} {c : Nat} (hv : vrep w R (.slice .str) l (.slice A l.length c)) (k : Nat) (hk : k < l.length) : ∃ ab ao, A = some ⟨ab, ao, none⟩ ∧ w.cell? ⟨ab, ao + k, none⟩ = some (.string l[k]) ∧ ab < w.heap.size := by
  obtain ⟨csv, ⟨A', c', e1, h1, h2, h3⟩, e⟩ := hv
  subst e1
  have e : Value.slice A l.length c = .slice A' l.length c' := e
  injection e with e2 e3 e4
  subst e2 e4
  rcases h3 with rfl | ⟨⟨ab, ao, sp⟩, inner, rfl, h4, h5, h6, h7⟩
  · simp at hk
  have hget := h6.get (n := 1) (fun x c hx => rep_len .str hx) k l[k] (List.getElem?_eq_getElem hk)
  have hget : (inner.drop (k * 1)).take 1 = [.string l[k]] := hget
  have e2 : inner[k]? = some (.string l[k]) := by
    have h := congrArg (fun z => z[0]?) hget
    simp only [List.getElem?_take, List.getElem?_drop] at h
    simpa using h
  have hsp : sp = none := by
    cases sp with
    | none => rfl
    | some s =>
      exfalso
      have h0 : 0 < inner.length := by have := (List.getElem?_eq_some_iff.1 e2).1; omega
      have := h7 0 _ (List.getElem?_eq_getElem h0)
      simp [Addr.add, World.cell?] at this
      split at this <;> simp at this
  subst hsp
  exact ⟨ab, ao, rfl, by have := h7 k _ e2; rwa [Addr.add_lit] at this, h5⟩
theorem box2f {w : World} {b : Nat} {u v : Value} {T : TypeId} (h : w.heap[b]? = some (.cells #[u, v] T)) : w.frozen? ⟨b, 0, none⟩ = false ∧ w.frozen? ⟨b, 1, none⟩ = false := by
  refine ⟨?_, ?_⟩ <;> simp [World.frozen?, h]
theorem slice_val {w : World} {R : Nat → Prop} {t : Ty} {l : List t.den} {v : Value} (hv : vrep w R (.slice t) l v) : ∃ A c, v = .slice A l.length c ∧ l.length ≤ c ∧ c ≤ maxLen := by
  obtain ⟨csv, ⟨A, c, rfl, h1, h2, _⟩, e⟩ := hv
  exact ⟨A, c, e, h1, h2⟩
theorem vrep_front {w : World} {R : Nat → Prop} {l : List ByteArray} {A : Option Addr} {c : Nat} (hv : vrep w R (.slice .str) l (.slice A l.length c)) {m : Nat} (hm : m ≤ l.length) : vrep w R (.slice .str) (l.take m) (.slice A m c) := by
  obtain ⟨csv, ⟨A', c', e1, h1, h2, h3⟩, e⟩ := hv
  subst e1
  have e : Value.slice A l.length c = .slice A' l.length c' := e
  injection e with e2 e3 e4
  subst e2 e4
  have hl : (l.take m).length = m := by rw [List.length_take]; omega
  refine ⟨[.slice A m c], ⟨A, c, by rw [hl], by rw [hl]; omega, h2, ?_⟩, rfl⟩
  rcases h3 with rfl | ⟨ad, inner, rfl, h4, h5, h6, h7⟩
  · exact .inl (by simp)
  · refine .inr ⟨ad, inner.take m, rfl, h4, h5, ?_, fun j v hj => h7 j v ?_⟩
    · have := h6.take (n := 1) (fun x c hx => rep_len .str hx) m
      rwa [Nat.mul_one] at this
    · rw [List.getElem?_take] at hj
      split at hj
      · exact hj
      · cases hj
theorem find_front (t : List Node) (p : ByteArray) (own : Bool) : findT t (pathS (partsS p own).1.dropLast) own = walk0 t (partsS p own).1.dropLast := by
  obtain ⟨h1, h2⟩ := parts_ok (s := p) (own := own)
  have h3 : ∀ x ∈ (partsS p own).1.dropLast, partOK own x = true := fun x hx => h2 x (List.mem_of_mem_take (List.dropLast_eq_take ▸ hx))
  have := parts_path (l := (partsS p own).1.dropLast) (own := own) h3
  rw [if_pos (by rw [List.length_dropLast]; omega)] at this
  rw [findT, this, if_neg (by simp)]
theorem path_small (p : ByteArray) (own : Bool) : (pathS (partsS p own).1.dropLast).size ≤ 1000000000 := by
  obtain ⟨h1, h2⟩ := parts_ok (s := p) (own := own)
  have h3 : ∀ x ∈ (partsS p own).1.dropLast, partOK own x = true := fun x hx => h2 x (List.mem_of_mem_take (List.dropLast_eq_take ▸ hx))
  have hj := join_len (l := (partsS p own).1.dropLast) (p := ⟨#[47]⟩) (by decide) (part_small h3)
  have e3 : (⟨#[47]⟩ : ByteArray).data.toList = [47] := rfl
  rw [e3] at hj
  rw [bl_size, pathS_bl, List.length_cons]
  have hl : (partsS p own).1.dropLast.length ≤ 8 := by rw [List.length_dropLast]; omega
  refine Nat.le_trans (Nat.succ_le_succ hj) (by omega)
theorem place_none {w0 w : World} {b : Nat} {ad : Addr} {c : Nat} {t : List Node} {own : Bool} (h : WK w0 w b ad c t own) (hf : fitT t) (p : ByteArray) (hp : p.size ≤ 1000000000) (h0 : (partsS p own).1.length = 0) :
    Calls Tryz.prog 34 #[.pointer (some ⟨b, 0, none⟩), .string p] w fun en w' => en = UpE 3 ∧ But w none w' := by
  have mixed : Tryz.prog.follows .mixedOrders = true := by kernel_rfl
  have bw0 : But w none (w.alloc (.cells #[.int .i64 0, .string { data := #[] }] 65)) := but_alloc _ _ _
  have h1 := h.move bw0
  clear h
  obtain ⟨x0, x1, x2⟩ := h1.cells
  go_enter Tryz.func34, Tryz.ntmps34
  go_wp2_with fail
  refine (parts_calls p own hp).mono ?_
  rintro _ w1 ⟨v1, rfl, ⟨R', hv⟩, b1⟩
  obtain ⟨A, ca, rfl, hc1, hc2⟩ := slice_val hv
  rw [h0]
  go_wp2_with fail
  refine (no_yes _ _).mono ?_
  rintro _ w2 ⟨rfl, rfl⟩
  exact ⟨rfl, rfl, bw0.trans b1⟩
theorem place_some {w0 w : World} {b : Nat} {ad : Addr} {c : Nat} {t : List Node} {own : Bool} (h : WK w0 w b ad c t own) (hf : fitT t) (p : ByteArray) (hp : p.size ≤ 1000000000) (h0 : (partsS p own).1.length ≠ 0) :
    Calls Tryz.prog 34 #[.pointer (some ⟨b, 0, none⟩), .string p] w fun en w' => en = (if (placeT t (partsS p own).1).2.2 = 0 then .returned (.agg #[.int .i64 (placeT t (partsS p own).1).1, .string (placeT t (partsS p own).1).2.1]) else UpE (placeT t (partsS p own).1).2.2) ∧ But w none w' := by
  have mixed : Tryz.prog.follows .mixedOrders = true := by kernel_rfl
  have bw0 : But w none (w.alloc (.cells #[.int .i64 0, .string { data := #[] }] 65)) := but_alloc _ _ _
  have eb0 : (w.alloc (.cells #[.int .i64 0, .string { data := #[] }] 65)).heap[w.heap.size]? = some (.cells #[.int .i64 0, .string { data := #[] }] 65) := (MapKept.heap_alloc w _).1
  have h1 := h.move bw0
  clear h
  obtain ⟨x0, x1, x2⟩ := h1.cells
  have hff := find_front t p own
  have hfs := path_small p own
  have hpo := parts_ok (s := p) (own := own)
  have hpl : placeT t (partsS p own).1 = if (walk0 t (partsS p own).1.dropLast).2 ≠ 0 then (0, no, (walk0 t (partsS p own).1.dropLast).2) else if kindT t (walk0 t (partsS p own).1.dropLast).1 ≠ 2 then (0, no, 5) else ((walk0 t (partsS p own).1.dropLast).1, (partsS p own).1.getLast?.getD no, 0) := rfl
  have hpc := parts_calls p own hp (w := w.alloc (.cells #[.int .i64 0, .string { data := #[] }] 65))
  obtain ⟨L, hL⟩ : ∃ L, (partsS p own).1 = L := ⟨_, rfl⟩
  obtain ⟨B, hB⟩ : ∃ B, (partsS p own).2 = B := ⟨_, rfl⟩
  rw [hL] at hff hfs hpo hpl h0
  rw [hL, hB] at hpc
  rw [hL]
  obtain ⟨m, hm⟩ : ∃ m, L.length = m + 1 := ⟨L.length - 1, by omega⟩
  have hm8 : m < 8 := by have := hpo.1; omega
  have hdl : L.dropLast = L.take m := by rw [List.dropLast_eq_take, hm]; rfl
  have hsm : smallL (L.take m) := part_small (own := own) fun x hx => hpo.2 x (List.mem_of_mem_take hx)
  have hml : m < L.length := by omega
  rw [hdl] at hff hfs hpl
  have hlast : L.getLast?.getD no = L[m] := by
    rw [List.getLast?_eq_getElem?, hm, List.getElem?_eq_getElem (by omega)]; rfl
  rw [hlast] at hpl
  clear hL hdl hlast
  by_cases hw : (walk0 t (L.take m)).2 = 0
  case neg =>
    rw [if_pos hw] at hpl
    rw [hpl, if_neg hw]
    go_enter Tryz.func34, Tryz.ntmps34
    go_wp2_with fail
    refine hpc.mono ?_
    rintro _ w1 ⟨v1, rfl, ⟨R', hv⟩, b1⟩
    obtain ⟨A, ca, rfl, hc1, hc2⟩ := slice_val hv
    rw [hm] at hc1 ⊢
    clear hpc
    go_wp2_with fail
    refine (no_no _ _).mono ?_
    rintro _ w2 ⟨rfl, rfl⟩
    go_wp2_with fail
    refine (path_calls _ (by rw [List.length_take]; omega) hsm (vrep_front hv (Nat.le_of_lt hml))).mono ?_
    rintro _ w3 ⟨rfl, b3⟩
    have h3 := h1.move (b1.trans b3)
    go_wp2_with fail
    refine (wfind_no h3 hf _ hfs (by rw [hff]; exact hw)).mono ?_
    rintro _ w4 ⟨rfl, b4⟩
    rw [hff]
    exact ⟨rfl, rfl, ((bw0.trans b1).trans b3).trans b4⟩
  case pos =>
    rw [if_neg (by rw [hw]; simp)] at hpl
    have hrg := walk0_range hw
    have h9 := h1.2.2.1
    obtain ⟨k, hkk⟩ : ∃ k : Nat, (walk0 t (L.take m)).1 = (k : Int) + 1 := ⟨((walk0 t (L.take m)).1 - 1).toNat, by omega⟩
    have hk9 : k < 9 := by omega
    rw [hkk] at hpl
    by_cases hk2 : kindT t ((k : Int) + 1) = 2
    case neg =>
      rw [if_pos hk2] at hpl
      rw [hpl, if_neg (by show ¬ (5 : Int) = 0; decide)]
      have hk3 : ((nodeT t ((k : Int) + 1)).1 != 2) = true := bne_iff_ne.2 hk2
      go_enter Tryz.func34, Tryz.ntmps34
      go_wp2_with fail
      refine hpc.mono ?_
      rintro _ w1 ⟨v1, rfl, ⟨R', hv⟩, b1⟩
      obtain ⟨A, ca, rfl, hc1, hc2⟩ := slice_val hv
      rw [hm] at hc1 ⊢
      clear hpc
      go_wp2_with fail
      refine (no_no _ _).mono ?_
      rintro _ w2 ⟨rfl, rfl⟩
      go_wp2_with fail
      refine (path_calls _ (by rw [List.length_take]; omega) hsm (vrep_front hv (Nat.le_of_lt hml))).mono ?_
      rintro _ w3 ⟨rfl, b3⟩
      have h3 := h1.move (b1.trans b3)
      go_wp2_with fail
      refine (wfind_ok h3 hf _ hfs (by rw [hff]; exact hw)).mono ?_
      rintro _ w4 ⟨rfl, b4⟩
      rw [hff, hkk]
      have h4 := h3.move b4
      obtain ⟨ab, ao, rfl, n0, nb, n1, n2, n3, n4, n5, n6⟩ := h4.node hk9
      go_wp2_with fail
      refine (node_calls h4 hk9).mono ?_
      rintro _ w5 ⟨rfl, rfl⟩
      go_wp2_with fail
      refine (no_yes _ _).mono ?_
      rintro _ w6 ⟨rfl, rfl⟩
      exact ⟨rfl, rfl, ((bw0.trans b1).trans b3).trans b4⟩
    case pos =>
      rw [if_neg (by rw [hk2]; simp)] at hpl
      rw [hpl, if_pos rfl]
      have hk3 : (nodeT t ((k : Int) + 1)).1 = 2 := hk2
      go_enter Tryz.func34, Tryz.ntmps34
      go_wp2_with fail
      refine hpc.mono ?_
      rintro _ w1 ⟨v1, rfl, ⟨R', hv⟩, b1⟩
      obtain ⟨A, ca, rfl, hc1, hc2⟩ := slice_val hv
      rw [hm] at hc1 ⊢
      clear hpc
      go_wp2_with fail
      refine (no_no _ _).mono ?_
      rintro _ w2 ⟨rfl, rfl⟩
      go_wp2_with fail
      refine (path_calls _ (by rw [List.length_take]; omega) hsm (vrep_front hv (Nat.le_of_lt hml))).mono ?_
      rintro _ w3 ⟨rfl, b3⟩
      have h3 := h1.move (b1.trans b3)
      go_wp2_with fail
      refine (wfind_ok h3 hf _ hfs (by rw [hff]; exact hw)).mono ?_
      rintro _ w4 ⟨rfl, b4⟩
      rw [hff, hkk]
      have h4 := h3.move b4
      obtain ⟨ab, ao, rfl, n0, nb, n1, n2, n3, n4, n5, n6⟩ := h4.node hk9
      go_wp2_with fail
      refine (node_calls h4 hk9).mono ?_
      rintro _ w5 ⟨rfl, rfl⟩
      rw [hk3] at n1
      go_wp2_with fail
      refine (no_no _ _).mono ?_
      rintro _ w6 ⟨rfl, rfl⟩
      obtain ⟨z0, z1, z2⟩ := box2 (but_box (but_box (but_box eb0 b1) b3) b4)
      obtain ⟨f0, f1⟩ := box2f (but_box (but_box (but_box eb0 b1) b3) b4)
      obtain ⟨sb, so, rfl, sc, ss⟩ := str_cells hv m hml
      have sc' := (((b3.trans b4).block sb ss (fun _ h => by cases h)))
      have sc2 : w6.cell? ⟨sb, so + m, none⟩ = some (.string L[m]) := by
        simp only [World.cell?] at sc ⊢
        rw [sc']; exact sc
      go_wp2_with fail
      refine bodyPost_ret (v := .agg #[.int .i64 ((k : Int) + 1), .string L[m]]) ((results_cell1 rfl _ _ _).trans ?_) rfl ?_
      · go_simp
        try rfl
      · exact ⟨rfl, butSet (butSet (((bw0.trans b1).trans b3).trans b4) _ _ (Nat.le_refl _)) _ _ (Nat.le_refl _)⟩
end Go.Proofs.YtodkmhamaahjmaaGreatDoor

/- edit: ways, free: on the machine. -/
set_option maxRecDepth 100000
set_option maxHeartbeats 4000000
set_option linter.unusedSimpArgs false
set_option linter.unusedVariables false
set_option pp.deepTerms.threshold 20
namespace Go.Proofs.YtodkmhamaahjmaaGreatDoor
open Go.Tm Go.IntWalk Go.RowKit
def allP (l : List ByteArray) (own : Bool) : Bool := l.all fun s => (partsS s own).2
theorem ways_calls {w0 w : World} {b : Nat} {ad : Addr} {c : Nat} {t : List Node} {own : Bool} (h : WK w0 w b ad c t own) (l : List ByteArray) (hl : l.length ≤ 1000) (hs : ∀ s ∈ l, s.size ≤ 1000000000) {ab cap : Nat} (hc : ∀ k (hk : k < l.length), w.cell? ⟨ab, k, none⟩ = some (.string l[k])) (hab : ab < w.heap.size) :
    Calls Tryz.prog 32 #[.pointer (some ⟨b, 0, none⟩), .slice (some ⟨ab, 0, none⟩) l.length cap] w fun en w' => en = (if allP l own = true then .returned (.tuple #[]) else UpE 1) ∧ But w none w' := by
  have mixed : Tryz.prog.follows .mixedOrders = true := by kernel_rfl
  obtain ⟨N, hN⟩ : ∃ N, N = l.length := ⟨_, rfl⟩
  rw [← hN]
  have HN : Hid (N = l.length) := hN
  have HL : Hid (l.length ≤ 1000) := hl
  have HC : Hid (∀ k (hk : k < l.length), w.cell? ⟨ab, k, none⟩ = some (.string l[k])) := hc
  have HZ : Hid (∀ s ∈ l, s.size ≤ 1000000000) := hs
  clear hN hl hc hs
  go_enter Tryz.func32, Tryz.ntmps32
  go_wp2_with fail
  go_loopw [10] (fun i wr => ∃ k : Nat, i = .int .i64 k ∧ k ≤ l.length ∧ (∀ j (hj : j < l.length), j < k → (partsS l[j] own).2 = true) ∧ But w none wr) (fun i _ => N - (intOf i).toNat)
  case atStart => exact ⟨0, rfl, Nat.zero_le _, fun j _ h => absurd h (Nat.not_lt_zero _), But.refl _ _⟩
  case round =>
    obtain ⟨k, rfl, hk, hall, hB⟩ := hrel
    have h1 := h.move hB
    obtain ⟨x0, x1, x2⟩ := h1.cells
    by_cases hlt : k < l.length
    case pos =>
      have hlN : k < N := by rw [HN.out]; exact hlt
      have hw1 : wrap64 ((k : Int) + 1) = (k : Int) + 1 := wrap64_in _ (by have := HL.out; omega)
      have c0 := HC.out k hlt
      have hb := hB.block ab hab (fun _ h => by cases h)
      have c1 : wr.cell? ⟨ab, k, none⟩ = some (.string l[k]) := by
        simp only [World.cell?] at c0 ⊢
        rw [hb]; exact c0
      clear c0 hb
      have HW : Hid (wrap64 ((k : Int) + 1) = (k : Int) + 1) := hw1
      have HA : Hid (∀ j (hj : j < l.length), j < k → (partsS l[j] own).2 = true) := hall
      have HK : Hid (k < l.length) := hlt
      obtain ⟨s, hsl, c2, hss⟩ : ∃ s : ByteArray, l[k] = s ∧ wr.cell? ⟨ab, k, none⟩ = some (.string s) ∧ s.size ≤ 1000000000 := ⟨_, rfl, c1, HZ.out _ (List.getElem_mem hlt)⟩
      have HS : Hid (s.size ≤ 1000000000) := hss
      have HE : Hid (∃ h : k < l.length, l[k] = s) := ⟨hlt, hsl⟩
      clear hw1 hall hk h1 c1 hsl hss hlt
      cases hq : (partsS s own).2 with
      | true =>
        have HQ : Hid ((partsS s own).2 = true) := hq
        go_wp2_with fail
        refine (parts_calls s own HS.out).mono ?_
        rintro _ w1 ⟨v1, rfl, _, b1⟩
        rw [HQ.out]
        go_wp2_with fail
        refine (no_no _ _).mono ?_
        rintro _ w2 ⟨rfl, rfl⟩
        go_wp2_with fail
        go_roundw
        case rel =>
          refine ⟨k + 1, by simp; exact HW.out, HK.out, fun j hj hjk => ?_, hB.trans b1⟩
          rcases Nat.lt_or_ge j k with h3 | h3
          · exact HA.out j hj h3
          · obtain rfl : j = k := by omega
            obtain ⟨_, he⟩ := HE.out
            rw [he]; exact HQ.out
        case measure =>
          show N - (intOf (.int .i64 (wrap64 ((k : Int) + 1)))).toNat < N - (intOf (.int .i64 (k : Int))).toNat
          rw [HW.out]
          exact loop_less hlN
      | false =>
        have HQ : Hid ((partsS s own).2 = false) := hq
        go_wp2_with fail
        refine (parts_calls s own HS.out).mono ?_
        rintro _ w1 ⟨v1, rfl, _, b1⟩
        rw [HQ.out]
        go_wp2_with fail
        refine (no_yes _ _).mono ?_
        rintro _ w2 ⟨rfl, rfl⟩
        have hno : ¬ allP l own = true := fun h => by
          have := List.all_eq_true.1 h s (by obtain ⟨hk, he⟩ := HE.out; rw [← he]; exact List.getElem_mem hk)
          rw [HQ.out] at this; cases this
        exact ⟨rfl, (if_neg hno).symm, hB.trans b1⟩
    case neg =>
      have e : N = k := by rw [HN.out]; omega
      subst e
      have hall2 : ∀ s ∈ l, (partsS s own).2 = true := fun s hs => by
        obtain ⟨j, hj, rfl⟩ := List.getElem_of_mem hs
        exact hall j hj (by rw [HN.out]; exact hj)
      have HA : Hid (allP l own = true) := List.all_eq_true.2 hall2
      clear hall2 hall hk hlt h1
      go_wp2_with fail
      go_end0
      all_goals first | exact ⟨rfl, hB⟩ | (exfalso; rename_i h; have := HA.out; simp_all)
end Go.Proofs.YtodkmhamaahjmaaGreatDoor
