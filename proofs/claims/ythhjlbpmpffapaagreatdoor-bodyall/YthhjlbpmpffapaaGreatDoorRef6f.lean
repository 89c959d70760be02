/- The reference's changes of names, walked. -/
import Derived.Test.YthhjlbpmpffapaaGreatDoorRef6e
set_option maxRecDepth 100000
set_option maxHeartbeats 2000000
set_option linter.unusedSimpArgs false
set_option linter.unusedVariables false
set_option pp.deepTerms.threshold 30
namespace Go.Proofs.YthhjlbpmpffapaaGreatDoor
open Go.Tm Go.IntWalk
theorem freeT_loop {t : List Node} {i : Nat} (h : ∀ k, k < i → kindT t ((k : Int) + 1) ≠ 0) (hi : i ≤ t.length) : (i = t.length → freeT t = 0) ∧ (i < t.length → kindT t ((i : Int) + 1) = 0 → freeT t = (i : Int) + 1) := by
  have hat : ∀ k, k < t.length → kindT t ((k : Int) + 1) = (t.getD k dfltN).1 := fun k hk => by
    unfold kindT nodeT
    congr 2; omega
  constructor
  · intro e
    have : t.findIdx? (fun n => n.1 == 0) = none := by
      rw [List.findIdx?_eq_none_iff]
      intro x hx
      obtain ⟨k, hk, rfl⟩ := List.mem_iff_getElem.1 hx
      have := h k (by omega)
      rw [hat k hk, List.getD_eq_getElem?_getD, List.getElem?_eq_getElem hk] at this
      simpa using this
    rw [freeT, this]
  · intro hlt h0
    have : t.findIdx? (fun n => n.1 == 0) = some i := by
      rw [List.findIdx?_eq_some_iff_getElem]
      refine ⟨hlt, ?_, fun j hj => ?_⟩
      · rw [hat i hlt, List.getD_eq_getElem?_getD, List.getElem?_eq_getElem hlt] at h0
        simpa using h0
      · have := h j hj
        rw [hat j (by omega), List.getD_eq_getElem?_getD, List.getElem?_eq_getElem (by omega)] at this
        simpa using this
    rw [freeT, this]
/-- The contract of glacisref6.Make. -/
def rmakeTC : Con := conN [(.v, TreeT), (.v, .str), (.v, .int .i64), (.v, .int .i64), (.v, .int .i64), (.v, .bool)] fun (t, p, kind, mode, ino, own, _) => if fitT t ∧ p.size ≤ 4000000000 then some ⟨.tup [⟨TreeT, (makeT t p kind mode ino own).1⟩, ⟨.int .i64, (makeT t p kind mode ino own).2⟩], []⟩ else none
theorem rmakeTC_eq {t : Ty.den (TreeT)} {p : ByteArray} {kind : Int} {mode : Int} {ino : Int} {own : Bool} : rmakeTC [.val ⟨TreeT, t⟩, .val ⟨.str, p⟩, .val ⟨.int .i64, kind⟩, .val ⟨.int .i64, mode⟩, .val ⟨.int .i64, ino⟩, .val ⟨.bool, own⟩] = if fitT t ∧ p.size ≤ 4000000000 then some ⟨.tup [⟨TreeT, (makeT t p kind mode ino own).1⟩, ⟨.int .i64, (makeT t p kind mode ino own).2⟩], []⟩ else none := conN_mk (ks := [(.v, TreeT), (.v, .str), (.v, .int .i64), (.v, .int .i64), (.v, .int .i64), (.v, .bool)]) (t, p, kind, mode, ino, own, ())
def ΓrmakeT : Cons := cons [(42, rpartsC), (44, rplaceC), (40, rnamesC), (45, rfindDC), (46, rputTC), (35, rset6C)]
theorem rmakeT_ex (t : Ty.den (TreeT)) (p : ByteArray) (kind : Int) (mode : Int) (ino : Int) (own : Bool) (hr : fitT t ∧ p.size ≤ 4000000000) : Ex tab ΓrmakeT (Tryz.f27.body.getD .skip) (EndsF tab Tryz.f27.results.toList [.val ⟨TreeT, t⟩, .val ⟨.str, p⟩, .val ⟨.int .i64, kind⟩, .val ⟨.int .i64, mode⟩, .val ⟨.int .i64, ino⟩, .val ⟨.bool, own⟩] ⟨.tup [⟨TreeT, (makeT t p kind mode ino own).1⟩, ⟨.int .i64, (makeT t p kind mode ino own).2⟩], []⟩) (ini [.val ⟨TreeT, t⟩, .val ⟨.str, p⟩, .val ⟨.int .i64, kind⟩, .val ⟨.int .i64, mode⟩, .val ⟨.int .i64, ino⟩, .val ⟨.bool, own⟩]) := by
  have g_rparts : ΓrmakeT 42 = some rpartsC := rfl
  have g_rplace : ΓrmakeT 44 = some rplaceC := rfl
  have g_rnames : ΓrmakeT 40 = some rnamesC := rfl
  have g_rfindD : ΓrmakeT 45 = some rfindDC := rfl
  have g_rputT : ΓrmakeT 46 = some rputTC := rfl
  have g_rset6 : ΓrmakeT 35 = some rset6C := rfl
  simp only [Tryz.f27, Option.getD_some]
  simp (implicitDefEqProofs := false) (decide := true) (maxSteps := 4000000) [ini, g_rparts, rpartsC_eq, g_rplace, rplaceC_eq, g_rnames, rnamesC_eq, g_rfindD, rfindDC_eq, g_rputT, rputTC_eq, g_rset6, rset6C_eq]
  obtain ⟨h1, h2⟩ := hr
  have ht : t.length ≤ 1000 := h1.1
  have hpl := parts_len p own
  refine ⟨h2, br_intro (fun h => ?_) fun hp => br_intro (fun hk1 => br_intro (fun hk2 => ?_) fun hk2 => ?_) fun hk1 => ?_⟩
  · rw [makeT, if_pos (.inl (by simpa using h))]; exact ⟨rfl, rfl⟩
  · rw [makeT, if_pos (.inr (.inl ⟨by simpa using hk1, by simpa using hk2⟩))]; exact ⟨rfl, rfl⟩
  all_goals
    have hk : ¬ (kind ≠ 1 ∧ kind ≠ 2) := by
      rintro ⟨a, b⟩
      simp_all
    have hp : ¬ (partsS p own).2 = false := by simpa using hp
    refine br_dec (fun h3 => ?_) fun h3 => br_dec (fun h4 => ?_) fun h4 => br_dec (fun h5 => ?_) fun h5 => br_dec (fun h6 => ?_) fun h6 _ => br_intro (fun h7 => ?_) fun h7 => ?_
    · rw [makeT, if_pos (.inr (.inr (.inl h3)))]; exact ⟨rfl, rfl⟩
    · rw [makeT, if_pos (.inr (.inr (.inr (.inl h4))))]; exact ⟨rfl, rfl⟩
    · rw [makeT, if_pos (.inr (.inr (.inr (.inr (.inl h5)))))]; exact ⟨rfl, rfl⟩
    · rw [makeT, if_pos (.inr (.inr (.inr (.inr (.inr h6)))))]; exact ⟨rfl, rfl⟩
    · have n1 : ¬ ((partsS p own).2 = false ∨ (kind ≠ 1 ∧ kind ≠ 2) ∨ mode < 0 ∨ 255 < mode ∨ ino < 0 ∨ 9 < ino) := by
        rintro (h | h | h | h | h | h)
        · exact hp h
        · exact hk h
        · exact h3 h
        · exact h4 h
        · exact h5 h
        · exact h6 h
      rw [makeT, if_neg n1, if_pos (by rw [beq_iff_eq] at h7; exact Int.ofNat.inj h7)]; exact ⟨rfl, rfl⟩
    have n1 : ¬ ((partsS p own).2 = false ∨ (kind ≠ 1 ∧ kind ≠ 2) ∨ mode < 0 ∨ 255 < mode ∨ ino < 0 ∨ 9 < ino) := by
      rintro (h | h | h | h | h | h)
      · exact hp h
      · exact hk h
      · exact h3 h
      · exact h4 h
      · exact h5 h
      · exact h6 h
    have n2 : ¬ (partsS p own).1.length = 0 := fun e => by rw [e] at h7; simp at h7
    have hne : (partsS p own).1 ≠ [] := fun e => n2 (by rw [e]; rfl)
    obtain ⟨W, hW⟩ : ∃ W, placeT t (partsS p own).1 = W := ⟨_, rfl⟩
    have hpo := @placeT_ok t (partsS p own).1
    have hpn := @place_name t p own
    rw [hW] at hpo hpn ⊢
    have hM := makeT.eq_1 t p kind mode ino own
    rw [if_neg n1, if_neg n2, hW] at hM
    generalize makeT t p kind mode ino own = M at hM ⊢
    refine ⟨⟨h1, by omega, by omega⟩, br_intro (fun h => ?_) fun h8 => ⟨h1, br_intro (fun h => ?_) fun h9 => ?_⟩⟩
    · rw [hM, if_pos (by simpa using h)]; exact ⟨rfl, rfl⟩
    · rw [hM, if_neg (by simpa using h8), if_pos h]; exact ⟨rfl, rfl⟩
    have h8 : W.2.2 = 0 := by simpa using h8
    obtain ⟨w1, w2, w3, w4, w5, w6⟩ := hpo h8
    have hnm := ownS_size (partOK_own (hpn h8 hne))
    rw [if_neg (by rw [h8]; simp), if_neg (by rw [h9]; simp)] at hM
    have hino : -9223372036854775808 ≤ ino ∧ ino ≤ 9 := by omega
    have fin : ∀ N : Int, M = (if N = 0 then (t, 8) else if (putT t W.1 (W.2.1, N, ())).2 = false then (t, 8) else (setT (putT t W.1 (W.2.1, N, ())).1 N (kind, mode, no, ()), 0)) → (N ≠ 0 → 1 ≤ N ∧ N ≤ (t.length : Int)) →
        br (N == 0) (t = M.1 ∧ 8 = M.2) ((fitT t ∧ 1 ≤ W.1 ∧ W.1 ≤ (t.length : Int) ∧ W.2.1.size ≤ 4000000000) ∧ br (!(putT t W.1 (W.2.1, N, ())).2) (t = M.1 ∧ 8 = M.2)
          ((fitT (putT t W.1 (W.2.1, N, ())).1 ∧ 1 ≤ N ∧ N ≤ ((putT t W.1 (W.2.1, N, ())).1.length : Int)) ∧ setT (putT t W.1 (W.2.1, N, ())).1 N (kind, mode, no, ()) = M.1 ∧ 0 = M.2)) := by
      intro N hN hr
      refine br_intro (fun h => ?_) fun h => ⟨⟨h1, w1, w2, by omega⟩, br_intro (fun h2 => ?_) fun h2 => ?_⟩
      · rw [hN, if_pos (by simpa using h)]; exact ⟨rfl, rfl⟩
      · rw [hN, if_neg (by simpa using h), if_pos (by simpa using h2)]; exact ⟨rfl, rfl⟩
      · have := hr (by simpa using h)
        rw [hN, if_neg (by simpa using h), if_neg (by simpa using h2)]
        exact ⟨⟨putT_fit h1 _ _, this.1, by rw [putT_len]; exact this.2⟩, rfl, rfl⟩
    refine br_dec (fun h10 _ => br_dec (fun h => ?_) fun h11 => ?_) fun h10 => ?_
    · rw [hM, if_pos ⟨h10, .inl h⟩]; exact ⟨rfl, rfl⟩
    · have wi : IntKind.i64.wrap (ino - 1) = ino - 1 := i64_in _ (by omega)
      rw [wi, kind_at]
      refine ⟨⟨by omega, by omega⟩, br_intro (fun h => ?_) fun h12 => ?_⟩
      · rw [hM, if_pos ⟨h10, .inr (by unfold kindT; simpa using h)⟩]; exact ⟨rfl, rfl⟩
      · rw [if_neg (fun hc => hc.2.elim h11 (fun h => h (by unfold kindT; simpa using h12)))] at hM
        rw [if_neg (show ¬ ino = 0 by omega)] at hM
        refine ex_loopU (σ := Unit) [4, 21, 99, 100, 101, 102, 103, 104, 105, 106, 107, 108, 109, 110, 111, 112, 113, 114, 115, 116] (fun a => [(21, .val (.int .i64) 1), (4, .val (.int .i64) ino)]) (fun _ => True) (fun _ => 0) () trivial (hc rfl (hc rfl hn)) ?_
        rintro j2 _ _
        simp (implicitDefEqProofs := false) (decide := true) (maxSteps := 4000000) [ini, g_rparts, rpartsC_eq, g_rplace, rplaceC_eq, g_rnames, rnamesC_eq, g_rfindD, rfindDC_eq, g_rputT, rputTC_eq, g_rset6, rset6C_eq]
        have f := fin ino hM (fun _ => ⟨by omega, by omega⟩)
        intro _
        exact br_dec (fun _ => ⟨by omega, f⟩) (fun _ => f)
    · obtain rfl : ino = 0 := by omega
      rw [if_neg (fun hc => h10 hc.1), if_pos rfl] at hM
      refine ex_loopU (σ := Nat × Int) [4, 21, 99, 100, 101, 102, 103, 104, 105, 106, 107, 108, 109, 110, 111, 112, 113, 114, 115, 116] (fun a => [(21, .val (.int .i64) ((a.1 : Int) + 1)), (4, .val (.int .i64) a.2)]) (fun a => a.1 ≤ t.length ∧ (a.2 = 0 → ∀ k, k < a.1 → kindT t ((k : Int) + 1) ≠ 0) ∧ (a.2 ≠ 0 → a.2 = freeT t ∧ 1 ≤ a.2 ∧ a.2 ≤ (t.length : Int))) (fun a => t.length - a.1) (0, 0) ⟨Nat.zero_le _, fun _ k hk => by omega, fun h => absurd rfl h⟩ (hc rfl (hc rfl hn)) ?_
      rintro j2 ⟨i, z⟩ ⟨hi, hz0, hz1⟩
      simp only at hi hz0 hz1
      simp (implicitDefEqProofs := false) (decide := true) (maxSteps := 4000000) [ini, g_rparts, rpartsC_eq, g_rplace, rplaceC_eq, g_rnames, rnamesC_eq, g_rfindD, rfindDC_eq, g_rputT, rputTC_eq, g_rset6, rset6C_eq]
      have wi : IntKind.i64.wrap (i : Int) = ((i : Nat) : Int) := w_nat rfl (by omega)
      have wj : IntKind.i64.wrap ((i : Int) + 1 + 1) = ((i + 1 : Nat) : Int) + 1 := wz (by omega) (by omega) (by omega)
      rw [wi, wj]
      intro _
      have hk : t[(i : Int).toNat]?.getD ((0, 0, { data := #[] }, ()) : Node) = nodeT t ((i : Int) + 1) := by
        rw [← kind_at]; congr 2; omega
      refine br_dec (fun hlt => br_intro (fun h0 => ⟨⟨by omega, by omega⟩, ?_⟩) fun h0 => ?_) fun hge => ?_
      · have h0 : z = 0 := by simpa using h0
        obtain ⟨hf1, hf2⟩ := freeT_loop (hz0 h0) hi
        rw [hk]
        refine br_intro (fun h => ?_) fun h => ?_
        · have h : kindT t ((i : Int) + 1) = 0 := by unfold kindT; simpa using h
          exact ⟨i + 1, _, ⟨by omega, fun e => by omega, fun _ => ⟨(hf2 (by omega) h).symm, by omega, by omega⟩⟩, by omega, rfl, rfl⟩
        · refine ⟨i + 1, _, ⟨by omega, fun _ k hk2 => ?_, fun e => absurd h0 e⟩, by omega, rfl, rfl⟩
          rcases Nat.lt_or_ge k i with hk3 | hk3
          · exact hz0 h0 k hk3
          · obtain rfl : k = i := by omega
            unfold kindT; simpa using h
      · have h0 : z ≠ 0 := by simpa using h0
        obtain ⟨e1, e2, e3⟩ := hz1 h0
        subst e1
        exact fin _ hM (fun _ => ⟨e2, e3⟩)
      · by_cases h0 : z = 0
        · obtain ⟨hf1, hf2⟩ := freeT_loop (hz0 h0) hi
          have e := hf1 (by omega)
          subst h0
          rw [e] at hM
          exact fin 0 hM (fun h => absurd rfl h)
        · obtain ⟨e1, e2, e3⟩ := hz1 h0
          subst e1
          exact fin _ hM (fun _ => ⟨e2, e3⟩)
theorem rmakeT_ok : ConOK Tryz.prog 27 rmakeTC := by
  refine con_ok tab_ok (Γ := ΓrmakeT) (consOK_cons rparts_ok (consOK_cons rplace_ok (consOK_cons rnames_ok (consOK_cons rfindD_ok (consOK_cons rputT_ok (consOK_cons rset6_ok consOK_nil)))))) (by kernel_rfl) Tryz.func27 (by kernel_rfl) ?_
  intro args out h
  obtain ⟨x, e, h1⟩ := conN_inv h
  clear h
  obtain ⟨t, p, kind, mode, ino, own, x0⟩ := x
  subst e
  replace h1 : (if fitT t ∧ p.size ≤ 4000000000 then some ⟨.tup [⟨TreeT, (makeT t p kind mode ino own).1⟩, ⟨.int .i64, (makeT t p kind mode ino own).2⟩], []⟩ else none) = some out := h1
  split at h1
  case isFalse => cases h1
  rename_i hr
  injection h1 with h1
  subst h1
  exact ⟨by rw [mkArgs_len]; decide, rmakeT_ex t p kind mode ino own hr⟩
/-- The contract of glacisref6.Link. -/
def rlinkTC : Con := conN [(.v, TreeT), (.v, .str), (.v, .str), (.v, .bool)] fun (t, f, p, own, _) => if fitT t ∧ f.size ≤ 4000000000 ∧ p.size ≤ 4000000000 then some ⟨.tup [⟨TreeT, (linkT t f p own).1⟩, ⟨.int .i64, (linkT t f p own).2⟩], []⟩ else none
theorem rlinkTC_eq {t : Ty.den (TreeT)} {f : ByteArray} {p : ByteArray} {own : Bool} : rlinkTC [.val ⟨TreeT, t⟩, .val ⟨.str, f⟩, .val ⟨.str, p⟩, .val ⟨.bool, own⟩] = if fitT t ∧ f.size ≤ 4000000000 ∧ p.size ≤ 4000000000 then some ⟨.tup [⟨TreeT, (linkT t f p own).1⟩, ⟨.int .i64, (linkT t f p own).2⟩], []⟩ else none := conN_mk (ks := [(.v, TreeT), (.v, .str), (.v, .str), (.v, .bool)]) (t, f, p, own, ())
def ΓrlinkT : Cons := cons [(42, rpartsC), (26, rfindTC), (44, rplaceC), (40, rnamesC), (45, rfindDC), (46, rputTC)]
theorem rlinkT_ex (t : Ty.den (TreeT)) (f : ByteArray) (p : ByteArray) (own : Bool) (hr : fitT t ∧ f.size ≤ 4000000000 ∧ p.size ≤ 4000000000) : Ex tab ΓrlinkT (Tryz.f62.body.getD .skip) (EndsF tab Tryz.f62.results.toList [.val ⟨TreeT, t⟩, .val ⟨.str, f⟩, .val ⟨.str, p⟩, .val ⟨.bool, own⟩] ⟨.tup [⟨TreeT, (linkT t f p own).1⟩, ⟨.int .i64, (linkT t f p own).2⟩], []⟩) (ini [.val ⟨TreeT, t⟩, .val ⟨.str, f⟩, .val ⟨.str, p⟩, .val ⟨.bool, own⟩]) := by
  have g_rparts : ΓrlinkT 42 = some rpartsC := rfl
  have g_rfindT : ΓrlinkT 26 = some rfindTC := rfl
  have g_rplace : ΓrlinkT 44 = some rplaceC := rfl
  have g_rnames : ΓrlinkT 40 = some rnamesC := rfl
  have g_rfindD : ΓrlinkT 45 = some rfindDC := rfl
  have g_rputT : ΓrlinkT 46 = some rputTC := rfl
  simp only [Tryz.f62, Option.getD_some]
  simp (implicitDefEqProofs := false) (decide := true) (maxSteps := 4000000) [ini, g_rparts, rpartsC_eq, g_rfindT, rfindTC_eq, g_rplace, rplaceC_eq, g_rnames, rnamesC_eq, g_rfindD, rfindDC_eq, g_rputT, rputTC_eq]
  obtain ⟨h1, h2, h3⟩ := hr
  have ht : t.length ≤ 1000 := h1.1
  have hpl := parts_len p own
  have hM := linkT.eq_1 t f p own
  generalize linkT t f p own = M at hM ⊢
  refine ⟨h2, h3, br_intro (fun h => ?_) fun h4 => br_intro (fun h => ?_) fun h5 => ⟨⟨h1, h2⟩, br_intro (fun h => ?_) fun h6 => ?_⟩⟩
  · rw [hM, if_pos (.inl (by simpa using h))]; exact ⟨rfl, rfl⟩
  · rw [hM, if_pos (.inr (by simpa using h))]; exact ⟨rfl, rfl⟩
  · rw [hM, if_neg (by rintro (k | k) <;> simp_all), if_pos (by simpa using h)]; exact ⟨rfl, rfl⟩
  rw [if_neg (by rintro (k | k) <;> simp_all), if_neg (by simpa using h6)] at hM
  have h6 : (findT t f own).2 = 0 := by simpa using h6
  have hf := findT_range h6
  have w1 : IntKind.i64.wrap ((findT t f own).1 - 1) = (findT t f own).1 - 1 := i64_in _ (by omega)
  rw [w1, kind_at]
  refine ⟨⟨by omega, by omega⟩, br_intro (fun h => ?_) fun h7 _ => br_intro (fun h => ?_) fun h8 => ?_⟩
  · rw [hM, if_pos (by unfold kindT; simpa using h)]; exact ⟨rfl, rfl⟩
  · rw [hM, if_neg (by unfold kindT; simpa using h7), if_pos (by rw [beq_iff_eq] at h; exact Int.ofNat.inj h)]; exact ⟨rfl, rfl⟩
  have n2 : ¬ (partsS p own).1.length = 0 := fun e => by rw [e] at h8; simp at h8
  have hne : (partsS p own).1 ≠ [] := fun e => n2 (by rw [e]; rfl)
  rw [if_neg (by unfold kindT; simpa using h7), if_neg n2] at hM
  obtain ⟨W, hW⟩ : ∃ W, placeT t (partsS p own).1 = W := ⟨_, rfl⟩
  have hpo := @placeT_ok t (partsS p own).1
  have hpn := @place_name t p own
  rw [hW] at hpo hpn hM ⊢
  refine ⟨⟨h1, by omega, by omega⟩, br_intro (fun h => ?_) fun h9 => ⟨h1, br_intro (fun h => ?_) fun h10 => ?_⟩⟩
  · rw [hM, if_pos (by simpa using h)]; exact ⟨rfl, rfl⟩
  · rw [hM, if_neg (by simpa using h9), if_pos h]; exact ⟨rfl, rfl⟩
  have h9 : W.2.2 = 0 := by simpa using h9
  obtain ⟨w1, w2, w3, w4, w5, w6⟩ := hpo h9
  have hnm := ownS_size (partOK_own (hpn h9 hne))
  rw [if_neg (by rw [h9]; simp), if_neg (by rw [h10]; simp)] at hM
  refine ⟨⟨h1, w1, w2, by omega⟩, br_intro (fun h => ?_) fun h11 => ?_⟩
  · rw [hM, if_pos (by simpa using h)]; exact ⟨rfl, rfl⟩
  · rw [hM, if_neg (by simpa using h11)]; exact ⟨rfl, rfl⟩
theorem rlinkT_ok : ConOK Tryz.prog 62 rlinkTC := by
  refine con_ok tab_ok (Γ := ΓrlinkT) (consOK_cons rparts_ok (consOK_cons rfindT_ok (consOK_cons rplace_ok (consOK_cons rnames_ok (consOK_cons rfindD_ok (consOK_cons rputT_ok consOK_nil)))))) (by kernel_rfl) Tryz.func62 (by kernel_rfl) ?_
  intro args out h
  obtain ⟨x, e, h1⟩ := conN_inv h
  clear h
  obtain ⟨t, f, p, own, x0⟩ := x
  subst e
  replace h1 : (if fitT t ∧ f.size ≤ 4000000000 ∧ p.size ≤ 4000000000 then some ⟨.tup [⟨TreeT, (linkT t f p own).1⟩, ⟨.int .i64, (linkT t f p own).2⟩], []⟩ else none) = some out := h1
  split at h1
  case isFalse => cases h1
  rename_i hr
  injection h1 with h1
  subst h1
  exact ⟨by rw [mkArgs_len]; decide, rlinkT_ex t f p own hr⟩
/-- The contract of glacisref6.Drop. -/
def rdelTC : Con := conN [(.v, TreeT), (.v, .str), (.v, .bool)] fun (t, p, own, _) => if fitT t ∧ p.size ≤ 4000000000 then some ⟨.tup [⟨TreeT, (delT t p own).1⟩, ⟨.int .i64, (delT t p own).2⟩], []⟩ else none
theorem rdelTC_eq {t : Ty.den (TreeT)} {p : ByteArray} {own : Bool} : rdelTC [.val ⟨TreeT, t⟩, .val ⟨.str, p⟩, .val ⟨.bool, own⟩] = if fitT t ∧ p.size ≤ 4000000000 then some ⟨.tup [⟨TreeT, (delT t p own).1⟩, ⟨.int .i64, (delT t p own).2⟩], []⟩ else none := conN_mk (ks := [(.v, TreeT), (.v, .str), (.v, .bool)]) (t, p, own, ())
def ΓrdelT : Cons := cons [(42, rpartsC), (26, rfindTC), (44, rplaceC), (77, rcutTC), (38, rlinksC), (35, rset6C)]
theorem rdelT_ex (t : Ty.den (TreeT)) (p : ByteArray) (own : Bool) (hr : fitT t ∧ p.size ≤ 4000000000) : Ex tab ΓrdelT (Tryz.f63.body.getD .skip) (EndsF tab Tryz.f63.results.toList [.val ⟨TreeT, t⟩, .val ⟨.str, p⟩, .val ⟨.bool, own⟩] ⟨.tup [⟨TreeT, (delT t p own).1⟩, ⟨.int .i64, (delT t p own).2⟩], []⟩) (ini [.val ⟨TreeT, t⟩, .val ⟨.str, p⟩, .val ⟨.bool, own⟩]) := by
  have g_rparts : ΓrdelT 42 = some rpartsC := rfl
  have g_rfindT : ΓrdelT 26 = some rfindTC := rfl
  have g_rplace : ΓrdelT 44 = some rplaceC := rfl
  have g_rcutT : ΓrdelT 77 = some rcutTC := rfl
  have g_rlinks : ΓrdelT 38 = some rlinksC := rfl
  have g_rset6 : ΓrdelT 35 = some rset6C := rfl
  simp only [Tryz.f63, Option.getD_some]
  simp (implicitDefEqProofs := false) (decide := true) (maxSteps := 4000000) [ini, g_rparts, rpartsC_eq, g_rfindT, rfindTC_eq, g_rplace, rplaceC_eq, g_rcutT, rcutTC_eq, g_rlinks, rlinksC_eq, g_rset6, rset6C_eq]
  obtain ⟨h1, h2⟩ := hr
  have ht : t.length ≤ 1000 := h1.1
  have hpl := parts_len p own
  have hM := delT.eq_1 t p own
  generalize delT t p own = M at hM ⊢
  refine ⟨⟨h1, h2⟩, br_intro (fun h => ?_) fun h3 => br_intro (fun h => ?_) fun h4 => ?_⟩
  · rw [hM, if_pos (by simpa using h)]; exact ⟨rfl, rfl⟩
  · rw [hM, if_neg (by simpa using h3), if_pos (by simpa using h)]; exact ⟨rfl, rfl⟩
  rw [if_neg (by simpa using h3), if_neg (by simpa using h4)] at hM
  have h3 : (findT t p own).2 = 0 := by simpa using h3
  have h4 : (findT t p own).1 ≠ 1 := by simpa using h4
  have hf := findT_range h3
  have hne := find_root h3 h4
  have hn1 : 1 ≤ (partsS p own).1.length := by
    cases e : (partsS p own).1 with
    | nil => exact absurd e hne
    | cons x r => simp
  obtain ⟨p1, p2, p3⟩ := walk_snoc (by rw [← (find_parts h3).2]; exact h3) hne
  obtain ⟨W, hW⟩ : ∃ W, placeT t (partsS p own).1 = W := ⟨_, rfl⟩
  have hpo := @placeT_ok t (partsS p own).1
  rw [hW] at hpo hM p1 p2 p3 ⊢
  obtain ⟨v1, v2, v3, v4, v5, v6⟩ := hpo p1
  have w1 : IntKind.i64.wrap ((findT t p own).1 - 1) = (findT t p own).1 - 1 := i64_in _ (by omega)
  rw [w1, kind_at]
  have hdf := dropT_fit h1 W.1 W.2.1
  have hdl := dropT_len t W.1 W.2.1
  have tl : ¬ (kindT t (findT t p own).1 = 2 ∧ bodyT t (findT t p own).1 ≠ no) → (p.size ≤ 4000000000 ∧ (fitT t ∧ 1 ≤ (partsS p own).1.length ∧ (partsS p own).1.length ≤ 1000) ∧ (fitT t ∧ 1 ≤ W.1 ∧ W.1 ≤ (t.length : Int)) ∧ fitT (dropT t W.1 W.2.1) ∧
      br (linksT (dropT t W.1 W.2.1) (findT t p own).1 == 0) ((fitT (dropT t W.1 W.2.1) ∧ 1 ≤ (findT t p own).1 ∧ (findT t p own).1 ≤ ((dropT t W.1 W.2.1).length : Int)) ∧ setT (dropT t W.1 W.2.1) (findT t p own).1 dfltN = M.1 ∧ 0 = M.2) (dropT t W.1 W.2.1 = M.1 ∧ 0 = M.2)) := by
    intro hx
    rw [if_neg hx] at hM
    refine ⟨h2, ⟨h1, hn1, by omega⟩, ⟨h1, v1, v2⟩, hdf, br_intro (fun h => ?_) fun h => ?_⟩
    · rw [hM, if_pos (by simpa using h)]
      exact ⟨⟨hdf, by omega, by rw [hdl]; omega⟩, rfl, rfl⟩
    · rw [hM, if_neg (by simpa using h)]; exact ⟨rfl, rfl⟩
  refine ⟨⟨by omega, by omega⟩, br_intro (fun hk => ⟨⟨by omega, by omega⟩, br_intro (fun hb => ?_) fun hb => ?_⟩) fun hk => ?_⟩
  · have hc : kindT t (findT t p own).1 = 2 ∧ bodyT t (findT t p own).1 ≠ no := by
      refine ⟨by unfold kindT; simpa using hk, fun e => ?_⟩
      rw [toList_bl, show (nodeT t (findT t p own).1).2.2.1 = no from e] at hb
      simp at hb
    rw [hM, if_pos hc]; exact ⟨rfl, rfl⟩
  · refine tl fun hc => hc.2 ?_
    show (nodeT t (findT t p own).1).2.2.1 = no
    apply bl_inj
    rw [toList_bl] at hb
    simpa using hb
  · refine tl fun hc => ?_
    have hc1 := hc.1
    unfold kindT at hc1
    rw [hc1] at hk
    simp at hk
theorem rdelT_ok : ConOK Tryz.prog 63 rdelTC := by
  refine con_ok tab_ok (Γ := ΓrdelT) (consOK_cons rparts_ok (consOK_cons rfindT_ok (consOK_cons rplace_ok (consOK_cons rcutT_ok (consOK_cons rlinks_ok (consOK_cons rset6_ok consOK_nil)))))) (by kernel_rfl) Tryz.func63 (by kernel_rfl) ?_
  intro args out h
  obtain ⟨x, e, h1⟩ := conN_inv h
  clear h
  obtain ⟨t, p, own, x0⟩ := x
  subst e
  replace h1 : (if fitT t ∧ p.size ≤ 4000000000 then some ⟨.tup [⟨TreeT, (delT t p own).1⟩, ⟨.int .i64, (delT t p own).2⟩], []⟩ else none) = some out := h1
  split at h1
  case isFalse => cases h1
  rename_i hr
  injection h1 with h1
  subst h1
  exact ⟨by rw [mkArgs_len]; decide, rdelT_ex t p own hr⟩
end Go.Proofs.YthhjlbpmpffapaaGreatDoor
