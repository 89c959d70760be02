/- ops: what is put is taken, what is taken may be put. -/
import Derived.Test.YtmcemcdjfodchaaOps8
set_option maxRecDepth 10000
set_option maxHeartbeats 4000000
set_option linter.unusedSimpArgs false
set_option linter.unusedVariables false
namespace Go.Proofs.Ytmcemcdjfodchaa
open Go.Tm Go.IntWalk
theorem numS_c {x : Int} {l : List Int} (h0 : 0 ≤ x) (h1 : x ≤ 255) : numS (rdO (x :: l)) 1 = (x, rdO l) := by
  have hb : isB [x] := fun y hy => by
    rw [List.mem_singleton.1 hy]; omega
  have e : takeS (x :: l) 1 = (x, true) := by
    have := (takeS_app (b := [x]) (n := 1) (by decide) (by rw [takeS_one hb]) l).1
    rw [takeS_one hb] at this
    exact this
  rw [num_rd (by rw [e]), e]
  rfl
theorem numS_2 {u : Int} {l : List Int} (h0 : 0 ≤ u) (h1 : u ≤ 65535) : numS (rdO (bytesN 2 u ++ l)) 2 = (u, rdO l) := by
  have h0' : takeS (bytesN 2 u ++ []) ((2 : Nat) : Int) = (u, true) := take_put' (by decide) (by decide) h0 (by show u < 65536; omega) (fun x hx => by cases hx)
  rw [List.append_nil] at h0'
  obtain ⟨e1, e2⟩ := takeS_app (b := bytesN 2 u) (n := 2) (by decide) (by rw [show (2 : Int) = ((2 : Nat) : Int) from rfl, h0']) l
  have hlen : (bytesN 2 u).length = 2 := by
    obtain ⟨n, rfl⟩ := Int.eq_ofNat_of_zero_le h0
    rw [bytesN_nat, ints_length, leB_len]
  rw [show takeS (bytesN 2 u) 2 = (u, true) from h0'] at e1
  rw [num_rd (by rw [e1]), e1, e2, List.drop_of_length_le (by rw [hlen]; decide)]
  rfl
theorem textR_c {s : ByteArray} {l : List Int} (h : s.size ≤ 255) : textR (rdO (txtB s ++ l)) = (s, rdO l) := by
  have e := takeText_text h l
  have e2 : txtB s ++ l = (s.size : Int) :: bytesOf s ++ l := rfl
  rw [e2, text_rd (by rw [e]), e]
  simp only
  rw [show (1 + (s.size : Int)).toNat = ((s.size : Int) :: bytesOf s).length by rw [List.length_cons, bytesOf_len]; omega, List.drop_left]
theorem keepN_c : ∀ (l : List Bool) (r : List Int), keepN l.length (rdO (l.map bitI ++ r)) = (l, rdO r)
  | [], r => rfl
  | x :: l, r => by
    have hx : 0 ≤ bitI x ∧ bitI x ≤ 255 := by unfold bitI; split <;> decide
    rw [List.length_cons, keepN, List.map_cons, List.cons_append, numS_c hx.1 hx.2]
    simp only
    rw [keepN_c l r]
    cases x <;> rfl
theorem keepR_c {l : List Bool} {r : List Int} (h : l.length ≤ 40) : keepR (rdO ((l.length : Int) :: (l.map bitI ++ r))) = (l, rdO r) := by
  rw [keepR, numS_c (by omega) (by omega)]
  simp only
  rw [if_neg (by omega), Int.toNat_natCast, keepN_c]
theorem step_put {s : Step} (h : ValidS s) (rest : List Int) : stepR s.1 (rdO (putT s ++ rest)) = (s, rdO rest) := by
  obtain ⟨k, v, id, mo, off, path, to, txt, keep, un⟩ := s
  obtain ⟨kind, hv, hid, id0, hmo, mode0, hof, off1, off0, hpa, path0, hto, to0, htx, text0, hke, keep0⟩ := h
  simp only at kind hv hid id0 hmo mode0 hof off1 off0 hpa path0 hto to0 htx text0 hke keep0
  have hv1 : v ≤ 255 := by omega
  have hvt : v.tmod 2 = v := by
    have : v = 0 ∨ v = 1 := by omega
    rcases this with rfl | rfl <;> rfl
  have hk : k = 1 ∨ k = 2 ∨ k = 3 ∨ k = 4 ∨ k = 5 ∨ k = 6 ∨ k = 7 ∨ k = 8 ∨ k = 9 ∨ k = 10 ∨ k = 11 ∨ k = 12 ∨ k = 13 ∨ k = 14 ∨ k = 15 ∨ k = 16 ∨ k = 17 ∨ k = 18 ∨ k = 19 ∨ k = 20 := by omega
  rcases hk with rfl | rfl | rfl | rfl | rfl | rfl | rfl | rfl | rfl | rfl | rfl | rfl | rfl | rfl | rfl | rfl | rfl | rfl | rfl | rfl
  all_goals
    try simp at off1
    try simp at id0
    try simp at mode0
    try simp at off0
    try simp at path0
    try simp at to0
    try simp at text0
    try simp at keep0
    simp [stepR, putT, numS_c, numS_2, textR_c, keepR_c, *]
theorem numS_r1 {r : Rd} (h : isB r.1) : 0 ≤ (numS r 1).1 ∧ (numS r 1).1 ≤ 255 := by
  unfold numS
  split
  · exact ⟨Int.le_refl 0, show (0 : Int) ≤ 255 by decide⟩
  · rename_i hc
    cases hb : r.1 with
    | nil => rw [hb] at hc; simp [takeS] at hc
    | cons x l =>
      rw [hb] at h
      have := h x (List.mem_cons_self ..)
      simp only
      rw [takeS_one h]
      simp only
      omega
theorem numS_r2 {r : Rd} (h : isB r.1) : 0 ≤ (numS r 2).1 ∧ (numS r 2).1 ≤ 65535 := by
  unfold numS
  split
  · exact ⟨Int.le_refl 0, show (0 : Int) ≤ 65535 by decide⟩
  · have e : r.1 = ints (nats r.1) := (ints_nats h).symm
    simp only
    rw [e, takeS_nat (nats_lt h)]
    split
    · exact ⟨Int.le_refl 0, by decide⟩
    · have h1 := le_lt (take_lt (nats_lt h) (2 : Int).toNat)
      have h2 : 256 ^ ((nats r.1).take (2 : Int).toNat).length ≤ 256 ^ 2 := Nat.pow_le_pow_right (by decide) (by rw [List.length_take]; exact Nat.min_le_left _ _)
      simp only
      omega
theorem textR_r {r : Rd} (h : isB r.1) : (textR r).1.size ≤ 255 := by
  unfold textR
  split
  · exact (show no.size ≤ 255 by decide)
  · simp only
    unfold takeTextS
    split
    · decide
    · have h0 := isB_getD h 0
      simp only
      rw [size_strOf, List.length_take]
      omega
theorem keepN_r : ∀ (k : Nat) (r : Rd), (keepN k r).1.length = k
  | 0, r => rfl
  | k + 1, r => by rw [keepN, List.length_cons, keepN_r k]
theorem keepR_r {r : Rd} (h : isB r.1) : (keepR r).1.length ≤ 40 := by
  unfold keepR
  split
  · exact Nat.zero_le _
  · have := numS_r1 h
    rw [keepN_r]
    omega
theorem valid_step {k : Int} (h1 : 1 ≤ k) (h2 : k ≤ 20) {r : Rd} (hr : isB r.1) : ValidS (stepR k r).1 := by
  have b1 : isB (numS r 1).2.1 := numS_left.isB hr
  have t2 : ∀ x : Int, 0 ≤ x → 0 ≤ x.tmod 2 ∧ x.tmod 2 ≤ 1 := fun x hx => ⟨Int.tmod_nonneg _ hx, by have := Int.tmod_lt_of_pos x (show (0 : Int) < 2 by decide); omega⟩
  have hv := t2 _ (numS_r1 hr).1
  obtain ⟨P, hP⟩ : ∃ P, (if k ≤ 10 then textR (numS r 1).2 else (no, (numS r 1).2)) = P := ⟨_, rfl⟩
  have bP : isB P.2.1 := by
    rw [← hP]
    split
    · exact textR_left.isB b1
    · exact b1
  have zP : P.1.size ≤ 255 := by
    rw [← hP]
    split
    · exact textR_r b1
    · exact (show no.size ≤ 255 by decide)
  have nP : k ≤ 10 ∨ P.1 = no := by
    by_cases c : k ≤ 10
    · exact .inl c
    · rw [if_neg c] at hP
      exact .inr (by rw [← hP])
  have hk : k = 1 ∨ k = 2 ∨ k = 3 ∨ k = 4 ∨ k = 5 ∨ k = 6 ∨ k = 7 ∨ k = 8 ∨ k = 9 ∨ k = 10 ∨ k = 11 ∨ k = 12 ∨ k = 13 ∨ k = 14 ∨ k = 15 ∨ k = 16 ∨ k = 17 ∨ k = 18 ∨ k = 19 ∨ k = 20 := by omega
  have n1 := numS_r1 bP
  have n2 := numS_r2 bP
  have x1 := textR_r bP
  have y1 := keepR_r bP
  have c1 : isB (numS P.2 2).2.1 := numS_left.isB bP
  have c2 : isB (numS P.2 1).2.1 := numS_left.isB bP
  have x2 := textR_r c1
  have n3 := numS_r1 c2
  have zn : no.size ≤ 255 := by decide
  unfold stepR
  simp only [hP]
  rcases hk with rfl | rfl | rfl | rfl | rfl | rfl | rfl | rfl | rfl | rfl | rfl | rfl | rfl | rfl | rfl | rfl | rfl | rfl | rfl | rfl
  all_goals
    simp only [Int.reduceEq, or_self, or_false, false_or, or_true, true_or, if_true, if_false]
    constructor
    all_goals first
      | exact hv
      | exact zP
      | exact nP
      | exact n1
      | exact n2
      | exact n3
      | exact x1
      | exact x2
      | exact y1
      | exact zn
      | (simp only; omega)
      | simp
      | fail
/-! ### Rows of steps -/
theorem stepsD_put {s : Step} (h : ValidS s) (rest : List Int) : stepsD (putO s ++ rest) = s :: stepsD rest := by
  have hk : s.1.tmod 21 = s.1 := Int.tmod_eq_of_lt (by have := h.kind; omega) (by have := h.kind; omega)
  rw [put_eq h, List.cons_append, stepsD_cons, hk, if_neg (by have := h.kind; omega), step_put h rest, if_neg (by rw [rdO_2]; decide)]
  rfl
theorem sayS_valid {s : Step} (h : ValidS s) : sayS s = true := by
  have := stepsD_put h []
  rw [List.append_nil, stepsD_nil] at this
  exact sayS_yes (by have := h.kind; omega) (by have := h.kind; omega) (by have := h.keep; omega) this
theorem putL_cons {s : Step} {l : List Step} (h : ValidS s) : putL (s :: l) = putO s ++ putL l := by
  unfold putL
  rw [List.flatMap_cons, if_pos (sayS_valid h)]
theorem stepsD_putL : ∀ {l : List Step}, (∀ s ∈ l, ValidS s) → ∀ rest, stepsD (putL l ++ rest) = l ++ stepsD rest
  | [], _, rest => rfl
  | s :: l, h, rest => by
    rw [putL_cons (h s (List.mem_cons_self ..)), List.append_assoc, stepsD_put (h s (List.mem_cons_self ..)), stepsD_putL (fun x hx => h x (List.mem_cons_of_mem _ hx)) rest]
    rfl
theorem valid_steps : ∀ {n : Nat} {b : List Int}, b.length ≤ n → isB b → ∀ s ∈ stepsD b, ValidS s
  | 0, b, hn, hb, s, hs => by
    obtain rfl := List.eq_nil_of_length_eq_zero (Nat.le_zero.1 hn)
    cases hs
  | n + 1, [], hn, hb, s, hs => by cases hs
  | n + 1, x :: l, hn, hb, s, hs => by
    simp only [List.length_cons] at hn
    have hx := hb x (List.mem_cons_self ..)
    have hl : isB l := fun y hy => hb y (List.mem_cons_of_mem _ hy)
    have hlf := stepR_left (x.tmod 21) (r := rdO l)
    have hll := hlf.len
    rw [rdO_1] at hll
    rw [stepsD_cons] at hs
    split at hs
    · exact valid_steps (n := n) (by omega) hl s hs
    · rename_i h0
      split at hs
      · cases hs
      · rcases List.mem_cons.1 hs with e | hs
        · rw [e]
          have k1 : 0 ≤ x.tmod 21 := Int.tmod_nonneg _ hx.1
          have k2 : x.tmod 21 < 21 := Int.tmod_lt_of_pos _ (by decide)
          exact valid_step (by omega) (by omega) hl
        · exact valid_steps (n := n) (by omega) (hlf.isB hl) s hs
theorem valid_take {b : List Int} (hb : isB b) : ∀ s ∈ stepsD b, ValidS s := valid_steps (Nat.le_refl _) hb
theorem isB_putL (l : List Step) : isB (putL l) := by
  intro x hx
  obtain ⟨s, _, hs⟩ := List.mem_flatMap.1 hx
  split at hs
  · exact isB_putO s x hs
  · cases hs
theorem putO_small {s : Step} (h : ValidS s) : (putO s).length ≤ 1000 := by
  have h1 := putO_len0 s
  have := h.path
  have := h.to
  have := h.text
  have := h.keep
  omega
theorem putL_len : ∀ {l : List Step}, (∀ s ∈ l, ValidS s) → (putL l).length ≤ 1000 * l.length
  | [], _ => Nat.le_refl _
  | s :: l, h => by
    have h1 := putO_small (h s (List.mem_cons_self ..))
    have h2 := putL_len (l := l) fun x hx => h x (List.mem_cons_of_mem _ hx)
    rw [putL_cons (h s (List.mem_cons_self ..)), List.length_append, List.length_cons]
    omega
theorem putL_nil {l : List Step} (h : ∀ s ∈ l, ValidS s) (e : putL l = []) : l = [] := by
  cases l with
  | nil => rfl
  | cons s l =>
    have hs := h s (List.mem_cons_self ..)
    rw [putL_cons hs, put_eq hs] at e
    cases e
theorem valid_sz {l : List Step} (h : ∀ s ∈ l, ValidS s) : allSz l := fun s hs => (h s hs).sz
/-- A step that is cut off is none. -/
theorem cut_one {s : Step} (h : ValidS s) {n : Nat} (hn : n < (putO s).length) : stepsD ((putO s).take n) = [] := by
  rw [put_eq h] at hn ⊢
  cases n with
  | zero => rfl
  | succ n =>
    simp only [List.length_cons] at hn
    have hk : s.1.tmod 21 = s.1 := Int.tmod_eq_of_lt (by have := h.kind; omega) (by have := h.kind; omega)
    have hB : isB (putT s) := by
      have := isB_putO s
      rw [put_eq h] at this
      exact fun y hy => this y (List.mem_cons_of_mem _ hy)
    rw [List.take_succ_cons, stepsD_cons, hk, if_neg (by have := h.kind; omega)]
    by_cases hbad : (stepR s.1 (rdO ((putT s).take n))).2.2.1 = true
    · rw [if_pos hbad]
    · exfalso
      have hbad : (stepR s.1 (rdO ((putT s).take n))).2.2.1 = false := by simpa using hbad
      obtain ⟨r, _, hx⟩ := (par_step s.1).ext _ (fun y hy => hB y (List.mem_of_mem_take hy)) hbad
      have h2 := hx ((putT s).drop n)
      rw [List.take_append_drop] at h2
      have h3 := step_put h []
      rw [List.append_nil] at h3
      rw [h3] at h2
      have h4 : (rdO [] : Rd) = rdO (r ++ (putT s).drop n) := (Prod.mk.inj h2).2
      have h5 : ([] : List Int) = r ++ (putT s).drop n := (Prod.mk.inj h4).1
      have h6 := congrArg List.length h5
      rw [List.length_append, List.length_drop] at h6
      simp only [List.length_nil] at h6
      omega
/-- A row of steps that is cut off is the first of them. -/
theorem cut_row : ∀ {l : List Step}, (∀ s ∈ l, ValidS s) → ∀ {n : Nat}, n < (putL l).length → ∃ j, j < l.length ∧ stepsD ((putL l).take n) = l.take j
  | [], _, n, hn => by simp [putL] at hn
  | s :: l, h, n, hn => by
    have hs := h s (List.mem_cons_self ..)
    rw [putL_cons hs] at hn ⊢
    rcases Nat.lt_or_ge n (putO s).length with c | c
    · refine ⟨0, by simp, ?_⟩
      rw [List.take_append_of_le_length (by omega), cut_one hs c]
      rfl
    · rw [List.length_append] at hn
      obtain ⟨j, hj, e⟩ := cut_row (fun x hx => h x (List.mem_cons_of_mem _ hx)) (n := n - (putO s).length) (by omega)
      refine ⟨j + 1, by simpa using hj, ?_⟩
      rw [List.take_append, List.take_of_length_le c, stepsD_put hs, e]
      rfl
end Go.Proofs.Ytmcemcdjfodchaa
