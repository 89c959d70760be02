/- ops: plain laws of steps as bytes. -/
import Derived.Test.YtmcemcdjfodchaaOps6
set_option maxRecDepth 10000
set_option maxHeartbeats 4000000
set_option linter.unusedSimpArgs false
set_option linter.unusedVariables false
namespace Go.Proofs.Ytmcemcdjfodchaa
open Go.Tm Go.IntWalk
/-! ### Readers that go on -/
structure Par {α : Type} (f : Rd → α × Rd) : Prop where mk ::
  stay : ∀ r, r.2.1 = true → (f r).2.2.1 = true
  left : ∀ r, Left r (f r).2
  ext : ∀ b, isB b → (f (rdO b)).2.2.1 = false → ∃ r, (f (rdO b)).2 = rdO r ∧ ∀ q, f (rdO (b ++ q)) = ((f (rdO b)).1, rdO (r ++ q))
def bindR {α β : Type} (f : Rd → α × Rd) (g : α → Rd → β × Rd) (r : Rd) : β × Rd := g (f r).1 (f r).2
def pureR {α : Type} (x : α) (r : Rd) : α × Rd := (x, r)
theorem par_pure {α : Type} (x : α) : Par (pureR x) := ⟨fun r h => h, fun r => Left.refl, fun b _ _ => ⟨b, rfl, fun q => rfl⟩⟩
theorem par_bind {α β : Type} {f : Rd → α × Rd} {g : α → Rd → β × Rd} (hf : Par f) (hg : ∀ x, Par (g x)) : Par (bindR f g) := by
  refine ⟨fun r h => (hg _).stay _ (hf.stay r h), fun r => (hf.left r).trans ((hg _).left _), fun b hb h => ?_⟩
  have h1 : (f (rdO b)).2.2.1 = false := by
    cases hh : (f (rdO b)).2.2.1 with
    | false => rfl
    | true =>
      have := (hg (f (rdO b)).1).stay _ hh
      rw [show (bindR f g (rdO b)).2.2.1 = (g (f (rdO b)).1 (f (rdO b)).2).2.2.1 from rfl, this] at h
      cases h
  obtain ⟨r1, e1, x1⟩ := hf.ext b hb h1
  have hb1 : isB r1 := by
    have := (hf.left (rdO b)).isB hb
    rwa [e1] at this
  have h2 : (g (f (rdO b)).1 (rdO r1)).2.2.1 = false := by rw [← e1]; exact h
  obtain ⟨r2, e2, x2⟩ := (hg (f (rdO b)).1).ext r1 hb1 h2
  refine ⟨r2, ?_, fun q => ?_⟩
  · show (g (f (rdO b)).1 (f (rdO b)).2).2 = _
    rw [e1, e2]
  · show g (f (rdO (b ++ q))).1 (f (rdO (b ++ q))).2 = ((g (f (rdO b)).1 (f (rdO b)).2).1, _)
    rw [x1 q, e1]
    exact x2 q
theorem takeS_app {b : List Int} {n : Int} (hn : 1 ≤ n) (h : (takeS b n).2 = true) (q : List Int) : takeS (b ++ q) n = takeS b n ∧ (b ++ q).drop n.toNat = b.drop n.toNat ++ q := by
  obtain ⟨h1, h2, h3⟩ := takeS_true h
  refine ⟨?_, List.drop_append_of_le_length (by omega)⟩
  unfold takeS
  rw [if_neg (by rw [List.length_append]; omega), if_neg (by omega)]
  have : ∀ k, k ≤ b.length → orN (b ++ q) k = orN b k := by
    intro k
    induction k with
    | zero => intro _; rfl
    | succ k ih =>
      intro hk
      simp only [orN]
      rw [ih (by omega)]
      simp [List.getD_eq_getElem?_getD, List.getElem?_append_left (show k < b.length by omega)]
  rw [this _ (by omega)]
theorem par_num {n : Int} (hn : 1 ≤ n) : Par (fun r => numS r n) := by
  refine ⟨fun r h => by show (numS r n).2.2.1 = true; rw [numS_stay h]; exact h, fun r => numS_left, fun b hb h => ?_⟩
  have ht : (takeS b n).2 = true := by
    cases hh : (takeS b n).2 with
    | true => rfl
    | false =>
      rw [show (numS (rdO b) n).2.2.1 = true by rw [num_no hh]] at h
      cases h
  refine ⟨b.drop n.toNat, by show (numS (rdO b) n).2 = _; rw [num_rd ht], fun q => ?_⟩
  obtain ⟨e1, e2⟩ := takeS_app hn ht q
  show numS (rdO (b ++ q)) n = ((numS (rdO b) n).1, _)
  rw [num_rd (by rw [e1]; exact ht), num_rd ht, e1, e2]
theorem par_text : Par textR := by
  refine ⟨fun r h => ?_, fun r => textR_left, fun b hb h => ?_⟩
  · rw [textR_bad (.inl h)]
  have ht : (takeTextS b).2.2 = true := by
    cases hh : (takeTextS b).2.2 with
    | true => rfl
    | false =>
      rw [show (textR (rdO b)).2.2.1 = true by rw [text_no hh]] at h
      cases h
  refine ⟨b.drop (takeTextS b).2.1.toNat, by rw [text_rd ht], fun q => ?_⟩
  have key : takeTextS (b ++ q) = takeTextS b ∧ (b ++ q).drop (takeTextS b).2.1.toNat = b.drop (takeTextS b).2.1.toNat ++ q := by
    cases b with
    | nil => cases ht
    | cons x l =>
      have hx := hb x (List.mem_cons_self ..)
      have e : ∀ z : List Int, takeTextS (x :: z) = if z.length + 1 ≤ x.toNat then (⟨#[]⟩, 0, false) else (strOf (z.take x.toNat), 1 + x, true) := by
        intro z
        unfold takeTextS
        rw [show (x :: z).getD 0 0 = x from rfl, w_nat (z := x) (n := x.toNat) (by omega) (by omega), List.length_cons]
        by_cases c : z.length + 1 ≤ x.toNat
        · rw [if_pos (.inr (by omega)), if_pos c]
        · rw [if_neg (by omega), if_neg c]
          rfl
      have c : ¬ l.length + 1 ≤ x.toNat := fun c => by
        rw [e l, if_pos c] at ht
        cases ht
      rw [List.cons_append, e (l ++ q), e l, if_neg c, if_neg (by rw [List.length_append]; omega), List.take_append_of_le_length (by omega)]
      refine ⟨rfl, ?_⟩
      simp only
      rw [show (1 + x).toNat = x.toNat + 1 by omega, List.drop_succ_cons, List.drop_succ_cons, List.drop_append_of_le_length (by omega)]
  rw [text_rd (by rw [key.1]; exact ht), text_rd ht, key.1, key.2]
theorem par_keepN : ∀ k, Par (keepN k)
  | 0 => par_pure []
  | k + 1 => by
    have e : keepN (k + 1) = bindR (fun r => numS r 1) fun x => bindR (keepN k) fun l => pureR ((x.tmod 2 == 1) :: l) := rfl
    rw [e]
    exact par_bind (par_num (by decide)) fun x => par_bind (par_keepN k) fun l => par_pure _
theorem par_keep : Par keepR := by
  have e : keepR = bindR (fun r => numS r 1) fun n r => if 40 < n then ([], (r.1, true, ())) else keepN n.toNat r := rfl
  rw [e]
  refine par_bind (par_num (by decide)) fun n => ?_
  by_cases h : 40 < n
  · simp only [if_pos h]
    exact ⟨fun r _ => rfl, fun r => ⟨id, Nat.le_refl _⟩, fun b _ h => by cases h⟩
  · simp only [if_neg h]
    exact par_keepN _
def pathR (k : Int) (r : Rd) : ByteArray × Rd := if k ≤ 10 then textR r else (no, r)
theorem par_path (k : Int) : Par (pathR k) := by
  by_cases h : k ≤ 10
  · have : pathR k = textR := by funext r; rw [pathR, if_pos h]
    rw [this]; exact par_text
  · have : pathR k = pureR no := by funext r; rw [pathR, if_neg h]; rfl
    rw [this]; exact par_pure _
theorem par_step (k : Int) : Par (stepR k) := by
  have p1 : Par (fun r => numS r 1) := par_num (by decide)
  have p2 : Par (fun r => numS r 2) := par_num (by decide)
  have pp := par_path k
  by_cases c1 : k = 1 ∨ k = 7
  · have e : stepR k = bindR (fun r => numS r 1) fun v => bindR (pathR k) fun p => bindR (fun r => numS r 1) fun m => pureR ((k, v.tmod 2, 0, m, 0, p, no, no, [], ()) : Step) := by
      funext r; simp only [stepR, if_pos c1]; rfl
    rw [e]; exact par_bind p1 fun v => par_bind pp fun p => par_bind p1 fun m => par_pure _
  by_cases c2 : k = 2 ∨ k = 4
  · have e : stepR k = bindR (fun r => numS r 1) fun v => bindR (pathR k) fun p => bindR textR fun m => pureR ((k, v.tmod 2, 0, 0, 0, p, m, no, [], ()) : Step) := by
      funext r; simp only [stepR, if_neg c1, if_pos c2]; rfl
    rw [e]; exact par_bind p1 fun v => par_bind pp fun p => par_bind par_text fun m => par_pure _
  by_cases c3 : k = 5
  · have e : stepR k = bindR (fun r => numS r 1) fun v => bindR (pathR k) fun p => bindR (fun r => numS r 2) fun o => bindR textR fun m => pureR ((k, v.tmod 2, 0, 0, o, p, no, m, [], ()) : Step) := by
      funext r; simp only [stepR, if_neg c1, if_neg c2, if_pos c3]; rfl
    rw [e]; exact par_bind p1 fun v => par_bind pp fun p => par_bind p2 fun o => par_bind par_text fun m => par_pure _
  by_cases c4 : k = 6 ∨ k = 17
  · have e : stepR k = bindR (fun r => numS r 1) fun v => bindR (pathR k) fun p => bindR (fun r => numS r 2) fun o => pureR ((k, v.tmod 2, 0, 0, o, p, no, no, [], ()) : Step) := by
      funext r; simp only [stepR, if_neg c1, if_neg c2, if_neg c3, if_pos c4]; rfl
    rw [e]; exact par_bind p1 fun v => par_bind pp fun p => par_bind p2 fun o => par_pure _
  by_cases c5 : k = 8 ∨ k = 9 ∨ k = 10 ∨ k = 13 ∨ k = 14
  · have e : stepR k = bindR (fun r => numS r 1) fun v => bindR (pathR k) fun p => bindR (fun r => numS r 1) fun o => pureR ((k, v.tmod 2, o, 0, 0, p, no, no, [], ()) : Step) := by
      funext r; simp only [stepR, if_neg c1, if_neg c2, if_neg c3, if_neg c4, if_pos c5]; rfl
    rw [e]; exact par_bind p1 fun v => par_bind pp fun p => par_bind p1 fun o => par_pure _
  by_cases c6 : k = 16
  · have e : stepR k = bindR (fun r => numS r 1) fun v => bindR (pathR k) fun p => bindR (fun r => numS r 1) fun i => bindR (fun r => numS r 1) fun o => pureR ((k, v.tmod 2, i, 0, o, p, no, no, [], ()) : Step) := by
      funext r; simp only [stepR, if_neg c1, if_neg c2, if_neg c3, if_neg c4, if_neg c5, if_pos c6]; rfl
    rw [e]; exact par_bind p1 fun v => par_bind pp fun p => par_bind p1 fun i => par_bind p1 fun o => par_pure _
  by_cases c7 : k = 19
  · have e : stepR k = bindR (fun r => numS r 1) fun v => bindR (pathR k) fun p => bindR (fun r => numS r 1) fun o => pureR ((k, v.tmod 2, 0, 0, o, p, no, no, [], ()) : Step) := by
      funext r; simp only [stepR, if_neg c1, if_neg c2, if_neg c3, if_neg c4, if_neg c5, if_neg c6, if_pos c7]; rfl
    rw [e]; exact par_bind p1 fun v => par_bind pp fun p => par_bind p1 fun o => par_pure _
  by_cases c8 : k = 20
  · have e : stepR k = bindR (fun r => numS r 1) fun v => bindR (pathR k) fun p => bindR keepR fun l => pureR ((k, v.tmod 2, 0, 0, 0, p, no, no, l, ()) : Step) := by
      funext r; simp only [stepR, if_neg c1, if_neg c2, if_neg c3, if_neg c4, if_neg c5, if_neg c6, if_neg c7, if_pos c8]; rfl
    rw [e]; exact par_bind p1 fun v => par_bind pp fun p => par_bind par_keep fun l => par_pure _
  · have e : stepR k = bindR (fun r => numS r 1) fun v => bindR (pathR k) fun p => pureR ((k, v.tmod 2, 0, 0, 0, p, no, no, [], ()) : Step) := by
      funext r; simp only [stepR, if_neg c1, if_neg c2, if_neg c3, if_neg c4, if_neg c5, if_neg c6, if_neg c7, if_neg c8]; rfl
    rw [e]; exact par_bind p1 fun v => par_bind pp fun p => par_pure _
end Go.Proofs.Ytmcemcdjfodchaa
