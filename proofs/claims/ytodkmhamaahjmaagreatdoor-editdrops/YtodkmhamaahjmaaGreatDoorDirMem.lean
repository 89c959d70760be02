/- Rows of the call's own, as the library's slices turn them. -/
import Derived.Test.YtodkmhamaahjmaaGreatDoorTmC
set_option maxRecDepth 10000
set_option linter.unusedSimpArgs false
set_option linter.unusedVariables false
namespace Go.Tm
/-- append of so many noughts, where there is no room. -/
theorem tm_growZ {P : Program} {tab : Tab} (ok : TabOK P tab) {t t2 e ty2 : TypeId} {u : Ty} {bytes : Nat} (ht : P.underlying t = some (.slice e)) (he : lk tab e = some (u, bytes)) (hz : 0 < u.sz)
    (ht2 : P.underlying t2 = some (.int .i64)) {w : World} {A : Option Addr} {n c : Nat} {cs : List Value} (hc : cs.length = n * u.sz) (hnc : n ≤ c) (hcm : c ≤ maxLen)
    (hA : (A = none ∧ c = 0) ∨ ∃ ad, A = some ad ∧ Mem w ad (c * u.sz) cs) {m : Nat} (hb : (n + m) * bytes ≤ 140737488355328) (hmax : n + m ≤ maxLen) (hroom : ¬ n + m ≤ c) :
    ∃ c' w', (Builtin.append_ #[t, t2] ty2 #[.slice A n c, .int .i64 (m : Int)]).run P w = .ok (.slice (some ⟨w.heap.size, 0, none⟩) (n + m) c') w' ∧ n + m ≤ c' ∧ c' ≤ maxLen ∧
      Mem w' ⟨w.heap.size, 0, none⟩ (c' * u.sz) (cs ++ (List.replicate m u.zeroV).flatten) ∧ But w none w' := by
  obtain ⟨i, hi, hsz, hby, hzero⟩ := tab_info ok he
  have hte : ty tab e = some u := by unfold ty; rw [he]; rfl
  have hzr := zeros_run (P := P) ok hte hz m
  have hmi : (m : Int) ≤ 9223372036854775807 := by unfold maxLen at hmax; omega
  have hw : IntKind.i64.wrap (m : Int) = (m : Int) := by rw [IntKind.wrap_i64]; omega
  have hn0 : ¬ ((m : Int) < 0) := by omega
  have hbm : m * bytes ≤ 140737488355328 := Nat.le_trans (Nat.mul_le_mul_right _ (Nat.le_add_left m n)) hb
  have hbig : ¬ ((m : Int) * (bytes : Int) > 2 ^ 48) := by
    have : (m : Int) * (bytes : Int) = ((m * bytes : Nat) : Int) := by simp
    rw [this]; omega
  have hbig2 : ¬ (281474976710656 < (m : Int) * (bytes : Int)) := by
    have : (m : Int) * (bytes : Int) = ((m * bytes : Nat) : Int) := by simp
    rw [this]; omega
  obtain ⟨new, hnew⟩ : ∃ new, new = (List.replicate m u.zeroV).flatten := ⟨_, rfl⟩
  rw [← hnew] at hzr ⊢
  have hn : new.length = m * u.sz := by rw [hnew]; exact repl_len u m
  have h1 : ∀ v ∈ new, v.oneCell' = true := by
    rw [hnew]
    exact rep_cells (w := w) (R := fun _ => True) (.arr m u) (x := List.replicate m u.dflt) ⟨List.length_replicate, repList.replicate (rep_zero w _ u) m⟩
  have happ : ∀ w1, ((if m * u.sz = 0 then pure #[] else do pure (Builtin.zeroCells (← zeroValue e).cells m)) : Sem (Array Value)).run P w1 = .ok new.toArray w1 := by
    intro w1
    split
    · rename_i h0
      rw [h0] at hn
      rw [List.eq_nil_of_length_eq_zero hn]
      rfl
    · exact hzr w1
  have hrunU : (underlying t2).run P w = .ok (.int .i64) w := run_underlying ht2 w
  have hai : ∀ w1 : World, (asInt (.int .i64 (m : Int))).run P w1 = .ok (m : Int) w1 := fun w1 => by simp [asInt, asIntOf]
  have hm0 : (m : Int).toNat = m := Int.toNat_natCast m
  have hlt : c < n + m := by omega
  have hfit := growslice_fits hlt hb
  have hfit' : ¬ (281474976710656 < Builtin.nextslicecap (n + m) c * bytes) := by omega
  have h63 : ¬ (9223372036854775807 < (n : Int) + (m : Int)) := by unfold maxLen at hmax; omega
  have hold : (Builtin.firstCells u.sz n (.slice A n c)).run P w.drew = .ok cs.toArray w.drew := by
    rcases hA with ⟨rfl, rfl⟩ | ⟨ad, rfl, hmem⟩
    · have : cs = [] := by
        have h0 : n = 0 := by omega
        rw [h0, Nat.zero_mul] at hc
        exact List.eq_nil_of_length_eq_zero hc
      subst this
      exact run_firstCells_none _ _ _ _ _
    · exact run_firstCells_some _ _ _ _ _ _ _ hc (fun j v hv => by simpa using hmem.lies j v hv)
  have hnew3 := happ w.drew
  have hg1 := grownCap_ge w (n + m) c e
  have hg2 := grownCap_le_maxLen w (n + m) c e hmax
  refine ⟨grownCap w (n + m) c e, w.drew.alloc (.cells (cs.toArray ++ new.toArray ++ Builtin.zeroCells (mkv u u.zeroV).cells (grownCap w (n + m) c e - (n + m))) e), ?_, hg1, hg2, ?_,
    (but_drew w none).trans (but_alloc _ _ _)⟩
  · by_cases hms : m * u.sz = 0
    · rw [if_pos hms] at hnew3
      simp only [Sem.run_pure, Result.ok.injEq, and_true] at hnew3
      simp [Builtin.append_, run_underlying ht, run_underlying ht2, sizeOf, typeInfo, zeroValue, hi, hsz, hby, hzero, hai, hw, hn0, hbig2, hroom, hfit', h63, Question.forced, hold, hms, ← hnew3, newRow, grownCap]
      done
    · rw [if_neg hms] at hnew3
      have hzv : (zeroValue e).run P w.drew = .ok (mkv u u.zeroV) w.drew := tm_zero ok hte _
      rw [Sem.run_bind, hzv] at hnew3
      simp only [Result.andThen_ok, Sem.run_pure, Result.ok.injEq, and_true] at hnew3
      simp [Builtin.append_, run_underlying ht, run_underlying ht2, sizeOf, typeInfo, zeroValue, hi, hsz, hby, hzero, hai, hw, hn0, hbig2, hroom, hfit', h63, Question.forced, hold, hms, hnew3, newRow, grownCap]
      try (congr 2; apply Array.ext'; simp)
  · have hzs : (mkv u u.zeroV).cells.size = u.sz := by
      rw [mkv_zero]; simp [zeroV_len]
    have hsize : (cs.toArray ++ new.toArray ++ Builtin.zeroCells (mkv u u.zeroV).cells (grownCap w (n + m) c e - (n + m))).size = grownCap w (n + m) c e * u.sz := by
      simp only [Array.size_append, List.size_toArray, size_zeroCells, hzs, hc, hn]
      rw [← Nat.add_mul, ← Nat.add_mul]
      congr 1
      omega
    refine mem_new w.drew _ e _ _ (by rw [hsize]; exact Nat.le_refl _) ?_ ?_
    · simp only [List.length_append, hc, hn, ← Nat.add_mul]
      exact Nat.mul_le_mul_right _ hg1
    · intro j v hv
      have hj : j < (cs ++ new).length := by
        rcases Nat.lt_or_ge j (cs ++ new).length with h | h
        · exact h
        · rw [List.getElem?_eq_none h] at hv; cases hv
      rw [Array.getElem?_append_left (by simpa using hj)]
      simpa using hv

/-- append, where there is room. -/
theorem tm_room {P : Program} {tab : Tab} (ok : TabOK P tab) {t t2 e ty2 : TypeId} {u : Ty} {bytes : Nat} {d2 : TypeDesc} (ht : P.underlying t = some (.slice e)) (he : lk tab e = some (u, bytes))
    (ht2 : P.underlying t2 = some d2) (hd2 : d2 = .string ∨ ∃ e2, d2 = .slice e2) {w : World} {ad : Addr} {n c : Nat} {cs : List Value} (hc : cs.length = n * u.sz) (hmem : Mem w ad (c * u.sz) cs)
    {x : Value} {m : Nat} {new : List Value} (hl : (Builtin.lenOf x).run P w = .ok m w)
    (hf : (Builtin.firstCells u.sz m x).run P w = .ok new.toArray w) (hn : new.length = m * u.sz) (h1 : ∀ v ∈ new, v.oneCell' = true) (hroom : n + m ≤ c) :
    ∃ w', (Builtin.append_ #[t, t2] ty2 #[.slice (some ad) n c, x]).run P w = .ok (.slice (some ad) (n + m) c) w' ∧ Mem w' ad (c * u.sz) (cs ++ new) ∧ But w (some ad) w' := by
  obtain ⟨i, hi, hsz, hby, hzero⟩ := tab_info ok he
  have hle : n * u.sz + m * u.sz ≤ c * u.sz := by rw [← Nat.add_mul]; exact Nat.mul_le_mul_right _ hroom
  obtain ⟨w', r, hm', hbut⟩ := hmem.storeCells (P := P) (n * u.sz) new w cs 0 (by omega) (by omega) h1
  refine ⟨w', ?_, ?_, hbut⟩
  · rcases hd2 with rfl | ⟨e2, rfl⟩ <;> simp [Builtin.append_, run_underlying ht, run_underlying ht2, sizeOf, typeInfo, hi, hl, hsz, hf, hroom, r]
  · have : ovr cs (n * u.sz + 0) new = cs ++ new := by
      unfold ovr
      rw [Nat.add_zero, ← hc, List.take_length, List.drop_eq_nil_of_le (by omega), List.append_nil]
    rwa [this] at hm'
/-- copy to a part of a row of the call's own. -/
theorem tm_copy {P : Program} {t t2 e ty2 : TypeId} {sz : Nat} (ht : P.underlying t = some (.slice e)) (hs : ∀ w, (sizeOf e).run P w = .ok sz w) {w : World} {ad : Addr} {N : Nat} {cs new : List Value} (hm : Mem w ad N cs) (o : Nat) {L c m k : Nat} {x : Value}
    (hk : k = min m L) (hl : (Builtin.lenOf x).run P w = .ok m w) (hf : (Builtin.firstCells sz k x).run P w = .ok new.toArray w) (h1 : ∀ v ∈ new, v.oneCell' = true) (ho : o ≤ cs.length) (hN : o + new.length ≤ N) :
    ∃ w', (Builtin.copy_ #[t, t2] ty2 #[.slice (some (ad.add o)) L c, x]).run P w = .ok (goInt k) w' ∧ Mem w' ad N (ovr cs o new) ∧ But w (some ad) w' := by
  obtain ⟨w', r, m1, b1⟩ := hm.storeCells (P := P) o new w cs 0 (by omega) (by omega) h1
  refine ⟨w', ?_, m1, b1⟩
  have hmin : Nat.min m L = k := hk.symm
  simp [Builtin.copy_, run_underlying ht, hs, hl, hmin, hf, r]
/-- clear of a part of a row of the call's own. -/
theorem tm_clear {P : Program} {tab : Tab} (ok : TabOK P tab) {t e ty2 : TypeId} {u : Ty} (ht : P.underlying t = some (.slice e)) (he : ty tab e = some u) (hz : 0 < u.sz) {w : World} {ad : Addr} {N : Nat} {cs : List Value} (hm : Mem w ad N cs) (o : Nat) {L c : Nat}
    (ho : o ≤ cs.length) (hN : o + L * u.sz ≤ N) :
    ∃ w', (Builtin.clear_ #[t] ty2 #[.slice (some (ad.add o)) L c]).run P w = .ok (.tuple #[]) w' ∧ Mem w' ad N (ovr cs o (List.replicate L u.zeroV).flatten) ∧ But w (some ad) w' := by
  have h1 : ∀ v ∈ (List.replicate L u.zeroV).flatten, v.oneCell' = true :=
    rep_cells (w := w) (R := fun _ => True) (.arr L u) (x := List.replicate L u.dflt) ⟨List.length_replicate, repList.replicate (rep_zero w _ u) L⟩
  obtain ⟨w', r, m1, b1⟩ := hm.storeCells (P := P) o _ w cs 0 (by omega) (by rw [repl_len]; omega) h1
  refine ⟨w', ?_, m1, b1⟩
  have hzv := tm_zero (P := P) ok he w
  have hzc : (Builtin.zeroCells (mkv u u.zeroV).cells L).toList = (List.replicate L u.zeroV).flatten := by
    rw [mkv_zero, zeroCells_list _ (by rw [zeroV_len]; exact hz)]
  cases L with
  | zero =>
    simp only [List.replicate_zero, List.flatten_nil, storeCells, Sem.run_pure, Result.ok.injEq, true_and] at r
    subst r
    simp [Builtin.clear_, run_underlying ht]
  | succ L => simp [Builtin.clear_, run_underlying ht, hzv, hzc, r]

/-! ### These as steps of a walk -/
theorem wp_app2 {P : Program} {w : World} {o : Oper} {a : Act} {K : Act → World → Prop} {Q : Exit → Act → World → Prop} (s x : Operand) (t tn : TypeId)
    (ho : o.op = .call { callee := .builtin .append, args := #[s, x], argTypes := #[t, tn] }) (vs vx : Value) (hs : a.eval s = vs) (hx : a.eval x = vx)
    (v' : Value) (w' : World) (hr : (Builtin.append_ #[t, tn] o.type #[vs, vx]).run P w = .ok v' w') (h : K (a.put o.dst v') w') : o.wp P a w K Q := by
  unfold Oper.wp execOp
  simp only [ho, resolve, invoke, builtin, Sem.run_bind, Sem.run_pure, Result.andThen_ok, List.map_toArray, List.map_cons, List.map_nil, hs, hx, hr]
  exact h
theorem wp_copy2 {P : Program} {w : World} {o : Oper} {a : Act} {K : Act → World → Prop} {Q : Exit → Act → World → Prop} (s x : Operand) (t tn : TypeId)
    (ho : o.op = .call { callee := .builtin .copy, args := #[s, x], argTypes := #[t, tn] }) (vs vx : Value) (hs : a.eval s = vs) (hx : a.eval x = vx)
    (v' : Value) (w' : World) (hr : (Builtin.copy_ #[t, tn] o.type #[vs, vx]).run P w = .ok v' w') (h : K (a.put o.dst v') w') : o.wp P a w K Q := by
  unfold Oper.wp execOp
  simp only [ho, resolve, invoke, builtin, Sem.run_bind, Sem.run_pure, Result.andThen_ok, List.map_toArray, List.map_cons, List.map_nil, hs, hx, hr]
  exact h
theorem wp_clear1 {P : Program} {w : World} {o : Oper} {a : Act} {K : Act → World → Prop} {Q : Exit → Act → World → Prop} (s : Operand) (t : TypeId)
    (ho : o.op = .call { callee := .builtin .clear, args := #[s], argTypes := #[t] }) (vs : Value) (hs : a.eval s = vs)
    (v' : Value) (w' : World) (hr : (Builtin.clear_ #[t] o.type #[vs]).run P w = .ok v' w') (h : K (a.put o.dst v') w') : o.wp P a w K Q := by
  unfold Oper.wp execOp
  simp only [ho, resolve, invoke, builtin, Sem.run_bind, Sem.run_pure, Result.andThen_ok, List.map_toArray, List.map_cons, List.map_nil, hs, hr]
  exact h
theorem wanted_plain {o : Oper} {ys : Nat → Option Bool} (hg : o.guard = none) : Region.wanted o ys = true := by simp [Region.wanted, hg]
end Go.Tm
