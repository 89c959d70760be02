/- What the machine's stores and appends do to cells of a block of the call's own. -/
import Derived.Test.YtlckajldmooefaaTmTab
import Derived.Laws.Append
set_option linter.unusedVariables false
set_option linter.unusedSimpArgs false
namespace Go.Tm

/-- Only this block may have turned, and new ones. -/
structure But (w : World) (A : Option Addr) (w' : World) : Prop where
  os : w'.os = w.os
  tape : w'.tape = w.tape
  output : w'.output = w.output
  size : w.heap.size ≤ w'.heap.size
  block : ∀ b, b < w.heap.size → (∀ ad, A = some ad → ad.block ≠ b) → w'.heap[b]? = w.heap[b]?

theorem But.refl (w : World) (A : Option Addr) : But w A w := ⟨rfl, rfl, rfl, Nat.le_refl _, fun _ _ _ => rfl⟩
theorem But.trans {w w1 w2 : World} {A : Option Addr} (h : But w A w1) (k : But w1 A w2) : But w A w2 :=
  ⟨k.os.trans h.os, k.tape.trans h.tape, k.output.trans h.output, Nat.le_trans h.size k.size, fun b hb hA => (k.block b (Nat.lt_of_lt_of_le hb h.size) hA).trans (h.block b hb hA)⟩

def ovr (cs : List Value) (o : Nat) (vs : List Value) : List Value := cs.take o ++ vs ++ cs.drop (o + vs.length)

theorem Mem.cut {w : World} {ad : Addr} {n : Nat} {cs : List Value} (h : Mem w ad n cs) (k : Nat) : Mem w ad n (cs.take k) := by
  obtain ⟨h1, row, e, fz, h2, h3, h4, h5, h6⟩ := h.out
  refine ⟨h1, row, e, fz, h2, h3, h4, by simp; omega, fun j v hv => h6 j v ?_⟩
  rw [List.getElem?_take] at hv
  split at hv
  · exact hv
  · cases hv

theorem Mem.part {w : World} {ad : Addr} {n : Nat} {cs : List Value} (h : Mem w ad n cs) (k : Nat) (hk : k ≤ n) : Mem w (ad.add k) (n - k) (cs.drop k) := by
  obtain ⟨h1, row, e, fz, h2, h3, h4, h5, h6⟩ := h.out
  cases ad with
  | mk bl o s =>
    simp only at h1 h2 h3 h6
    subst h1
    have e1 : (⟨bl, o, none⟩ : Addr).add k = ⟨bl, o + k, none⟩ := by unfold Addr.add; split <;> simp_all
    rw [e1]
    refine ⟨rfl, row, e, fz, h2, by simp only; omega, h4, by simp; omega, fun j v hv => ?_⟩
    rw [List.getElem?_drop] at hv
    have := h6 _ _ hv
    rw [← this]
    show row[o + k + j]? = _
    rw [Nat.add_assoc]

theorem Mem.cell {w : World} {bl o : Nat} {n : Nat} {cs : List Value} (h : Mem w ⟨bl, o, none⟩ n cs) (j : Nat) (hj : j < n) : (w.cell? ⟨bl, o + j, none⟩).isSome = true ∧ w.frozen? ⟨bl, o + j, none⟩ = false := by
  obtain ⟨h1, row, e, fz, h2, h3, h4, h5, h6⟩ := h.out
  simp only at h2 h3
  constructor
  · simp [World.cell?, h2]; omega
  · simp [World.frozen?, h2]; omega

theorem Mem.store {P : Program} {w : World} {ad : Addr} {n : Nat} {cs : List Value} (h : Mem w ad n cs) (o : Nat) (v : Value) (ho : o ≤ cs.length) (hn : o < n) (hv : v.oneCell' = true) :
    ∃ w', (store (ad.add o) v).run P w = .ok () w' ∧ Mem w' ad n (ovr cs o [v]) ∧ But w (some ad) w' := by
  obtain ⟨h1, row, e, fz, h2, h3, h4, h5, h6⟩ := h.out
  cases ad with
  | mk bl off s =>
    simp only at h1 h2 h3 h6
    subst h1
    have e1 : (⟨bl, off, none⟩ : Addr).add o = ⟨bl, off + o, none⟩ := by unfold Addr.add; split <;> simp_all
    obtain ⟨c1, c2⟩ := Mem.cell h o hn
    obtain ⟨old, hold⟩ := Option.isSome_iff_exists.1 c1
    refine ⟨w.setCell ⟨bl, off + o, none⟩ v, ?_, ?_, ?_⟩
    · rw [e1, run_store _ _ _ _ _ hv, hold]
      simp [c2]
    · refine ⟨rfl, row.setIfInBounds (off + o) v, e, fz, ?_, by simpa using h3, by simpa using h4, ?_, ?_⟩
      · simp [World.setCell, Array.getElem?_modify, h2]
      · simp [ovr]; omega
      · intro j u hu
        simp only [ovr] at hu
        show (row.setIfInBounds (off + o) v)[off + j]? = some u
        rw [Array.getElem?_setIfInBounds]
        rcases Nat.lt_trichotomy j o with hlt | rfl | hgt
        · rw [if_neg (by omega)]
          rw [List.append_assoc, List.getElem?_append_left (by simp; omega), List.getElem?_take, if_pos hlt] at hu
          exact h6 j u hu
        · rw [if_pos rfl]
          rw [List.append_assoc, List.getElem?_append_right (by simp; omega)] at hu
          simp [Nat.min_eq_left ho] at hu
          subst hu
          rw [if_pos (by omega)]
        · rw [if_neg (by omega)]
          rw [List.append_assoc, List.getElem?_append_right (by simp; omega), List.length_take, Nat.min_eq_left ho] at hu
          obtain ⟨k, rfl⟩ : ∃ k, j = o + (k + 1) := ⟨j - o - 1, by omega⟩
          rw [show o + (k + 1) - o = k + 1 by omega] at hu
          simp only [List.singleton_append, List.getElem?_cons_succ, List.getElem?_drop, List.length_singleton] at hu
          have := h6 _ _ hu
          rw [← this]
          congr 1
          omega
    · refine ⟨rfl, rfl, rfl, by simp [World.setCell], fun b hb hne => ?_⟩
      have := hne _ rfl
      simp only [World.setCell, Array.getElem?_modify]
      rw [if_neg (by simpa using this)]

theorem ovr_cons {cs : List Value} {o : Nat} {v : Value} {vs : List Value} (ho : o ≤ cs.length) : ovr (ovr cs o [v]) (o + 1) vs = ovr cs o (v :: vs) := by
  unfold ovr
  have e1 : (cs.take o ++ [v] ++ cs.drop (o + [v].length)).take (o + 1) = cs.take o ++ [v] := by
    rw [List.take_append_of_le_length (by simp; omega), List.take_of_length_le (by simp; omega)]
  have e2 : (cs.take o ++ [v] ++ cs.drop (o + [v].length)).drop (o + 1 + vs.length) = cs.drop (o + (v :: vs).length) := by
    have : (cs.take o ++ [v]).length = o + 1 := by simp; omega
    rw [← this, List.drop_length_add_append, List.drop_drop]
    congr 1
    simp; omega
  rw [e1, e2]
  simp

theorem Mem.storeCells {P : Program} {ad : Addr} {n : Nat} (base : Nat) : ∀ (vs : List Value) (w : World) (cs : List Value) (i : Nat), Mem w ad n cs → base + i ≤ cs.length → base + i + vs.length ≤ n → (∀ v ∈ vs, v.oneCell' = true) →
    ∃ w', (storeCells (ad.add base) vs i).run P w = .ok () w' ∧ Mem w' ad n (ovr cs (base + i) vs) ∧ But w (some ad) w'
  | [], w, cs, i, h, _, _, _ => ⟨w, by simp [Go.storeCells], by simpa [ovr] using h, But.refl _ _⟩
  | v :: vs, w, cs, i, h, h1, h2, h3 => by
    simp only [List.length_cons] at h2
    obtain ⟨w1, r1, m1, b1⟩ := h.store (P := P) (base + i) v h1 (by omega) (h3 v (by simp))
    obtain ⟨w2, r2, m2, b2⟩ := Mem.storeCells (P := P) base vs w1 _ (i + 1) m1 (by simp [ovr]; omega) (by omega) (fun u hu => h3 u (by simp [hu]))
    refine ⟨w2, ?_, ?_, b1.trans b2⟩
    · simp only [Go.storeCells, Sem.run_bind, add_add]
      rw [r1]
      exact r2
    · rw [← Nat.add_assoc, ovr_cons h1] at m2
      exact m2

theorem tm_storeVar {P : Program} {tab : Tab} (ok : TabOK P tab) {t : TypeId} {u : Ty} (h : ty tab t = some u) {w : World} {ad : Addr} {n : Nat} {cs new : List Value} {v : Value} (hm : Mem w ad n cs) (o : Nat)
    (ho : o + u.sz ≤ cs.length) (hv : v.cells = new.toArray) (hl : new.length = u.sz) (h1 : ∀ c ∈ new, c.oneCell' = true) :
    ∃ w', (storeVar t (ad.add o) v).run P w = .ok () w' ∧ Mem w' ad n (ovr cs o new) ∧ But w (some ad) w' := by
  have hcn : cs.length ≤ n := by obtain ⟨_, _, _, _, _, _, _, h5, _⟩ := hm.out; exact h5
  obtain ⟨w', r, m, b⟩ := hm.storeCells (P := P) o new w cs 0 (by omega) (by omega) h1
  refine ⟨w', ?_, by simpa using m, b⟩
  unfold storeVar
  rw [Sem.run_bind, tm_sizeOf ok h]
  simp only [Result.andThen_ok, hv, List.size_toArray, hl, ne_eq, not_true_eq_false, if_false]
  simpa using r

/-! ### append -/
theorem mem_new (w : World) (row : Array Value) (e : TypeId) (n : Nat) (cs : List Value) (hn : n ≤ row.size) (hc : cs.length ≤ n) (h : ∀ (j : Nat) (v : Value), cs[j]? = some v → row[j]? = some v) :
    Mem (w.alloc (.cells row e)) ⟨w.heap.size, 0, none⟩ n cs := by
  refine ⟨rfl, row, e, (0, 0), heap_alloc_new w _, by simpa using hn, .inl rfl, hc, fun j v hv => ?_⟩
  simpa using h j v hv

theorem but_alloc (w : World) (o : Obj) (A : Option Addr) : But w A (w.alloc o) := ⟨rfl, rfl, rfl, by simp, by
  intro b hb _
  exact Go.RowKit.Below.heap_alloc w o b hb⟩
theorem but_drew (w : World) (A : Option Addr) : But w A w.drew := ⟨rfl, rfl, rfl, Nat.le_refl _, fun _ _ _ => rfl⟩

/-- append of m elements with cells 'new', to a slice whose own cells are 'cs'. -/
theorem tm_append {P : Program} {tab : Tab} (ok : TabOK P tab) {t t2 e ty2 : TypeId} {u : Ty} {bytes : Nat} {d2 : TypeDesc} (ht : P.underlying t = some (.slice e)) (he : lk tab e = some (u, bytes)) (hz : 0 < u.sz)
    (ht2 : P.underlying t2 = some d2) (hd2 : d2 = .string ∨ ∃ e2, d2 = .slice e2) {w : World} {A : Option Addr} {n c : Nat} {cs : List Value} (hc : cs.length = n * u.sz) (hnc : n ≤ c) (hcm : c ≤ maxLen)
    (hA : (A = none ∧ c = 0) ∨ ∃ ad, A = some ad ∧ Mem w ad (c * u.sz) cs) {x : Value} {m : Nat} {new : List Value} (hl : (Builtin.lenOf x).run P w = .ok m w)
    (hf : ∀ w1, w1.heap = w.heap → (Builtin.firstCells u.sz m x).run P w1 = .ok new.toArray w1) (hn : new.length = m * u.sz) (h1 : ∀ v ∈ new, v.oneCell' = true)
    (hb : (n + m) * bytes ≤ 140737488355328) (hmax : n + m ≤ maxLen) :
    ∃ A' c' w', (Builtin.append_ #[t, t2] ty2 #[.slice A n c, x]).run P w = .ok (.slice A' (n + m) c') w' ∧ n + m ≤ c' ∧ c' ≤ maxLen ∧
      ((A' = none ∧ c' = 0) ∨ ∃ ad, A' = some ad ∧ Mem w' ad (c' * u.sz) (cs ++ new)) ∧ But w A w' ∧ (A' = A ∨ ∃ ad, A' = some ad ∧ ad.block = w.heap.size) := by
  obtain ⟨i, hi, hsz, hby, hzero⟩ := tab_info ok he
  by_cases hroom : n + m ≤ c
  · rcases hA with ⟨rfl, rfl⟩ | ⟨ad, rfl, hmem⟩
    · obtain rfl : n = 0 := by omega
      obtain rfl : m = 0 := by omega
      refine ⟨none, 0, w, ?_, by omega, by omega, .inl ⟨rfl, rfl⟩, But.refl _ _, .inl rfl⟩
      have hnew : new = [] := List.eq_nil_of_length_eq_zero (by simpa using hn)
      have := hf w rfl
      rcases hd2 with rfl | ⟨e2, rfl⟩ <;> simp [Builtin.append_, run_underlying ht, run_underlying ht2, sizeOf, typeInfo, hi, hl, hsz, this]
    · have hle : n * u.sz + m * u.sz ≤ c * u.sz := by rw [← Nat.add_mul]; exact Nat.mul_le_mul_right _ hroom
      obtain ⟨w', r, hm', hbut⟩ := hmem.storeCells (P := P) (n * u.sz) new w cs 0 (by omega) (by omega) h1
      refine ⟨some ad, c, w', ?_, hroom, hcm, .inr ⟨ad, rfl, ?_⟩, hbut, .inl rfl⟩
      · have := hf w rfl
        rcases hd2 with rfl | ⟨e2, rfl⟩ <;> simp [Builtin.append_, run_underlying ht, run_underlying ht2, sizeOf, typeInfo, hi, hl, hsz, this, hroom, r]
      · have : ovr cs (n * u.sz + 0) new = cs ++ new := by
          unfold ovr
          rw [Nat.add_zero, ← hc, List.take_length, List.drop_eq_nil_of_le (by omega), List.append_nil]
        rwa [this] at hm'
  · have hlt : c < n + m := by omega
    have hfit := growslice_fits hlt hb
    have hfit' : ¬ (281474976710656 < Builtin.nextslicecap (n + m) c * bytes) := by omega
    have h63 : ¬ (9223372036854775807 < (n : Int) + (m : Int)) := by unfold maxLen at hmax; omega
    have hold : (Builtin.firstCells u.sz n (.slice A n c)).run P w.drew = .ok cs.toArray w.drew := by
      rcases hA with ⟨rfl, rfl⟩ | ⟨ad, rfl, hmem⟩
      · have : cs = [] := by
          have h0 : n = 0 := by omega
          rw [h0, Nat.zero_mul] at hc
          exact List.eq_nil_of_length_eq_zero hc
        subst this
        exact run_firstCells_none _ _ _ _ _
      · exact run_firstCells_some _ _ _ _ _ _ _ hc (fun j v hv => by simpa using hmem.lies j v hv)
    have hnew := hf w.drew rfl
    have hg1 := grownCap_ge w (n + m) c e
    have hg2 := grownCap_le_maxLen w (n + m) c e hmax
    refine ⟨some ⟨w.heap.size, 0, none⟩, grownCap w (n + m) c e, w.drew.alloc (.cells (cs.toArray ++ new.toArray ++ Builtin.zeroCells (mkv u u.zeroV).cells (grownCap w (n + m) c e - (n + m))) e), ?_, hg1, hg2, .inr ⟨_, rfl, ?_⟩,
      (but_drew w A).trans (but_alloc _ _ _), .inr ⟨_, rfl, rfl⟩⟩
    · rcases hd2 with rfl | ⟨e2, rfl⟩ <;> simp [Builtin.append_, run_underlying ht, run_underlying ht2, sizeOf, typeInfo, zeroValue, hi, hl, hsz, hby, hzero, hroom, hfit', h63, Question.forced, hold, hnew, newRow, grownCap] <;> (congr 2; apply Array.ext'; simp)
    · have hzs : (mkv u u.zeroV).cells.size = u.sz := by
        rw [mkv_cells (rep_zero w (fun _ => True) u)]
        simpa using rep_len _ (rep_zero w (fun _ => True) u)
      have hsize : (cs.toArray ++ new.toArray ++ Builtin.zeroCells (mkv u u.zeroV).cells (grownCap w (n + m) c e - (n + m))).size = grownCap w (n + m) c e * u.sz := by
        simp only [Array.size_append, List.size_toArray, size_zeroCells, hzs, hc, hn]
        rw [← Nat.add_mul, ← Nat.add_mul]
        congr 1
        omega
      refine mem_new w.drew _ e _ _ (by rw [hsize]; exact Nat.le_refl _) ?_ ?_
      · simp only [List.length_append, hc, hn, ← Nat.add_mul]
        exact Nat.mul_le_mul_right _ hg1
      · intro j v hv
        have hj : j < (cs ++ new).length := by
          rcases Nat.lt_or_ge j (cs ++ new).length with h | h
          · exact h
          · rw [List.getElem?_eq_none h] at hv; cases hv
        rw [Array.getElem?_append_left (by simpa using hj)]
        simpa using hv

end Go.Tm
