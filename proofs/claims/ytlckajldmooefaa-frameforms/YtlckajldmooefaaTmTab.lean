/- A table of types: which type of the program has which shape; and what the machine does with types that stand in it. -/
import Derived.Test.YtlckajldmooefaaTmSt
set_option linter.unusedVariables false
set_option linter.unusedSimpArgs false
namespace Go.Tm

abbrev Tab := List (TypeId × Ty × Nat)

def lk : Tab → TypeId → Option (Ty × Nat)
  | [], _ => none
  | (k, u, b) :: r, t => if k = t then some (u, b) else lk r t

def ty (tab : Tab) (t : TypeId) : Option Ty := (lk tab t).map (·.1)

def fieldsOK (tab : Tab) : List Field → Ty → Nat → Bool
  | [], .unit, _ => true
  | f :: fs, .prod a b, off => f.offset == off && f.name != "_" && decide (ty tab f.type = some a) && decide (0 < a.sz) && fieldsOK tab fs b (off + a.sz)
  | _, _, _ => false

def underOK (tab : Tab) (d : Option TypeDesc) (u : Ty) : Bool :=
  match d, u with
  | some (.int k), .int k' => decide (k = k')
  | some .bool, .bool => true
  | some .string, .str => true
  | some (.slice e), .slice u' => decide (ty tab e = some u') && decide (0 < u'.sz)
  | some (.array n e), .arr m u' => decide (n = m) && decide (ty tab e = some u') && decide (0 < u'.sz)
  | some (.struct fs), u => u.agg && fieldsOK tab fs.toList u 0
  | _, _ => false

structure TabOK (P : Program) (tab : Tab) : Prop where
  under : (tab.all fun e => underOK tab (P.underlying e.1) e.2.1 && !P.eqGuardType P.depth e.1 && !P.stoodInHeld e.1 && decide (e.2.2 ≤ e.2.1.mx)) = true
  info : (tab.map fun e => (P.info? e.1).map fun i => (i.size, i.bytes, i.zero)) = tab.map fun e => some (e.2.1.sz, e.2.2, some (mkv e.2.1 e.2.1.zeroV))

theorem lk_mem : ∀ {tab : Tab} {t : TypeId} {u : Ty} {b : Nat}, lk tab t = some (u, b) → (t, u, b) ∈ tab
  | [], _, _, _, h => by cases h
  | (k, u', b') :: r, t, u, b, h => by
    simp only [lk] at h
    split at h
    · rename_i hk
      subst hk
      simp only [Option.some.injEq, Prod.mk.injEq] at h
      obtain ⟨rfl, rfl⟩ := h
      simp
    · exact List.mem_cons_of_mem _ (lk_mem h)

theorem ty_lk {tab : Tab} {t : TypeId} {u : Ty} (h : ty tab t = some u) : ∃ b, lk tab t = some (u, b) := by
  simp only [ty, Option.map_eq_some_iff] at h
  obtain ⟨⟨u', b⟩, h1, rfl⟩ := h
  exact ⟨b, h1⟩

section
variable {P : Program} {tab : Tab} (ok : TabOK P tab)
include ok

theorem tab_under {t : TypeId} {u : Ty} (h : ty tab t = some u) : underOK tab (P.underlying t) u = true ∧ P.eqGuardType P.depth t = false ∧ P.stoodInHeld t = false := by
  obtain ⟨b, h⟩ := ty_lk h
  have := List.all_eq_true.1 ok.under _ (lk_mem h)
  simp only [Bool.and_eq_true, Bool.not_eq_true'] at this
  exact ⟨this.1.1.1, this.1.1.2, this.1.2⟩

theorem tab_bytes {t : TypeId} {u : Ty} {b : Nat} (h : lk tab t = some (u, b)) : b ≤ u.mx := by
  have := List.all_eq_true.1 ok.under _ (lk_mem h)
  simp only [Bool.and_eq_true, decide_eq_true_eq] at this
  exact this.2

theorem tab_info {t : TypeId} {u : Ty} {b : Nat} (h : lk tab t = some (u, b)) : ∃ i, P.info? t = some i ∧ i.size = u.sz ∧ i.bytes = b ∧ i.zero = some (mkv u u.zeroV) := by
  have hm := lk_mem h
  have hf := List.map_inj_left.1 ok.info _ hm
  simp only [Option.map_eq_some_iff] at hf
  obtain ⟨i, hi, he⟩ := hf
  simp only [Prod.mk.injEq] at he
  exact ⟨i, hi, he.1, he.2.1, he.2.2⟩

theorem tab_info' {t : TypeId} {u : Ty} (h : ty tab t = some u) : ∃ i, P.info? t = some i ∧ i.size = u.sz ∧ i.zero = some (mkv u u.zeroV) := by
  obtain ⟨b, h⟩ := ty_lk h
  obtain ⟨i, h1, h2, _, h3⟩ := tab_info ok h
  exact ⟨i, h1, h2, h3⟩

theorem tm_sizeOf {t : TypeId} {u : Ty} (h : ty tab t = some u) (w : World) : (sizeOf t).run P w = .ok u.sz w := by
  obtain ⟨i, h1, h2, _⟩ := tab_info' ok h
  simp [sizeOf, typeInfo, h1, h2]

theorem tm_zero {t : TypeId} {u : Ty} (h : ty tab t = some u) (w : World) : (zeroValue t).run P w = .ok (mkv u u.zeroV) w := by
  obtain ⟨i, h1, _, h3⟩ := tab_info' ok h
  simp [zeroValue, typeInfo, h1, h3]

theorem tab_int {t : TypeId} {k : IntKind} (h : ty tab t = some (.int k)) : P.underlying t = some (.int k) := by
  have := (tab_under ok h).1
  unfold underOK at this
  split at this <;> simp_all [Ty.agg]

theorem tab_bool {t : TypeId} (h : ty tab t = some .bool) : P.underlying t = some .bool := by
  have := (tab_under ok h).1
  unfold underOK at this
  split at this <;> simp_all [Ty.agg]

theorem tab_str {t : TypeId} (h : ty tab t = some .str) : P.underlying t = some .string := by
  have := (tab_under ok h).1
  unfold underOK at this
  split at this <;> simp_all [Ty.agg]

theorem tab_slice {t : TypeId} {u : Ty} (h : ty tab t = some (.slice u)) : ∃ e, P.underlying t = some (.slice e) ∧ ty tab e = some u ∧ 0 < u.sz := by
  have := (tab_under ok h).1
  unfold underOK at this
  split at this <;> simp_all [Ty.agg]

theorem tab_arr {t : TypeId} {n : Nat} {u : Ty} (h : ty tab t = some (.arr n u)) : ∃ e, P.underlying t = some (.array n e) ∧ ty tab e = some u ∧ 0 < u.sz := by
  have := (tab_under ok h).1
  unfold underOK at this
  split at this
  · simp_all
  · simp_all
  · simp_all
  · simp_all
  · rename_i n' e m' u' h1 h2
    simp only [Bool.and_eq_true, decide_eq_true_eq] at this
    obtain ⟨⟨rfl, h3⟩, h4⟩ := this
    injection h2 with h2 h2'
    subst h2 h2'
    exact ⟨e, h1, h3, h4⟩
  · rename_i fs hh
    simp only [Bool.and_eq_true] at this
    have h2 := this.2
    cases hfs : fs.toList <;> simp [fieldsOK, hfs] at h2
  · simp_all

theorem tab_struct {t : TypeId} {u : Ty} (h : ty tab t = some u) (hu : u = .unit ∨ ∃ a b, u = .prod a b) : ∃ fs, P.underlying t = some (.struct fs) ∧ fieldsOK tab fs.toList u 0 = true := by
  have := (tab_under ok h).1
  unfold underOK at this
  split at this
  · rcases hu with hu | ⟨a, b, hu⟩ <;> cases hu
  · rcases hu with hu | ⟨a, b, hu⟩ <;> cases hu
  · rcases hu with hu | ⟨a, b, hu⟩ <;> cases hu
  · rcases hu with hu | ⟨a, b, hu⟩ <;> cases hu
  · rcases hu with hu | ⟨a, b, hu⟩ <;> cases hu
  · rename_i fs hh
    simp only [Bool.and_eq_true] at this
    exact ⟨fs, hh, this.2⟩
  · cases this

theorem tm_isAgg {t : TypeId} {u : Ty} (h : ty tab t = some u) (w : World) : (isAgg t).run P w = .ok u.agg w := by
  cases u with
  | int k => simp [isAgg, run_underlying (tab_int ok h), Ty.agg]
  | bool => simp [isAgg, run_underlying (tab_bool ok h), Ty.agg]
  | str => simp [isAgg, run_underlying (tab_str ok h), Ty.agg]
  | slice u => obtain ⟨e, h1, _⟩ := tab_slice ok h; simp [isAgg, run_underlying h1, Ty.agg]
  | arr n u => obtain ⟨e, h1, _⟩ := tab_arr ok h; simp [isAgg, run_underlying h1, Ty.agg]
  | unit => obtain ⟨fs, h1, _⟩ := tab_struct ok h (.inl rfl); simp [isAgg, run_underlying h1, Ty.agg]
  | prod a b => obtain ⟨fs, h1, _⟩ := tab_struct ok h (.inr ⟨a, b, rfl⟩); simp [isAgg, run_underlying h1, Ty.agg]
theorem tab_plain {t : TypeId} {u : Ty} (h : ty tab t = some u) : ∃ d, P.underlying t = some d ∧ ∀ ms, d ≠ .interface ms := by
  cases u with
  | int k => exact ⟨_, tab_int ok h, fun ms e => by cases e⟩
  | bool => exact ⟨_, tab_bool ok h, fun ms e => by cases e⟩
  | str => exact ⟨_, tab_str ok h, fun ms e => by cases e⟩
  | slice u => obtain ⟨e, h1, _⟩ := tab_slice ok h; exact ⟨_, h1, fun ms e => by cases e⟩
  | arr n u => obtain ⟨e, h1, _⟩ := tab_arr ok h; exact ⟨_, h1, fun ms e => by cases e⟩
  | unit => obtain ⟨fs, h1, _⟩ := tab_struct ok h (.inl rfl); exact ⟨_, h1, fun ms e => by cases e⟩
  | prod a b => obtain ⟨fs, h1, _⟩ := tab_struct ok h (.inr ⟨a, b, rfl⟩); exact ⟨_, h1, fun ms e => by cases e⟩
end

theorem agg_one {t : Ty} (h : t.agg = false) : t.sz = 1 := by cases t <;> simp [Ty.agg] at h <;> rfl

theorem add_zero (a : Addr) : a.add 0 = a := by simp [Addr.add]
theorem add_add (a : Addr) (m n : Nat) : (a.add m).add n = a.add (m + n) := by
  unfold Addr.add
  by_cases h1 : m = 0 <;> by_cases h2 : n = 0 <;> simp [h1, h2, Nat.add_assoc]
theorem add_block (a : Addr) (m : Nat) : (a.add m).block = a.block := by unfold Addr.add; split <;> rfl

theorem lies_mid {w : World} {ad : Addr} {cs : List Value} (h : lies w ad cs) (o n : Nat) : lies w (ad.add o) ((cs.drop o).take n) := by
  intro j v hv
  rw [add_add]
  refine h _ _ ?_
  rw [List.getElem?_take] at hv
  split at hv
  · rwa [List.getElem?_drop] at hv
  · cases hv

theorem tm_loadVar {P : Program} {tab : Tab} (ok : TabOK P tab) {t : TypeId} {u : Ty} (h : ty tab t = some u) {w : World} {ad : Addr} {cs : List Value} (hl : lies w ad cs) (hn : cs.length = u.sz) :
    (loadVar t ad).run P w = .ok (mkv u cs) w := by
  unfold loadVar
  rw [Sem.run_bind, tm_isAgg ok h]
  simp only [Result.andThen_ok]
  cases ha : u.agg with
  | true =>
    simp only [if_true, Sem.run_bind, tm_sizeOf ok h, Result.andThen_ok]
    rw [← hn, run_loadCells_list w ad cs hl]
    simp [mkv, ha]
  | false =>
    have := agg_one ha
    rw [this] at hn
    obtain ⟨c, rfl⟩ := List.length_eq_one_iff.1 hn
    have := hl 0 c rfl
    rw [add_zero] at this
    simp [run_load, this, mkv, ha]

end Go.Tm
