/- More rules: conversions, rows and structs that are built, cuts, least and greatest. -/
import Derived.Test.YtlckajldmooefaaTmRule3
set_option linter.unusedVariables false
set_option linter.unusedSimpArgs false
namespace Go.Tm

section
variable {tab : Tab} {Γ : Cons} {d : Option Tmp} {m : Nat} {st : St} {K : Ups → Prop} {t t2 : TypeId} {c c' : Slot} {u u' : Ty} {n s n' : Nat} {lo len : Nat}

theorem conv_row {i : Nat} {xs : List Int} : opt (stepConvert tab t t2 (some i) m ⟨.asl n s none, .own n (.int .u8) xs⟩) K =
    onConv (ty tab t) (ty tab t2) (K [(i, .val .str (strOf xs))]) ((t = t2 ∧ s ≠ i ∧ xs ≠ []) ∧ K [(s, .dead), (i, .own m (.int .u8) xs)]) := by
  simp only [stepConvert, onConv]
  split
  · rename_i h1 h2
    simp [slc, opt, into, aliasOf, h1, h2]
  · rename_i h1 h2
    simp [opt_ite, opt_some, h1, h2]
  · simp_all [opt]
theorem conv_part {i : Nat} {xs : List Int} : opt (stepConvert tab t t2 (some i) m ⟨.asl n s (some (lo, len)), .own n (.int .u8) xs⟩) K = onConv (ty tab t) (ty tab t2) (K [(i, .val .str (strOf ((xs.drop lo).take len)))]) False := by
  simp only [stepConvert, onConv]
  split
  · simp_all [slc, opt, into, aliasOf]
  · split <;> simp_all [opt]
  · split <;> simp_all [opt]
theorem conv_bytes {i : Nat} {xs : List Int} : opt (stepConvert tab t t2 (some i) m ⟨.val (.slice (.int .u8)) xs, c⟩) K = onConv (ty tab t) (ty tab t2) (K [(i, .val .str (strOf xs))]) False := by
  simp only [stepConvert, onConv]
  split
  · simp_all [slc, opt, into, aliasOf]
  · split <;> simp_all [opt]
  · split <;> simp_all [opt]
theorem conv_str {i : Nat} {z : ByteArray} : opt (stepConvert tab t t2 (some i) m ⟨.val .str z, c⟩) K = onStr (ty tab t) (ty tab t2) (K [(i, .val .str z)]) (z.size ≤ 9223372036854775807 ∧ K [(i, .own m (.int .u8) (bytesOf z))]) := by
  simp only [stepConvert, onStr]
  split
  · simp_all [opt, into, aliasOf]
  · rename_i h1 h2
    simp [opt_ite, opt_some, h1, h2]
  · simp_all [opt]

/-! ### What is built -/
def fillK (u : Ty) (v : u.den) (l : List (Nat × Dv)) (F : u.den → Prop) : Prop := opt (fillT u v l) F
@[congr] theorem fillK_congr {v v2 : u.den} {l l2 : List (Nat × Dv)} {F : u.den → Prop} (h : v = v2) (hl : l = l2) : fillK u v l F = fillK u v2 l2 F := by rw [h, hl]
theorem fillK_nil {v : u.den} {F : u.den → Prop} : fillK u v [] F = F v := by
  have : fillT u v [] = some v := by cases u <;> rfl
  simp only [fillK, this, opt_some]
theorem fillK_arr {k i : Nat} {w : Dv} {r : List (Nat × Dv)} {v : List u.den} {F : List u.den → Prop} : fillK (.arr k u) v ((i, w) :: r) F = updK (.arr k u) v [.idx i] w.1 w.2 fun v' => fillK (.arr k u) v' r F := by
  simp only [fillK, fillT, updK]
  cases upd (.arr k u) v [.idx i] w.1 w.2 <;> simp [opt]
theorem fillK_prod {a b : Ty} {i : Nat} {w : Dv} {r : List (Nat × Dv)} {v : (Ty.prod a b).den} {F : (Ty.prod a b).den → Prop} : fillK (.prod a b) v ((i, w) :: r) F = updK (.prod a b) v [.fld i] w.1 w.2 fun v' => fillK (.prod a b) v' r F := by
  simp only [fillK, fillT, updK]
  cases upd (.prod a b) v [.fld i] w.1 w.2 <;> simp [opt]

theorem frzAll_nil {ws : List (Option Ty)} {F : List Dv × Ups → Prop} : opt (frzAll [] ws) F = F ([], []) := by simp [frzAll, opt]
theorem frzAll_cons {x : Lk} {r : List Lk} {w : Option Ty} {ws : List (Option Ty)} {F : List Dv × Ups → Prop} : opt (frzAll (x :: r) (w :: ws)) F = opt (frz x w) fun a => opt (frzAll r ws) fun b => F (a.1 :: b.1, a.2 ++ b.2) := by
  simp only [frzAll, List.headD_cons, List.tail_cons]
  cases frz x w with
  | none => simp [opt]
  | some a => cases frzAll r ws <;> simp [opt]

theorem buildSlice_ok {idx : List Nat} {i : Nat} {ls : List Lk} : opt (stepBuildSlice tab t len idx (some i) m ls) K = onSlice (ty tab t) fun u => len * u.sz ≤ 16777216 ∧ opt (frzAll ls (idx.map fun _ => some u)) fun r => fillK (.arr len u) (List.replicate len u.dflt) (idx.zip r.1) fun xs => K (r.2 ++ [(i, .own m u xs)]) := by
  simp only [stepBuildSlice]
  cases ty tab t with
  | none => simp [opt, onSlice]
  | some T =>
    cases T with
    | slice u =>
      simp only [opt_ite, onSlice]
      congr 1
      cases frzAll ls (idx.map fun _ => some u) with
      | none => simp [opt]
      | some r =>
        simp only [opt_some, fillK]
        cases fillT (.arr len u) (List.replicate len u.dflt) (idx.zip r.1) <;> simp [opt]
    | _ => simp [opt, onSlice]

theorem build_arr {idx : List Nat} {i k : Nat} {ls : List Lk} (h : ty tab t = some (.arr k u)) : opt (stepBuild tab t idx (some i) ls) K = opt (frzAll ls (idx.map fun _ => some u)) fun r => fillK (.arr k u) (List.replicate k u.dflt) (idx.zip r.1) fun xs => K (r.2 ++ [(i, .val (.arr k u) xs)]) := by
  simp only [stepBuild, h, Ty.agg, if_true, fillK, Ty.dflt]
  cases frzAll ls (idx.map fun _ => some u) with
  | none => simp [opt]
  | some r =>
    simp only [opt_some]
    cases fillT (.arr k u) (List.replicate k u.dflt) (idx.zip r.1) <;> simp [opt]

def buildK (tab : Tab) (t : TypeId) (idx : List Nat) (ls : List Lk) (i : Nat) (K : Ups → Prop) : Option Ty → Prop
  | some (.arr k u) => opt (frzAll ls (idx.map fun _ => some u)) fun r => fillK (.arr k u) (List.replicate k u.dflt) (idx.zip r.1) fun xs => K (r.2 ++ [(i, .val (.arr k u) xs)])
  | some (.prod a b) => opt (frzAll ls (idx.map fun j => (fieldTys (.prod a b))[j]?)) fun r => fillK (.prod a b) (Ty.prod a b).dflt (idx.zip r.1) fun v => K (r.2 ++ [(i, .val (.prod a b) v)])
  | some .unit => opt (frzAll ls (idx.map fun j => (fieldTys .unit)[j]?)) fun r => fillK .unit () (idx.zip r.1) fun v => K (r.2 ++ [(i, .val .unit v)])
  | _ => False
@[congr] theorem buildK_congr {idx : List Nat} {ls ls2 : List Lk} {i : Nat} {o o2 : Option Ty} (h : ls = ls2) (ho : o = o2) : buildK tab t idx ls i K o = buildK tab t idx ls2 i K o2 := by rw [h, ho]
theorem build_ok {idx : List Nat} {i : Nat} {ls : List Lk} : opt (stepBuild tab t idx (some i) ls) K = buildK tab t idx ls i K (ty tab t) := by
  cases h : ty tab t with
  | none => simp [stepBuild, h, opt, buildK]
  | some T =>
    cases T with
    | arr k u => exact build_arr h
    | prod a b =>
      simp only [stepBuild, h, Ty.agg, if_true, fillK, buildK]
      cases frzAll ls (idx.map fun j => (fieldTys (.prod a b))[j]?) with
      | none => simp [opt]
      | some r =>
        simp only [opt_some]
        cases fillT (.prod a b) (Ty.prod a b).dflt (idx.zip r.1) <;> simp [opt]
    | unit =>
      simp only [stepBuild, h, Ty.agg, if_true, fillK, buildK]
      cases frzAll ls (idx.map fun j => (fieldTys .unit)[j]?) with
      | none => simp [opt]
      | some r =>
        simp only [opt_some]
        cases hz : fillT .unit Ty.unit.dflt (idx.zip r.1) with
        | none =>
          have : fillT .unit () (idx.zip r.1) = none := hz
          simp [opt, this]
        | some v =>
          show opt (some (r.2 ++ [(i, Slot.val Ty.unit v)])) K = opt (some v) fun v => K (r.2 ++ [(i, Slot.val Ty.unit v)])
          simp only [opt_some]
    | _ => simp [stepBuild, h, Ty.agg, opt, buildK]
theorem buildK_arr {idx : List Nat} {i k : Nat} {ls : List Lk} : buildK tab t idx ls i K (some (.arr k u)) = opt (frzAll ls (idx.map fun _ => some u)) fun r => fillK (.arr k u) (List.replicate k u.dflt) (idx.zip r.1) fun xs => K (r.2 ++ [(i, .val (.arr k u) xs)]) := rfl
theorem buildK_prod {a b : Ty} {idx : List Nat} {i : Nat} {ls : List Lk} : buildK tab t idx ls i K (some (.prod a b)) = opt (frzAll ls (idx.map fun j => (fieldTys (.prod a b))[j]?)) fun r => fillK (.prod a b) (Ty.prod a b).dflt (idx.zip r.1) fun v => K (r.2 ++ [(i, .val (.prod a b) v)]) := rfl
theorem buildK_unit {idx : List Nat} {i : Nat} {ls : List Lk} : buildK tab t idx ls i K (some .unit) = opt (frzAll ls (idx.map fun j => (fieldTys .unit)[j]?)) fun r => fillK .unit () (idx.zip r.1) fun v => K (r.2 ++ [(i, .val .unit v)]) := rfl

/-! ### Choices -/
theorem pick_tup {b : Bool} {l : List Dv} {v : u.den} {e1 e2 e3 : Slot} : opt (stepPick d ⟨.val .bool b, e1⟩ ⟨.tup l, e2⟩ ⟨.val u v, e3⟩) K = opt (into d (if b = true then .tup l else .val u v)) K := by
  simp only [stepPick]
theorem pick_tup2 {b : Bool} {l : List Dv} {v : u.den} {e1 e2 e3 : Slot} : opt (stepPick d ⟨.val .bool b, e1⟩ ⟨.val u v, e2⟩ ⟨.tup l, e3⟩) K = opt (into d (if b = true then .val u v else .tup l)) K := by
  simp only [stepPick]

/-! ### Cuts -/
theorem cut_none {F : Nat × Nat → Prop} {k : Int} : opt (cutB none none k) F = F (0, k.toNat) := by simp [cutB, opt]
theorem cut_lo {q : IntKind} {i k : Int} {F : Nat × Nat → Prop} : opt (cutB (some ⟨.val (.int q) i, c⟩) none k) F = ((0 ≤ i ∧ i ≤ k) ∧ F (i.toNat, k.toNat)) := by simp only [cutB, intOf?, opt_ite, opt_some]
theorem cut_hi {q : IntKind} {i k : Int} {F : Nat × Nat → Prop} : opt (cutB none (some ⟨.val (.int q) i, c⟩) k) F = ((0 ≤ i ∧ i ≤ k) ∧ F (0, i.toNat)) := by simp only [cutB, intOf?, opt_ite, opt_some]
theorem cut_both {q q' : IntKind} {i j k : Int} {F : Nat × Nat → Prop} : opt (cutB (some ⟨.val (.int q) i, c⟩) (some ⟨.val (.int q') j, c'⟩) k) F = ((0 ≤ j ∧ j ≤ k) ∧ (0 ≤ i ∧ i ≤ j) ∧ F (i.toNat, j.toNat)) := by
  simp only [cutB, intOf?, opt_ite, opt_some]
theorem slice_str {lo hi : Option Lk} {z : ByteArray} {F : Slot → Prop} : opt (stepSlice tab t ⟨.val .str z, c⟩ lo hi) F = (ty tab t = some .str ∧ opt (cutB lo hi (z.size : Int)) fun p => F (.val .str (z.extract p.1 p.2))) := by
  simp only [stepSlice, opt_ite, opt_map]
theorem slice_val {lo hi : Option Lk} {xs : List u.den} {F : Slot → Prop} : opt (stepSlice tab t ⟨.val (.slice u) xs, c⟩ lo hi) F = (ty tab t = some (.slice u) ∧ opt (cutB lo hi (xs.length : Int)) fun p => F (.val (.slice u) ((xs.drop p.1).take (p.2 - p.1)))) := by
  simp only [stepSlice, opt_ite, opt_map]
theorem slice_row0 {xs : List u.den} {F : Slot → Prop} : opt (stepSlice tab t ⟨.asl n s none, .own n' u xs⟩ none none) F = ((n = n' ∧ ty tab t = some (.slice u)) ∧ F (.asl n s none)) := by
  simp [stepSlice, opt_ite, opt_some]
theorem slice_row1 {lo : Lk} {xs : List u.den} {F : Slot → Prop} : opt (stepSlice tab t ⟨.asl n s none, .own n' u xs⟩ (some lo) none) F = ((n = n' ∧ ty tab t = some (.slice u)) ∧ opt (cutB (some lo) none (xs.length : Int)) fun p => F (.asl n s (some (p.1, p.2 - p.1)))) := by
  simp [stepSlice, opt_ite, opt_map]
theorem slice_row2 {hi : Lk} {xs : List u.den} {F : Slot → Prop} : opt (stepSlice tab t ⟨.asl n s none, .own n' u xs⟩ none (some hi)) F = ((n = n' ∧ ty tab t = some (.slice u)) ∧ opt (cutB none (some hi) (xs.length : Int)) fun p => F (.asl n s (some (p.1, p.2 - p.1)))) := by
  simp [stepSlice, opt_ite, opt_map]
theorem slice_row3 {lo hi : Lk} {xs : List u.den} {F : Slot → Prop} : opt (stepSlice tab t ⟨.asl n s none, .own n' u xs⟩ (some lo) (some hi)) F = ((n = n' ∧ ty tab t = some (.slice u)) ∧ opt (cutB (some lo) (some hi) (xs.length : Int)) fun p => F (.asl n s (some (p.1, p.2 - p.1)))) := by
  simp [stepSlice, opt_ite, opt_map]
theorem slice_part {lo' hi : Option Lk} {xs : List u.den} {F : Slot → Prop} : opt (stepSlice tab t ⟨.asl n s (some (lo, len)), .own n' u xs⟩ lo' hi) F = ((n = n' ∧ ty tab t = some (.slice u)) ∧ opt (cutB lo' hi (len : Int)) fun p => F (.asl n s (some (lo + p.1, p.2 - p.1)))) := by
  simp only [stepSlice, opt_ite, opt_map]

/-! ### Least, greatest -/
theorem min_two {x y : Operand} {k : IntKind} {a b : Int} {ts : Array TypeId} : opt (stepCall tab Γ { callee := .builtin .min, args := #[x, y], argTypes := ts } d m [⟨.val (.int k) a, c⟩, ⟨.val (.int k) b, c'⟩]) K = opt (into d (.val (.int k) (if b < a then b else a))) K := by
  simp [stepCall, minInts]
theorem max_two {x y : Operand} {k : IntKind} {a b : Int} {ts : Array TypeId} : opt (stepCall tab Γ { callee := .builtin .max, args := #[x, y], argTypes := ts } d m [⟨.val (.int k) a, c⟩, ⟨.val (.int k) b, c'⟩]) K = opt (into d (.val (.int k) (if a < b then b else a))) K := by
  simp [stepCall, minInts]
end
end Go.Tm
