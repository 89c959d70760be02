/- Plain equations, where simp would otherwise unfold a definition. -/
import Derived.Test.YtlckajldmooefaaTmRule5
set_option linter.unusedVariables false
set_option linter.unusedSimpArgs false
namespace Go.Tm

section
variable {tab : Tab} {t : TypeId} {st : St} {k k' : IntKind} {a b : Int} {x y : ByteArray} {p q : Bool} {m : Nat} {u : Ty}

theorem ghost_eq : ghost = 1000000 := rfl
theorem gSlot_none : gSlot st none = .tup [] := rfl
theorem gSlot_some {i : Nat} : gSlot st (some i) = if i < ghost then st i else .dead := rfl
theorem gtmp_eq {ops : Array Oper} {j : Nat} : gtmp ops j = (ops[j]?).bind (·.dst) := rfl
theorem ty_int : binTy tab t (.int k) = true := rfl
theorem ty_str : binTy tab t .str = true := rfl
theorem ty_bool : binTy tab t .bool = decide (ty tab t = some .bool) := rfl
theorem ty_prod {c d : Ty} : binTy tab t (.prod c d) = (decide (ty tab t = some (.prod c d)) && decide ((Ty.prod c d).deep < 10000)) := rfl

theorem bin_add : bin .add ⟨.int k, a⟩ ⟨.int k, b⟩ = some ⟨.int k, k.wrap (a + b)⟩ := by simp [bin, binInt]
theorem bin_sub : bin .sub ⟨.int k, a⟩ ⟨.int k, b⟩ = some ⟨.int k, k.wrap (a - b)⟩ := by simp [bin, binInt]
theorem bin_mul : bin .mul ⟨.int k, a⟩ ⟨.int k, b⟩ = some ⟨.int k, k.wrap (a * b)⟩ := by simp [bin, binInt]
theorem bin_quo : bin .quo ⟨.int k, a⟩ ⟨.int k, b⟩ = if b = 0 then none else some ⟨.int k, k.wrap (a.tdiv b)⟩ := by simp [bin, binInt]
theorem bin_rem : bin .rem ⟨.int k, a⟩ ⟨.int k, b⟩ = if b = 0 then none else some ⟨.int k, a.tmod b⟩ := by simp [bin, binInt]
theorem bin_and : bin .and ⟨.int k, a⟩ ⟨.int k, b⟩ = some ⟨.int k, Tm.bits .and k a b⟩ := by simp [bin, binInt]
theorem bin_or : bin .or ⟨.int k, a⟩ ⟨.int k, b⟩ = some ⟨.int k, Tm.bits .or k a b⟩ := by simp [bin, binInt]
theorem bin_xor : bin .xor ⟨.int k, a⟩ ⟨.int k, b⟩ = some ⟨.int k, Tm.bits .xor k a b⟩ := by simp [bin, binInt]
theorem bin_andNot : bin .andNot ⟨.int k, a⟩ ⟨.int k, b⟩ = some ⟨.int k, Tm.bits .andNot k a b⟩ := by simp [bin, binInt]
theorem bin_eql : bin .eql ⟨.int k, a⟩ ⟨.int k, b⟩ = some ⟨.bool, a == b⟩ := by simp [bin, binInt]
theorem bin_neq : bin .neq ⟨.int k, a⟩ ⟨.int k, b⟩ = some ⟨.bool, a != b⟩ := by simp [bin, binInt]
theorem bin_lss : bin .lss ⟨.int k, a⟩ ⟨.int k, b⟩ = some ⟨.bool, decide (a < b)⟩ := by simp [bin, binInt]
theorem bin_leq : bin .leq ⟨.int k, a⟩ ⟨.int k, b⟩ = some ⟨.bool, decide (a ≤ b)⟩ := by simp [bin, binInt]
theorem bin_gtr : bin .gtr ⟨.int k, a⟩ ⟨.int k, b⟩ = some ⟨.bool, decide (b < a)⟩ := by simp [bin, binInt]
theorem bin_geq : bin .geq ⟨.int k, a⟩ ⟨.int k, b⟩ = some ⟨.bool, decide (b ≤ a)⟩ := by simp [bin, binInt]
theorem bin_shl : bin .shl ⟨.int k, a⟩ ⟨.int k', b⟩ = if b < 0 then none else some ⟨.int k, k.wrap (a * 2 ^ min b.toNat k.bits)⟩ := by simp [bin, shiftInt]
theorem bin_shr : bin .shr ⟨.int k, a⟩ ⟨.int k', b⟩ = if b < 0 then none else some ⟨.int k, a.fdiv (2 ^ min b.toNat k.bits)⟩ := by simp [bin, shiftInt]
theorem bin_sadd : bin .add ⟨.str, x⟩ ⟨.str, y⟩ = if ((x.size + y.size : Nat) : Int) > IntKind.i64.max then none else some ⟨.str, x ++ y⟩ := rfl
theorem bin_seql : bin .eql ⟨.str, x⟩ ⟨.str, y⟩ = some ⟨.bool, x.toList == y.toList⟩ := rfl
theorem bin_sneq : bin .neq ⟨.str, x⟩ ⟨.str, y⟩ = some ⟨.bool, !(x.toList == y.toList)⟩ := rfl
theorem bin_slss : bin .lss ⟨.str, x⟩ ⟨.str, y⟩ = some ⟨.bool, Op.bytesLess x.toList y.toList⟩ := rfl
theorem bin_sleq : bin .leq ⟨.str, x⟩ ⟨.str, y⟩ = some ⟨.bool, Op.bytesLess x.toList y.toList || x.toList == y.toList⟩ := rfl
theorem bin_sgtr : bin .gtr ⟨.str, x⟩ ⟨.str, y⟩ = some ⟨.bool, !(Op.bytesLess x.toList y.toList || x.toList == y.toList)⟩ := rfl
theorem bin_sgeq : bin .geq ⟨.str, x⟩ ⟨.str, y⟩ = some ⟨.bool, !Op.bytesLess x.toList y.toList⟩ := rfl
theorem bin_beql : bin .eql ⟨.bool, p⟩ ⟨.bool, q⟩ = some ⟨.bool, p == q⟩ := rfl
theorem bin_bneq : bin .neq ⟨.bool, p⟩ ⟨.bool, q⟩ = some ⟨.bool, !(p == q)⟩ := rfl
theorem bin_peql {c d : Ty} {v w : (Ty.prod c d).den} : bin .eql ⟨.prod c d, v⟩ ⟨.prod c d, w⟩ = if flat (.prod c d) = true then some ⟨.bool, same (.prod c d) v w⟩ else none := by simp [bin, binAgg]
theorem bin_pneq {c d : Ty} {v w : (Ty.prod c d).den} : bin .neq ⟨.prod c d, v⟩ ⟨.prod c d, w⟩ = if flat (.prod c d) = true then some ⟨.bool, !same (.prod c d) v w⟩ else none := by simp [bin, binAgg]
theorem un_neg : un .neg ⟨.int k, a⟩ = some ⟨.int k, k.wrap (0 - a)⟩ := rfl
theorem un_xor : un .xor ⟨.int k, a⟩ = some ⟨.int k, Tm.bits .xor k (if k.signed then -1 else k.max) a⟩ := rfl
theorem un_not : un .not ⟨.bool, p⟩ = some ⟨.bool, !p⟩ := rfl

theorem dfree_none {l : List Nat} : dstFree none l = true := rfl
theorem dfree_nil {d : Option Tmp} : dstFree d [] = true := by cases d <;> rfl
theorem dfree_some {i : Nat} {l : List Nat} : dstFree (some i) l = !l.contains i := rfl
theorem dups_none {s : Slot} : dstUps none s = [] := rfl
theorem dups_some {i : Nat} {s : Slot} : dstUps (some i) s = [(i, s)] := rfl
theorem slot_unit : Res.slot m .unit = .dead := rfl
theorem slot_val {d : Dv} : Res.slot m (.val d) = .val d.1 d.2 := rfl
theorem slot_own {v : List u.den} : Res.slot m (.own u v) = .own m u v := rfl
theorem slot_obj {v : u.den} : Res.slot m (.obj u v) = .obj m u v := rfl
theorem slot_tup {l : List Dv} : Res.slot m (.tup l) = .tup l := rfl
theorem nodup_nil : nodup [] = true := rfl
theorem nodup_cons {i : Nat} {l : List Nat} : nodup (i :: l) = (!l.contains i && nodup l) := rfl
theorem far_out {r : Res} {l : List Dv} : Out.far ⟨r, l⟩ = (r.far || l.any (·.1.far)) := rfl
theorem far_unit : Res.far .unit = false := rfl
theorem far_val {d : Dv} : Res.far (.val d) = d.1.far := rfl
theorem far_own {v : List u.den} : Res.far (.own u v) = u.far := rfl
theorem far_obj {v : u.den} : Res.far (.obj u v) = u.far := rfl
theorem far_tup {l : List Dv} : Res.far (.tup l) = l.any (·.1.far) := rfl
theorem tfar_int : (Ty.int k).far = false := rfl
theorem tfar_bool : Ty.bool.far = false := rfl
theorem tfar_str : Ty.str.far = false := rfl
theorem tfar_unit : Ty.unit.far = false := rfl
theorem tfar_prod {c d : Ty} : (Ty.prod c d).far = (c.far || d.far) := rfl
theorem tfar_slice : (Ty.slice u).far = true := rfl
theorem tfar_arr {n : Nat} : (Ty.arr n u).far = u.far := rfl
theorem sz_int : (Ty.int k).sz = 1 := rfl
theorem sz_bool : Ty.bool.sz = 1 := rfl
theorem sz_str : Ty.str.sz = 1 := rfl
theorem sz_unit : Ty.unit.sz = 0 := rfl
theorem sz_prod {c d : Ty} : (Ty.prod c d).sz = c.sz + d.sz := rfl
theorem sz_slice : (Ty.slice u).sz = 1 := rfl
theorem sz_arr {n : Nat} : (Ty.arr n u).sz = n * u.sz := rfl
theorem dflt_int : (Ty.int k).dflt = (0 : Int) := rfl
theorem dflt_bool : Ty.bool.dflt = false := rfl
theorem dflt_str : Ty.str.dflt = ⟨#[]⟩ := rfl
theorem dflt_unit : Ty.unit.dflt = () := rfl
theorem dflt_prod {c d : Ty} : (Ty.prod c d).dflt = (c.dflt, d.dflt) := rfl
theorem dflt_slice : (Ty.slice u).dflt = [] := rfl
theorem dflt_arr {n : Nat} : (Ty.arr n u).dflt = List.replicate n u.dflt := rfl
theorem ftys_prod {c d : Ty} : fieldTys (.prod c d) = c :: fieldTys d := rfl
theorem ftys_unit : fieldTys .unit = [] := rfl
end
end Go.Tm
