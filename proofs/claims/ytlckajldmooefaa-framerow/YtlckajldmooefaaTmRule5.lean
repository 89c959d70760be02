/- Rules for calls. -/
import Derived.Test.YtlckajldmooefaaTmRule4
set_option linter.unusedVariables false
set_option linter.unusedSimpArgs false
namespace Go.Tm

section
variable {t : TypeId} {c : Slot} {u : Ty} {n s : Nat} {lo len : Nat} {w : Option Ty} {ws : List (Option Ty)}

theorem oargs_nil {F : List Lent → Prop} : opt (toArgs [] ws) F = F [] := by simp [toArgs, opt]
theorem oargs_cons {x : Lk} {r : List Lk} {F : List Lent → Prop} : opt (toArgs (x :: r) (w :: ws)) F = opt (toArg x w) fun a => opt (toArgs r ws) fun as => F (a :: as) := by
  simp only [toArgs, List.headD_cons, List.tail_cons]
  cases toArg x w with
  | none => simp [opt]
  | some a => cases toArgs r ws <;> simp [opt]
theorem oarg_val {v : u.den} {F : Lent → Prop} : opt (toArg ⟨.val u v, c⟩ w) F = F ⟨.val ⟨u, v⟩, none, none⟩ := by simp [arg_val, opt]
theorem oarg_nil {F : Lent → Prop} : opt (toArg ⟨.nil, c⟩ (some (.slice u))) F = F ⟨.val ⟨.slice u, []⟩, none, none⟩ := by simp [arg_nil, opt]
theorem oarg_row {xs : List u.den} {F : Lent → Prop} : opt (toArg ⟨.asl n s none, .own n u xs⟩ w) F = F ⟨.val ⟨.slice u, xs⟩, some (s, .val (.slice u) xs), none⟩ := by simp [arg_row, opt]
theorem oarg_part {xs : List u.den} {F : Lent → Prop} : opt (toArg ⟨.asl n s (some (lo, len)), .own n u xs⟩ w) F = F ⟨.val ⟨.slice u, (xs.drop lo).take len⟩, some (s, .val (.slice u) xs), none⟩ := by simp [arg_part, opt]
theorem oarg_obj {v : u.den} {F : Lent → Prop} : opt (toArg ⟨.apt n s [], .obj n u v⟩ w) F = F ⟨.obj ⟨u, v⟩, none, some (s, n)⟩ := by simp [arg_obj, opt]
theorem oarg_rpt {v : u.den} {F : Lent → Prop} : opt (toArg ⟨.rpt u v, c⟩ w) F = F ⟨.ptr ⟨u, v⟩, none, none⟩ := by simp [arg_rpt, opt]

theorem ios_nil : iosOf [] = [] := rfl
theorem ios_none {a : Arg} {l : Option (Nat × Slot)} {as : List Lent} : iosOf (⟨a, l, none⟩ :: as) = iosOf as := rfl
theorem ios_some {a : Arg} {l : Option (Nat × Slot)} {as : List Lent} : iosOf (⟨a, l, some (s, n)⟩ :: as) = s :: iosOf as := rfl
theorem lents_nil : lentsOf [] = [] := rfl
theorem lents_none {a : Arg} {l : Option (Nat × Nat)} {as : List Lent} : lentsOf (⟨a, none, l⟩ :: as) = lentsOf as := rfl
theorem lents_some {a : Arg} {p : Nat × Slot} {l : Option (Nat × Nat)} {as : List Lent} : lentsOf (⟨a, some p, l⟩ :: as) = p :: lentsOf as := rfl
theorem ups_nil {F : Ups → Prop} : opt (ioUps [] []) F = F [] := by simp [ioUps, opt]
theorem ups_none {a : Arg} {l : Option (Nat × Slot)} {as : List Lent} {ds : List Dv} {F : Ups → Prop} : opt (ioUps (⟨a, l, none⟩ :: as) ds) F = opt (ioUps as ds) F := rfl
theorem ups_some {v v' : u.den} {l : Option (Nat × Slot)} {as : List Lent} {ds : List Dv} {F : Ups → Prop} : opt (ioUps (⟨.obj ⟨u, v⟩, l, some (s, n)⟩ :: as) (⟨u, v'⟩ :: ds)) F = opt (ioUps as ds) fun r => F ((s, .obj n u v') :: r) := by
  simp [ioUps, Arg.ty, opt_map]

theorem not_false' {b : Bool} (h : b = false → False) : b = true := by cases b with | true => rfl | false => exact (h rfl).elim
theorem not_true {b : Bool} (h : b = true → False) : b = false := by cases b with | true => exact (h rfl).elim | false => rfl
section
variable {x y z : Operand} {t2 : TypeId} {o : BinOp} {o2 : UnOp} {l h q : Option Operand} {k : Nat} {ps : Array (Nat × Operand)} {ps1 ps2 : Array Operand} {f : FuncId} {as : Array Operand} {ts : Array TypeId}
theorem isLen_move : isLen (.move x) = false := not_true (fun h => by cases h)
theorem isLen_assign : isLen (.assign x) = false := not_true (fun h => by cases h)
theorem isLen_pick : isLen (.pick x y z) = false := not_true (fun h => by cases h)
theorem isLen_alloc : isLen (.alloc t) = false := not_true (fun h => by cases h)
theorem isLen_box : isLen (.box t x) = false := not_true (fun h => by cases h)
theorem isLen_load : isLen (.load t x) = false := not_true (fun h => by cases h)
theorem isLen_store : isLen (.store t x y) = false := not_true (fun h => by cases h)
theorem isLen_nilCheck : isLen (.nilCheck x) = false := not_true (fun h => by cases h)
def isNilB (o : BinOp) (y : Operand) : Bool := (isNil o y).isSome
theorem isLen_binOp : isLen (.binOp o t x y t2) = isNilB o y := by
  unfold isLen kd isNilB
  cases h : isNil o y <;> simp [h]
theorem isNilB_tmp : isNilB o (.tmp k) = false := not_true (fun h => by cases o <;> cases h)
theorem isNilB_int {q : IntKind} {n : Int} : isNilB o (.const (.int q n)) = false := not_true (fun h => by cases o <;> cases h)
theorem isNilB_bool {b : Bool} : isNilB o (.const (.bool b)) = false := not_true (fun h => by cases o <;> cases h)
theorem isNilB_str {b : ByteArray} : isNilB o (.const (.string b)) = false := not_true (fun h => by cases o <;> cases h)
theorem isNilB_eq : isNilB .eql (.const (.slice none 0 0)) = true := not_false' (fun h => by cases h)
theorem isNilB_ne : isNilB .neq (.const (.slice none 0 0)) = true := not_false' (fun h => by cases h)
theorem isLen_panic : isLen (.panic x) = true := not_false' (fun h => by cases h)
theorem isLen_iface : isLen (.makeInterface t x) = false := not_true (fun h => by cases h)
theorem isLen_unOp : isLen (.unOp o2 t x) = false := not_true (fun h => by cases h)
theorem isLen_convert : isLen (.convert t t2 x) = false := not_true (fun h => by cases h)
theorem isLen_makeSlice : isLen (.makeSlice t x y) = false := not_true (fun h => by cases h)
theorem isLen_slice : isLen (.slice t x l h q) = false := not_true (fun h => by cases h)
theorem isLen_fieldAddr : isLen (.fieldAddr t x k) = false := not_true (fun h => by cases h)
theorem isLen_field : isLen (.field t x k) = false := not_true (fun h => by cases h)
theorem isLen_indexAddr : isLen (.indexAddr t x y) = false := not_true (fun h => by cases h)
theorem isLen_index : isLen (.index t x y) = false := not_true (fun h => by cases h)
theorem isLen_extract : isLen (.extract x k) = false := not_true (fun h => by cases h)
theorem isLen_build : isLen (.build t ps) = false := not_true (fun h => by cases h)
theorem isLen_buildSlice : isLen (.buildSlice t k ps) = false := not_true (fun h => by cases h)
theorem isLen_bappend : isLen (.call { callee := .builtin .append, args := as, argTypes := ts }) = false := not_true (fun h => by cases h)
theorem isLen_bmin : isLen (.call { callee := .builtin .min, args := as, argTypes := ts }) = false := not_true (fun h => by cases h)
theorem isLen_bmax : isLen (.call { callee := .builtin .max, args := as, argTypes := ts }) = false := not_true (fun h => by cases h)
theorem isLen_bcopy : isLen (.call { callee := .builtin .copy, args := as, argTypes := ts }) = false := not_true (fun h => by cases h)
theorem isLen_fn : isLen (.call { callee := .value (.func f), args := as, argTypes := ts }) = true := not_false' (fun h => by cases h)
theorem isLen_len : isLen (.call { callee := .builtin .len, args := as, argTypes := ts }) = true := not_false' (fun h => by cases h)
end

end
end Go.Tm
