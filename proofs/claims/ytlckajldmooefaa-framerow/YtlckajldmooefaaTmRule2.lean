/- Rules by which simp steps through single operations. -/
import Derived.Test.YtlckajldmooefaaTmRule
set_option linter.unusedVariables false
set_option linter.unusedSimpArgs false
namespace Go.Tm

section
variable {tab : Tab} {Γ : Cons} {d : Option Tmp} {ty0 : TypeId} {ps : String} {af : Array Edge} {g : Option (Nat × Bool)} {m : Nat} {st : St} {K : Ups → Prop} {x y z : Operand} {t t2 : TypeId}

theorem looks0 {F : List Lk → Prop} : opt (looks st []) F = F [] := by simp [opt, looks]
theorem looks_next {r : List Operand} {F : List Lk → Prop} : opt (looks st (x :: r)) F = opt (look st x) fun l => opt (looks st r) fun ls => F (l :: ls) := by
  simp only [looks, opt]
  cases look st x <;> cases looks st r <;> simp
theorem looks1 {F : List Lk → Prop} : opt (looks st [x]) F = opt (look st x) fun l => F [l] := by rw [looks_next]; simp only [looks0]
theorem looks2 {F : List Lk → Prop} : opt (looks st [x, y]) F = opt (look st x) fun l => opt (look st y) fun k => F [l, k] := by rw [looks_next]; simp only [looks1]
theorem looks3 {F : List Lk → Prop} : opt (looks st [x, y, z]) F = opt (look st x) fun l => opt (look st y) fun k => opt (look st z) fun j => F [l, k, j] := by rw [looks_next]; simp only [looks2]

theorem opt_bind {α : Type} {s : Option α} {f : α → Option Ups} : opt (match s with | some a => f a | none => none) K = opt s fun a => opt (f a) K := by
  cases s <;> simp [opt]
theorem opt_bind2 {α : Type} {s : Option α} {G : Ups → Prop} {f : α → Option Ups} : opt (match s with | some a => f a | none => none) G = opt s fun a => opt (f a) G := by
  cases s <;> simp [opt]

def seen (st : St) (s : Slot) : Lk := ⟨s, match aliasOf s with | some (_, k) => st k | none => .dead⟩
theorem look_tmp {k : Nat} : look st (.tmp k) = if k < ghost then some (seen st (self k (st k))) else none := by
  simp only [look, ref]
  split <;> rfl
theorem look_const {v : Value} : look st (.const v) = (cst v).map fun s => ⟨s, .dead⟩ := by
  simp only [look, ref]
  cases h : cst v with
  | none => rfl
  | some s => simp only [Option.map_some, (cst_low h).2]
theorem cst_int {k : IntKind} {n : Int} : cst (.int k n) = some (.val (.int k) n) := rfl
theorem cst_bool {b : Bool} : cst (.bool b) = some (.val .bool b) := rfl
theorem cst_str {s : ByteArray} : cst (.string s) = some (.val .str s) := rfl
theorem cst_nil : cst (.slice none 0 0) = some .nil := rfl
theorem cst_ptr : cst (.pointer none) = some .dead := rfl

theorem seen_val {u : Ty} {v : u.den} : seen st (.val u v) = ⟨.val u v, .dead⟩ := rfl
theorem seen_nil : seen st .nil = ⟨.nil, .dead⟩ := rfl
theorem seen_dead : seen st .dead = ⟨.dead, .dead⟩ := rfl
theorem seen_asl {n k : Nat} {rg : Option (Nat × Nat)} : seen st (.asl n k rg) = ⟨.asl n k rg, st k⟩ := rfl
theorem seen_apt {n k : Nat} {p : List Way} : seen st (.apt n k p) = ⟨.apt n k p, st k⟩ := rfl
theorem seen_rpt {u : Ty} {v : u.den} : seen st (.rpt u v) = ⟨.rpt u v, .dead⟩ := rfl
theorem seen_tup {l : List Dv} : seen st (.tup l) = ⟨.tup l, .dead⟩ := rfl
theorem self_val {k : Nat} {u : Ty} {v : u.den} : self k (.val u v) = .val u v := rfl
theorem self_nil {k : Nat} : self k .nil = .nil := rfl
theorem self_dead {k : Nat} : self k .dead = .dead := rfl
theorem self_own {k n : Nat} {u : Ty} {v : List u.den} : self k (.own n u v) = .asl n k none := rfl
theorem self_obj {k n : Nat} {u : Ty} {v : u.den} : self k (.obj n u v) = .apt n k [] := rfl
theorem self_asl {k n s : Nat} {rg : Option (Nat × Nat)} : self k (.asl n s rg) = .asl n s rg := rfl
theorem self_apt {k n s : Nat} {p : List Way} : self k (.apt n s p) = .apt n s p := rfl
theorem self_rpt {k : Nat} {u : Ty} {v : u.den} : self k (.rpt u v) = .rpt u v := rfl
theorem self_tup {k : Nat} {l : List Dv} : self k (.tup l) = .tup l := rfl
theorem put_at {α : Type} {f : Nat → α} {i k : Nat} {s : α} : put f i s k = if k = i then s else f k := rfl
theorem condOf_look {c : Operand} {G : Bool → Prop} : opt (condOf st c) G = opt (look st c) fun l => match l.s with | .val .bool b => G b | _ => False := by
  simp only [condOf, look, opt]
  cases h : ref st c with
  | none => simp
  | some s =>
    cases s with
    | val u v => cases u <;> simp
    | _ => simp

theorem exOp_move : exOp tab Γ ⟨d, .move x, ty0, ps, af, g⟩ m st K = opt (look st x) fun l => opt (into d l.s) K := by
  show opt (looks st [x]) _ = _; rw [looks1]; rfl
theorem exOp_assign : exOp tab Γ ⟨d, .assign x, ty0, ps, af, g⟩ m st K = opt (look st x) fun l => opt (stepAssign d m l) K := by
  show opt (looks st [x]) _ = _; rw [looks1]; rfl
theorem exOp_pick : exOp tab Γ ⟨d, .pick x y z, ty0, ps, af, g⟩ m st K = opt (look st x) fun l => opt (look st y) fun k => opt (look st z) fun j => opt (stepPick d l k j) K := by
  show opt (looks st [x, y, z]) _ = _; rw [looks3]; rfl
theorem exOp_alloc {e : TypeId} : exOp tab Γ ⟨d, .alloc e, ty0, ps, af, g⟩ m st K = opt d fun i => opt (ty tab e) fun u => K [(i, .obj m u u.dflt)] := by
  show opt (looks st []) _ = _
  rw [looks0]
  simp only [step]
  cases d <;> cases ty tab e <;> simp [opt]
theorem exOp_box {e : TypeId} : exOp tab Γ ⟨d, .box e x, ty0, ps, af, g⟩ m st K = opt (look st x) fun l => opt d fun i => opt (frz l (ty tab e)) fun r => K (r.2 ++ [(i, .obj m r.1.1 r.1.2)]) := by
  show opt (looks st [x]) _ = _
  rw [looks1]
  simp only [step]
  congr 1
  funext l
  cases d <;> cases frz l (ty tab e) <;> simp [opt]
theorem exOp_load : exOp tab Γ ⟨d, .load t x, ty0, ps, af, g⟩ m st K = opt (look st x) fun l => opt (aim l) fun v => ty tab t = some v.1 ∧ opt (into d (.val v.1 v.2)) K := by
  show opt (looks st [x]) _ = _
  rw [looks1]
  simp only [step]
  congr 1
  funext l
  cases aim l with
  | none => simp [opt]
  | some v => simp only [opt_some, opt_ite]
theorem exOp_store : exOp tab Γ ⟨none, .store t x y, ty0, ps, af, g⟩ m st K = opt (look st x) fun l => opt (look st y) fun k => opt (stepStore tab t l k) K := by
  show opt (looks st [x, y]) _ = _; rw [looks2]; rfl
theorem exOp_nilCheck : exOp tab Γ ⟨d, .nilCheck x, ty0, ps, af, g⟩ m st K = opt (look st x) fun l => opt (aim l) fun _ => opt (into d l.s) K := by
  show opt (looks st [x]) _ = _
  rw [looks1]
  simp only [step]
  congr 1
  funext l
  cases aim l <;> simp [opt]
theorem exOp_bin {op : BinOp} : exOp tab Γ ⟨d, .binOp op t x y t2, ty0, ps, af, g⟩ m st K = opt (look st x) fun l => opt (look st y) fun k => opt (stepBin tab op t d l k) K := by
  show opt (looks st [x, y]) _ = _; rw [looks2]; rfl
theorem exOp_un {op : UnOp} : exOp tab Γ ⟨d, .unOp op t x, ty0, ps, af, g⟩ m st K = opt (look st x) fun l => opt (stepUn op d l) K := by
  show opt (looks st [x]) _ = _; rw [looks1]; rfl
theorem exOp_convert : exOp tab Γ ⟨d, .convert t t2 x, ty0, ps, af, g⟩ m st K = opt (look st x) fun l => opt (stepConvert tab t t2 d m l) K := by
  show opt (looks st [x]) _ = _; rw [looks1]; rfl
theorem exOp_make : exOp tab Γ ⟨d, .makeSlice t x y, ty0, ps, af, g⟩ m st K = opt (look st x) fun l => opt (look st y) fun k => opt (stepMake tab t d m l k) K := by
  show opt (looks st [x, y]) _ = _; rw [looks2]; rfl
theorem exOp_slice0 : exOp tab Γ ⟨d, .slice t x none none none, ty0, ps, af, g⟩ m st K = opt (look st x) fun l => opt (stepSl tab t d l none none) K := by
  show opt (looks st [x]) _ = _; rw [looks1]; simp only [step]
theorem exOp_slice1 : exOp tab Γ ⟨d, .slice t x (some y) none none, ty0, ps, af, g⟩ m st K = opt (look st x) fun l => opt (look st y) fun k => opt (stepSl tab t d l (some k) none) K := by
  show opt (looks st [x, y]) _ = _; rw [looks2]; simp only [step]
theorem exOp_slice2 : exOp tab Γ ⟨d, .slice t x none (some y) none, ty0, ps, af, g⟩ m st K = opt (look st x) fun l => opt (look st y) fun k => opt (stepSl tab t d l none (some k)) K := by
  show opt (looks st [x, y]) _ = _; rw [looks2]; simp only [step]
theorem exOp_slice3 : exOp tab Γ ⟨d, .slice t x (some y) (some z) none, ty0, ps, af, g⟩ m st K = opt (look st x) fun l => opt (look st y) fun k => opt (look st z) fun j => opt (stepSl tab t d l (some k) (some j)) K := by
  show opt (looks st [x, y, z]) _ = _; rw [looks3]; simp only [step]
theorem exOp_fieldAddr {f : Nat} : exOp tab Γ ⟨d, .fieldAddr t x f, ty0, ps, af, g⟩ m st K = opt (look st x) fun l => opt (stepFieldAddr tab t l f) fun s => opt (into d s) K := by
  show opt (looks st [x]) _ = _; rw [looks1]; simp only [step]; congr 1; funext l; generalize stepFieldAddr tab t l f = q; cases q <;> simp only [opt_none, opt_some]
theorem exOp_field {f : Nat} : exOp tab Γ ⟨d, .field t x f, ty0, ps, af, g⟩ m st K = opt (look st x) fun l => match l.s with
    | .val u v => ty tab t = some u ∧ opt (get u v [.fld f]) fun w => opt (into d (.val w.1 w.2)) K
    | _ => False := by
  show opt (looks st [x]) _ = _
  rw [looks1]
  congr 1
  funext l
  obtain ⟨s, c⟩ := l
  cases s <;> simp only [step, opt_none, opt_ite]
  rename_i u v
  congr 1
  generalize get u v [.fld f] = q; cases q <;> simp only [opt_none, opt_some]
theorem exOp_indexAddr : exOp tab Γ ⟨d, .indexAddr t x y, ty0, ps, af, g⟩ m st K = opt (look st x) fun l => opt (look st y) fun k => opt (stepIndexAddr tab t l k) fun s => opt (into d s) K := by
  show opt (looks st [x, y]) _ = _; rw [looks2]; simp only [step]; congr 1; funext l; congr 1; funext k; generalize stepIndexAddr tab t l k = q; cases q <;> simp only [opt_none, opt_some]
theorem exOp_index : exOp tab Γ ⟨d, .index t x y, ty0, ps, af, g⟩ m st K = opt (look st x) fun l => opt (look st y) fun k => opt (stepIndex tab t d l k) K := by
  show opt (looks st [x, y]) _ = _; rw [looks2]; rfl
theorem exOp_extract {j : Nat} : exOp tab Γ ⟨d, .extract x j, ty0, ps, af, g⟩ m st K = opt (look st x) fun l => match l.s with
    | .tup ds => opt ds[j]? fun w => opt (into d (.val w.1 w.2)) K
    | _ => False := by
  show opt (looks st [x]) _ = _
  rw [looks1]
  congr 1
  funext l
  obtain ⟨s, c⟩ := l
  cases s <;> simp only [step, opt_none]
  rename_i ds
  generalize ds[j]? = q; cases q <;> simp only [opt_none, opt_some]

theorem exOp_build {parts : Array (Nat × Operand)} : exOp tab Γ ⟨d, .build t parts, ty0, ps, af, g⟩ m st K = opt (looks st (parts.toList.map (·.2))) fun ls => opt (stepBuild tab t (parts.toList.map (·.1)) d ls) K := by
  unfold exOp
  simp only [opnds]
  congr 1
theorem exOp_buildSlice {n : Nat} {parts : Array (Nat × Operand)} : exOp tab Γ ⟨d, .buildSlice t n parts, ty0, ps, af, g⟩ m st K = opt (looks st (parts.toList.map (·.2))) fun ls => opt (stepBuildSlice tab t n (parts.toList.map (·.1)) d m ls) K := by
  unfold exOp
  simp only [opnds]
  congr 1
theorem exOp_call {c : Call} : exOp tab Γ ⟨d, .call c, ty0, ps, af, g⟩ m st K = opt (looks st c.args.toList) fun ls => opt (stepCall tab Γ c d m ls) K := by
  unfold exOp
  simp only [opnds]
  congr 1

end
end Go.Tm
