/- One operation, of whatever kind: what it does (step), that it does so (step_did), and which rows it names. -/
import Derived.Test.YtlckajldmooefaaTmDid8
set_option linter.unusedVariables false
set_option linter.unusedSimpArgs false
namespace Go.Tm

def opnds : Op → List Operand
  | .move x | .assign x | .box _ x | .load _ x | .nilCheck x | .unOp _ _ x | .convert _ _ x | .fieldAddr _ x _ | .field _ x _ | .extract x _ | .makeInterface _ x | .panic x => [x]
  | .pick c a b => [c, a, b]
  | .build _ ps => ps.toList.map (·.2)
  | .buildSlice _ _ ps => ps.toList.map (·.2)
  | .store _ a v | .binOp _ _ a v _ | .makeSlice _ a v | .indexAddr _ a v | .index _ a v => [a, v]
  | .slice _ x none none _ => [x]
  | .slice _ x (some l) none _ => [x, l]
  | .slice _ x none (some h) _ => [x, h]
  | .slice _ x (some l) (some h) _ => [x, l, h]
  | .call c => c.args.toList
  | _ => []

def fieldTys : Ty → List Ty
  | .prod a b => a :: fieldTys b
  | _ => []

section
variable (tab : Tab) (Γ : Cons)

def stepPick (d : Option Tmp) (c a b : Lk) : Option Ups :=
  match c.s with
  | .val .bool q => match a.s, b.s with
    | .val t x, .val u y => match castTo u t y with
      | some y => into d (.val t (if q = true then x else y))
      | none => none
    | _, _ => into d (if q = true then a.s else b.s)
  | _ => none

def stepBuild (t : TypeId) (idx : List Nat) (d : Option Tmp) (ls : List Lk) : Option Ups :=
  match d, ty tab t with
  | some d, some u => if u.agg = true then
      match frzAll ls (idx.map fun i => match u with | .arr _ e => some e | u => (fieldTys u)[i]?) with
      | some (ds, us) => match fillT u u.dflt (idx.zip ds) with
        | some v => some (us ++ [(d, .val u v)])
        | none => none
      | none => none
    else none
  | _, _ => none

def stepBuildSlice (t : TypeId) (len : Nat) (idx : List Nat) (d : Option Tmp) (m : Nat) (ls : List Lk) : Option Ups :=
  match d, ty tab t with
  | some d, some (.slice u) => if len * u.sz ≤ 16777216 then
      match frzAll ls (idx.map fun _ => some u) with
      | some (ds, us) => match fillT (.arr len u) (List.replicate len u.dflt) (idx.zip ds) with
        | some xs => some (us ++ [(d, .own m u xs)])
        | none => none
      | none => none
    else none
  | _, _ => none

def binTy (xt : TypeId) : Ty → Bool
  | .prod a b => decide (ty tab xt = some (.prod a b)) && decide ((Ty.prod a b).deep < 10000)
  | .bool => decide (ty tab xt = some .bool)
  | _ => true

def stepBin (op : BinOp) (xt : TypeId) (d : Option Tmp) (x y : Lk) : Option Ups :=
  match x.s, y.s with
  | .val t v, .val u z => if binTy tab xt t = true then
      match bin op ⟨t, v⟩ ⟨u, z⟩ with
      | some r => into d (.val r.1 r.2)
      | none => none
    else none
  | _, _ => none

def stepUn (op : UnOp) (d : Option Tmp) (x : Lk) : Option Ups :=
  match x.s with
  | .val t v => match un op ⟨t, v⟩ with
    | some r => into d (.val r.1 r.2)
    | none => none
  | _ => none

def stepMake (t : TypeId) (d : Option Tmp) (m : Nat) (x y : Lk) : Option Ups :=
  match d, ty tab t, intOf? x, intOf? y with
  | some d, some (.slice u), some l, some c => if 0 ≤ l ∧ l ≤ c ∧ c * (u.mx : Int) ≤ 281474976710656 then some [(d, .own m u (List.replicate l.toNat u.dflt))] else none
  | _, _, _, _ => none

def stepIndex (t : TypeId) (d : Option Tmp) (x i : Lk) : Option Ups :=
  match intOf? i with
  | some n => match x.s with
    | .val .str s => if ty tab t = some .str ∧ 0 ≤ n ∧ n < (s.size : Int) then into d (.val (.int .u8) (byteAt s n.toNat)) else none
    | .val (.arr k u) xs => if ty tab t = some (.arr k u) ∧ 0 ≤ n ∧ n < (k : Int) then into d (.val u (xs.getD n.toNat u.dflt)) else none
    | _ => none
  | none => none

def lenOf? (t : TypeId) (l : Lk) : Option Nat :=
  match ty tab t with
  | some .str => match l.s with
    | .val .str s => some s.size
    | _ => none
  | some (.slice _) => match l.s with
    | .nil => some 0
    | _ => match slc l with
      | some x => some x.2.length
      | none => none
  | some (.arr n _) => some n
  | _ => none

def stepCall (c : Call) (d : Option Tmp) (m : Nat) (ls : List Lk) : Option Ups :=
  match c.callee with
  | .builtin .len => match ls, c.args.toList, c.argTypes.toList with
    | [l], [_], [t] => match lenOf? tab t l with
      | some n => into d (.val (.int .i64) (n : Int))
      | none => none
    | _, _, _ => none
  | .builtin .append => match ls, c.args.toList, c.argTypes.toList with
    | [x, y], [_, _], [t, t2] => stepAppend tab t t2 d m x y
    | _, _, _ => none
  | .builtin .min => match ls with
    | l :: r => match l.s with
      | .val (.int k) n => match minInts true n r k with
        | some z => into d (.val (.int k) z)
        | none => none
      | _ => none
    | [] => none
  | .builtin .max => match ls with
    | l :: r => match l.s with
      | .val (.int k) n => match minInts false n r k with
        | some z => into d (.val (.int k) z)
        | none => none
      | _ => none
    | [] => none
  | .value (.func f) => match Γ f, toArgs ls (c.argTypes.toList.map (ty tab)) with
    | some con, some as => callT con d m as
    | _, _ => none
  | _ => none

def step (o : Oper) (m : Nat) (ls : List Lk) : Option Ups :=
  match o.op, ls with
  | .move _, [x] => into o.dst x.s
  | .assign _, [x] => stepAssign o.dst m x
  | .pick _ _ _, [c, a, b] => stepPick o.dst c a b
  | .alloc e, [] => match o.dst, ty tab e with
    | some d, some u => some [(d, .obj m u u.dflt)]
    | _, _ => none
  | .box e _, [x] => match o.dst, frz x (ty tab e) with
    | some d, some (y, u) => some (u ++ [(d, .obj m y.1 y.2)])
    | _, _ => none
  | .build t ps, ls => stepBuild tab t (ps.toList.map (·.1)) o.dst ls
  | .buildSlice t len ps, ls => stepBuildSlice tab t len (ps.toList.map (·.1)) o.dst m ls
  | .load t _, [x] => match aim x with
    | some d => if ty tab t = some d.1 then into o.dst (.val d.1 d.2) else none
    | none => none
  | .store t _ _, [x, y] => if o.dst.isNone = true then stepStore tab t x y else none
  | .nilCheck _, [x] => if (aim x).isSome = true then into o.dst x.s else none
  | .binOp op xt _ _ _, [x, y] => stepBin tab op xt o.dst x y
  | .unOp op _ _, [x] => stepUn op o.dst x
  | .convert src dst _, [x] => stepConvert tab src dst o.dst m x
  | .makeSlice t _ _, [x, y] => stepMake tab t o.dst m x y
  | .slice t _ none none none, [x] => stepSl tab t o.dst x none none
  | .slice t _ (some _) none none, [x, l] => stepSl tab t o.dst x (some l) none
  | .slice t _ none (some _) none, [x, h] => stepSl tab t o.dst x none (some h)
  | .slice t _ (some _) (some _) none, [x, l, h] => stepSl tab t o.dst x (some l) (some h)
  | .fieldAddr t _ f, [x] => match stepFieldAddr tab t x f with | some s => into o.dst s | none => none
  | .field t _ f, [x] => match x.s with
    | .val u v => if ty tab t = some u then match get u v [.fld f] with
      | some y => into o.dst (.val y.1 y.2)
      | none => none
      else none
    | _ => none
  | .indexAddr t _ _, [x, i] => match stepIndexAddr tab t x i with | some s => into o.dst s | none => none
  | .index t _ _, [x, i] => stepIndex tab t o.dst x i
  | .extract _ j, [x] => match x.s with
    | .tup l => match l[j]? with
      | some d => into o.dst (.val d.1 d.2)
      | none => none
    | _ => none
  | .makeInterface T _, [x] => match x.s with
    | .val t v => if ty tab T = some t then into o.dst (.ifc T t v) else none
    | _ => none
  | .call c, ls => stepCall tab Γ c o.dst m ls
  | _, _ => none
end

theorem looks_one {st : St} {x : Operand} {l : Lk} (h : looks st [x] = some [l]) : look st x = some l := by
  simp only [looks] at h
  split at h
  · rename_i l' ls h1 h2
    simp only [Option.some.injEq, List.cons.injEq] at h
    rw [← h.1]; exact h1
  · cases h
theorem looks_two {st : St} {x y : Operand} {l k : Lk} (h : looks st [x, y] = some [l, k]) : look st x = some l ∧ look st y = some k := by
  rw [looks] at h
  split at h
  · rename_i l' ls h1 h2
    simp only [Option.some.injEq, List.cons.injEq] at h
    obtain ⟨rfl, rfl⟩ := h
    exact ⟨h1, looks_one h2⟩
  · cases h
theorem looks_three {st : St} {x y z : Operand} {l k j : Lk} (h : looks st [x, y, z] = some [l, k, j]) : look st x = some l ∧ look st y = some k ∧ look st z = some j := by
  rw [looks] at h
  split at h
  · rename_i l' ls h1 h2
    simp only [Option.some.injEq, List.cons.injEq] at h
    obtain ⟨rfl, rfl⟩ := h
    exact ⟨h1, looks_two h2⟩
  · cases h

section
variable {P : Program} {tab : Tab} {Γ : Cons} {B : World} {R0 L : Nat → Prop} {st : St} {V : Nat → Value} {w : World} {N : Env} {a : Act} {o : Oper} {ups : Ups} {m : Nat} {ls : List Lk}

end
end Go.Tm
