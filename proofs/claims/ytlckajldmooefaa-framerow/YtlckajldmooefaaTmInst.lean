/- The rules once more, with continuations as instance arguments: simp never looks into them. Printed by inst.py. -/
import Derived.Test.YtlckajldmooefaaTmRule6
set_option linter.unusedVariables false
namespace Go.Tm
class Kont (α : Type) where
  f : α → Prop
class Kont2 (α β : Type) where
  f : α → β → Prop
class KontT where
  f : (u : Ty) → u.den → Prop
def opI {α : Type} (x : Option α) [K : Kont α] : Prop := opt x K.f
def updI (u : Ty) (v : u.den) (p : List Way) (u' : Ty) (y : u'.den) [K : Kont u.den] : Prop := updK u v p u' y K.f
def castI (u t : Ty) (x : u.den) [K : Kont t.den] : Prop := castK u t x K.f
def fillI (u : Ty) (v : u.den) (l : List (Nat × Dv)) [K : Kont u.den] : Prop := fillK u v l K.f
def moreI (tab : Tab) (u : Ty) (t2 : TypeId) (y : Lk) [K : Kont (List u.den)] : Prop := moreK tab u t2 y K.f
def priorI (u : Ty) (x : Lk) [K : Kont2 (List u.den) (Option Nat)] : Prop := priorK u x K.f
def appI {u : Ty} (xs ys : List u.den) [K : Kont (List u.den)] : Prop := appK xs ys K.f
def lenI (tab : Tab) (t : TypeId) (l : Lk) [K : Kont Nat] : Prop := lenK tab t l K.f
def onSliceI (o : Option Ty) [K : Kont Ty] : Prop := onSlice o K.f
def onIntI (o : Option Ty) [K : Kont IntKind] : Prop := onInt o K.f
def arrAtI (tab : Tab) (t : TypeId) (i : Int) (w : Dv) [K : KontT] : Prop := arrAt tab t i w K.f
def exI (tab : Tab) (Γ : Cons) (o : Oper) (m : Nat) (st : St) [K : Kont Ups] : Prop := exOp tab Γ o m st K.f
def exFI (tab : Tab) (Γ : Cons) (o : Oper) (m : Nat) (st : St) [K : Kont Ups] [X : Kont2 (List PanicEntry) Ups] : Prop := exOpF tab Γ o m st K.f X.f
theorem kont_f {α : Type} {g : α → Prop} {a : α} : @Kont.f α ⟨g⟩ a = g a := rfl
theorem kont2_f {α β : Type} {g : α → β → Prop} {a : α} {b : β} : @Kont2.f α β ⟨g⟩ a b = g a b := rfl
theorem kontT_f {g : (u : Ty) → u.den → Prop} {u : Ty} {v : u.den} : @KontT.f ⟨g⟩ u v = g u v := rfl

section
variable {tab : Tab} {Γ : Cons} {α β : Type}
theorem i_opt_some [K : Kont α] {a : α} : opI (some a) (K := K) = K.f a := opt_some (K := K.f)
theorem i_opt_none [K : Kont α] : opI (none : Option α) (K := K) = False := opt_none (K := K.f)
theorem i_opt_ite [K : Kont α] {c : Prop} [Decidable c] {x : Option α} : opI (if c then x else none) (K := K) = (c ∧ opI x (K := K)) := opt_ite (K := K.f)
theorem i_opt_map [K : Kont α] {f : β → α} {x : Option β} : opI (Option.map f x) (K := K) = opI x (K := ⟨fun b => K.f (f b)⟩) := opt_map (K := K.f)
theorem i_onSlice_ok {u : Ty} [F : Kont (Ty)] : onSliceI (some (.slice u)) (K := F) = F.f u := onSlice_ok (F := F.f)
theorem i_onInt_ok {k : IntKind} [F : Kont (IntKind)] : onIntI (some (.int k)) (K := F) = F.f k := onInt_ok (F := F.f)
theorem i_ex_cond {c : Operand} {x y : Code} {Q : Exit → St → Prop} {st : St} : Ex tab Γ (.cond c x y) Q st = opI (condOf st c) (K := ⟨fun b => br b (Ex tab Γ x Q st) (Ex tab Γ y Q st)⟩) := ex_cond
variable {d : Option Tmp} {ty0 : TypeId} {ps : String} {af : Array Edge} {g : Option (Nat × Bool)} {m : Nat} {st : St} {ops : Array Oper} {r : List Oper} {op : Op}
theorem i_exO_plain {tr : Tr} {K : St → Tr → Prop} : ExOps tab Γ ops (⟨d, op, ty0, ps, af, none⟩ :: r) m st tr K =
    exI tab Γ ⟨d, op, ty0, ps, af, none⟩ m st (K := ⟨fun u => ExOps tab Γ ops r (m + 1) (app u st) ((rds ops st ⟨d, op, ty0, ps, af, none⟩, keys u) :: tr) K⟩) := exO_plain
end
section
variable {tab : Tab} {Γ : Cons} {d : Option Tmp} {ty0 : TypeId} {ps : String} {af : Array Edge} {g : Option (Nat × Bool)} {m : Nat} {st : St} {x y z : Operand} {t t2 : TypeId}
theorem i_looks0 [F : Kont (List Lk)] : opI (looks st []) (K := F) = F.f [] := looks0 (F := F.f)
theorem i_looks_next {r : List Operand} [F : Kont (List Lk)] : opI (looks st (x :: r)) (K := F) = opI (look st x) (K := ⟨fun l => opI (looks st r) (K := ⟨fun ls => F.f (l :: ls)⟩)⟩) := looks_next (F := F.f)
theorem i_looks1 [F : Kont (List Lk)] : opI (looks st [x]) (K := F) = opI (look st x) (K := ⟨fun l => F.f [l]⟩) := looks1 (F := F.f)
theorem i_looks2 [F : Kont (List Lk)] : opI (looks st [x, y]) (K := F) = opI (look st x) (K := ⟨fun l => opI (look st y) (K := ⟨fun k => F.f [l, k]⟩)⟩) := looks2 (F := F.f)
theorem i_looks3 [F : Kont (List Lk)] : opI (looks st [x, y, z]) (K := F) = opI (look st x) (K := ⟨fun l => opI (look st y) (K := ⟨fun k => opI (look st z) (K := ⟨fun j => F.f [l, k, j]⟩)⟩)⟩) := looks3 (F := F.f)
theorem i_condOf_look {c : Operand} [G : Kont (Bool)] : opI (condOf st c) (K := G) = opI (look st c) (K := ⟨fun l => match l.s with | .val .bool b => G.f b | _ => False⟩) := condOf_look (G := G.f)
theorem i_exOp_move [K : Kont Ups] : exI tab Γ ⟨d, .move x, ty0, ps, af, g⟩ m st (K := K) = opI (look st x) (K := ⟨fun l => opI (into d l.s) (K := K)⟩) := exOp_move (K := K.f)
theorem i_exOp_assign [K : Kont Ups] : exI tab Γ ⟨d, .assign x, ty0, ps, af, g⟩ m st (K := K) = opI (look st x) (K := ⟨fun l => opI (stepAssign d m l) (K := K)⟩) := exOp_assign (K := K.f)
theorem i_exOp_pick [K : Kont Ups] : exI tab Γ ⟨d, .pick x y z, ty0, ps, af, g⟩ m st (K := K) = opI (look st x) (K := ⟨fun l => opI (look st y) (K := ⟨fun k => opI (look st z) (K := ⟨fun j => opI (stepPick d l k j) (K := K)⟩)⟩)⟩) := exOp_pick (K := K.f)
theorem i_exOp_alloc [K : Kont Ups] {e : TypeId} : exI tab Γ ⟨d, .alloc e, ty0, ps, af, g⟩ m st (K := K) = opI d (K := ⟨fun i => opI (ty tab e) (K := ⟨fun u => K.f [(i, .obj m u u.dflt)]⟩)⟩) := exOp_alloc (K := K.f)
theorem i_exOp_box [K : Kont Ups] {e : TypeId} : exI tab Γ ⟨d, .box e x, ty0, ps, af, g⟩ m st (K := K) = opI (look st x) (K := ⟨fun l => opI d (K := ⟨fun i => opI (frz l (ty tab e)) (K := ⟨fun r => K.f (r.2 ++ [(i, .obj m r.1.1 r.1.2)])⟩)⟩)⟩) := exOp_box (K := K.f)
theorem i_exOp_load [K : Kont Ups] : exI tab Γ ⟨d, .load t x, ty0, ps, af, g⟩ m st (K := K) = opI (look st x) (K := ⟨fun l => opI (aim l) (K := ⟨fun v => ty tab t = some v.1 ∧ opI (into d (.val v.1 v.2)) (K := K)⟩)⟩) := exOp_load (K := K.f)
theorem i_exOp_store [K : Kont Ups] : exI tab Γ ⟨none, .store t x y, ty0, ps, af, g⟩ m st (K := K) = opI (look st x) (K := ⟨fun l => opI (look st y) (K := ⟨fun k => opI (stepStore tab t l k) (K := K)⟩)⟩) := exOp_store (K := K.f)
theorem i_exOp_nilCheck [K : Kont Ups] : exI tab Γ ⟨d, .nilCheck x, ty0, ps, af, g⟩ m st (K := K) = opI (look st x) (K := ⟨fun l => opI (aim l) (K := ⟨fun _ => opI (into d l.s) (K := K)⟩)⟩) := exOp_nilCheck (K := K.f)
theorem i_exOp_bin [K : Kont Ups] {op : BinOp} : exI tab Γ ⟨d, .binOp op t x y t2, ty0, ps, af, g⟩ m st (K := K) = opI (look st x) (K := ⟨fun l => opI (look st y) (K := ⟨fun k => opI (stepBin tab op t d l k) (K := K)⟩)⟩) := exOp_bin (K := K.f)
theorem i_exOp_un [K : Kont Ups] {op : UnOp} : exI tab Γ ⟨d, .unOp op t x, ty0, ps, af, g⟩ m st (K := K) = opI (look st x) (K := ⟨fun l => opI (stepUn op d l) (K := K)⟩) := exOp_un (K := K.f)
theorem i_exOp_convert [K : Kont Ups] : exI tab Γ ⟨d, .convert t t2 x, ty0, ps, af, g⟩ m st (K := K) = opI (look st x) (K := ⟨fun l => opI (stepConvert tab t t2 d m l) (K := K)⟩) := exOp_convert (K := K.f)
theorem i_exOp_make [K : Kont Ups] : exI tab Γ ⟨d, .makeSlice t x y, ty0, ps, af, g⟩ m st (K := K) = opI (look st x) (K := ⟨fun l => opI (look st y) (K := ⟨fun k => opI (stepMake tab t d m l k) (K := K)⟩)⟩) := exOp_make (K := K.f)
theorem i_exOp_slice0 [K : Kont Ups] : exI tab Γ ⟨d, .slice t x none none none, ty0, ps, af, g⟩ m st (K := K) = opI (look st x) (K := ⟨fun l => opI (stepSl tab t d l none none) (K := K)⟩) := exOp_slice0 (K := K.f)
theorem i_exOp_slice1 [K : Kont Ups] : exI tab Γ ⟨d, .slice t x (some y) none none, ty0, ps, af, g⟩ m st (K := K) = opI (look st x) (K := ⟨fun l => opI (look st y) (K := ⟨fun k => opI (stepSl tab t d l (some k) none) (K := K)⟩)⟩) := exOp_slice1 (K := K.f)
theorem i_exOp_slice2 [K : Kont Ups] : exI tab Γ ⟨d, .slice t x none (some y) none, ty0, ps, af, g⟩ m st (K := K) = opI (look st x) (K := ⟨fun l => opI (look st y) (K := ⟨fun k => opI (stepSl tab t d l none (some k)) (K := K)⟩)⟩) := exOp_slice2 (K := K.f)
theorem i_exOp_slice3 [K : Kont Ups] : exI tab Γ ⟨d, .slice t x (some y) (some z) none, ty0, ps, af, g⟩ m st (K := K) = opI (look st x) (K := ⟨fun l => opI (look st y) (K := ⟨fun k => opI (look st z) (K := ⟨fun j => opI (stepSl tab t d l (some k) (some j)) (K := K)⟩)⟩)⟩) := exOp_slice3 (K := K.f)
theorem i_exOp_fieldAddr [K : Kont Ups] {f : Nat} : exI tab Γ ⟨d, .fieldAddr t x f, ty0, ps, af, g⟩ m st (K := K) = opI (look st x) (K := ⟨fun l => opI (stepFieldAddr tab t l f) (K := ⟨fun s => opI (into d s) (K := K)⟩)⟩) := exOp_fieldAddr (K := K.f)
theorem i_exOp_indexAddr [K : Kont Ups] : exI tab Γ ⟨d, .indexAddr t x y, ty0, ps, af, g⟩ m st (K := K) = opI (look st x) (K := ⟨fun l => opI (look st y) (K := ⟨fun k => opI (stepIndexAddr tab t l k) (K := ⟨fun s => opI (into d s) (K := K)⟩)⟩)⟩) := exOp_indexAddr (K := K.f)
theorem i_exOp_index [K : Kont Ups] : exI tab Γ ⟨d, .index t x y, ty0, ps, af, g⟩ m st (K := K) = opI (look st x) (K := ⟨fun l => opI (look st y) (K := ⟨fun k => opI (stepIndex tab t d l k) (K := K)⟩)⟩) := exOp_index (K := K.f)
theorem i_exOp_build [K : Kont Ups] {parts : Array (Nat × Operand)} : exI tab Γ ⟨d, .build t parts, ty0, ps, af, g⟩ m st (K := K) = opI (looks st (parts.toList.map (·.2))) (K := ⟨fun ls => opI (stepBuild tab t (parts.toList.map (·.1)) d ls) (K := K)⟩) := exOp_build (K := K.f)
theorem i_exOp_buildSlice [K : Kont Ups] {n : Nat} {parts : Array (Nat × Operand)} : exI tab Γ ⟨d, .buildSlice t n parts, ty0, ps, af, g⟩ m st (K := K) = opI (looks st (parts.toList.map (·.2))) (K := ⟨fun ls => opI (stepBuildSlice tab t n (parts.toList.map (·.1)) d m ls) (K := K)⟩) := exOp_buildSlice (K := K.f)
theorem i_exOp_call [K : Kont Ups] {c : Call} : exI tab Γ ⟨d, .call c, ty0, ps, af, g⟩ m st (K := K) = opI (looks st c.args.toList) (K := ⟨fun ls => opI (stepCall tab Γ c d m ls) (K := K)⟩) := exOp_call (K := K.f)
end
section
variable {tab : Tab} {Γ : Cons} {d : Option Tmp} {m : Nat} {st : St} {t t2 : TypeId} {c c' : Slot} {u u' : Ty} {n s n' : Nat} {lo len : Nat}
theorem i_opt_ite_none {α : Type} {p : Prop} [Decidable p] {x : Option α} [K : Kont (α)] : opI (if p then none else x) (K := K) = (¬ p ∧ opI x (K := K)) := opt_ite_none (K := K.f)
theorem i_opt_cast {u : Ty} {x : u.den} [F : Kont (u.den)] : opI (castTo u u x) (K := F) = F.f x := opt_cast (F := F.f)
theorem i_into_none [K : Kont Ups] {s : Slot} : opI (into none s) (K := K) = K.f [] := into_none (K := K.f)
theorem i_into_dst [K : Kont Ups] {i : Nat} {s : Slot} : opI (into (some i) s) (K := K) = ((aliasOf s).map (·.2) ≠ some i ∧ K.f [(i, s)]) := into_dst (K := K.f)
theorem i_into_v [K : Kont Ups] {i : Nat} {v : u.den} : opI (into (some i) (.val u v)) (K := K) = K.f [(i, .val u v)] := into_v (K := K.f)
theorem i_into_nil [K : Kont Ups] {i : Nat} : opI (into (some i) .nil) (K := K) = K.f [(i, .nil)] := into_nil (K := K.f)
theorem i_into_dead [K : Kont Ups] {i : Nat} : opI (into (some i) .dead) (K := K) = K.f [(i, .dead)] := into_dead (K := K.f)
theorem i_into_rpt [K : Kont Ups] {i : Nat} {v : u.den} : opI (into (some i) (.rpt u v)) (K := K) = K.f [(i, .rpt u v)] := into_rpt (K := K.f)
theorem i_into_tup [K : Kont Ups] {i : Nat} {l : List Dv} : opI (into (some i) (.tup l)) (K := K) = K.f [(i, .tup l)] := into_tup (K := K.f)
theorem i_into_asl [K : Kont Ups] {i : Nat} {rg : Option (Nat × Nat)} : opI (into (some i) (.asl n s rg)) (K := K) = (s ≠ i ∧ K.f [(i, .asl n s rg)]) := into_asl (K := K.f)
theorem i_into_apt [K : Kont Ups] {i : Nat} {p : List Way} : opI (into (some i) (.apt n s p)) (K := K) = (s ≠ i ∧ K.f [(i, .apt n s p)]) := into_apt (K := K.f)
theorem i_assign_none [K : Kont Ups] {l : Lk} : opI (stepAssign none m l) (K := K) = K.f [] := assign_none (K := K.f)
theorem i_assign_v [K : Kont Ups] {i : Nat} {v : u.den} : opI (stepAssign (some i) m ⟨.val u v, c⟩) (K := K) = K.f [(i, .val u v)] := assign_v (K := K.f)
theorem i_assign_nil [K : Kont Ups] {i : Nat} : opI (stepAssign (some i) m ⟨.nil, c⟩) (K := K) = K.f [(i, .nil)] := assign_nil (K := K.f)
theorem i_assign_dead [K : Kont Ups] {i : Nat} : opI (stepAssign (some i) m ⟨.dead, c⟩) (K := K) = K.f [(i, .dead)] := assign_dead (K := K.f)
theorem i_assign_rpt [K : Kont Ups] {i : Nat} {v : u.den} : opI (stepAssign (some i) m ⟨.rpt u v, c⟩) (K := K) = K.f [(i, .rpt u v)] := assign_rpt (K := K.f)
theorem i_assign_tup [K : Kont Ups] {i : Nat} {l : List Dv} : opI (stepAssign (some i) m ⟨.tup l, c⟩) (K := K) = K.f [(i, .tup l)] := assign_tup (K := K.f)
theorem i_assign_row [K : Kont Ups] {i : Nat} {xs : List u.den} : opI (stepAssign (some i) m ⟨.asl n s none, .own n' u xs⟩) (K := K) = (n = n' ∧ if s = i then K.f [] else K.f [(s, .asl m i none), (i, .own m u xs)]) := assign_row (K := K.f)
theorem i_assign_part [K : Kont Ups] {i : Nat} {xs : List u.den} : opI (stepAssign (some i) m ⟨.asl n s (some (lo, len)), .own n' u xs⟩) (K := K) = (n = n' ∧ if s = i then K.f [(i, .own m u ((xs.drop lo).take len))] else K.f [(i, .asl n s (some (lo, len)))]) := assign_part (K := K.f)
theorem i_assign_obj [K : Kont Ups] {i : Nat} {v : u.den} : opI (stepAssign (some i) m ⟨.apt n s [], .obj n' u v⟩) (K := K) = (n = n' ∧ if s = i then K.f [] else if ghost ≤ s then K.f [(i, .apt n s [])] else K.f [(s, .apt m i []), (i, .obj m u v)]) := assign_obj (K := K.f)
theorem i_assign_apt [K : Kont Ups] {i : Nat} {q : Way} {p : List Way} : opI (stepAssign (some i) m ⟨.apt n s (q :: p), c⟩) (K := K) = (s ≠ i ∧ K.f [(i, .apt n s (q :: p))]) := assign_apt (K := K.f)
theorem i_frz_val {v : u.den} {w : Option Ty} [F : Kont (Dv × Ups)] : opI (frz ⟨.val u v, c⟩ w) (K := F) = F.f (⟨u, v⟩, []) := frz_val (F := F.f)
theorem i_frz_nil [F : Kont (Dv × Ups)] : opI (frz ⟨.nil, c⟩ (some (.slice u))) (K := F) = F.f (⟨.slice u, []⟩, []) := frz_nil (F := F.f)
theorem i_frz_row {xs : List u.den} {w : Option Ty} [F : Kont (Dv × Ups)] : opI (frz ⟨.asl n s none, .own n' u xs⟩ w) (K := F) = (n = n' ∧ F.f (⟨.slice u, xs⟩, [(s, .val (.slice u) xs)])) := frz_row (F := F.f)
theorem i_frz_part {xs : List u.den} {w : Option Ty} [F : Kont (Dv × Ups)] : opI (frz ⟨.asl n s (some (lo, len)), .own n' u xs⟩ w) (K := F) = (n = n' ∧ F.f (⟨.slice u, (xs.drop lo).take len⟩, [(s, .val (.slice u) xs)])) := frz_part (F := F.f)
theorem i_aim_rpt {v : u.den} [F : Kont (Dv)] : opI (aim ⟨.rpt u v, c⟩) (K := F) = F.f ⟨u, v⟩ := aim_rpt (F := F.f)
theorem i_aim_obj {v : u.den} {p : List Way} [F : Kont (Dv)] : opI (aim ⟨.apt n s p, .obj n' u v⟩) (K := F) = (n = n' ∧ opI (get u v p) (K := F)) := aim_obj (F := F.f)
theorem i_aim_own {xs : List u.den} {q : Way} {p : List Way} [F : Kont (Dv)] : opI (aim ⟨.apt n s (q :: p), .own n' u xs⟩) (K := F) = (n = n' ∧ opI (get (.arr 0 u) xs (q :: p)) (K := F)) := aim_own (F := F.f)
theorem i_get_nil {v : u.den} [F : Kont (Dv)] : opI (get u v []) (K := F) = F.f ⟨u, v⟩ := get_nil (F := F.f)
theorem i_get_fst {a b : Ty} {v : (Ty.prod a b).den} {p : List Way} [F : Kont (Dv)] : opI (get (.prod a b) v (.fld 0 :: p)) (K := F) = opI (get a v.1 p) (K := F) := get_fst (F := F.f)
theorem i_get_snd {a b : Ty} {v : (Ty.prod a b).den} {j : Nat} {p : List Way} [F : Kont (Dv)] : opI (get (.prod a b) v (.fld (j + 1) :: p)) (K := F) = opI (get b v.2 (.fld j :: p)) (K := F) := get_snd (F := F.f)
theorem i_get_idx {k i : Nat} {xs : List u.den} {p : List Way} [F : Kont (Dv)] : opI (get (.arr k u) xs (.idx i :: p)) (K := F) = (i < xs.length ∧ opI (get u (xs.getD i u.dflt) p) (K := F)) := get_idx (F := F.f)
theorem i_castK_self {u : Ty} {x : u.den} [F : Kont (u.den)] : castI u u x (K := F) = F.f x := castK_self (F := F.f)
theorem i_updo_nil {v : u.den} {y : u'.den} [F : Kont (u.den)] : updI u v [] u' y (K := F) = castI u' u y (K := F) := updo_nil (F := F.f)
theorem i_upd_fst {a b : Ty} {v : (Ty.prod a b).den} {p : List Way} {y : u'.den} [F : Kont ((Ty.prod a b).den)] : updI (.prod a b) v (.fld 0 :: p) u' y (K := F) = updI a v.1 p u' y (K := ⟨fun z => F.f (z, v.2)⟩) := upd_fst (F := F.f)
theorem i_upd_snd {a b : Ty} {v : (Ty.prod a b).den} {j : Nat} {p : List Way} {y : u'.den} [F : Kont ((Ty.prod a b).den)] : updI (.prod a b) v (.fld (j + 1) :: p) u' y (K := F) = updI b v.2 (.fld j :: p) u' y (K := ⟨fun z => F.f (v.1, z)⟩) := upd_snd (F := F.f)
theorem i_upd_idx {k i : Nat} {xs : List u.den} {p : List Way} {y : u'.den} [F : Kont (List u.den)] : updI (.arr k u) xs (.idx i :: p) u' y (K := F) = (i < xs.length ∧ updI u (xs.getD i u.dflt) p u' y (K := ⟨fun z => F.f (xs.set i z)⟩)) := upd_idx (F := F.f)
theorem i_store_obj [K : Kont Ups] {v : u.den} {p : List Way} {l : Lk} : opI (stepStore tab t ⟨.apt n s p, .obj n' u v⟩ l) (K := K) = opI (frz l (ty tab t)) (K := ⟨fun r => ty tab t = some r.1.1 ∧ n = n' ∧ updI u v p r.1.1 r.1.2 (K := ⟨fun z => K.f ((s, .obj n' u z) :: r.2)⟩)⟩) := store_obj (K := K.f)
theorem i_store_own [K : Kont Ups] {xs : List u.den} {q : Way} {p : List Way} {l : Lk} : opI (stepStore tab t ⟨.apt n s (q :: p), .own n' u xs⟩ l) (K := K) = opI (frz l (ty tab t)) (K := ⟨fun r => ty tab t = some r.1.1 ∧ (n = n' ∧ r.2.all (fun z => decide (z.1 ≠ s)) = true) ∧ updI (.arr 0 u) xs (q :: p) r.1.1 r.1.2 (K := ⟨fun z => K.f ((s, .own n u z) :: r.2)⟩)⟩) := store_own (K := K.f)
theorem i_ixa_val {k : IntKind} {i : Int} {xs : List u.den} [F : Kont (Slot)] : opI (stepIndexAddr tab t ⟨.val (.slice u) xs, c⟩ ⟨.val (.int k) i, c'⟩) (K := F) = (ty tab t = some (.slice u) ∧ (0 ≤ i ∧ i < (xs.length : Int)) ∧ F.f (.rpt u (xs.getD i.toNat u.dflt))) := ixa_val (F := F.f)
theorem i_ixa_row {k : IntKind} {i : Int} {xs : List u.den} [F : Kont (Slot)] : opI (stepIndexAddr tab t ⟨.asl n s none, .own n' u xs⟩ ⟨.val (.int k) i, c'⟩) (K := F) = (ty tab t = some (.slice u) ∧ n = n' ∧ (0 ≤ i ∧ i < (xs.length : Int)) ∧ F.f (.apt n s [.idx i.toNat])) := ixa_row (F := F.f)
theorem i_ixa_part {k : IntKind} {i : Int} {xs : List u.den} [F : Kont (Slot)] : opI (stepIndexAddr tab t ⟨.asl n s (some (lo, len)), .own n' u xs⟩ ⟨.val (.int k) i, c'⟩) (K := F) = (ty tab t = some (.slice u) ∧ n = n' ∧ (0 ≤ i ∧ i < (len : Int)) ∧ F.f (.apt n s [.idx (lo + i.toNat)])) := ixa_part (F := F.f)
theorem i_arrAt_arr {k : Nat} {xs : List u.den} {i : Int} [F : KontT] : arrAtI tab t i ⟨.arr k u, xs⟩ (K := F) = (ty tab t = some (.arr k u) ∧ (0 ≤ i ∧ i < (k : Int)) ∧ F.f u (xs.getD i.toNat u.dflt)) := arrAt_arr (F := F.f)
theorem i_ixa_rpt {k : IntKind} {i : Int} {v : u.den} [F : Kont (Slot)] : opI (stepIndexAddr tab t ⟨.rpt u v, c⟩ ⟨.val (.int k) i, c'⟩) (K := F) = arrAtI tab t i ⟨u, v⟩ (K := ⟨fun u' y => F.f (.rpt u' y)⟩) := ixa_rpt (F := F.f)
theorem i_ixa_apt {k : IntKind} {i : Int} {p : List Way} [F : Kont (Slot)] : opI (stepIndexAddr tab t ⟨.apt n s p, c⟩ ⟨.val (.int k) i, c'⟩) (K := F) = opI (aim ⟨.apt n s p, c⟩) (K := ⟨fun w => arrAtI tab t i w (K := ⟨fun _ _ => F.f (.apt n s (p ++ [.idx i.toNat]))⟩)⟩) := ixa_apt (F := F.f)
theorem i_fla_rpt {v : u.den} {f : Nat} [F : Kont (Slot)] : opI (stepFieldAddr tab t ⟨.rpt u v, c⟩ f) (K := F) = (ty tab t = some u ∧ opI (get u v [.fld f]) (K := ⟨fun w => F.f (.rpt w.1 w.2)⟩)) := fla_rpt (F := F.f)
theorem i_fla_apt {p : List Way} {f : Nat} [F : Kont (Slot)] : opI (stepFieldAddr tab t ⟨.apt n s p, c⟩ f) (K := F) = opI (aim ⟨.apt n s p, c⟩) (K := ⟨fun w => ty tab t = some w.1 ∧ opI (get w.1 w.2 [.fld f]) (K := ⟨fun _ => F.f (.apt n s (p ++ [.fld f]))⟩)⟩) := fla_apt (F := F.f)
theorem i_bin_val [K : Kont Ups] {op : BinOp} {v : u.den} {z : u'.den} : opI (stepBin tab op t d ⟨.val u v, c⟩ ⟨.val u' z, c'⟩) (K := K) = (binTy tab t u = true ∧ opI (bin op ⟨u, v⟩ ⟨u', z⟩) (K := ⟨fun r => opI (into d (.val r.1 r.2)) (K := K)⟩)) := bin_val (K := K.f)
theorem i_un_val [K : Kont Ups] {op : UnOp} {v : u.den} : opI (stepUn op d ⟨.val u v, c⟩) (K := K) = opI (un op ⟨u, v⟩) (K := ⟨fun r => opI (into d (.val r.1 r.2)) (K := K)⟩) := un_val (K := K.f)
theorem i_conv_int [K : Kont Ups] {k : IntKind} {i : Int} : opI (stepConvert tab t t2 d m ⟨.val (.int k) i, c⟩) (K := K) = onIntI (ty tab t) (K := ⟨fun _ => onIntI (ty tab t2) (K := ⟨fun k' => opI (into d (.val (.int k') (k'.wrap i))) (K := K)⟩)⟩) := conv_int (K := K.f)
theorem i_finOne_tmp {k : Nat} {r : Res} : finOne tab st (.tmp k) r = opI (look st (.tmp k)) (K := ⟨fun l => finOK l r⟩) := finOne_tmp
theorem i_finOne_cell {k : Nat} {e : TypeId} {w : Dv} : finOne tab st (.cell k e) (.val w) = opI (look st (.tmp k)) (K := ⟨fun l => opI (aim l) (K := ⟨fun v => v = w ∧ ty tab e = some w.1⟩)⟩) := finOne_cell
theorem i_finOK_val {l : Lk} {w : Dv} : finOK l (.val w) = opI (frz l (some w.1)) (K := ⟨fun r => r.1 = w⟩) := finOK_val
theorem i_index_str [K : Kont Ups] {k : IntKind} {i : Int} {z : ByteArray} : opI (stepIndex tab t d ⟨.val .str z, c⟩ ⟨.val (.int k) i, c'⟩) (K := K) = ((ty tab t = some .str ∧ 0 ≤ i ∧ i < (z.size : Int)) ∧ opI (into d (.val (.int .u8) (byteAt z i.toNat))) (K := K)) := index_str (K := K.f)
theorem i_index_arr [K : Kont Ups] {k : IntKind} {i : Int} {l : Nat} {xs : List u.den} : opI (stepIndex tab t d ⟨.val (.arr l u) xs, c⟩ ⟨.val (.int k) i, c'⟩) (K := K) = ((ty tab t = some (.arr l u) ∧ 0 ≤ i ∧ i < (l : Int)) ∧ opI (into d (.val u (xs.getD i.toNat u.dflt))) (K := K)) := index_arr (K := K.f)
theorem i_make_ok [K : Kont Ups] {k k' : IntKind} {i j : Int} {b : Nat} : opI (stepMake tab t (some b) m ⟨.val (.int k) i, c⟩ ⟨.val (.int k') j, c'⟩) (K := K) = onSliceI (ty tab t) (K := ⟨fun u => (0 ≤ i ∧ i ≤ j ∧ j * (u.mx : Int) ≤ 281474976710656) ∧ K.f [(b, .own m u (List.replicate i.toNat u.dflt))]⟩) := make_ok (K := K.f)
theorem i_pick_val [K : Kont Ups] {b : Bool} {v w : u.den} {e1 e2 e3 : Slot} : opI (stepPick d ⟨.val .bool b, e1⟩ ⟨.val u v, e2⟩ ⟨.val u w, e3⟩) (K := K) = opI (into d (.val u (if b = true then v else w))) (K := K) := pick_val (K := K.f)
theorem i_call_fn [K : Kont Ups] {f : FuncId} {args : Array Operand} {ts : Array TypeId} {ls : List Lk} : opI (stepCall tab Γ { callee := .value (.func f), args := args, argTypes := ts } d m ls) (K := K) = opI (Γ f) (K := ⟨fun con => opI (toArgs ls (ts.toList.map (ty tab))) (K := ⟨fun as => opI (callT con d m as) (K := K)⟩)⟩) := call_fn (K := K.f)
theorem i_callT_ok [K : Kont Ups] {con : Con} {as : List Lent} : opI (callT con d m as) (K := K) = ((nodup (iosOf as) && (lentsOf as).all (fun l => !(iosOf as).contains l.1) && dstFree d (iosOf as)) = true ∧ opI (con (as.map (·.arg))) (K := ⟨fun out => out.res.isPanic = false ∧ opI (ioUps as out.ios) (K := ⟨fun u => K.f ((if out.far then lentsOf as else []) ++ u ++ dstUps d (out.res.slot m))⟩)⟩)) := callT_ok (K := K.f)
theorem i_call_len [K : Kont Ups] {x : Operand} {l : Lk} : opI (stepCall tab Γ { callee := .builtin .len, args := #[x], argTypes := #[t] } d m [l]) (K := K) = opI (lenOf? tab t l) (K := ⟨fun k => opI (into d (.val (.int .i64) (k : Int))) (K := K)⟩) := call_len (K := K.f)
theorem i_call_append [K : Kont Ups] {x y : Operand} {l k : Lk} : opI (stepCall tab Γ { callee := .builtin .append, args := #[x, y], argTypes := #[t, t2] } d m [l, k]) (K := K) = opI (stepAppend tab t t2 d m l k) (K := K) := call_append (K := K.f)
theorem i_append_ok [K : Kont Ups] {i : Nat} {x y : Lk} : opI (stepAppend tab t t2 (some i) m x y) (K := K) = onSliceI (ty tab t) (K := ⟨fun u => moreI tab u t2 y (K := ⟨fun ys => priorI u x (K := ⟨fun xs s => appI xs ys (K := ⟨fun zs => K.f ((match s with | some s => [(s, .dead)] | none => []) ++ [(i, .own m u zs)])⟩)⟩)⟩)⟩) := append_ok (K := K.f)
theorem i_more_val {ys : List u.den} [F : Kont (List u.den)] : moreI tab u t2 ⟨.val (.slice u) ys, c⟩ (K := F) = onSliceI (ty tab t2) (K := ⟨fun _ => F.f ys⟩) := more_val (F := F.f)
theorem i_more_nil [F : Kont (List u.den)] : moreI tab u t2 ⟨.nil, c⟩ (K := F) = onSliceI (ty tab t2) (K := ⟨fun _ => F.f []⟩) := more_nil (F := F.f)
theorem i_more_row {ys : List u.den} [F : Kont (List u.den)] : moreI tab u t2 ⟨.asl n s none, .own n u ys⟩ (K := F) = onSliceI (ty tab t2) (K := ⟨fun _ => F.f ys⟩) := more_row (F := F.f)
theorem i_more_part {ys : List u.den} [F : Kont (List u.den)] : moreI tab u t2 ⟨.asl n s (some (lo, len)), .own n u ys⟩ (K := F) = onSliceI (ty tab t2) (K := ⟨fun _ => F.f ((ys.drop lo).take len)⟩) := more_part (F := F.f)
theorem i_more_str {z : ByteArray} [F : Kont (List Int)] : moreI tab (.int .u8) t2 ⟨.val .str z, c⟩ (K := F) = (ty tab t2 = some .str ∧ F.f (bytesOf z)) := more_str (F := F.f)
theorem i_prior_nil [F : Kont2 (List u.den) (Option Nat)] : priorI u ⟨.nil, c⟩ (K := F) = F.f [] none := prior_nil (F := F.f)
theorem i_prior_row {xs : List u.den} [F : Kont2 (List u.den) (Option Nat)] : priorI u ⟨.asl n s none, .own n u xs⟩ (K := F) = F.f xs (some s) := prior_row (F := F.f)
theorem i_prior_part {xs : List u.den} [F : Kont2 (List u.den) (Option Nat)] : priorI u ⟨.asl n s (some (0, len)), .own n u xs⟩ (K := F) = F.f (xs.take len) (some s) := prior_part (F := F.f)
end
section
variable {tab : Tab} {Γ : Cons} {d : Option Tmp} {m : Nat} {st : St} {t t2 : TypeId} {c c' : Slot} {u u' : Ty} {n s n' : Nat} {lo len : Nat}
theorem i_fillK_nil {v : u.den} [F : Kont (u.den)] : fillI u v [] (K := F) = F.f v := fillK_nil (F := F.f)
theorem i_fillK_arr {k i : Nat} {w : Dv} {r : List (Nat × Dv)} {v : List u.den} [F : Kont (List u.den)] : fillI (.arr k u) v ((i, w) :: r) (K := F) = updI (.arr k u) v [.idx i] w.1 w.2 (K := ⟨fun v' => fillI (.arr k u) v' r (K := F)⟩) := fillK_arr (F := F.f)
theorem i_fillK_prod {a b : Ty} {i : Nat} {w : Dv} {r : List (Nat × Dv)} {v : (Ty.prod a b).den} [F : Kont ((Ty.prod a b).den)] : fillI (.prod a b) v ((i, w) :: r) (K := F) = updI (.prod a b) v [.fld i] w.1 w.2 (K := ⟨fun v' => fillI (.prod a b) v' r (K := F)⟩) := fillK_prod (F := F.f)
theorem i_frzAll_nil {ws : List (Option Ty)} [F : Kont (List Dv × Ups)] : opI (frzAll [] ws) (K := F) = F.f ([], []) := frzAll_nil (F := F.f)
theorem i_frzAll_cons {x : Lk} {r : List Lk} {w : Option Ty} {ws : List (Option Ty)} [F : Kont (List Dv × Ups)] : opI (frzAll (x :: r) (w :: ws)) (K := F) = opI (frz x w) (K := ⟨fun a => opI (frzAll r ws) (K := ⟨fun b => F.f (a.1 :: b.1, a.2 ++ b.2)⟩)⟩) := frzAll_cons (F := F.f)
theorem i_buildSlice_ok [K : Kont Ups] {idx : List Nat} {i : Nat} {ls : List Lk} : opI (stepBuildSlice tab t len idx (some i) m ls) (K := K) = onSliceI (ty tab t) (K := ⟨fun u => len * u.sz ≤ 16777216 ∧ opI (frzAll ls (idx.map fun _ => some u)) (K := ⟨fun r => fillI (.arr len u) (List.replicate len u.dflt) (idx.zip r.1) (K := ⟨fun xs => K.f (r.2 ++ [(i, .own m u xs)])⟩)⟩)⟩) := buildSlice_ok (K := K.f)
theorem i_pick_tup [K : Kont Ups] {b : Bool} {l : List Dv} {v : u.den} {e1 e2 e3 : Slot} : opI (stepPick d ⟨.val .bool b, e1⟩ ⟨.tup l, e2⟩ ⟨.val u v, e3⟩) (K := K) = opI (into d (if b = true then .tup l else .val u v)) (K := K) := pick_tup (K := K.f)
theorem i_pick_tup2 [K : Kont Ups] {b : Bool} {l : List Dv} {v : u.den} {e1 e2 e3 : Slot} : opI (stepPick d ⟨.val .bool b, e1⟩ ⟨.val u v, e2⟩ ⟨.tup l, e3⟩) (K := K) = opI (into d (if b = true then .val u v else .tup l)) (K := K) := pick_tup2 (K := K.f)
theorem i_cut_none [F : Kont (Nat × Nat)] {k : Int} : opI (cutB none none k) (K := F) = F.f (0, k.toNat) := cut_none (F := F.f)
theorem i_cut_lo {q : IntKind} {i k : Int} [F : Kont (Nat × Nat)] : opI (cutB (some ⟨.val (.int q) i, c⟩) none k) (K := F) = ((0 ≤ i ∧ i ≤ k) ∧ F.f (i.toNat, k.toNat)) := cut_lo (F := F.f)
theorem i_cut_hi {q : IntKind} {i k : Int} [F : Kont (Nat × Nat)] : opI (cutB none (some ⟨.val (.int q) i, c⟩) k) (K := F) = ((0 ≤ i ∧ i ≤ k) ∧ F.f (0, i.toNat)) := cut_hi (F := F.f)
theorem i_cut_both {q q' : IntKind} {i j k : Int} [F : Kont (Nat × Nat)] : opI (cutB (some ⟨.val (.int q) i, c⟩) (some ⟨.val (.int q') j, c'⟩) k) (K := F) = ((0 ≤ j ∧ j ≤ k) ∧ (0 ≤ i ∧ i ≤ j) ∧ F.f (i.toNat, j.toNat)) := cut_both (F := F.f)
theorem i_slice_str {lo hi : Option Lk} {z : ByteArray} [F : Kont (Slot)] : opI (stepSlice tab t ⟨.val .str z, c⟩ lo hi) (K := F) = (ty tab t = some .str ∧ opI (cutB lo hi (z.size : Int)) (K := ⟨fun p => F.f (.val .str (z.extract p.1 p.2))⟩)) := slice_str (F := F.f)
theorem i_slice_val {lo hi : Option Lk} {xs : List u.den} [F : Kont (Slot)] : opI (stepSlice tab t ⟨.val (.slice u) xs, c⟩ lo hi) (K := F) = (ty tab t = some (.slice u) ∧ opI (cutB lo hi (xs.length : Int)) (K := ⟨fun p => F.f (.val (.slice u) ((xs.drop p.1).take (p.2 - p.1)))⟩)) := slice_val (F := F.f)
theorem i_slice_row0 {xs : List u.den} [F : Kont (Slot)] : opI (stepSlice tab t ⟨.asl n s none, .own n' u xs⟩ none none) (K := F) = ((n = n' ∧ ty tab t = some (.slice u)) ∧ F.f (.asl n s none)) := slice_row0 (F := F.f)
theorem i_slice_row1 {lo : Lk} {xs : List u.den} [F : Kont (Slot)] : opI (stepSlice tab t ⟨.asl n s none, .own n' u xs⟩ (some lo) none) (K := F) = ((n = n' ∧ ty tab t = some (.slice u)) ∧ opI (cutB (some lo) none (xs.length : Int)) (K := ⟨fun p => F.f (.asl n s (some (p.1, p.2 - p.1)))⟩)) := slice_row1 (F := F.f)
theorem i_slice_row2 {hi : Lk} {xs : List u.den} [F : Kont (Slot)] : opI (stepSlice tab t ⟨.asl n s none, .own n' u xs⟩ none (some hi)) (K := F) = ((n = n' ∧ ty tab t = some (.slice u)) ∧ opI (cutB none (some hi) (xs.length : Int)) (K := ⟨fun p => F.f (.asl n s (some (p.1, p.2 - p.1)))⟩)) := slice_row2 (F := F.f)
theorem i_slice_row3 {lo hi : Lk} {xs : List u.den} [F : Kont (Slot)] : opI (stepSlice tab t ⟨.asl n s none, .own n' u xs⟩ (some lo) (some hi)) (K := F) = ((n = n' ∧ ty tab t = some (.slice u)) ∧ opI (cutB (some lo) (some hi) (xs.length : Int)) (K := ⟨fun p => F.f (.asl n s (some (p.1, p.2 - p.1)))⟩)) := slice_row3 (F := F.f)
theorem i_slice_part {lo' hi : Option Lk} {xs : List u.den} [F : Kont (Slot)] : opI (stepSlice tab t ⟨.asl n s (some (lo, len)), .own n' u xs⟩ lo' hi) (K := F) = ((n = n' ∧ ty tab t = some (.slice u)) ∧ opI (cutB lo' hi (len : Int)) (K := ⟨fun p => F.f (.asl n s (some (lo + p.1, p.2 - p.1)))⟩)) := slice_part (F := F.f)
theorem i_min_two [K : Kont Ups] {x y : Operand} {k : IntKind} {a b : Int} {ts : Array TypeId} : opI (stepCall tab Γ { callee := .builtin .min, args := #[x, y], argTypes := ts } d m [⟨.val (.int k) a, c⟩, ⟨.val (.int k) b, c'⟩]) (K := K) = opI (into d (.val (.int k) (if b < a then b else a))) (K := K) := min_two (K := K.f)
theorem i_max_two [K : Kont Ups] {x y : Operand} {k : IntKind} {a b : Int} {ts : Array TypeId} : opI (stepCall tab Γ { callee := .builtin .max, args := #[x, y], argTypes := ts } d m [⟨.val (.int k) a, c⟩, ⟨.val (.int k) b, c'⟩]) (K := K) = opI (into d (.val (.int k) (if a < b then b else a))) (K := K) := max_two (K := K.f)
end
section
variable {t : TypeId} {c : Slot} {u : Ty} {n s : Nat} {lo len : Nat} {w : Option Ty} {ws : List (Option Ty)}
theorem i_oargs_nil [F : Kont (List Lent)] : opI (toArgs [] ws) (K := F) = F.f [] := oargs_nil (F := F.f)
theorem i_oargs_cons {x : Lk} {r : List Lk} [F : Kont (List Lent)] : opI (toArgs (x :: r) (w :: ws)) (K := F) = opI (toArg x w) (K := ⟨fun a => opI (toArgs r ws) (K := ⟨fun as => F.f (a :: as)⟩)⟩) := oargs_cons (F := F.f)
theorem i_oarg_val {v : u.den} [F : Kont (Lent)] : opI (toArg ⟨.val u v, c⟩ w) (K := F) = F.f ⟨.val ⟨u, v⟩, none, none⟩ := oarg_val (F := F.f)
theorem i_oarg_nil [F : Kont (Lent)] : opI (toArg ⟨.nil, c⟩ (some (.slice u))) (K := F) = F.f ⟨.val ⟨.slice u, []⟩, none, none⟩ := oarg_nil (F := F.f)
theorem i_oarg_row {xs : List u.den} [F : Kont (Lent)] : opI (toArg ⟨.asl n s none, .own n u xs⟩ w) (K := F) = F.f ⟨.val ⟨.slice u, xs⟩, some (s, .val (.slice u) xs), none⟩ := oarg_row (F := F.f)
theorem i_oarg_part {xs : List u.den} [F : Kont (Lent)] : opI (toArg ⟨.asl n s (some (lo, len)), .own n u xs⟩ w) (K := F) = F.f ⟨.val ⟨.slice u, (xs.drop lo).take len⟩, some (s, .val (.slice u) xs), none⟩ := oarg_part (F := F.f)
theorem i_oarg_obj {v : u.den} [F : Kont (Lent)] : opI (toArg ⟨.apt n s [], .obj n u v⟩ w) (K := F) = F.f ⟨.obj ⟨u, v⟩, none, some (s, n)⟩ := oarg_obj (F := F.f)
theorem i_oarg_rpt {v : u.den} [F : Kont (Lent)] : opI (toArg ⟨.rpt u v, c⟩ w) (K := F) = F.f ⟨.ptr ⟨u, v⟩, none, none⟩ := oarg_rpt (F := F.f)
theorem i_ups_nil [F : Kont (Ups)] : opI (ioUps [] []) (K := F) = F.f [] := ups_nil (F := F.f)
theorem i_ups_none {a : Arg} {l : Option (Nat × Slot)} {as : List Lent} {ds : List Dv} [F : Kont (Ups)] : opI (ioUps (⟨a, l, none⟩ :: as) ds) (K := F) = opI (ioUps as ds) (K := F) := ups_none (F := F.f)
theorem i_ups_some {v v' : u.den} {l : Option (Nat × Slot)} {as : List Lent} {ds : List Dv} [F : Kont (Ups)] : opI (ioUps (⟨.obj ⟨u, v⟩, l, some (s, n)⟩ :: as) (⟨u, v'⟩ :: ds)) (K := F) = opI (ioUps as ds) (K := ⟨fun r => F.f ((s, .obj n u v') :: r)⟩) := ups_some (F := F.f)
section
variable {x y z : Operand} {t2 : TypeId} {o : BinOp} {o2 : UnOp} {l h q : Option Operand} {k : Nat} {ps : Array (Nat × Operand)} {ps1 ps2 : Array Operand} {f : FuncId} {as : Array Operand} {ts : Array TypeId}
end
end
section
variable {tab : Tab} {Γ : Cons} {d : Option Tmp} {ty0 : TypeId} {ps : String} {af : Array Edge} {g : Option (Nat × Bool)} {m : Nat} {st : St} {x : Operand} {t : TypeId}
theorem i_exOp_field [K : Kont Ups] {f : Nat} : exI tab Γ ⟨d, .field t x f, ty0, ps, af, g⟩ m st (K := K) = opI (look st x) (K := ⟨fun l => match l.s with
    | .val u v => ty tab t = some u ∧ opI (get u v [.fld f]) (K := ⟨fun w => opI (into d (.val w.1 w.2)) (K := K)⟩)
    | _ => False⟩) := exOp_field (K := K.f)
theorem i_exOp_extract [K : Kont Ups] {j : Nat} : exI tab Γ ⟨d, .extract x j, ty0, ps, af, g⟩ m st (K := K) = opI (look st x) (K := ⟨fun l => match l.s with
    | .tup ds => opI ds[j]? (K := ⟨fun w => opI (into d (.val w.1 w.2)) (K := K)⟩)
    | _ => False⟩) := exOp_extract (K := K.f)
theorem i_len_str {z : ByteArray} {c : Slot} [F : Kont Nat] (h : ty tab t = some .str) : lenI tab t ⟨.val .str z, c⟩ (K := F) = F.f z.size := len_str (F := F.f) h
end

end Go.Tm
