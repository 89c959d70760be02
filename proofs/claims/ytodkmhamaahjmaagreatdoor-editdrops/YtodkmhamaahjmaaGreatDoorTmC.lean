/- Texts joined: TmInst, TmInst2, TmSimp2, TmRow, TmUse, TmDoor. -/
import Derived.Test.YtodkmhamaahjmaaGreatDoorTmB
import Derived.ChangeReads
import Derived.ChangeShapes
import Derived.WideShapes
import Derived.DataReads
import Derived.OpenShut
import Derived.SizedLaws
import Derived.ChangeOld
import Derived.RowKit
import Derived.Below
import Derived.Carry
/- The rules once more, with continuations as instance arguments: simp never looks into them. Printed by inst.py. -/
set_option linter.unusedVariables false
namespace Go.Tm
class Kont (α : Type) where
  f : α → Prop
class Kont2 (α β : Type) where
  f : α → β → Prop
class KontT where
  f : (u : Ty) → u.den → Prop
def opI {α : Type} (x : Option α) [K : Kont α] : Prop := opt x K.f
def updI (u : Ty) (v : u.den) (p : List Way) (u' : Ty) (y : u'.den) [K : Kont u.den] : Prop := updK u v p u' y K.f
def castI (u t : Ty) (x : u.den) [K : Kont t.den] : Prop := castK u t x K.f
def fillI (u : Ty) (v : u.den) (l : List (Nat × Dv)) [K : Kont u.den] : Prop := fillK u v l K.f
def moreI (tab : Tab) (u : Ty) (t2 : TypeId) (y : Lk) [K : Kont (List u.den)] : Prop := moreK tab u t2 y K.f
def priorI (u : Ty) (x : Lk) [K : Kont2 (List u.den) (Option Nat)] : Prop := priorK u x K.f
def appI {u : Ty} (xs ys : List u.den) [K : Kont (List u.den)] : Prop := appK xs ys K.f
def lenI (tab : Tab) (t : TypeId) (l : Lk) [K : Kont Nat] : Prop := lenK tab t l K.f
def onSliceI (o : Option Ty) [K : Kont Ty] : Prop := onSlice o K.f
def onIntI (o : Option Ty) [K : Kont IntKind] : Prop := onInt o K.f
def arrAtI (tab : Tab) (t : TypeId) (i : Int) (w : Dv) [K : KontT] : Prop := arrAt tab t i w K.f
def exI (tab : Tab) (Γ : Cons) (o : Oper) (m : Nat) (st : St) [K : Kont Ups] : Prop := exOp tab Γ o m st K.f
def exFI (tab : Tab) (Γ : Cons) (o : Oper) (m : Nat) (st : St) [K : Kont Ups] [X : Kont2 (List PanicEntry) Ups] : Prop := exOpF tab Γ o m st K.f X.f
theorem kont_f {α : Type} {g : α → Prop} {a : α} : @Kont.f α ⟨g⟩ a = g a := rfl
theorem kont2_f {α β : Type} {g : α → β → Prop} {a : α} {b : β} : @Kont2.f α β ⟨g⟩ a b = g a b := rfl
theorem kontT_f {g : (u : Ty) → u.den → Prop} {u : Ty} {v : u.den} : @KontT.f ⟨g⟩ u v = g u v := rfl

section
variable {tab : Tab} {Γ : Cons} {α β : Type}
theorem i_opt_some [K : Kont α] {a : α} : opI (some a) (K := K) = K.f a := opt_some (K := K.f)
theorem i_opt_none [K : Kont α] : opI (none : Option α) (K := K) = False := opt_none (K := K.f)
theorem i_opt_ite [K : Kont α] {c : Prop} [Decidable c] {x : Option α} : opI (if c then x else none) (K := K) = (c ∧ opI x (K := K)) := opt_ite (K := K.f)
theorem i_opt_map [K : Kont α] {f : β → α} {x : Option β} : opI (Option.map f x) (K := K) = opI x (K := ⟨fun b => K.f (f b)⟩) := opt_map (K := K.f)
theorem i_onSlice_ok {u : Ty} [F : Kont (Ty)] : onSliceI (some (.slice u)) (K := F) = F.f u := onSlice_ok (F := F.f)
theorem i_onInt_ok {k : IntKind} [F : Kont (IntKind)] : onIntI (some (.int k)) (K := F) = F.f k := onInt_ok (F := F.f)
theorem i_ex_cond {c : Operand} {x y : Code} {Q : Exit → St → Prop} {st : St} : Ex tab Γ (.cond c x y) Q st = opI (condOf st c) (K := ⟨fun b => br b (Ex tab Γ x Q st) (Ex tab Γ y Q st)⟩) := ex_cond
variable {d : Option Tmp} {ty0 : TypeId} {ps : String} {af : Array Edge} {g : Option (Nat × Bool)} {m : Nat} {st : St} {ops : Array Oper} {r : List Oper} {op : Op}
theorem i_exO_plain {tr : Tr} {K : St → Tr → Prop} : ExOps tab Γ ops (⟨d, op, ty0, ps, af, none⟩ :: r) m st tr K =
    exI tab Γ ⟨d, op, ty0, ps, af, none⟩ m st (K := ⟨fun u => ExOps tab Γ ops r (m + 1) (app u st) ((rds ops st ⟨d, op, ty0, ps, af, none⟩, keys u) :: tr) K⟩) := exO_plain
end
section
variable {tab : Tab} {Γ : Cons} {d : Option Tmp} {ty0 : TypeId} {ps : String} {af : Array Edge} {g : Option (Nat × Bool)} {m : Nat} {st : St} {x y z : Operand} {t t2 : TypeId}
theorem i_looks0 [F : Kont (List Lk)] : opI (looks st []) (K := F) = F.f [] := looks0 (F := F.f)
theorem i_looks_next {r : List Operand} [F : Kont (List Lk)] : opI (looks st (x :: r)) (K := F) = opI (look st x) (K := ⟨fun l => opI (looks st r) (K := ⟨fun ls => F.f (l :: ls)⟩)⟩) := looks_next (F := F.f)
theorem i_looks1 [F : Kont (List Lk)] : opI (looks st [x]) (K := F) = opI (look st x) (K := ⟨fun l => F.f [l]⟩) := looks1 (F := F.f)
theorem i_looks2 [F : Kont (List Lk)] : opI (looks st [x, y]) (K := F) = opI (look st x) (K := ⟨fun l => opI (look st y) (K := ⟨fun k => F.f [l, k]⟩)⟩) := looks2 (F := F.f)
theorem i_looks3 [F : Kont (List Lk)] : opI (looks st [x, y, z]) (K := F) = opI (look st x) (K := ⟨fun l => opI (look st y) (K := ⟨fun k => opI (look st z) (K := ⟨fun j => F.f [l, k, j]⟩)⟩)⟩) := looks3 (F := F.f)
theorem i_condOf_look {c : Operand} [G : Kont (Bool)] : opI (condOf st c) (K := G) = opI (look st c) (K := ⟨fun l => match l.s with | .val .bool b => G.f b | _ => False⟩) := condOf_look (G := G.f)
theorem i_exOp_move [K : Kont Ups] : exI tab Γ ⟨d, .move x, ty0, ps, af, g⟩ m st (K := K) = opI (look st x) (K := ⟨fun l => opI (into d l.s) (K := K)⟩) := exOp_move (K := K.f)
theorem i_exOp_assign [K : Kont Ups] : exI tab Γ ⟨d, .assign x, ty0, ps, af, g⟩ m st (K := K) = opI (look st x) (K := ⟨fun l => opI (stepAssign d m l) (K := K)⟩) := exOp_assign (K := K.f)
theorem i_exOp_pick [K : Kont Ups] : exI tab Γ ⟨d, .pick x y z, ty0, ps, af, g⟩ m st (K := K) = opI (look st x) (K := ⟨fun l => opI (look st y) (K := ⟨fun k => opI (look st z) (K := ⟨fun j => opI (stepPick d l k j) (K := K)⟩)⟩)⟩) := exOp_pick (K := K.f)
theorem i_exOp_alloc [K : Kont Ups] {e : TypeId} : exI tab Γ ⟨d, .alloc e, ty0, ps, af, g⟩ m st (K := K) = opI d (K := ⟨fun i => opI (ty tab e) (K := ⟨fun u => K.f [(i, .obj m u u.dflt)]⟩)⟩) := exOp_alloc (K := K.f)
theorem i_exOp_box [K : Kont Ups] {e : TypeId} : exI tab Γ ⟨d, .box e x, ty0, ps, af, g⟩ m st (K := K) = opI (look st x) (K := ⟨fun l => opI d (K := ⟨fun i => opI (frz l (ty tab e)) (K := ⟨fun r => K.f (r.2 ++ [(i, .obj m r.1.1 r.1.2)])⟩)⟩)⟩) := exOp_box (K := K.f)
theorem i_exOp_load [K : Kont Ups] : exI tab Γ ⟨d, .load t x, ty0, ps, af, g⟩ m st (K := K) = opI (look st x) (K := ⟨fun l => opI (aim l) (K := ⟨fun v => ty tab t = some v.1 ∧ opI (into d (.val v.1 v.2)) (K := K)⟩)⟩) := exOp_load (K := K.f)
theorem i_exOp_store [K : Kont Ups] : exI tab Γ ⟨none, .store t x y, ty0, ps, af, g⟩ m st (K := K) = opI (look st x) (K := ⟨fun l => opI (look st y) (K := ⟨fun k => opI (stepStore tab t l k) (K := K)⟩)⟩) := exOp_store (K := K.f)
theorem i_exOp_nilCheck [K : Kont Ups] : exI tab Γ ⟨d, .nilCheck x, ty0, ps, af, g⟩ m st (K := K) = opI (look st x) (K := ⟨fun l => opI (aim l) (K := ⟨fun _ => opI (into d l.s) (K := K)⟩)⟩) := exOp_nilCheck (K := K.f)
theorem i_exOp_bin [K : Kont Ups] {op : BinOp} : exI tab Γ ⟨d, .binOp op t x y t2, ty0, ps, af, g⟩ m st (K := K) = opI (look st x) (K := ⟨fun l => opI (look st y) (K := ⟨fun k => opI (stepBin tab op t d l k) (K := K)⟩)⟩) := exOp_bin (K := K.f)
theorem i_exOp_un [K : Kont Ups] {op : UnOp} : exI tab Γ ⟨d, .unOp op t x, ty0, ps, af, g⟩ m st (K := K) = opI (look st x) (K := ⟨fun l => opI (stepUn op d l) (K := K)⟩) := exOp_un (K := K.f)
theorem i_exOp_convert [K : Kont Ups] : exI tab Γ ⟨d, .convert t t2 x, ty0, ps, af, g⟩ m st (K := K) = opI (look st x) (K := ⟨fun l => opI (stepConvert tab t t2 d m l) (K := K)⟩) := exOp_convert (K := K.f)
theorem i_exOp_make [K : Kont Ups] : exI tab Γ ⟨d, .makeSlice t x y, ty0, ps, af, g⟩ m st (K := K) = opI (look st x) (K := ⟨fun l => opI (look st y) (K := ⟨fun k => opI (stepMake tab t d m l k) (K := K)⟩)⟩) := exOp_make (K := K.f)
theorem i_exOp_slice0 [K : Kont Ups] : exI tab Γ ⟨d, .slice t x none none none, ty0, ps, af, g⟩ m st (K := K) = opI (look st x) (K := ⟨fun l => opI (stepSl tab t d l none none) (K := K)⟩) := exOp_slice0 (K := K.f)
theorem i_exOp_slice1 [K : Kont Ups] : exI tab Γ ⟨d, .slice t x (some y) none none, ty0, ps, af, g⟩ m st (K := K) = opI (look st x) (K := ⟨fun l => opI (look st y) (K := ⟨fun k => opI (stepSl tab t d l (some k) none) (K := K)⟩)⟩) := exOp_slice1 (K := K.f)
theorem i_exOp_slice2 [K : Kont Ups] : exI tab Γ ⟨d, .slice t x none (some y) none, ty0, ps, af, g⟩ m st (K := K) = opI (look st x) (K := ⟨fun l => opI (look st y) (K := ⟨fun k => opI (stepSl tab t d l none (some k)) (K := K)⟩)⟩) := exOp_slice2 (K := K.f)
theorem i_exOp_slice3 [K : Kont Ups] : exI tab Γ ⟨d, .slice t x (some y) (some z) none, ty0, ps, af, g⟩ m st (K := K) = opI (look st x) (K := ⟨fun l => opI (look st y) (K := ⟨fun k => opI (look st z) (K := ⟨fun j => opI (stepSl tab t d l (some k) (some j)) (K := K)⟩)⟩)⟩) := exOp_slice3 (K := K.f)
theorem i_exOp_fieldAddr [K : Kont Ups] {f : Nat} : exI tab Γ ⟨d, .fieldAddr t x f, ty0, ps, af, g⟩ m st (K := K) = opI (look st x) (K := ⟨fun l => opI (stepFieldAddr tab t l f) (K := ⟨fun s => opI (into d s) (K := K)⟩)⟩) := exOp_fieldAddr (K := K.f)
theorem i_exOp_indexAddr [K : Kont Ups] : exI tab Γ ⟨d, .indexAddr t x y, ty0, ps, af, g⟩ m st (K := K) = opI (look st x) (K := ⟨fun l => opI (look st y) (K := ⟨fun k => opI (stepIndexAddr tab t l k) (K := ⟨fun s => opI (into d s) (K := K)⟩)⟩)⟩) := exOp_indexAddr (K := K.f)
theorem i_exOp_index [K : Kont Ups] : exI tab Γ ⟨d, .index t x y, ty0, ps, af, g⟩ m st (K := K) = opI (look st x) (K := ⟨fun l => opI (look st y) (K := ⟨fun k => opI (stepIndex tab t d l k) (K := K)⟩)⟩) := exOp_index (K := K.f)
theorem i_exOp_build [K : Kont Ups] {parts : Array (Nat × Operand)} : exI tab Γ ⟨d, .build t parts, ty0, ps, af, g⟩ m st (K := K) = opI (looks st (parts.toList.map (·.2))) (K := ⟨fun ls => opI (stepBuild tab t (parts.toList.map (·.1)) d ls) (K := K)⟩) := exOp_build (K := K.f)
theorem i_exOp_buildSlice [K : Kont Ups] {n : Nat} {parts : Array (Nat × Operand)} : exI tab Γ ⟨d, .buildSlice t n parts, ty0, ps, af, g⟩ m st (K := K) = opI (looks st (parts.toList.map (·.2))) (K := ⟨fun ls => opI (stepBuildSlice tab t n (parts.toList.map (·.1)) d m ls) (K := K)⟩) := exOp_buildSlice (K := K.f)
theorem i_exOp_call [K : Kont Ups] {c : Call} : exI tab Γ ⟨d, .call c, ty0, ps, af, g⟩ m st (K := K) = opI (looks st (opnds (.call c))) (K := ⟨fun ls => opI (stepCall tab Γ c d m ls) (K := K)⟩) := exOp_call (K := K.f)
end
section
variable {tab : Tab} {Γ : Cons} {d : Option Tmp} {m : Nat} {st : St} {t t2 : TypeId} {c c' : Slot} {u u' : Ty} {n s n' : Nat} {lo len : Nat}
theorem i_opt_ite_none {α : Type} {p : Prop} [Decidable p] {x : Option α} [K : Kont (α)] : opI (if p then none else x) (K := K) = (¬ p ∧ opI x (K := K)) := opt_ite_none (K := K.f)
theorem i_opt_cast {u : Ty} {x : u.den} [F : Kont (u.den)] : opI (castTo u u x) (K := F) = F.f x := opt_cast (F := F.f)
theorem i_into_none [K : Kont Ups] {s : Slot} : opI (into none s) (K := K) = K.f [] := into_none (K := K.f)
theorem i_into_dst [K : Kont Ups] {i : Nat} {s : Slot} : opI (into (some i) s) (K := K) = ((aliasOf s).map (·.2) ≠ some i ∧ K.f [(i, s)]) := into_dst (K := K.f)
theorem i_into_v [K : Kont Ups] {i : Nat} {v : u.den} : opI (into (some i) (.val u v)) (K := K) = K.f [(i, .val u v)] := into_v (K := K.f)
theorem i_into_nil [K : Kont Ups] {i : Nat} : opI (into (some i) .nil) (K := K) = K.f [(i, .nil)] := into_nil (K := K.f)
theorem i_into_dead [K : Kont Ups] {i : Nat} : opI (into (some i) .dead) (K := K) = K.f [(i, .dead)] := into_dead (K := K.f)
theorem i_into_rpt [K : Kont Ups] {i : Nat} {v : u.den} : opI (into (some i) (.rpt u v)) (K := K) = K.f [(i, .rpt u v)] := into_rpt (K := K.f)
theorem i_into_clo [K : Kont Ups] {i : Nat} {f : FuncId} {l : List Dv} : opI (into (some i) (.clo f l)) (K := K) = K.f [(i, .clo f l)] := into_clo (K := K.f)
theorem i_into_tup [K : Kont Ups] {i : Nat} {l : List Dv} : opI (into (some i) (.tup l)) (K := K) = K.f [(i, .tup l)] := into_tup (K := K.f)
theorem i_into_asl [K : Kont Ups] {i : Nat} {rg : Option (Nat × Nat)} : opI (into (some i) (.asl n s rg)) (K := K) = (s ≠ i ∧ K.f [(i, .asl n s rg)]) := into_asl (K := K.f)
theorem i_into_apt [K : Kont Ups] {i : Nat} {p : List Way} : opI (into (some i) (.apt n s p)) (K := K) = (s ≠ i ∧ K.f [(i, .apt n s p)]) := into_apt (K := K.f)
theorem i_assign_none [K : Kont Ups] {l : Lk} : opI (stepAssign none m l) (K := K) = K.f [] := assign_none (K := K.f)
theorem i_assign_v [K : Kont Ups] {i : Nat} {v : u.den} : opI (stepAssign (some i) m ⟨.val u v, c⟩) (K := K) = K.f [(i, .val u v)] := assign_v (K := K.f)
theorem i_assign_nil [K : Kont Ups] {i : Nat} : opI (stepAssign (some i) m ⟨.nil, c⟩) (K := K) = K.f [(i, .nil)] := assign_nil (K := K.f)
theorem i_assign_dead [K : Kont Ups] {i : Nat} : opI (stepAssign (some i) m ⟨.dead, c⟩) (K := K) = K.f [(i, .dead)] := assign_dead (K := K.f)
theorem i_assign_rpt [K : Kont Ups] {i : Nat} {v : u.den} : opI (stepAssign (some i) m ⟨.rpt u v, c⟩) (K := K) = K.f [(i, .rpt u v)] := assign_rpt (K := K.f)
theorem i_assign_tup [K : Kont Ups] {i : Nat} {l : List Dv} : opI (stepAssign (some i) m ⟨.tup l, c⟩) (K := K) = K.f [(i, .tup l)] := assign_tup (K := K.f)
theorem i_assign_row [K : Kont Ups] {i : Nat} {xs : List u.den} : opI (stepAssign (some i) m ⟨.asl n s none, .own n' u xs⟩) (K := K) = (n = n' ∧ if s = i then K.f [] else K.f [(s, .asl m i none), (i, .own m u xs)]) := assign_row (K := K.f)
theorem i_assign_part [K : Kont Ups] {i : Nat} {xs : List u.den} : opI (stepAssign (some i) m ⟨.asl n s (some (lo, len)), .own n' u xs⟩) (K := K) = (n = n' ∧ if s = i then K.f [(i, .own m u ((xs.drop lo).take len))] else K.f [(i, .asl n s (some (lo, len)))]) := assign_part (K := K.f)
theorem i_assign_obj [K : Kont Ups] {i : Nat} {v : u.den} : opI (stepAssign (some i) m ⟨.apt n s [], .obj n' u v⟩) (K := K) = (n = n' ∧ if s = i then K.f [] else if ghost ≤ s then K.f [(i, .apt n s [])] else K.f [(s, .apt m i []), (i, .obj m u v)]) := assign_obj (K := K.f)
theorem i_assign_apt [K : Kont Ups] {i : Nat} {q : Way} {p : List Way} : opI (stepAssign (some i) m ⟨.apt n s (q :: p), c⟩) (K := K) = (s ≠ i ∧ K.f [(i, .apt n s (q :: p))]) := assign_apt (K := K.f)
theorem i_frz_val {v : u.den} {w : Option Ty} [F : Kont (Dv × Ups)] : opI (frz ⟨.val u v, c⟩ w) (K := F) = F.f (⟨u, v⟩, []) := frz_val (F := F.f)
theorem i_frz_nil [F : Kont (Dv × Ups)] : opI (frz ⟨.nil, c⟩ (some (.slice u))) (K := F) = F.f (⟨.slice u, []⟩, []) := frz_nil (F := F.f)
theorem i_frz_row {xs : List u.den} {w : Option Ty} [F : Kont (Dv × Ups)] : opI (frz ⟨.asl n s none, .own n' u xs⟩ w) (K := F) = (n = n' ∧ F.f (⟨.slice u, xs⟩, [(s, .val (.slice u) xs)])) := frz_row (F := F.f)
theorem i_frz_part {xs : List u.den} {w : Option Ty} [F : Kont (Dv × Ups)] : opI (frz ⟨.asl n s (some (lo, len)), .own n' u xs⟩ w) (K := F) = (n = n' ∧ F.f (⟨.slice u, (xs.drop lo).take len⟩, [(s, .val (.slice u) xs)])) := frz_part (F := F.f)
theorem i_aim_rpt {v : u.den} [F : Kont (Dv)] : opI (aim ⟨.rpt u v, c⟩) (K := F) = F.f ⟨u, v⟩ := aim_rpt (F := F.f)
theorem i_aim_obj {v : u.den} {p : List Way} [F : Kont (Dv)] : opI (aim ⟨.apt n s p, .obj n' u v⟩) (K := F) = (n = n' ∧ opI (get u v p) (K := F)) := aim_obj (F := F.f)
theorem i_aim_own {xs : List u.den} {q : Way} {p : List Way} [F : Kont (Dv)] : opI (aim ⟨.apt n s (q :: p), .own n' u xs⟩) (K := F) = (n = n' ∧ opI (get (.arr 0 u) xs (q :: p)) (K := F)) := aim_own (F := F.f)
theorem i_get_nil {v : u.den} [F : Kont (Dv)] : opI (get u v []) (K := F) = F.f ⟨u, v⟩ := get_nil (F := F.f)
theorem i_get_fst {a b : Ty} {v : (Ty.prod a b).den} {p : List Way} [F : Kont (Dv)] : opI (get (.prod a b) v (.fld 0 :: p)) (K := F) = opI (get a v.1 p) (K := F) := get_fst (F := F.f)
theorem i_get_snd {a b : Ty} {v : (Ty.prod a b).den} {j : Nat} {p : List Way} [F : Kont (Dv)] : opI (get (.prod a b) v (.fld (j + 1) :: p)) (K := F) = opI (get b v.2 (.fld j :: p)) (K := F) := get_snd (F := F.f)
theorem i_get_idx {k i : Nat} {xs : List u.den} {p : List Way} [F : Kont (Dv)] : opI (get (.arr k u) xs (.idx i :: p)) (K := F) = (i < xs.length ∧ opI (get u (xs.getD i u.dflt) p) (K := F)) := get_idx (F := F.f)
theorem i_castK_self {u : Ty} {x : u.den} [F : Kont (u.den)] : castI u u x (K := F) = F.f x := castK_self (F := F.f)
theorem i_updo_nil {v : u.den} {y : u'.den} [F : Kont (u.den)] : updI u v [] u' y (K := F) = castI u' u y (K := F) := updo_nil (F := F.f)
theorem i_upd_fst {a b : Ty} {v : (Ty.prod a b).den} {p : List Way} {y : u'.den} [F : Kont ((Ty.prod a b).den)] : updI (.prod a b) v (.fld 0 :: p) u' y (K := F) = updI a v.1 p u' y (K := ⟨fun z => F.f (z, v.2)⟩) := upd_fst (F := F.f)
theorem i_upd_snd {a b : Ty} {v : (Ty.prod a b).den} {j : Nat} {p : List Way} {y : u'.den} [F : Kont ((Ty.prod a b).den)] : updI (.prod a b) v (.fld (j + 1) :: p) u' y (K := F) = updI b v.2 (.fld j :: p) u' y (K := ⟨fun z => F.f (v.1, z)⟩) := upd_snd (F := F.f)
theorem i_upd_idx {k i : Nat} {xs : List u.den} {p : List Way} {y : u'.den} [F : Kont (List u.den)] : updI (.arr k u) xs (.idx i :: p) u' y (K := F) = (i < xs.length ∧ updI u (xs.getD i u.dflt) p u' y (K := ⟨fun z => F.f (xs.set i z)⟩)) := upd_idx (F := F.f)
theorem i_store_obj [K : Kont Ups] {v : u.den} {p : List Way} {l : Lk} : opI (stepStore tab t ⟨.apt n s p, .obj n' u v⟩ l) (K := K) = opI (frz l (ty tab t)) (K := ⟨fun r => ty tab t = some r.1.1 ∧ n = n' ∧ updI u v p r.1.1 r.1.2 (K := ⟨fun z => K.f ((s, .obj n' u z) :: r.2)⟩)⟩) := store_obj (K := K.f)
theorem i_store_own [K : Kont Ups] {xs : List u.den} {q : Way} {p : List Way} {l : Lk} : opI (stepStore tab t ⟨.apt n s (q :: p), .own n' u xs⟩ l) (K := K) = opI (frz l (ty tab t)) (K := ⟨fun r => ty tab t = some r.1.1 ∧ (n = n' ∧ r.2.all (fun z => decide (z.1 ≠ s)) = true) ∧ updI (.arr 0 u) xs (q :: p) r.1.1 r.1.2 (K := ⟨fun z => K.f ((s, .own n u z) :: r.2)⟩)⟩) := store_own (K := K.f)
theorem i_ixa_val {k : IntKind} {i : Int} {xs : List u.den} [F : Kont (Slot)] : opI (stepIndexAddr tab t ⟨.val (.slice u) xs, c⟩ ⟨.val (.int k) i, c'⟩) (K := F) = (ty tab t = some (.slice u) ∧ (0 ≤ i ∧ i < (xs.length : Int)) ∧ F.f (.rpt u (xs.getD i.toNat u.dflt))) := ixa_val (F := F.f)
theorem i_ixa_row {k : IntKind} {i : Int} {xs : List u.den} [F : Kont (Slot)] : opI (stepIndexAddr tab t ⟨.asl n s none, .own n' u xs⟩ ⟨.val (.int k) i, c'⟩) (K := F) = (ty tab t = some (.slice u) ∧ n = n' ∧ (0 ≤ i ∧ i < (xs.length : Int)) ∧ F.f (.apt n s [.idx i.toNat])) := ixa_row (F := F.f)
theorem i_ixa_part {k : IntKind} {i : Int} {xs : List u.den} [F : Kont (Slot)] : opI (stepIndexAddr tab t ⟨.asl n s (some (lo, len)), .own n' u xs⟩ ⟨.val (.int k) i, c'⟩) (K := F) = (ty tab t = some (.slice u) ∧ n = n' ∧ (0 ≤ i ∧ i < (len : Int)) ∧ F.f (.apt n s [.idx (lo + i.toNat)])) := ixa_part (F := F.f)
theorem i_arrAt_arr {k : Nat} {xs : List u.den} {i : Int} [F : KontT] : arrAtI tab t i ⟨.arr k u, xs⟩ (K := F) = (ty tab t = some (.arr k u) ∧ (0 ≤ i ∧ i < (k : Int)) ∧ F.f u (xs.getD i.toNat u.dflt)) := arrAt_arr (F := F.f)
theorem i_ixa_rpt {k : IntKind} {i : Int} {v : u.den} [F : Kont (Slot)] : opI (stepIndexAddr tab t ⟨.rpt u v, c⟩ ⟨.val (.int k) i, c'⟩) (K := F) = arrAtI tab t i ⟨u, v⟩ (K := ⟨fun u' y => F.f (.rpt u' y)⟩) := ixa_rpt (F := F.f)
theorem i_ixa_apt {k : IntKind} {i : Int} {p : List Way} [F : Kont (Slot)] : opI (stepIndexAddr tab t ⟨.apt n s p, c⟩ ⟨.val (.int k) i, c'⟩) (K := F) = opI (aim ⟨.apt n s p, c⟩) (K := ⟨fun w => arrAtI tab t i w (K := ⟨fun _ _ => F.f (.apt n s (p ++ [.idx i.toNat]))⟩)⟩) := ixa_apt (F := F.f)
theorem i_fla_rpt {v : u.den} {f : Nat} [F : Kont (Slot)] : opI (stepFieldAddr tab t ⟨.rpt u v, c⟩ f) (K := F) = (ty tab t = some u ∧ opI (get u v [.fld f]) (K := ⟨fun w => F.f (.rpt w.1 w.2)⟩)) := fla_rpt (F := F.f)
theorem i_fla_apt {p : List Way} {f : Nat} [F : Kont (Slot)] : opI (stepFieldAddr tab t ⟨.apt n s p, c⟩ f) (K := F) = opI (aim ⟨.apt n s p, c⟩) (K := ⟨fun w => ty tab t = some w.1 ∧ opI (get w.1 w.2 [.fld f]) (K := ⟨fun _ => F.f (.apt n s (p ++ [.fld f]))⟩)⟩) := fla_apt (F := F.f)
theorem i_bin_val [K : Kont Ups] {op : BinOp} {v : u.den} {z : u'.den} : opI (stepBin tab op t d ⟨.val u v, c⟩ ⟨.val u' z, c'⟩) (K := K) = (binTy tab t u = true ∧ opI (bin op ⟨u, v⟩ ⟨u', z⟩) (K := ⟨fun r => opI (into d (.val r.1 r.2)) (K := K)⟩)) := bin_val (K := K.f)
theorem i_un_val [K : Kont Ups] {op : UnOp} {v : u.den} : opI (stepUn op d ⟨.val u v, c⟩) (K := K) = opI (un op ⟨u, v⟩) (K := ⟨fun r => opI (into d (.val r.1 r.2)) (K := K)⟩) := un_val (K := K.f)
theorem i_conv_int [K : Kont Ups] {k : IntKind} {i : Int} : opI (stepConvert tab t t2 d m ⟨.val (.int k) i, c⟩) (K := K) = onIntI (ty tab t) (K := ⟨fun _ => onIntI (ty tab t2) (K := ⟨fun k' => opI (into d (.val (.int k') (k'.wrap i))) (K := K)⟩)⟩) := conv_int (K := K.f)
theorem i_finOne_tmp {k : Nat} {r : Res} : finOne tab st (.tmp k) r = opI (look st (.tmp k)) (K := ⟨fun l => finOK l r⟩) := finOne_tmp
theorem i_finOne_cell {k : Nat} {e : TypeId} {w : Dv} : finOne tab st (.cell k e) (.val w) = opI (look st (.tmp k)) (K := ⟨fun l => opI (aim l) (K := ⟨fun v => v = w ∧ ty tab e = some w.1⟩)⟩) := finOne_cell
theorem i_finOK_val {l : Lk} {w : Dv} : finOK l (.val w) = opI (frz l (some w.1)) (K := ⟨fun r => r.1 = w⟩) := finOK_val
theorem i_index_str [K : Kont Ups] {k : IntKind} {i : Int} {z : ByteArray} : opI (stepIndex tab t d ⟨.val .str z, c⟩ ⟨.val (.int k) i, c'⟩) (K := K) = ((ty tab t = some .str ∧ 0 ≤ i ∧ i < (z.size : Int)) ∧ opI (into d (.val (.int .u8) (byteAt z i.toNat))) (K := K)) := index_str (K := K.f)
theorem i_index_arr [K : Kont Ups] {k : IntKind} {i : Int} {l : Nat} {xs : List u.den} : opI (stepIndex tab t d ⟨.val (.arr l u) xs, c⟩ ⟨.val (.int k) i, c'⟩) (K := K) = ((ty tab t = some (.arr l u) ∧ 0 ≤ i ∧ i < (l : Int)) ∧ opI (into d (.val u (xs.getD i.toNat u.dflt))) (K := K)) := index_arr (K := K.f)
theorem i_make_ok [K : Kont Ups] {k k' : IntKind} {i j : Int} {b : Nat} : opI (stepMake tab t (some b) m ⟨.val (.int k) i, c⟩ ⟨.val (.int k') j, c'⟩) (K := K) = onSliceI (ty tab t) (K := ⟨fun u => (0 ≤ i ∧ i ≤ j ∧ j * (u.mx : Int) ≤ 281474976710656) ∧ K.f [(b, .own m u (List.replicate i.toNat u.dflt))]⟩) := make_ok (K := K.f)
theorem i_pick_val [K : Kont Ups] {b : Bool} {v w : u.den} {e1 e2 e3 : Slot} : opI (stepPick d ⟨.val .bool b, e1⟩ ⟨.val u v, e2⟩ ⟨.val u w, e3⟩) (K := K) = opI (into d (.val u (if b = true then v else w))) (K := K) := pick_val (K := K.f)
theorem i_call_fn [K : Kont Ups] {f : FuncId} {args : Array Operand} {ts : Array TypeId} {ls : List Lk} : opI (stepCall tab Γ { callee := .value (.func f), args := args, argTypes := ts } d m ls) (K := K) = opI (Γ f) (K := ⟨fun con => opI (toArgsM (rowy con) ls (ts.toList.map (ty tab))) (K := ⟨fun as => opI (callT con d m as) (K := K)⟩)⟩) := call_fn (K := K.f)
theorem i_callT_ok [K : Kont Ups] {con : Con} {as : List Lent} : opI (callT con d m as) (K := K) = ((nodup (iosOf as) && (lentsOf as).all (fun l => !(iosOf as).contains l.1) && dstFree d (iosOf as)) = true ∧ opI (con (as.map (·.arg))) (K := ⟨fun out => out.res.isPanic = false ∧ opI (ioUps as out.ios) (K := ⟨fun u => K.f ((if out.far then lentsOf as else []) ++ u ++ dstUps d (out.res.slot m))⟩)⟩)) := callT_ok (K := K.f)
theorem i_call_len [K : Kont Ups] {x : Operand} {l : Lk} : opI (stepCall tab Γ { callee := .builtin .len, args := #[x], argTypes := #[t] } d m [l]) (K := K) = opI (lenOf? tab t l) (K := ⟨fun k => opI (into d (.val (.int .i64) (k : Int))) (K := K)⟩) := call_len (K := K.f)
theorem i_call_append [K : Kont Ups] {x y : Operand} {l k : Lk} : opI (stepCall tab Γ { callee := .builtin .append, args := #[x, y], argTypes := #[t, t2] } d m [l, k]) (K := K) = opI (stepAppend tab t t2 d m l k) (K := K) := call_append (K := K.f)
theorem i_append_ok [K : Kont Ups] {i : Nat} {x y : Lk} : opI (stepAppend tab t t2 (some i) m x y) (K := K) = onSliceI (ty tab t) (K := ⟨fun u => moreI tab u t2 y (K := ⟨fun ys => priorI u x (K := ⟨fun xs s => appI xs ys (K := ⟨fun zs => K.f ((match s with | some s => [(s, .dead)] | none => []) ++ [(i, .own m u zs)])⟩)⟩)⟩)⟩) := append_ok (K := K.f)
theorem i_more_val {ys : List u.den} [F : Kont (List u.den)] : moreI tab u t2 ⟨.val (.slice u) ys, c⟩ (K := F) = onSliceI (ty tab t2) (K := ⟨fun _ => F.f ys⟩) := more_val (F := F.f)
theorem i_more_nil [F : Kont (List u.den)] : moreI tab u t2 ⟨.nil, c⟩ (K := F) = onSliceI (ty tab t2) (K := ⟨fun _ => F.f []⟩) := more_nil (F := F.f)
theorem i_more_row {ys : List u.den} [F : Kont (List u.den)] : moreI tab u t2 ⟨.asl n s none, .own n u ys⟩ (K := F) = onSliceI (ty tab t2) (K := ⟨fun _ => F.f ys⟩) := more_row (F := F.f)
theorem i_more_part {ys : List u.den} [F : Kont (List u.den)] : moreI tab u t2 ⟨.asl n s (some (lo, len)), .own n u ys⟩ (K := F) = onSliceI (ty tab t2) (K := ⟨fun _ => F.f ((ys.drop lo).take len)⟩) := more_part (F := F.f)
theorem i_more_str {z : ByteArray} [F : Kont (List Int)] : moreI tab (.int .u8) t2 ⟨.val .str z, c⟩ (K := F) = (ty tab t2 = some .str ∧ F.f (bytesOf z)) := more_str (F := F.f)
theorem i_prior_nil [F : Kont2 (List u.den) (Option Nat)] : priorI u ⟨.nil, c⟩ (K := F) = F.f [] none := prior_nil (F := F.f)
theorem i_prior_row {xs : List u.den} [F : Kont2 (List u.den) (Option Nat)] : priorI u ⟨.asl n s none, .own n u xs⟩ (K := F) = F.f xs (some s) := prior_row (F := F.f)
theorem i_prior_part {xs : List u.den} [F : Kont2 (List u.den) (Option Nat)] : priorI u ⟨.asl n s (some (0, len)), .own n u xs⟩ (K := F) = F.f (xs.take len) (some s) := prior_part (F := F.f)
end
section
variable {tab : Tab} {Γ : Cons} {d : Option Tmp} {m : Nat} {st : St} {t t2 : TypeId} {c c' : Slot} {u u' : Ty} {n s n' : Nat} {lo len : Nat}
theorem i_fillK_nil {v : u.den} [F : Kont (u.den)] : fillI u v [] (K := F) = F.f v := fillK_nil (F := F.f)
theorem i_fillK_arr {k i : Nat} {w : Dv} {r : List (Nat × Dv)} {v : List u.den} [F : Kont (List u.den)] : fillI (.arr k u) v ((i, w) :: r) (K := F) = updI (.arr k u) v [.idx i] w.1 w.2 (K := ⟨fun v' => fillI (.arr k u) v' r (K := F)⟩) := fillK_arr (F := F.f)
theorem i_fillK_prod {a b : Ty} {i : Nat} {w : Dv} {r : List (Nat × Dv)} {v : (Ty.prod a b).den} [F : Kont ((Ty.prod a b).den)] : fillI (.prod a b) v ((i, w) :: r) (K := F) = updI (.prod a b) v [.fld i] w.1 w.2 (K := ⟨fun v' => fillI (.prod a b) v' r (K := F)⟩) := fillK_prod (F := F.f)
theorem i_frzAll_nil {ws : List (Option Ty)} [F : Kont (List Dv × Ups)] : opI (frzAll [] ws) (K := F) = F.f ([], []) := frzAll_nil (F := F.f)
theorem i_frzAll_cons {x : Lk} {r : List Lk} {w : Option Ty} {ws : List (Option Ty)} [F : Kont (List Dv × Ups)] : opI (frzAll (x :: r) (w :: ws)) (K := F) = opI (frz x w) (K := ⟨fun a => opI (frzAll r ws) (K := ⟨fun b => F.f (a.1 :: b.1, a.2 ++ b.2)⟩)⟩) := frzAll_cons (F := F.f)
theorem i_buildSlice_ok [K : Kont Ups] {idx : List Nat} {i : Nat} {ls : List Lk} : opI (stepBuildSlice tab t len idx (some i) m ls) (K := K) = onSliceI (ty tab t) (K := ⟨fun u => len * u.sz ≤ 16777216 ∧ opI (frzAll ls (idx.map fun _ => some u)) (K := ⟨fun r => fillI (.arr len u) (List.replicate len u.dflt) (idx.zip r.1) (K := ⟨fun xs => K.f (r.2 ++ [(i, .own m u xs)])⟩)⟩)⟩) := buildSlice_ok (K := K.f)
theorem i_pick_tup [K : Kont Ups] {b : Bool} {l : List Dv} {v : u.den} {e1 e2 e3 : Slot} : opI (stepPick d ⟨.val .bool b, e1⟩ ⟨.tup l, e2⟩ ⟨.val u v, e3⟩) (K := K) = opI (into d (if b = true then .tup l else .val u v)) (K := K) := pick_tup (K := K.f)
theorem i_pick_tup2 [K : Kont Ups] {b : Bool} {l : List Dv} {v : u.den} {e1 e2 e3 : Slot} : opI (stepPick d ⟨.val .bool b, e1⟩ ⟨.val u v, e2⟩ ⟨.tup l, e3⟩) (K := K) = opI (into d (if b = true then .val u v else .tup l)) (K := K) := pick_tup2 (K := K.f)
theorem i_cut_none [F : Kont (Nat × Nat)] {k : Int} : opI (cutB none none k) (K := F) = F.f (0, k.toNat) := cut_none (F := F.f)
theorem i_cut_lo {q : IntKind} {i k : Int} [F : Kont (Nat × Nat)] : opI (cutB (some ⟨.val (.int q) i, c⟩) none k) (K := F) = ((0 ≤ i ∧ i ≤ k) ∧ F.f (i.toNat, k.toNat)) := cut_lo (F := F.f)
theorem i_cut_hi {q : IntKind} {i k : Int} [F : Kont (Nat × Nat)] : opI (cutB none (some ⟨.val (.int q) i, c⟩) k) (K := F) = ((0 ≤ i ∧ i ≤ k) ∧ F.f (0, i.toNat)) := cut_hi (F := F.f)
theorem i_cut_both {q q' : IntKind} {i j k : Int} [F : Kont (Nat × Nat)] : opI (cutB (some ⟨.val (.int q) i, c⟩) (some ⟨.val (.int q') j, c'⟩) k) (K := F) = ((0 ≤ j ∧ j ≤ k) ∧ (0 ≤ i ∧ i ≤ j) ∧ F.f (i.toNat, j.toNat)) := cut_both (F := F.f)
theorem i_slice_str {lo hi : Option Lk} {z : ByteArray} [F : Kont (Slot)] : opI (stepSlice tab t ⟨.val .str z, c⟩ lo hi) (K := F) = (ty tab t = some .str ∧ opI (cutB lo hi (z.size : Int)) (K := ⟨fun p => F.f (.val .str (z.extract p.1 p.2))⟩)) := slice_str (F := F.f)
theorem i_slice_val {lo hi : Option Lk} {xs : List u.den} [F : Kont (Slot)] : opI (stepSlice tab t ⟨.val (.slice u) xs, c⟩ lo hi) (K := F) = (ty tab t = some (.slice u) ∧ opI (cutB lo hi (xs.length : Int)) (K := ⟨fun p => F.f (.val (.slice u) ((xs.drop p.1).take (p.2 - p.1)))⟩)) := slice_val (F := F.f)
theorem i_slice_row0 {xs : List u.den} [F : Kont (Slot)] : opI (stepSlice tab t ⟨.asl n s none, .own n' u xs⟩ none none) (K := F) = ((n = n' ∧ ty tab t = some (.slice u)) ∧ F.f (.asl n s none)) := slice_row0 (F := F.f)
theorem i_slice_row1 {lo : Lk} {xs : List u.den} [F : Kont (Slot)] : opI (stepSlice tab t ⟨.asl n s none, .own n' u xs⟩ (some lo) none) (K := F) = ((n = n' ∧ ty tab t = some (.slice u)) ∧ opI (cutB (some lo) none (xs.length : Int)) (K := ⟨fun p => F.f (.asl n s (some (p.1, p.2 - p.1)))⟩)) := slice_row1 (F := F.f)
theorem i_slice_row2 {hi : Lk} {xs : List u.den} [F : Kont (Slot)] : opI (stepSlice tab t ⟨.asl n s none, .own n' u xs⟩ none (some hi)) (K := F) = ((n = n' ∧ ty tab t = some (.slice u)) ∧ opI (cutB none (some hi) (xs.length : Int)) (K := ⟨fun p => F.f (.asl n s (some (p.1, p.2 - p.1)))⟩)) := slice_row2 (F := F.f)
theorem i_slice_row3 {lo hi : Lk} {xs : List u.den} [F : Kont (Slot)] : opI (stepSlice tab t ⟨.asl n s none, .own n' u xs⟩ (some lo) (some hi)) (K := F) = ((n = n' ∧ ty tab t = some (.slice u)) ∧ opI (cutB (some lo) (some hi) (xs.length : Int)) (K := ⟨fun p => F.f (.asl n s (some (p.1, p.2 - p.1)))⟩)) := slice_row3 (F := F.f)
theorem i_slice_part {lo' hi : Option Lk} {xs : List u.den} [F : Kont (Slot)] : opI (stepSlice tab t ⟨.asl n s (some (lo, len)), .own n' u xs⟩ lo' hi) (K := F) = ((n = n' ∧ ty tab t = some (.slice u)) ∧ opI (cutB lo' hi (len : Int)) (K := ⟨fun p => F.f (.asl n s (some (lo + p.1, p.2 - p.1)))⟩)) := slice_part (F := F.f)
theorem i_min_two [K : Kont Ups] {x y : Operand} {k : IntKind} {a b : Int} {ts : Array TypeId} : opI (stepCall tab Γ { callee := .builtin .min, args := #[x, y], argTypes := ts } d m [⟨.val (.int k) a, c⟩, ⟨.val (.int k) b, c'⟩]) (K := K) = opI (into d (.val (.int k) (if b < a then b else a))) (K := K) := min_two (K := K.f)
theorem i_max_two [K : Kont Ups] {x y : Operand} {k : IntKind} {a b : Int} {ts : Array TypeId} : opI (stepCall tab Γ { callee := .builtin .max, args := #[x, y], argTypes := ts } d m [⟨.val (.int k) a, c⟩, ⟨.val (.int k) b, c'⟩]) (K := K) = opI (into d (.val (.int k) (if a < b then b else a))) (K := K) := max_two (K := K.f)
end
section
variable {t : TypeId} {c : Slot} {u : Ty} {n s : Nat} {lo len : Nat} {w : Option Ty} {ws : List (Option Ty)}
theorem i_oargs_nil [F : Kont (List Lent)] : opI (toArgs [] ws) (K := F) = F.f [] := oargs_nil (F := F.f)
theorem i_oargs_cons {x : Lk} {r : List Lk} [F : Kont (List Lent)] : opI (toArgs (x :: r) (w :: ws)) (K := F) = opI (toArg x w) (K := ⟨fun a => opI (toArgs r ws) (K := ⟨fun as => F.f (a :: as)⟩)⟩) := oargs_cons (F := F.f)
theorem i_oarg_val {v : u.den} [F : Kont (Lent)] : opI (toArg ⟨.val u v, c⟩ w) (K := F) = F.f ⟨.val ⟨u, v⟩, none, none⟩ := oarg_val (F := F.f)
theorem i_oarg_nil [F : Kont (Lent)] : opI (toArg ⟨.nil, c⟩ (some (.slice u))) (K := F) = F.f ⟨.val ⟨.slice u, []⟩, none, none⟩ := oarg_nil (F := F.f)
theorem i_oarg_row {xs : List u.den} [F : Kont (Lent)] : opI (toArg ⟨.asl n s none, .own n u xs⟩ w) (K := F) = F.f ⟨.val ⟨.slice u, xs⟩, some (s, .val (.slice u) xs), none⟩ := oarg_row (F := F.f)
theorem i_oarg_part {xs : List u.den} [F : Kont (Lent)] : opI (toArg ⟨.asl n s (some (lo, len)), .own n u xs⟩ w) (K := F) = F.f ⟨.val ⟨.slice u, (xs.drop lo).take len⟩, some (s, .val (.slice u) xs), none⟩ := oarg_part (F := F.f)
theorem i_oarg_obj {v : u.den} [F : Kont (Lent)] : opI (toArg ⟨.apt n s [], .obj n u v⟩ w) (K := F) = F.f ⟨.obj ⟨u, v⟩, none, some (s, n)⟩ := oarg_obj (F := F.f)
theorem i_oarg_rpt {v : u.den} [F : Kont (Lent)] : opI (toArg ⟨.rpt u v, c⟩ w) (K := F) = F.f ⟨.ptr ⟨u, v⟩, none, none⟩ := oarg_rpt (F := F.f)
theorem i_oargsR_nil [F : Kont (List Lent)] : opI (toArgsR [] ws) (K := F) = F.f [] := oargsR_nil (F := F.f)
theorem i_oargsR_cons {x : Lk} {r : List Lk} [F : Kont (List Lent)] : opI (toArgsR (x :: r) (w :: ws)) (K := F) = opI (toArgR x w) (K := ⟨fun a => opI (toArgsR r ws) (K := ⟨fun as => F.f (a :: as)⟩)⟩) := oargsR_cons (F := F.f)
theorem i_oarg_clo {f : FuncId} {l : List Dv} [F : Kont (Lent)] : opI (toArg ⟨.clo f l, c⟩ w) (K := F) = F.f ⟨.clo f l, none, none⟩ := oarg_clo (F := F.f)
theorem i_oargR_val {v : u.den} [F : Kont (Lent)] : opI (toArgR ⟨.val u v, c⟩ w) (K := F) = F.f ⟨.val ⟨u, v⟩, none, none⟩ := oargR_val (F := F.f)
theorem i_oargR_nil [F : Kont (Lent)] : opI (toArgR ⟨.nil, c⟩ (some (.slice u))) (K := F) = F.f ⟨.row u [], none, none⟩ := oargR_nil (F := F.f)
theorem i_oargR_row {xs : List u.den} [F : Kont (Lent)] : opI (toArgR ⟨.asl n s none, .own n u xs⟩ w) (K := F) = F.f ⟨.row u xs, none, some (s, n)⟩ := oargR_row (F := F.f)
theorem i_oargR_part {xs : List u.den} [F : Kont (Lent)] : opI (toArgR ⟨.asl n s (some (lo, len)), .own n u xs⟩ w) (K := F) = F.f ⟨.val ⟨.slice u, (xs.drop lo).take len⟩, some (s, .val (.slice u) xs), none⟩ := oargR_part (F := F.f)
theorem i_oargR_obj {v : u.den} [F : Kont (Lent)] : opI (toArgR ⟨.apt n s [], .obj n u v⟩ w) (K := F) = F.f ⟨.obj ⟨u, v⟩, none, some (s, n)⟩ := oargR_obj (F := F.f)
theorem i_oargR_rpt {v : u.den} [F : Kont (Lent)] : opI (toArgR ⟨.rpt u v, c⟩ w) (K := F) = F.f ⟨.ptr ⟨u, v⟩, none, none⟩ := oargR_rpt (F := F.f)
theorem i_oargR_clo {f : FuncId} {l : List Dv} [F : Kont (Lent)] : opI (toArgR ⟨.clo f l, c⟩ w) (K := F) = F.f ⟨.clo f l, none, none⟩ := oargR_clo (F := F.f)
theorem i_catchs_nil [F : Kont (List Dv × Ups)] : opI (catchs []) (K := F) = F.f ([], []) := catchs_nil (F := F.f)
theorem i_catchs_cons {x : Lk} {r : List Lk} [F : Kont (List Dv × Ups)] : opI (catchs (x :: r)) (K := F) = opI (catch1 x) (K := ⟨fun p => opI (catchs r) (K := ⟨fun q => F.f (p.1 :: q.1, p.2 ++ q.2)⟩)⟩) := catchs_cons (F := F.f)
theorem i_catch_obj {n' : Nat} {v : u.den} [F : Kont (Dv × Ups)] : opI (catch1 ⟨.apt n s [], .obj n' u v⟩) (K := F) = ((n = n' ∧ s < ghost) ∧ F.f (⟨u, v⟩, [(s, .rpt u v)])) := catch_obj (F := F.f)
theorem i_catch_rpt {v : u.den} [F : Kont (Dv × Ups)] : opI (catch1 ⟨.rpt u v, c⟩) (K := F) = F.f (⟨u, v⟩, []) := catch_rpt (F := F.f)
theorem i_ups_row {t : Ty} {xs : List t.den} {l : Option (Nat × Slot)} {as : List Lent} {ds : List Dv} [F : Kont (Ups)] : opI (ioUps (⟨.row t xs, l, some (s, n)⟩ :: as) ds) (K := F) = opI (ioUps as ds) (K := ⟨fun r => F.f ((s, .dead) :: r)⟩) := ups_row (F := F.f)
theorem i_ups_nil [F : Kont (Ups)] : opI (ioUps [] []) (K := F) = F.f [] := ups_nil (F := F.f)
theorem i_ups_none {a : Arg} {l : Option (Nat × Slot)} {as : List Lent} {ds : List Dv} [F : Kont (Ups)] : opI (ioUps (⟨a, l, none⟩ :: as) ds) (K := F) = opI (ioUps as ds) (K := F) := ups_none (F := F.f)
theorem i_ups_some {v v' : u.den} {l : Option (Nat × Slot)} {as : List Lent} {ds : List Dv} [F : Kont (Ups)] : opI (ioUps (⟨.obj ⟨u, v⟩, l, some (s, n)⟩ :: as) (⟨u, v'⟩ :: ds)) (K := F) = opI (ioUps as ds) (K := ⟨fun r => F.f ((s, .obj n u v') :: r)⟩) := ups_some (F := F.f)
section
variable {x y z : Operand} {t2 : TypeId} {o : BinOp} {o2 : UnOp} {l h q : Option Operand} {k : Nat} {ps : Array (Nat × Operand)} {ps1 ps2 : Array Operand} {f : FuncId} {as : Array Operand} {ts : Array TypeId}
end
end
section
variable {tab : Tab} {Γ : Cons} {d : Option Tmp} {ty0 : TypeId} {ps : String} {af : Array Edge} {g : Option (Nat × Bool)} {m : Nat} {st : St} {x : Operand} {t : TypeId}
theorem i_exOp_field [K : Kont Ups] {f : Nat} : exI tab Γ ⟨d, .field t x f, ty0, ps, af, g⟩ m st (K := K) = opI (look st x) (K := ⟨fun l => match l.s with
    | .val u v => ty tab t = some u ∧ opI (get u v [.fld f]) (K := ⟨fun w => opI (into d (.val w.1 w.2)) (K := K)⟩)
    | _ => False⟩) := exOp_field (K := K.f)
theorem i_exOp_extract [K : Kont Ups] {j : Nat} : exI tab Γ ⟨d, .extract x j, ty0, ps, af, g⟩ m st (K := K) = opI (look st x) (K := ⟨fun l => match l.s with
    | .tup ds => opI ds[j]? (K := ⟨fun w => opI (into d (.val w.1 w.2)) (K := K)⟩)
    | _ => False⟩) := exOp_extract (K := K.f)
theorem i_len_str {z : ByteArray} {c : Slot} [F : Kont Nat] (h : ty tab t = some .str) : lenI tab t ⟨.val .str z, c⟩ (K := F) = F.f z.size := len_str (F := F.f) h
end

end Go.Tm

/- The rest of the rules in their instance form. -/
set_option linter.unusedVariables false
set_option linter.unusedSimpArgs false
namespace Go.Tm
class Pr where
  p : Prop
theorem pr_p {X : Prop} : @Pr.p ⟨X⟩ = X := rfl
def gUseI (s : Slot) (want : Bool) [X : Pr] [Y : Pr] : Prop := gUse s want X.p Y.p
theorem gUseI_bool {b want : Bool} [X : Pr] [Y : Pr] : gUseI (.val .bool b) want (X := X) (Y := Y) = br (b == want) X.p Y.p := rfl
theorem gUseI_tup {want : Bool} [X : Pr] [Y : Pr] : gUseI (.tup []) want (X := X) (Y := Y) = Y.p := rfl
def onLenI (o : Option Ty) [X : Pr] [Y : Kont Nat] : Prop := onLen o X.p Y.f
theorem onLenI_slice {u : Ty} [X : Pr] [Y : Kont Nat] : onLenI (some (.slice u)) (X := X) (Y := Y) = X.p := rfl
theorem onLenI_arr {n : Nat} {u : Ty} [X : Pr] [Y : Kont Nat] : onLenI (some (.arr n u)) (X := X) (Y := Y) = Y.f n := rfl
def onConvI (o o2 : Option Ty) [X : Pr] [Y : Pr] : Prop := onConv o o2 X.p Y.p
theorem onConvI_str [X : Pr] [Y : Pr] : onConvI (some (.slice (.int .u8))) (some .str) (X := X) (Y := Y) = X.p := rfl
theorem onConvI_row [X : Pr] [Y : Pr] : onConvI (some (.slice (.int .u8))) (some (.slice (.int .u8))) (X := X) (Y := Y) = Y.p := rfl
def onStrI (o o2 : Option Ty) [X : Pr] [Y : Pr] : Prop := onStr o o2 X.p Y.p
theorem onStrI_str [X : Pr] [Y : Pr] : onStrI (some .str) (some .str) (X := X) (Y := Y) = X.p := rfl
theorem onStrI_row [X : Pr] [Y : Pr] : onStrI (some .str) (some (.slice (.int .u8))) (X := X) (Y := Y) = Y.p := rfl

section
variable {tab : Tab} {Γ : Cons} {d : Option Tmp} {ty0 : TypeId} {ps : String} {af : Array Edge} {m : Nat} {st : St} {ops : Array Oper} {r : List Oper} {o : Op} {t t2 : TypeId} {u : Ty} {c : Slot} {n s lo len i : Nat}
theorem i_exL_guard {K : Exit → St → Prop} {j : Nat} {want : Bool} : ExL tab Γ ops (⟨d, o, ty0, ps, af, some (j, want)⟩ :: r) m st K =
    gUseI (gSlot st (gtmp ops j)) want (X := ⟨ExL tab Γ ops (⟨d, o, ty0, ps, af, none⟩ :: r) m st K⟩) (Y := ⟨ExL tab Γ ops r (m + 1) (app (dstUps d (.tup [])) st) K⟩) := exL_guard
theorem i_exO_guard {tr : Tr} {K : St → Tr → Prop} {j : Nat} {want : Bool} : ExOps tab Γ ops (⟨d, o, ty0, ps, af, some (j, want)⟩ :: r) m st tr K = gUseI (gSlot st (gtmp ops j)) want
    (X := ⟨exI tab Γ ⟨d, o, ty0, ps, af, none⟩ m st (K := ⟨fun u => ExOps tab Γ ops r (m + 1) (app u st) ((rds ops st ⟨d, o, ty0, ps, af, some (j, want)⟩, keys u) :: tr) K⟩)⟩)
    (Y := ⟨ExOps tab Γ ops r (m + 1) (app (dstUps d (.tup [])) st) ((rds ops st ⟨d, o, ty0, ps, af, some (j, want)⟩, keys (dstUps d (.tup []))) :: tr) K⟩) := exO_guard
theorem i_len_val {xs : List u.den} [F : Kont Nat] : lenI tab t ⟨.val (.slice u) xs, c⟩ (K := F) = onLenI (ty tab t) (X := ⟨xs.length ≤ maxLen → F.f xs.length⟩) (Y := ⟨fun n => xs.length ≤ maxLen → F.f n⟩) := len_val (F := F.f)
theorem i_len_row {xs : List u.den} [F : Kont Nat] : lenI tab t ⟨.asl n s none, .own n u xs⟩ (K := F) = onLenI (ty tab t) (X := ⟨xs.length ≤ maxLen → F.f xs.length⟩) (Y := ⟨fun n => xs.length ≤ maxLen → F.f n⟩) := len_row (F := F.f)
theorem i_len_part {xs : List u.den} [F : Kont Nat] : lenI tab t ⟨.asl n s (some (lo, len)), .own n u xs⟩ (K := F) = onLenI (ty tab t) (X := ⟨((xs.drop lo).take len).length ≤ maxLen → F.f ((xs.drop lo).take len).length⟩) (Y := ⟨fun n => ((xs.drop lo).take len).length ≤ maxLen → F.f n⟩) := len_part (F := F.f)
theorem i_len_nil [F : Kont Nat] : lenI tab t ⟨.nil, c⟩ (K := F) = onLenI (ty tab t) (X := ⟨F.f 0⟩) (Y := ⟨fun n => F.f n⟩) := len_nil (F := F.f)
theorem i_conv_row {xs : List Int} [K : Kont Ups] : opI (stepConvert tab t t2 (some i) m ⟨.asl n s none, .own n (.int .u8) xs⟩) (K := K) =
    onConvI (ty tab t) (ty tab t2) (X := ⟨K.f [(i, .val .str (strOf xs))]⟩) (Y := ⟨(t = t2 ∧ s ≠ i ∧ xs ≠ []) ∧ K.f [(s, .dead), (i, .own m (.int .u8) xs)]⟩) := conv_row (K := K.f)
theorem i_conv_part {xs : List Int} [K : Kont Ups] : opI (stepConvert tab t t2 (some i) m ⟨.asl n s (some (lo, len)), .own n (.int .u8) xs⟩) (K := K) = onConvI (ty tab t) (ty tab t2) (X := ⟨K.f [(i, .val .str (strOf ((xs.drop lo).take len)))]⟩) (Y := ⟨False⟩) := conv_part (K := K.f)
theorem i_conv_bytes {xs : List Int} [K : Kont Ups] : opI (stepConvert tab t t2 (some i) m ⟨.val (.slice (.int .u8)) xs, c⟩) (K := K) = onConvI (ty tab t) (ty tab t2) (X := ⟨K.f [(i, .val .str (strOf xs))]⟩) (Y := ⟨False⟩) := conv_bytes (K := K.f)
theorem i_conv_str {z : ByteArray} [K : Kont Ups] : opI (stepConvert tab t t2 (some i) m ⟨.val .str z, c⟩) (K := K) = onStrI (ty tab t) (ty tab t2) (X := ⟨K.f [(i, .val .str z)]⟩) (Y := ⟨z.size ≤ 9223372036854775807 ∧ K.f [(i, .own m (.int .u8) (bytesOf z))]⟩) := conv_str (K := K.f)

def buildI (tab : Tab) (t : TypeId) (idx : List Nat) (ls : List Lk) (i : Nat) (o : Option Ty) [K : Kont Ups] : Prop := buildK tab t idx ls i K.f o
theorem i_build_ok {idx : List Nat} {ls : List Lk} [K : Kont Ups] : opI (stepBuild tab t idx (some i) ls) (K := K) = buildI tab t idx ls i (ty tab t) (K := K) := build_ok (K := K.f)
theorem i_buildK_arr {k : Nat} {idx : List Nat} {ls : List Lk} [K : Kont Ups] : buildI tab t idx ls i (some (.arr k u)) (K := K) = opI (frzAll ls (idx.map fun _ => some u)) (K := ⟨fun r => fillI (.arr k u) (List.replicate k u.dflt) (idx.zip r.1) (K := ⟨fun xs => K.f (r.2 ++ [(i, .val (.arr k u) xs)])⟩)⟩) := rfl
theorem i_buildK_prod {a b : Ty} {idx : List Nat} {ls : List Lk} [K : Kont Ups] : buildI tab t idx ls i (some (.prod a b)) (K := K) = opI (frzAll ls (idx.map fun j => (fieldTys (.prod a b))[j]?)) (K := ⟨fun r => fillI (.prod a b) (Ty.prod a b).dflt (idx.zip r.1) (K := ⟨fun v => K.f (r.2 ++ [(i, .val (.prod a b) v)])⟩)⟩) := rfl
end

section
variable {tab : Tab} {Γ : Cons} {d : Option Tmp} {ty0 : TypeId} {ps : String} {af : Array Edge} {g : Option (Nat × Bool)} {m : Nat} {st : St} {ops : Array Oper} {r : List Oper} {op : Op} {x : Operand} {t yt : TypeId}
theorem i_exL_plain {K : Exit → St → Prop} : ExL tab Γ ops (⟨d, op, ty0, ps, af, none⟩ :: r) m st K = exSel (isLen op) (exFI tab Γ ⟨d, op, ty0, ps, af, none⟩ m st (K := ⟨fun u => ExL tab Γ ops r (m + 1) (app u st) K⟩) (X := ⟨fun ch u => K (.panic ch) (app u st)⟩))
    (exI tab Γ ⟨d, op, ty0, ps, af, none⟩ m st (K := ⟨fun u => ExL tab Γ ops r (m + 1) (app u st) K⟩)) := exL_plain
theorem i_exOpF_len [K : Kont Ups] [X : Kont2 (List PanicEntry) Ups] {i : Nat} : exFI tab Γ ⟨some i, .call { callee := .builtin .len, args := #[x], argTypes := #[t] }, ty0, ps, af, none⟩ m st (K := K) (X := X) =
    opI (look st x) (K := ⟨fun l => lenI tab t l (K := ⟨fun n => K.f [(i, .val (.int .i64) (n : Int))]⟩)⟩) := exOpF_len

class KontB where
  f : Bool → Prop
def nilI (tab : Tab) (t : TypeId) (l : Lk) [F : KontB] : Prop := nilK tab t l F.f
theorem i_exOpF_nil [K : Kont Ups] [X : Kont2 (List PanicEntry) Ups] : exFI tab Γ ⟨d, .binOp .eql t x (.const (.slice none 0 0)) yt, ty0, ps, af, none⟩ m st (K := K) (X := X) =
    opI (look st x) (K := ⟨fun l => nilI tab t l (F := ⟨fun b => K.f (dstUps d (.val .bool b))⟩)⟩) := exOpF_nil
theorem i_exOpF_notnil [K : Kont Ups] [X : Kont2 (List PanicEntry) Ups] : exFI tab Γ ⟨d, .binOp .neq t x (.const (.slice none 0 0)) yt, ty0, ps, af, none⟩ m st (K := K) (X := X) =
    opI (look st x) (K := ⟨fun l => nilI tab t l (F := ⟨fun b => K.f (dstUps d (.val .bool (!b)))⟩)⟩) := exOpF_notnil
def onSlcI (o : Option Ty) [Y : Pr] : Prop := match o with | some (.slice _) => Y.p | _ => False
theorem onSlcI_ok {u : Ty} [Y : Pr] : onSlcI (some (.slice u)) (Y := Y) = Y.p := rfl
theorem i_nil_nil {c : Slot} [F : KontB] : nilI tab t ⟨.nil, c⟩ (F := F) = onSlcI (ty tab t) (Y := ⟨F.f true⟩) := by
  unfold nilI nilK onSlcI
  cases ty tab t with
  | none => rfl
  | some u => cases u <;> rfl
theorem i_nil_val {u : Ty} {xs : List u.den} {c : Slot} [F : KontB] : nilI tab t ⟨.val (.slice u) xs, c⟩ (F := F) = onSlcI (ty tab t) (Y := ⟨F.f false ∧ (xs = [] → F.f true)⟩) := by
  unfold nilI nilK onSlcI
  cases ty tab t with
  | none => rfl
  | some u => cases u <;> simp [slc]
theorem i_nil_row {u : Ty} {xs : List u.den} {n s : Nat} [F : KontB] : nilI tab t ⟨.asl n s none, .own n u xs⟩ (F := F) = onSlcI (ty tab t) (Y := ⟨F.f false ∧ (xs = [] → F.f true)⟩) := by
  unfold nilI nilK onSlcI
  cases ty tab t with
  | none => rfl
  | some u => cases u <;> simp [slc]
theorem kontB_f {g : Bool → Prop} {b : Bool} : @KontB.f ⟨g⟩ b = g b := rfl

def panI (s : Slot) [X : Kont2 (List PanicEntry) Ups] : Prop := panK s X.f
theorem i_exOpF_panic [K : Kont Ups] [X : Kont2 (List PanicEntry) Ups] : exFI tab Γ ⟨d, .panic x, ty0, ps, af, none⟩ m st (K := K) (X := X) = opI (look st x) (K := ⟨fun l => panI l.s (X := X)⟩) := exOpF_panic
theorem i_pan_ifc {T : TypeId} {t : Ty} {x : t.den} [X : Kont2 (List PanicEntry) Ups] : panI (.ifc T t x) (X := X) = (flat t = true ∧ X.f [⟨ifcV T t x, false, false⟩] []) := rfl

def ifcI (tab : Tab) (T : TypeId) (d : Option Tmp) (s : Slot) [K : Kont Ups] : Prop :=
  match s with
  | .val t v => ty tab T = some t ∧ opt (into d (.ifc T t v)) K.f
  | _ => False
theorem i_exOp_iface [K : Kont Ups] {T : TypeId} : exI tab Γ ⟨d, .makeInterface T x, ty0, ps, af, g⟩ m st (K := K) = opI (look st x) (K := ⟨fun l => ifcI tab T d l.s (K := K)⟩) := by
  show opt (looks st [x]) _ = _
  rw [looks1]
  show opt (look st x) _ = opt (look st x) _
  congr 1
  funext l
  obtain ⟨s, c⟩ := l
  cases s with
  | val t v =>
    simp only [step, ifcI]
    by_cases h : ty tab T = some t
    · simp [h]
    · simp [h, opt]
  | _ => simp [step, ifcI, opt]
theorem i_ifc_val {T : TypeId} {t : Ty} {v : t.den} {i : Nat} [K : Kont Ups] : ifcI tab T (some i) (.val t v) (K := K) = (ty tab T = some t ∧ K.f [(i, .ifc T t v)]) := by
  simp [ifcI, into, aliasOf, opt]

/-- Behind a call. -/
def endI (out : Out) (d : Option Tmp) (m : Nat) (as : List Lent) [K : Kont Ups] [X : Kont2 (List PanicEntry) Ups] : Prop :=
  match out.res with
  | .panic ch => opt (ioUps as out.ios) fun u => X.f ch ((if out.far then lentsOf as else []) ++ u)
  | r => dstFree d (iosOf as) = true ∧ opt (ioUps as out.ios) fun u => K.f ((if out.far then lentsOf as else []) ++ u ++ dstUps d (r.slot m))
theorem callK_end {con : Con} {as : List Lent} {K : Ups → Prop} {X : List PanicEntry → Ups → Prop} : (opt (con (as.map (·.arg))) fun out => callK con d m as out K X) =
    ((nodup (iosOf as) && (lentsOf as).all (fun l => !(iosOf as).contains l.1)) = true ∧ opt (con (as.map (·.arg))) fun out => endI out d m as (K := ⟨K⟩) (X := ⟨X⟩)) := by
  cases hc : con (as.map (·.arg)) with
  | none => simp [opt]
  | some out =>
    simp only [opt_some]
    obtain ⟨r, ios⟩ := out
    cases r with
    | panic ch =>
      simp only [callK, endI, callP, hc]
      by_cases h : (nodup (iosOf as) && (lentsOf as).all (fun l => !(iosOf as).contains l.1)) = true
      · simp only [h, if_true, true_and]
        cases ioUps as ios <;> simp [opt]
      · simp only [h, if_false, false_and]
        simp [opt]
    | _ =>
      simp only [callK, endI, callT, hc]
      by_cases h : (nodup (iosOf as) && (lentsOf as).all (fun l => !(iosOf as).contains l.1)) = true
      · by_cases h2 : dstFree d (iosOf as) = true
        · simp only [h, h2, Bool.and_self, if_true, true_and, Res.isPanic, Bool.false_eq_true, if_false]
          cases ioUps as ios <;> simp [opt]
        · simp only [h, Bool.true_and, h2, if_false, true_and, false_and]
          simp [opt]
      · simp only [Bool.and_eq_true] at h ⊢
        simp only [h, false_and, if_false]
        simp [opt]
theorem i_exOpF_call [K : Kont Ups] [X : Kont2 (List PanicEntry) Ups] {f : FuncId} {args : Array Operand} {ts : Array TypeId} : exFI tab Γ ⟨d, .call { callee := .value (.func f), args := args, argTypes := ts }, ty0, ps, af, none⟩ m st (K := K) (X := X) =
    opI (looks st args.toList) (K := ⟨fun ls => opI (Γ f) (K := ⟨fun con => opI (toArgsM (rowy con) ls (ts.toList.map (ty tab))) (K := ⟨fun as => ((nodup (iosOf as) && (lentsOf as).all (fun l => !(iosOf as).contains l.1)) = true ∧ opI (con (as.map (·.arg))) (K := ⟨fun out => endI out d m as (K := K) (X := X)⟩))⟩)⟩)⟩) := by
  show opt (looks st args.toList) _ = opt (looks st args.toList) _
  congr 1
  funext ls
  show opt (Γ f) _ = opt (Γ f) _
  congr 1
  funext con
  show opt (toArgsM (rowy con) ls (ts.toList.map (ty tab))) _ = opt (toArgsM (rowy con) ls (ts.toList.map (ty tab))) _
  congr 1
  funext as
  exact callK_end
theorem i_oargsM_no {b : Bool} {ls : List Lk} {ws : List (Option Ty)} [F : Kont (List Lent)] (h : b = false) : opI (toArgsM b ls ws) (K := F) = opI (toArgs ls ws) (K := F) := oargsM_no (F := F.f) h
theorem i_oargsM_yes {b : Bool} {ls : List Lk} {ws : List (Option Ty)} [F : Kont (List Lent)] (h : b = true) : opI (toArgsM b ls ws) (K := F) = opI (toArgsR ls ws) (K := F) := oargsM_yes (F := F.f) h
theorem i_exOp_makeFunc [K : Kont Ups] {fn : FuncId} {i : Nat} {caps : Array Operand} : exI tab Γ ⟨some i, .makeFunc (.func fn) #[] caps, ty0, ps, af, g⟩ m st (K := K) = opI (looks st caps.toList) (K := ⟨fun ls => opI (catchs ls) (K := ⟨fun p => K.f (p.2 ++ [(i, .clo fn p.1)])⟩)⟩) := by
  show opt (looks st caps.toList) _ = opt (looks st caps.toList) _
  congr 1
  funext ls
  show opt (step tab Γ _ m ls) K.f = opt (catchs ls) fun p => K.f (p.2 ++ [(i, .clo fn p.1)])
  simp only [step, stepMakeFunc]
  cases catchs ls <;> simp [opt]
theorem i_call_tmp [K : Kont Ups] {k : Tmp} {f : FuncId} {caps : List Dv} {args : Array Operand} {ts : Array TypeId} {r : List Lk} {c : Slot} : opI (stepCall tab Γ { callee := .value (.tmp k), args := args, argTypes := ts } d m (⟨.clo f caps, c⟩ :: r)) (K := K) =
    opI (Γ f) (K := ⟨fun con => opI (toArgs r (ts.toList.map (ty tab))) (K := ⟨fun as => opI (callT con d m (as ++ caps.map fun x => ⟨.ptr x, none, none⟩)) (K := K)⟩)⟩) := by
  show opt (stepCall tab Γ _ d m _) K.f = opt (Γ f) fun con => opt (toArgs r (ts.toList.map (ty tab))) fun as => opt (callT con d m (as ++ caps.map fun x => ⟨.ptr x, none, none⟩)) K.f
  simp only [stepCall]
  cases Γ f with
  | none => simp [opt]
  | some con =>
    simp only [opt_some]
    cases toArgs r (ts.toList.map (ty tab)) <;> simp [opt]
variable {as : List Lent} [K : Kont Ups] [X : Kont2 (List PanicEntry) Ups] {ios : List Dv}
theorem i_end_unit : endI ⟨.unit, ios⟩ d m as (K := K) (X := X) = (dstFree d (iosOf as) = true ∧ opI (ioUps as ios) (K := ⟨fun u => K.f ((if (Out.mk .unit ios).far then lentsOf as else []) ++ u ++ dstUps d (Res.slot m .unit))⟩)) := rfl
theorem i_end_val {v : Dv} : endI ⟨.val v, ios⟩ d m as (K := K) (X := X) = (dstFree d (iosOf as) = true ∧ opI (ioUps as ios) (K := ⟨fun u => K.f ((if (Out.mk (.val v) ios).far then lentsOf as else []) ++ u ++ dstUps d (Res.slot m (.val v)))⟩)) := rfl
theorem i_end_own {t : Ty} {v : List t.den} : endI ⟨.own t v, ios⟩ d m as (K := K) (X := X) = (dstFree d (iosOf as) = true ∧ opI (ioUps as ios) (K := ⟨fun u => K.f ((if (Out.mk (.own t v) ios).far then lentsOf as else []) ++ u ++ dstUps d (Res.slot m (.own t v)))⟩)) := rfl
theorem i_end_obj {t : Ty} {v : t.den} : endI ⟨.obj t v, ios⟩ d m as (K := K) (X := X) = (dstFree d (iosOf as) = true ∧ opI (ioUps as ios) (K := ⟨fun u => K.f ((if (Out.mk (.obj t v) ios).far then lentsOf as else []) ++ u ++ dstUps d (Res.slot m (.obj t v)))⟩)) := rfl
theorem i_end_tup {l : List Dv} : endI ⟨.tup l, ios⟩ d m as (K := K) (X := X) = (dstFree d (iosOf as) = true ∧ opI (ioUps as ios) (K := ⟨fun u => K.f ((if (Out.mk (.tup l) ios).far then lentsOf as else []) ++ u ++ dstUps d (Res.slot m (.tup l)))⟩)) := rfl
theorem i_end_panic {ch : List PanicEntry} : endI ⟨.panic ch, ios⟩ d m as (K := K) (X := X) = opI (ioUps as ios) (K := ⟨fun u => X.f ch ((if (Out.mk (.panic ch) ios).far then lentsOf as else []) ++ u)⟩) := rfl
omit K X in
theorem far_panic {ch : List PanicEntry} : Res.far (.panic ch) = false := rfl
omit K X in
theorem panics_iff {args : List Arg} {out : Out} {ch : List PanicEntry} {st : St} : Panics args out ch st = (out.res = .panic ch ∧ finIos st args 0 out.ios) := propext ⟨fun h => h.out, fun h => ⟨h⟩⟩
end
section
variable {tab : Tab} {t : TypeId} {d : Option Tmp} {lo hi : Option Lk} {c : Slot} {u : Ty} {n s n' k : Nat} [K : Kont Ups]
theorem i_sl_val {x : u.den} : opI (stepSl tab t d ⟨.val u x, c⟩ lo hi) (K := K) = opI (stepSlice tab t ⟨.val u x, c⟩ lo hi) (K := ⟨fun s => opI (into d s) (K := K)⟩) := by
  show opt (stepSl tab t d ⟨.val u x, c⟩ lo hi) K.f = opt (stepSlice tab t ⟨.val u x, c⟩ lo hi) fun s => opt (into d s) K.f
  simp only [stepSl]
  generalize stepSlice tab t ⟨.val u x, c⟩ lo hi = q
  cases q <;> simp only [opt_none, opt_some]
theorem i_sl_nil : opI (stepSl tab t d ⟨.nil, c⟩ lo hi) (K := K) = opI (stepSlice tab t ⟨.nil, c⟩ lo hi) (K := ⟨fun s => opI (into d s) (K := K)⟩) := by
  show opt (stepSl tab t d ⟨.nil, c⟩ lo hi) K.f = opt (stepSlice tab t ⟨.nil, c⟩ lo hi) fun s => opt (into d s) K.f
  simp only [stepSl]
  generalize stepSlice tab t ⟨.nil, c⟩ lo hi = q
  cases q <;> simp only [opt_none, opt_some]
theorem i_sl_asl {g : Option (Nat × Nat)} : opI (stepSl tab t d ⟨.asl n s g, c⟩ lo hi) (K := K) = opI (stepSlice tab t ⟨.asl n s g, c⟩ lo hi) (K := ⟨fun s => opI (into d s) (K := K)⟩) := by
  show opt (stepSl tab t d ⟨.asl n s g, c⟩ lo hi) K.f = opt (stepSlice tab t ⟨.asl n s g, c⟩ lo hi) fun s => opt (into d s) K.f
  simp only [stepSl]
  generalize stepSlice tab t ⟨.asl n s g, c⟩ lo hi = q
  cases q <;> simp only [opt_none, opt_some]
theorem i_sl_rpt {xs : List u.den} : opI (stepSl tab t d ⟨.rpt (.arr k u) xs, c⟩ lo hi) (K := K) = ((k ≤ 1000000 ∧ ty tab t = some (.arr k u)) ∧ opI (cutB lo hi (k : Int)) (K := ⟨fun p => K.f (dstUps d (.val (.slice u) ((xs.drop p.1).take (p.2 - p.1))))⟩)) := by
  show opt (stepSl tab t d ⟨.rpt (.arr k u) xs, c⟩ lo hi) K.f = (_ ∧ opt (cutB lo hi (k : Int)) fun p => K.f _)
  simp only [stepSl, stepArr, opt_ite, opt_map]
theorem i_sl_obj {xs : List u.den} : opI (stepSl tab t d ⟨.apt n s [], .obj n' (.arr k u) xs⟩ lo hi) (K := K) = ((n = n' ∧ s < ghost ∧ d ≠ some s ∧ k ≤ 1000000 ∧ ty tab t = some (.arr k u)) ∧
    opI (cutB lo hi (k : Int)) (K := ⟨fun p => K.f ((s, .rpt (.arr k u) xs) :: dstUps d (.val (.slice u) ((xs.drop p.1).take (p.2 - p.1))))⟩)) := by
  show opt (stepSl tab t d ⟨.apt n s [], .obj n' (.arr k u) xs⟩ lo hi) K.f = (_ ∧ opt (cutB lo hi (k : Int)) fun p => K.f _)
  simp only [stepSl, stepArr, opt_ite, opt_map]
end
end Go.Tm

/- The rules in simp's set, in the instance form. -/
namespace Go.Tm
attribute [simp] Ty.mx sealS_clo self_clo seen_clo i_into_clo finIos_row finIos_clo finOK_cut i_oargsM_no i_oargsM_yes i_oargsR_nil i_oargsR_cons i_oarg_clo i_oargR_val i_oargR_nil i_oargR_row i_oargR_part i_oargR_obj i_oargR_rpt i_oargR_clo i_catchs_nil i_catchs_cons i_catch_obj i_catch_rpt i_ups_row opnds_fn opnds_b opnds_t isLen_tmp isLen_makeFunc i_exOp_makeFunc i_call_tmp i_aim_obj i_aim_own i_aim_rpt i_append_ok i_arrAt_arr i_assign_apt i_assign_dead i_assign_nil i_assign_none i_assign_obj i_assign_part i_assign_row i_assign_rpt i_assign_tup i_assign_v bin_add bin_and bin_andNot bin_beql bin_bneq bin_eql bin_geq bin_gtr bin_leq bin_lss bin_mul bin_neq bin_or bin_peql bin_pneq bin_quo bin_rem bin_sadd bin_seql bin_sgeq bin_sgtr bin_shl bin_shr bin_sleq bin_slss bin_sneq bin_sub i_bin_val bin_xor blockK_exit blockK_normal blockK_ret br_false br_true i_buildK_arr i_buildK_prod i_buildSlice_ok i_build_ok i_callT_ok i_call_append i_call_fn i_call_len i_castK_self i_condOf_look i_conv_bytes i_conv_int i_conv_part i_conv_row i_conv_str cst_bool cst_int cst_nil cst_ptr cst_str i_cut_both i_cut_hi i_cut_lo i_cut_none dflt_arr dflt_bool dflt_int dflt_prod dflt_slice dflt_str dflt_unit dfree_nil dfree_none dfree_some dups_none dups_some endsF_normal endsF_ret endsF_panic exL_nil i_exL_plain i_exOpF_len i_exOp_alloc i_exOp_assign i_exOp_bin i_exOp_box i_exOp_build i_exOp_buildSlice i_exOp_call i_exOp_convert i_exOp_extract i_exOp_field i_exOp_fieldAddr i_exOp_index i_exOp_indexAddr i_exOp_load i_exOp_make i_exOp_move i_exOp_nilCheck i_exOp_pick i_exOp_slice0 i_exOp_slice1 i_exOp_slice2 i_exOp_slice3 i_exOp_store i_exOp_un exSel_false exSel_true ex_block i_ex_cond ex_exit ex_label ex_ret ex_seq ex_skip ex_text_no ex_text_yes sealP_at sealS_off sealS_on sealS_dead sealS_val sealS_nil sealS_obj sealS_asl sealS_apt sealS_rpt sealS_tup sealS_ifc far_obj far_out far_own far_tup far_unit far_val i_fillK_arr i_fillK_nil i_fillK_prod finAll_cons finAll_nil finIos_nil finIos_obj finIos_ptr finIos_val finOK_nil finOK_obj finOK_own i_finOK_val i_finOne_cell i_finOne_tmp finRes_more finRes_nil finRes_one finish_iff i_fla_apt i_fla_rpt i_frzAll_cons i_frzAll_nil i_frz_nil i_frz_part i_frz_row i_frz_val ftys_prod ftys_unit gSlot_none gSlot_some i_get_fst i_get_idx i_get_nil i_get_snd ghost_eq gtmp_eq i_index_arr i_index_str i_into_apt i_into_asl i_into_dead i_into_nil i_into_none i_into_rpt i_into_tup i_into_v ios_nil ios_none ios_some isLen_alloc isLen_assign isLen_bappend isLen_bcopy isLen_binOp isLen_bmax isLen_bmin isLen_box isLen_build isLen_buildSlice isLen_convert isLen_extract isLen_field isLen_fieldAddr isLen_fn isLen_index isLen_indexAddr isLen_len isLen_load isLen_makeSlice isLen_move isLen_nilCheck isLen_pick isLen_slice isLen_store isLen_unOp i_ixa_apt i_ixa_part i_ixa_row i_ixa_rpt i_ixa_val i_len_nil i_len_part i_len_row i_len_str i_len_val lents_nil lents_none lents_some look_const look_tmp i_looks0 i_looks1 i_looks2 i_looks3 i_looks_next loopK_exit loopK_normal loopK_ret i_make_ok i_max_two i_min_two i_more_nil i_more_part i_more_row i_more_str i_more_val nodup_cons nodup_nil i_oarg_nil i_oarg_obj i_oarg_part i_oarg_row i_oarg_rpt i_oarg_val i_oargs_cons i_oargs_nil i_onInt_ok i_onSlice_ok i_opt_cast i_opt_ite i_opt_ite_none i_opt_map i_opt_none i_opt_some i_pick_tup i_pick_tup2 i_pick_val i_prior_nil i_prior_part i_prior_row put_at seen_apt seen_asl seen_dead seen_nil seen_rpt seen_tup seen_val self_apt self_asl self_dead self_nil self_obj self_own self_rpt self_tup self_val seqK_exit seqK_normal seqK_ret i_slice_part i_slice_row0 i_slice_row1 i_slice_row2 i_slice_row3 i_slice_str i_slice_val slot_obj slot_own slot_tup slot_unit slot_val i_store_obj i_store_own sz_arr sz_bool sz_int sz_prod sz_slice sz_str sz_unit tfar_arr tfar_bool tfar_int tfar_prod tfar_slice tfar_str tfar_unit ty_bool ty_int ty_prod ty_str un_neg un_not i_un_val un_xor i_upd_fst i_upd_idx i_upd_snd i_updo_nil i_ups_nil i_ups_none i_ups_some gUseI_bool gUseI_tup onLenI_slice onLenI_arr onConvI_str onConvI_row onStrI_str onStrI_row kont_f kont2_f kontT_f pr_p
attribute [simp] look_func i_sl_val i_sl_nil i_sl_asl i_sl_rpt i_sl_obj i_exL_plain i_exOpF_len i_exOpF_nil i_exOpF_notnil onSlcI_ok i_nil_nil i_nil_val i_nil_row kontB_f i_exOpF_panic i_pan_ifc i_exOp_iface i_ifc_val i_exOpF_call i_end_unit i_end_val i_end_own i_end_obj i_end_tup i_end_panic far_panic panics_iff seqK_panic blockK_panic loopK_panic np_unit np_val np_own np_obj np_tup isNilB_tmp isNilB_int isNilB_bool isNilB_str isNilB_eq isNilB_ne isLen_panic isLen_iface
end Go.Tm

/- From what the machine's reader reads of an argument to what it stands for. -/
set_option linter.unusedVariables false
set_option linter.unusedSimpArgs false
set_option linter.unusedSectionVars false
namespace Go.Tm

/-- What a reading says of a value. -/
def okv : (t : Ty) → t.den → Prop
  | .int k, x => (Lit.int k x).wf = true
  | .bool, _ => True
  | .str, s => s.size ≤ maxLen
  | .unit, _ => True
  | .prod a b, x => okv a x.1 ∧ okv b x.2
  | .slice t, xs => xs.length ≤ maxLen ∧ ∀ x ∈ xs, okv t x
  | .arr n t, xs => xs.length = n ∧ ∀ x ∈ xs, okv t x

theorem mapM_at {α β : Type} {f : α → Option β} {l : List α} {r : List β} (h : l.mapM f = some r) {i : Nat} {x : α} (hx : l[i]? = some x) : ∃ y, r[i]? = some y ∧ f x = some y := by
  have h1 := mapM_some_get h i x hx
  have h2 := mapM_some_length h
  have hlt : i < l.length := (List.getElem?_eq_some_iff.1 hx).1
  have : i < r.length := by omega
  rw [List.getElem?_eq_getElem this] at h1
  exact ⟨r[i], List.getElem?_eq_getElem this, h1⟩

theorem cells_lie {w : World} {base : Nat} {a : Addr} {n : Nat} {cs : List Value} (h : w.cells? base a n = some cs) : cs.length = n ∧ lies w a cs := by
  unfold World.cells? at h
  split at h
  · refine ⟨by simpa using mapM_some_length h, fun j v hv => ?_⟩
    have hlt : j < cs.length := (List.getElem?_eq_some_iff.1 hv).1
    have hl : cs.length = n := by simpa using mapM_some_length h
    have := mapM_some_get h j j (by rw [List.getElem?_range (by omega)])
    rw [this, hv]
  · cases h

theorem lies_append {w : World} {a : Addr} {cs ds : List Value} (h : lies w a cs) (k : lies w (a.add cs.length) ds) : lies w a (cs ++ ds) := by
  intro j v hv
  rcases Nat.lt_or_ge j cs.length with hj | hj
  · exact h j v (by rwa [List.getElem?_append_left hj] at hv)
  · rw [List.getElem?_append_right hj] at hv
    have := k _ v hv
    rw [add_add] at this
    rwa [show cs.length + (j - cs.length) = j by omega] at this

theorem lies_nil (w : World) (a : Addr) : lies w a [] := by intro j v hv; simp at hv

theorem lies_lt {w : World} {a : Addr} {c : Value} {cs : List Value} (h : lies w a (c :: cs)) : a.block < w.heap.size := by
  have := h 0 c rfl
  rw [add_zero] at this
  unfold World.cell? at this
  split at this
  · rename_i hh
    exact (Array.getElem?_eq_some_iff.1 hh).1
  · cases this

section
variable {P : Program} {tab : Tab} (ok : TabOK P tab) {H : Type} {enc : TypeId × Value → H} {w : World} {base : Nat} {spare : Nat → Bool} {held : Bool}
include ok

theorem tab_cells {t : TypeId} {u : Ty} (h : ty tab t = some u) : P.cellsOf t = u.sz := by
  obtain ⟨i, h1, h2, _⟩ := tab_info' ok h
  simp [Program.cellsOf, h1, h2]

theorem open_rows {u : Ty} {e : TypeId} {fuel : Nat} (ih : ∀ {cs : List Value} {d : DataW H} {ps : List MemPlace}, DataW.trod enc P w base spare held fuel e cs = some (d, ps) → ∃ x, rep w (fun _ => True) u x cs ∧ okv u x)
    {all : List Value} : ∀ (n o : Nat) {xs : List (DataW H × List MemPlace)},
    ((List.range' o n).mapM fun i => DataW.trod enc P w base spare held fuel e ((all.drop (i * u.sz)).take u.sz)) = some xs → (o + n) * u.sz ≤ all.length →
    ∃ ys : List u.den, ys.length = n ∧ repList (rep w (fun _ => True) u) ys ((all.drop (o * u.sz)).take (n * u.sz)) ∧ ∀ y ∈ ys, okv u y
  | 0, o, xs, h, hl => ⟨[], rfl, by simp [repList], by simp⟩
  | n + 1, o, xs, h, hl => by
    rw [List.range'_succ, List.mapM_cons] at h
    cases h1 : DataW.trod enc P w base spare held fuel e ((all.drop (o * u.sz)).take u.sz) with
    | none => simp [h1] at h
    | some y =>
      cases h2 : (List.range' (o + 1) n).mapM fun i => DataW.trod enc P w base spare held fuel e ((all.drop (i * u.sz)).take u.sz) with
      | none => simp [h1, h2] at h
      | some r =>
        obtain ⟨d, ps⟩ := y
        obtain ⟨x, hx, hok⟩ := ih h1
        have hm : (o + (n + 1)) * u.sz = o * u.sz + u.sz + n * u.sz := by rw [Nat.add_mul, Nat.add_mul, Nat.one_mul]; omega
        have hm2 : (o + 1 + n) * u.sz = o * u.sz + u.sz + n * u.sz := by rw [Nat.add_mul, Nat.add_mul, Nat.one_mul]
        have hm3 : (o + 1) * u.sz = o * u.sz + u.sz := by rw [Nat.add_mul, Nat.one_mul]
        have hm4 : (n + 1) * u.sz = u.sz + n * u.sz := by rw [Nat.add_mul, Nat.one_mul, Nat.add_comm]
        obtain ⟨ys, e1, e2, e3⟩ := open_rows ih n (o + 1) h2 (by omega)
        refine ⟨x :: ys, by simp [e1], ⟨_, _, ?_, hx, e2⟩, fun y hy => ?_⟩
        · rw [hm3, hm4, ← List.drop_drop]
          rw [List.take_add, List.drop_drop]
        · rcases List.mem_cons.1 hy with rfl | hy
          · exact hok
          · exact e3 y hy

theorem open_elems {u : Ty} {e : TypeId} {fuel : Nat} (he : P.cellsOf e = u.sz) (ih : ∀ {cs : List Value} {d : DataW H} {ps : List MemPlace}, DataW.trod enc P w base spare held fuel e cs = some (d, ps) → ∃ x, rep w (fun _ => True) u x cs ∧ okv u x)
    {a : Addr} : ∀ (n o : Nat) {xs : List (DataW H × List MemPlace)},
    ((List.range' o n).mapM fun i => (w.cells? base (a.add (i * P.cellsOf e)) (P.cellsOf e)).bind (DataW.trod enc P w base spare held fuel e)) = some xs →
    ∃ (ys : List u.den) (cs : List Value), ys.length = n ∧ repList (rep w (fun _ => True) u) ys cs ∧ lies w (a.add (o * u.sz)) cs ∧ ∀ y ∈ ys, okv u y
  | 0, o, xs, h => ⟨[], [], rfl, by simp [repList], lies_nil _ _, by simp⟩
  | n + 1, o, xs, h => by
    rw [List.range'_succ, List.mapM_cons] at h
    cases h1 : (w.cells? base (a.add (o * P.cellsOf e)) (P.cellsOf e)).bind (DataW.trod enc P w base spare held fuel e) with
    | none => simp [h1] at h
    | some y =>
      cases h2 : (List.range' (o + 1) n).mapM fun i => (w.cells? base (a.add (i * P.cellsOf e)) (P.cellsOf e)).bind (DataW.trod enc P w base spare held fuel e) with
      | none => simp [h1, h2] at h
      | some r =>
        obtain ⟨d, ps⟩ := y
        simp only [Option.bind_eq_some_iff] at h1
        obtain ⟨cs, hc, ht⟩ := h1
        obtain ⟨x, hx, hok⟩ := ih ht
        obtain ⟨l1, l2⟩ := cells_lie hc
        obtain ⟨ys, ds, e1, e2, e3, e4⟩ := open_elems he ih n (o + 1) h2
        rw [he] at l1 l2
        refine ⟨x :: ys, cs ++ ds, by simp [e1], ⟨_, _, rfl, hx, e2⟩, ?_, fun y hy => ?_⟩
        · refine lies_append l2 ?_
          rw [add_add, l1, show o * u.sz + u.sz = (o + 1) * u.sz by rw [Nat.add_mul, Nat.one_mul]]
          exact e3
        · rcases List.mem_cons.1 hy with rfl | hy
          · exact hok
          · exact e4 y hy

theorem fields_len : ∀ (u : Ty) (fs : List Field) (off : Nat), fieldsOK tab fs u off = true → u = .unit ∨ ∃ a b, u = .prod a b
  | .unit, _, _, _ => .inl rfl
  | .prod a b, _, _, _ => .inr ⟨a, b, rfl⟩
  | .int _, fs, _, h => by cases fs <;> simp [fieldsOK] at h
  | .bool, fs, _, h => by cases fs <;> simp [fieldsOK] at h
  | .str, fs, _, h => by cases fs <;> simp [fieldsOK] at h
  | .slice _, fs, _, h => by cases fs <;> simp [fieldsOK] at h
  | .arr _ _, fs, _, h => by cases fs <;> simp [fieldsOK] at h

theorem open_both : ∀ u : Ty,
    (∀ (t : TypeId) (fuel : Nat) (cs : List Value) (d : DataW H) (ps : List MemPlace), ty tab t = some u → DataW.trod enc P w base spare held fuel t cs = some (d, ps) → ∃ x, rep w (fun _ => True) u x cs ∧ okv u x) ∧
    (∀ (fs : List Field) (off fuel : Nat) (all : List Value) (xs : List (DataW H × List MemPlace)), fieldsOK tab fs u off = true →
      (fs.mapM fun f => DataW.trod enc P w base spare held fuel f.type ((all.drop f.offset).take (P.cellsOf f.type))) = some xs → all.length = off + u.sz → ∃ x, rep w (fun _ => True) u x (all.drop off) ∧ okv u x) := by
  have str : ∀ u : Ty, (u = .unit ∨ ∃ a b, u = .prod a b) → (∀ (fs : List Field) (off fuel : Nat) (all : List Value) (xs : List (DataW H × List MemPlace)), fieldsOK tab fs u off = true →
      (fs.mapM fun f => DataW.trod enc P w base spare held fuel f.type ((all.drop f.offset).take (P.cellsOf f.type))) = some xs → all.length = off + u.sz → ∃ x, rep w (fun _ => True) u x (all.drop off) ∧ okv u x) →
      ∀ (t : TypeId) (fuel : Nat) (cs : List Value) (d : DataW H) (ps : List MemPlace), ty tab t = some u → DataW.trod enc P w base spare held fuel t cs = some (d, ps) → ∃ x, rep w (fun _ => True) u x cs ∧ okv u x := by
    intro u hu h2 t fuel cs d ps ht h
    obtain ⟨fs, hf, hfs⟩ := tab_struct ok ht hu
    cases fuel with
    | zero => cases h
    | succ n =>
      rw [DataW.trod_step] at h
      simp only [DataW.trodStep, hf] at h
      have hc := tab_cells ok ht
      split at h
      · rename_i hl
        simp only [Option.map_eq_some_iff] at h
        obtain ⟨xs, hx, _⟩ := h
        obtain ⟨x, k1, k2⟩ := h2 fs.toList 0 n cs xs hfs hx (by omega)
        exact ⟨x, by simpa using k1, k2⟩
      · cases h
  intro u
  induction u with
  | int k =>
    refine ⟨fun t fuel cs d ps ht h => ?_, fun fs off fuel all xs hf => by cases fs <;> simp [fieldsOK] at hf⟩
    obtain ⟨n, h1, _, h2⟩ := DataW.trod_int (tab_int ok ht) h
    exact ⟨n, h1, h2⟩
  | bool =>
    refine ⟨fun t fuel cs d ps ht h => ?_, fun fs off fuel all xs hf => by cases fs <;> simp [fieldsOK] at hf⟩
    obtain ⟨n, h1, _⟩ := DataW.trod_bool (tab_bool ok ht) h
    exact ⟨n, h1, trivial⟩
  | str =>
    refine ⟨fun t fuel cs d ps ht h => ?_, fun fs off fuel all xs hf => by cases fs <;> simp [fieldsOK] at hf⟩
    obtain ⟨n, h1, _, h2⟩ := DataW.trod_string (tab_str ok ht) h
    exact ⟨n, h1, h2⟩
  | unit =>
    have h2 : (∀ (fs : List Field) (off fuel : Nat) (all : List Value) (xs : List (DataW H × List MemPlace)), fieldsOK tab fs .unit off = true →
      (fs.mapM fun f => DataW.trod enc P w base spare held fuel f.type ((all.drop f.offset).take (P.cellsOf f.type))) = some xs → all.length = off + Ty.unit.sz → ∃ x, rep w (fun _ => True) .unit x (all.drop off) ∧ okv .unit x) := by
      intro fs off fuel all xs hf hx hl
      exact ⟨(), by simp only [rep]; exact List.drop_of_length_le (by simp [Ty.sz] at hl; omega), trivial⟩
    exact ⟨str _ (.inl rfl) h2, h2⟩
  | prod a b iha ihb =>
    have h2 : (∀ (fs : List Field) (off fuel : Nat) (all : List Value) (xs : List (DataW H × List MemPlace)), fieldsOK tab fs (.prod a b) off = true →
      (fs.mapM fun f => DataW.trod enc P w base spare held fuel f.type ((all.drop f.offset).take (P.cellsOf f.type))) = some xs → all.length = off + (Ty.prod a b).sz → ∃ x, rep w (fun _ => True) (.prod a b) x (all.drop off) ∧ okv (.prod a b) x) := by
      intro fs off fuel all xs hf hx hl
      cases fs with
      | nil => simp [fieldsOK] at hf
      | cons f fs =>
        simp only [fieldsOK, Bool.and_eq_true, beq_iff_eq, decide_eq_true_eq] at hf
        obtain ⟨⟨⟨⟨f1, _⟩, f2⟩, _⟩, f3⟩ := hf
        rw [List.mapM_cons] at hx
        cases e1 : DataW.trod enc P w base spare held fuel f.type ((all.drop f.offset).take (P.cellsOf f.type)) with
        | none => simp [e1] at hx
        | some y =>
          cases e2 : fs.mapM fun f => DataW.trod enc P w base spare held fuel f.type ((all.drop f.offset).take (P.cellsOf f.type)) with
          | none => simp [e1, e2] at hx
          | some r =>
            obtain ⟨d, ps⟩ := y
            obtain ⟨x, k1, k2⟩ := iha.1 _ _ _ _ _ f2 e1
            simp only [Ty.sz] at hl
            obtain ⟨z, k3, k4⟩ := ihb.2 fs (off + a.sz) fuel all r f3 e2 (by omega)
            refine ⟨(x, z), ⟨_, _, ?_, k1, k3⟩, k2, k4⟩
            rw [f1, tab_cells ok f2, ← List.drop_drop, List.take_append_drop]
    exact ⟨str _ (.inr ⟨a, b, rfl⟩) h2, h2⟩
  | slice u ih =>
    refine ⟨fun t fuel cs d ps ht h => ?_, fun fs off fuel all xs hf => by cases fs <;> simp [fieldsOK] at hf⟩
    obtain ⟨e, h1, h2, h3⟩ := tab_slice ok ht
    cases fuel with
    | zero => cases h
    | succ n =>
      rw [DataW.trod_step] at h
      simp only [DataW.trodStep, h1] at h
      split at h
      case h_7 => exact ⟨[], ⟨none, 0, rfl, Nat.le_refl _, Nat.zero_le _, .inl rfl⟩, Nat.zero_le _, by simp⟩
      case h_8 =>
        rename_i _ _ e' ad len cap heq
        simp only [Option.some.injEq, TypeDesc.slice.injEq] at heq
        subst heq
        try simp only at h
        split at h
        · rename_i hb
          simp only [Option.map_eq_some_iff, Option.bind_eq_some_iff] at h
          obtain ⟨elems, he, _⟩ := h
          rw [List.range_eq_range'] at he
          obtain ⟨ys, cs, e1, e2, e3, e4⟩ := open_elems ok (tab_cells ok h2) (fun h => ih.1 _ _ _ _ _ h2 h) len 0 he
          subst e1
          rw [Nat.zero_mul, add_zero] at e3
          refine ⟨ys, ⟨some ad, cap, rfl, hb.2.1, hb.2.2, ?_⟩, Nat.le_trans hb.2.1 hb.2.2, e4⟩
          cases ys with
          | nil => exact .inl rfl
          | cons y ys =>
            refine .inr ⟨ad, cs, rfl, trivial, ?_, e2, e3⟩
            obtain ⟨c1, c2, hcs, hr, _⟩ := e2
            have := rep_len _ hr
            cases c1 with
            | nil => simp at this; omega
            | cons c c1 => rw [hcs] at e3; exact lies_lt e3
        · cases h
      all_goals first | (cases h; done) | (simp_all; done)
  | arr m u ih =>
    refine ⟨fun t fuel cs d ps ht h => ?_, fun fs off fuel all xs hf => by cases fs <;> simp [fieldsOK] at hf⟩
    obtain ⟨e, h1, h2, h3⟩ := tab_arr ok ht
    cases fuel with
    | zero => cases h
    | succ n =>
      rw [DataW.trod_step] at h
      simp only [DataW.trodStep, h1] at h
      have hc : P.cellsOf t = m * u.sz := tab_cells ok ht
      have hce := tab_cells ok h2
      split at h
      · rename_i hl
        simp only [Option.map_eq_some_iff] at h
        obtain ⟨xs, hx, _⟩ := h
        rw [List.range_eq_range'] at hx
        simp only [hce] at hx
        obtain ⟨ys, e1, e2, e3⟩ := open_rows ok (all := cs) (fun h => ih.1 _ _ _ _ _ h2 h) m 0 hx (by rw [Nat.zero_add]; omega)
        refine ⟨ys, ⟨e1, ?_⟩, e1, e3⟩
        rw [Nat.zero_mul, List.drop_zero, List.take_of_length_le (by omega)] at e2
        exact e2
      · cases h

theorem open_val {t : TypeId} {u : Ty} (ht : ty tab t = some u) {v : Value} {d : DataW H} {ps : List MemPlace} {r : Reach} {base' : Nat} (hv : Value.okWide P w r base' t v) (h : DataW.Trod enc P w base spare held t v d ps) :
    ∃ x : u.den, vrep w (fun _ => True) u x v ∧ okv u x := by
  obtain ⟨fuel, h⟩ := h
  obtain ⟨x, h1, h2⟩ := (open_both ok u).1 t fuel _ d ps ht h
  refine ⟨x, ⟨_, h1, ?_⟩, h2⟩
  cases u with
  | int k => obtain ⟨n, rfl⟩ := WideShapes.okWide_int (tab_int ok ht) hv; simp [mkv, Ty.agg, Value.cells]
  | bool => obtain ⟨n, rfl⟩ := WideShapes.okWide_bool (tab_bool ok ht) hv; simp [mkv, Ty.agg, Value.cells]
  | str => obtain ⟨n, rfl⟩ := WideShapes.okWide_string (tab_str ok ht) hv; simp [mkv, Ty.agg, Value.cells]
  | slice u =>
    obtain ⟨e, k1, _⟩ := tab_slice ok ht
    obtain ⟨a, l, c, rfl⟩ := WideShapes.okWide_slice k1 hv
    simp [mkv, Ty.agg, Value.cells]
  | arr n u =>
    obtain ⟨e, k1, _⟩ := tab_arr ok ht
    simp only [Value.okWide, k1] at hv
    obtain ⟨cs, rfl, _⟩ := hv
    simp [mkv, Ty.agg, Value.cells]
  | unit =>
    obtain ⟨fs, k1, _⟩ := tab_struct ok ht (.inl rfl)
    obtain ⟨cs, rfl, _⟩ := WideShapes.okWide_struct k1 hv
    simp [mkv, Ty.agg, Value.cells]
  | prod a b =>
    obtain ⟨fs, k1, _⟩ := tab_struct ok ht (.inr ⟨a, b, rfl⟩)
    obtain ⟨cs, rfl, _⟩ := WideShapes.okWide_struct k1 hv
    simp [mkv, Ty.agg, Value.cells]

theorem open_args {r : Reach} {base' : Nat} : ∀ {ts : List TypeId} {us : List Ty} {vs : List Value} {ds : List (DataW H)} {ps : List MemPlace}, ts.map (ty tab) = us.map some →
    (∀ (j : Nat) t v, ts[j]? = some t → vs[j]? = some v → Value.okWide P w r base' t v) → DataW.TrodAll enc P w base spare held ts vs ds ps →
    ∃ l : List Dv, l.map (·.1) = us ∧ argsRep w (fun _ => True) (l.map .val) vs ∧ ∀ d ∈ l, okv d.1 d.2
  | [], us, vs, ds, ps, hu, hv, h => by
    cases us with
    | cons _ _ => simp at hu
    | nil =>
      cases vs <;> cases ds <;> simp [DataW.TrodAll] at h
      exact ⟨[], rfl, rfl, by simp⟩
  | t :: ts, us, vs, ds, ps, hu, hv, h => by
    cases us with
    | nil => simp at hu
    | cons u us =>
      simp only [List.map_cons, List.cons.injEq] at hu
      cases vs with
      | nil => cases ds <;> simp [DataW.TrodAll] at h
      | cons v vs =>
        cases ds with
        | nil => simp [DataW.TrodAll] at h
        | cons d ds =>
          obtain ⟨p, q, h1, h2, _⟩ := h
          obtain ⟨x, k1, k2⟩ := open_val ok hu.1 (hv 0 t v rfl rfl) h1
          obtain ⟨l, e1, e2, e3⟩ := open_args hu.2 (fun j t v h h' => hv (j + 1) t v h h') h2
          refine ⟨⟨u, x⟩ :: l, by simp [e1], ⟨v, vs, rfl, k1, e2⟩, fun d hd => ?_⟩
          rcases List.mem_cons.1 hd with rfl | hd
          · exact k2
          · exact e3 d hd

omit ok in
theorem ios_vals : ∀ (l : List Dv) (vs : List Value), ioBlks (l.map .val) vs = []
  | [], vs => by cases vs <;> rfl
  | d :: l, [] => rfl
  | d :: l, v :: vs => by simp [ioBlks, ioBlk, ios_vals l vs]

/-- A law's call. -/
theorem law_calls {f : FuncId} {fn : Func} {con : Con} (hcon : ConOK P f con) (hf : P.funcs[f]? = some fn) (hb : fn.body.isSome = true) (hn : (fn.name == "runtime.NumGoroutine") = false) {us : List Ty}
    (hlaw : ∀ l : List Dv, l.map (·.1) = us → (∀ d ∈ l, okv d.1 d.2) → con (l.map .val) = some ⟨.val ⟨.bool, true⟩, []⟩)
    {ts : List TypeId} (hts : ts.map (ty tab) = us.map some) {args : Array Value} {ds : List (DataW H)} {ps : List MemPlace} {r : Reach} {base' : Nat}
    (hv : ∀ (j : Nat) t v, ts[j]? = some t → args.toList[j]? = some v → Value.okWide P w r base' t v) (h : DataW.TrodAll enc P w base spare held ts args.toList ds ps) :
    Calls P f args w fun e w' => e = .returned (.bool true) ∧ RowKit.Below w.heap.size w w' := by
  obtain ⟨l, e1, e2, e3⟩ := open_args ok hts hv h
  have hr : Ready w (fun _ => True) (l.map .val) args.toList := ⟨e2, by rw [ios_vals]; exact List.nodup_nil, by rw [ios_vals]; simp⟩
  have he : (callFunc f args).run P w = .ok (.enter f args) w := enters hf hn hb _ _
  rcases hcon _ _ _ w _ (hlaw l e1 e3) hr with ⟨g, gs, w1, h1, h2⟩ | ⟨_, v, w', h1, h2⟩
  · rw [show args.toList.toArray = args by simp, he] at h1
    injection h1 with h1 h1'
    injection h1 with h1 h1''
    subst h1 h1' h1''
    refine h2.mono fun e w' ⟨v, hv, ha⟩ => ?_
    subst hv
    have hv := vrep_bool ha.res
    subst hv
    refine ⟨rfl, ⟨ha.kept.os, ha.kept.tape, ha.kept.output, ha.kept.size, fun k hk => ha.kept.block k hk (by rw [ios_vals]; simp)⟩⟩
  · rw [show args.toList.toArray = args by simp, he] at h1
    injection h1 with h1
    cases h1
end

theorem trodAll_below {H : Type} {enc : TypeId × Value → H} {P : Program} (hl : laidOutB P = true) {W W' : World} (hb : RowKit.Below W.heap.size W W') : ∀ {ts : List TypeId} {vs : List Value} {ds : List (DataW H)} {ps : List MemPlace},
    (ts.all fun t => P.readableRec t && decide (t < P.types.size)) = true → DataW.TrodAll enc P W 0 (fun _ => true) true ts vs ds ps → (∀ x ∈ ps, x.block < W.heap.size) →
    DataW.TrodAll enc P W' 0 (fun b => decide (b < W.heap.size)) true ts vs ds ps
  | [], [], [], _, _, h, _ => h
  | t :: ts, v :: vs, d :: ds, ps, ht, h, hlt => by
    obtain ⟨p, q, h1, h2, rfl⟩ := h
    simp only [List.all_cons, Bool.and_eq_true, decide_eq_true_eq] at ht
    exact ⟨p, q, RowKit.Below.trod hl ht.1.1 ht.1.2 h1 hb (fun x hx => hlt x (by simp [hx])), trodAll_below hl hb ht.2 h2 (fun x hx => hlt x (by simp [hx])), rfl⟩
  | [], _ :: _, _, _, _, h, _ => by simp [DataW.TrodAll] at h
  | [], [], _ :: _, _, _, h, _ => by simp [DataW.TrodAll] at h
  | _ :: _, [], _, _, _, h, _ => by simp [DataW.TrodAll] at h
  | _ :: _, _ :: _, [], _, _, h, _ => by simp [DataW.TrodAll] at h

theorem trodAll_len {H : Type} {enc : TypeId × Value → H} {P : Program} {w : World} {base : Nat} {spare : Nat → Bool} {held : Bool} : ∀ {ts : List TypeId} {vs : List Value} {ds : List (DataW H)} {ps : List MemPlace}, DataW.TrodAll enc P w base spare held ts vs ds ps → ds.length = ts.length
  | [], [], [], _, _ => rfl
  | _ :: _, _ :: _, _ :: _, _, h => by
    obtain ⟨p, q, _, h2, _⟩ := h
    simp [trodAll_len h2]
  | [], _ :: _, _, _, h => by simp [DataW.TrodAll] at h
  | [], [], _ :: _, _, h => by simp [DataW.TrodAll] at h
  | _ :: _, [], _, _, h => by simp [DataW.TrodAll] at h
  | _ :: _, _ :: _, [], _, h => by simp [DataW.TrodAll] at h

theorem law_lifted {C : Checked} {os : Os} {f : FuncId} {fn : Func} {con : Con} {tab : Tab} {us : List Ty} {s : ChangeSpec} {conds : List PathCond} {H : Type} {enc : TypeId × Value → H} {rt : TypeId}
    (ok : TabOK C.prog tab) (hcon : ConOK C.prog f con)
    (hlaw : ∀ l : List Dv, l.map (·.1) = us → (∀ d ∈ l, okv d.1 d.2) → con (l.map .val) = some ⟨.val ⟨.bool, true⟩, []⟩)
    (own : ownKnob C.prog.godebug = none) (laidOut : laidOutB C.prog = true) (started : os.Started) (noInit : C.prog.inits.idxOf? f = none) (hfn : C.prog.funcs[f]? = some fn)
    (hb : fn.body.isSome = true) (hn : (fn.name == "runtime.NumGoroutine") = false) (hts : fn.params.toList.map (ty tab) = us.map some) (hrt : fn.resultTypes = #[rt]) (hbool : C.prog.underlying rt = some .bool)
    (hread : (fn.params.toList.all fun t => C.prog.readableRec t && decide (t < C.prog.types.size)) = true)
    (hvars : s.vars = []) (hs : ∀ ds : List (DataW H), ds.length = us.length → s.fn H ds = { results := [.lit (.bool true)], args := ds })
    (witness : ∃ (w : World) (tape : Tape) (i : Input), w.os = os ∧ (w.forCall tape i).Shaped C.prog ∧ i.vars = [] ∧ Input.okWide C.prog (w.forCall tape i) .any w.heap.size f i ∧
      s.pre6 enc C.prog fn conds false (w.forCall tape i).memory i.args ∧ Assume.holds {} C.prog (lone (Frame.enter C.prog f i.args .normal) [] (w.forCall tape i))) :
    ReturnsInHanded {} C os f .any (s.pre6 enc C.prog fn conds false) (s.post enc C.prog fn false true false false) := by
  refine returnsInHanded_of_change_sized own started noInit hfn witness ?_
  intro W base args ds gs before hval hW _ _ _
  have hW' := hW
  obtain ⟨p, q, hA, hV, rfl, hfz, hnd⟩ := hW
  rw [hvars] at hV
  have hg : gs = [] ∧ q = [] := by
    cases gs with
    | nil => exact ⟨rfl, hV⟩
    | cons g gs => simp [DataW.TrodVars] at hV
  obtain ⟨rfl, rfl⟩ := hg
  have hlt : ∀ x ∈ p, x.block < W.heap.size := fun x hx => hW'.lt x (by simpa using hx)
  refine (law_calls ok hcon hfn hb hn hlaw hts (fun j t v h1 h2 => hval j t v (by simpa using h1) (by simpa using h2)) hA).mono fun e W' ⟨he, bel⟩ => ?_
  subst he
  have hlen : ds.length = us.length := by
    rw [trodAll_len hA, ← List.length_map (as := fn.params.toList) (f := ty tab), hts, List.length_map]
  refine ⟨_, rfl, ds, [], p ++ [], [], p, [], hW', ?_, ?_, ?_, bel.frame _, fun h => by cases h⟩
  · rw [List.append_nil, hs ds hlen, hrt]
    exact ChangeShapes.trodAll_mk1 (RowKit.shut_bool hbool _)
  · rw [List.append_nil, hs ds hlen]
    exact trodAll_below laidOut bel hread hA hlt
  · rw [List.append_nil, hs ds hlen, hvars]
    rfl
end Go.Tm

/- How the rules are used: contracts of several functions, loops told by what turns in them. -/
set_option linter.unusedVariables false
set_option linter.unusedSimpArgs false
namespace Go.Tm

/-! ### Contracts -/
def cons : List (FuncId × Con) → Cons
  | [], _ => none
  | (f, c) :: l, g => if g = f then some c else cons l g

theorem cons_here {f : FuncId} {c : Con} {l : List (FuncId × Con)} : cons ((f, c) :: l) f = some c := by simp [cons]
theorem cons_there {f g : FuncId} {c : Con} {l : List (FuncId × Con)} (h : g ≠ f) : cons ((f, c) :: l) g = cons l g := by simp [cons, h]

theorem consOK_nil {P : Program} : ConsOK P (cons []) := fun f con h => by cases h
theorem consOK_cons {P : Program} {f : FuncId} {c : Con} {l : List (FuncId × Con)} (h : ConOK P f c) (hl : ConsOK P (cons l)) : ConsOK P (cons ((f, c) :: l)) := by
  intro g con hg
  simp only [cons] at hg
  split at hg
  · rename_i e
    injection hg with hg
    subst e hg
    exact h
  · exact hl g con hg

def fnOK (fn : Func) : Bool := fn.body.isSome && (fn.name != "runtime.NumGoroutine") && fits fn.ntmps (fn.body.getD .skip) && decide (fn.ntmps ≤ ghost)

theorem con_okR {P : Program} {tab : Tab} {Γ : Cons} {f : FuncId} {fn : Func} {con : Con} (ok : TabOK P tab) (hΓ : ConsOK P Γ) (hm : P.follows .mixedOrders = true) (hf : P.funcs[f]? = some fn) (hfn : fnOK fn = true)
    (h : ∀ args out, con args = some out → args ≠ [.ask] → args.length ≤ fn.ntmps ∧ Ex tab Γ (fn.body.getD .skip) (EndsF tab fn.results.toList args out) (ini args)) : ConOK P f con := by
  simp only [fnOK, Bool.and_eq_true, bne_iff_ne, decide_eq_true_eq] at hfn
  obtain ⟨⟨⟨h1, h2⟩, h3⟩, h4⟩ := hfn
  obtain ⟨c, hc⟩ := Option.isSome_iff_exists.1 h1
  rw [hc] at h h3
  exact fn_ok ok hΓ hm hf (by simpa using h2) hc (by rw [show fits fn.ntmps c = true from h3, Bool.true_and]; exact decide_eq_true h4) h

theorem con_ok {P : Program} {tab : Tab} {Γ : Cons} {f : FuncId} {fn : Func} {con : Con} (ok : TabOK P tab) (hΓ : ConsOK P Γ) (hm : P.follows .mixedOrders = true) (hf : P.funcs[f]? = some fn) (hfn : fnOK fn = true)
    (h : ∀ args out, con args = some out → args.length ≤ fn.ntmps ∧ Ex tab Γ (fn.body.getD .skip) (EndsF tab fn.results.toList args out) (ini args)) : ConOK P f con :=
  con_okR ok hΓ hm hf hfn fun args out hc _ => h args out hc

/-! ### Contracts by the types of the arguments -/
inductive AK where
  | v
  | o
  | p
@[reducible] def Dens : List (AK × Ty) → Type
  | [] => Unit
  | k :: r => k.2.den × Dens r
def mkA : AK → Dv → Arg
  | .v => .val
  | .o => .obj
  | .p => .ptr
def mkArgs : (ks : List (AK × Ty)) → Dens ks → List Arg
  | [], _ => []
  | k :: r, x => mkA k.1 ⟨k.2, x.1⟩ :: mkArgs r x.2
def unA (k : AK) (t : Ty) (a : Arg) : Option t.den :=
  match k, a with
  | .v, .val d => castTo d.1 t d.2
  | .o, .obj d => castTo d.1 t d.2
  | .p, .ptr d => castTo d.1 t d.2
  | _, _ => none
def unArgs : (ks : List (AK × Ty)) → List Arg → Option (Dens ks)
  | [], [] => some ()
  | k :: r, a :: as => match unA k.1 k.2 a, unArgs r as with
    | some x, some xs => some (x, xs)
    | _, _ => none
  | _, _ => none
def conN (ks : List (AK × Ty)) (F : Dens ks → Option Out) : Con := fun args => (unArgs ks args).bind F
theorem unA_mk (k : AK) (t : Ty) (x : t.den) : unA k t (mkA k ⟨t, x⟩) = some x := by cases k <;> simp [unA, mkA]
theorem unArgs_mk : ∀ (ks : List (AK × Ty)) (x : Dens ks), unArgs ks (mkArgs ks x) = some x
  | [], _ => rfl
  | k :: r, x => by simp only [mkArgs, unArgs, unA_mk, unArgs_mk r]
theorem mkArgs_len : ∀ (ks : List (AK × Ty)) (x : Dens ks), (mkArgs ks x).length = ks.length
  | [], _ => rfl
  | k :: r, x => by simp only [mkArgs, List.length_cons, mkArgs_len r]
theorem conN_mk {ks : List (AK × Ty)} {F : Dens ks → Option Out} (x : Dens ks) : conN ks F (mkArgs ks x) = F x := by simp [conN, unArgs_mk]
theorem unA_inv {k : AK} {t : Ty} {a : Arg} {x : t.den} (h : unA k t a = some x) : a = mkA k ⟨t, x⟩ := by
  unfold unA at h
  split at h <;> first
    | (obtain ⟨rfl, rfl⟩ := cast_cast h; rfl)
    | (cases h; done)
theorem unArgs_inv : ∀ {ks : List (AK × Ty)} {args : List Arg} {x : Dens ks}, unArgs ks args = some x → args = mkArgs ks x
  | [], [], _, _ => rfl
  | k :: r, a :: as, x, h => by
    simp only [unArgs] at h
    split at h
    · rename_i y ys h1 h2
      injection h with h
      subst h
      simp only [mkArgs]
      rw [unA_inv h1, unArgs_inv h2]
    · cases h
  | [], _ :: _, _, h => by cases h
  | _ :: _, [], _, h => by cases h
theorem conN_inv {ks : List (AK × Ty)} {F : Dens ks → Option Out} {args : List Arg} {out : Out} (h : conN ks F args = some out) : ∃ x, args = mkArgs ks x ∧ F x = some out := by
  unfold conN at h
  rw [Option.bind_eq_some_iff] at h
  obtain ⟨x, h1, h2⟩ := h
  exact ⟨x, unArgs_inv h1, h2⟩

/-! ### Contracts of functions to which rows are given for good, or functions are handed -/
inductive AK2 where
  | v
  | o
  | p
  | r
  | c (f : FuncId) (us : List Ty)
@[reducible] def prodT : List Ty → Ty
  | [] => .unit
  | u :: us => .prod u (prodT us)
@[reducible] def kTy : AK2 → Ty → Ty
  | .v, t => t
  | .o, t => t
  | .p, t => t
  | .r, t => .slice t
  | .c _ us, _ => prodT us
def capsL : (us : List Ty) → (prodT us).den → List Dv
  | [], _ => []
  | u :: us, x => ⟨u, x.1⟩ :: capsL us x.2
def unCaps : (us : List Ty) → List Dv → Option (prodT us).den
  | [], [] => some ()
  | u :: us, d :: l => match castTo d.1 u d.2, unCaps us l with
    | some x, some y => some (x, y)
    | _, _ => none
  | _, _ => none
theorem unCaps_mk : ∀ (us : List Ty) (x : (prodT us).den), unCaps us (capsL us x) = some x
  | [], _ => rfl
  | u :: us, x => by simp only [capsL, unCaps, castTo_self, unCaps_mk us]
theorem unCaps_inv : ∀ {us : List Ty} {l : List Dv} {x : (prodT us).den}, unCaps us l = some x → l = capsL us x
  | [], [], _, _ => rfl
  | u :: us, d :: l, x, h => by
    simp only [unCaps] at h
    split at h
    · rename_i y z h1 h2
      injection h with h
      subst h
      obtain ⟨e, he⟩ := cast_cast h1
      obtain ⟨t, d⟩ := d
      simp only at e he
      subst e
      subst he
      rw [capsL, unCaps_inv h2]
    · cases h
  | [], _ :: _, _, h => by cases h
  | _ :: _, [], _, h => by cases h
@[reducible] def Dens2 : List (AK2 × Ty) → Type
  | [] => Unit
  | k :: r => (kTy k.1 k.2).den × Dens2 r
def mkA2 : (k : AK2) → (t : Ty) → (kTy k t).den → Arg
  | .v, t, x => .val ⟨t, x⟩
  | .o, t, x => .obj ⟨t, x⟩
  | .p, t, x => .ptr ⟨t, x⟩
  | .r, t, x => .row t x
  | .c f us, _, x => .clo f (capsL us x)
def mkArgs2 : (ks : List (AK2 × Ty)) → Dens2 ks → List Arg
  | [], _ => []
  | k :: r, x => mkA2 k.1 k.2 x.1 :: mkArgs2 r x.2
def unA2 : (k : AK2) → (t : Ty) → Arg → Option (kTy k t).den
  | .v, t, .val d => castTo d.1 t d.2
  | .o, t, .obj d => castTo d.1 t d.2
  | .p, t, .ptr d => castTo d.1 t d.2
  | .r, t, .row u xs => castTo (.slice u) (.slice t) xs
  | .c f us, _, .clo g l => if f = g then unCaps us l else none
  | _, _, _ => none
def unArgs2 : (ks : List (AK2 × Ty)) → List Arg → Option (Dens2 ks)
  | [], [] => some ()
  | k :: r, a :: as => match unA2 k.1 k.2 a, unArgs2 r as with
    | some x, some xs => some (x, xs)
    | _, _ => none
  | _, _ => none
theorem unA2_mk (k : AK2) (t : Ty) (x : (kTy k t).den) : unA2 k t (mkA2 k t x) = some x := by cases k <;> simp [unA2, mkA2, unCaps_mk]
theorem unArgs2_mk : ∀ (ks : List (AK2 × Ty)) (x : Dens2 ks), unArgs2 ks (mkArgs2 ks x) = some x
  | [], _ => rfl
  | k :: r, x => by simp only [mkArgs2, unArgs2, unA2_mk, unArgs2_mk r]
theorem mkArgs2_len : ∀ (ks : List (AK2 × Ty)) (x : Dens2 ks), (mkArgs2 ks x).length = ks.length
  | [], _ => rfl
  | k :: r, x => by simp only [mkArgs2, List.length_cons, mkArgs2_len r]
theorem unA2_inv {k : AK2} {t : Ty} {a : Arg} {x : (kTy k t).den} (h : unA2 k t a = some x) : a = mkA2 k t x := by
  unfold unA2 at h
  split at h <;> first
    | (obtain ⟨e, he⟩ := cast_cast h; first | (subst e; subst he; rfl) | (injection e with e; subst e; subst he; rfl))
    | (split at h
       · rename_i e
         subst e
         rw [unCaps_inv h]; rfl
       · cases h)
    | (cases h; done)
theorem unArgs2_inv : ∀ {ks : List (AK2 × Ty)} {args : List Arg} {x : Dens2 ks}, unArgs2 ks args = some x → args = mkArgs2 ks x
  | [], [], _, _ => rfl
  | k :: r, a :: as, x, h => by
    simp only [unArgs2] at h
    split at h
    · rename_i y ys h1 h2
      injection h with h
      subst h
      simp only [mkArgs2]
      rw [unA2_inv h1, unArgs2_inv h2]
    · cases h
  | [], _ :: _, _, h => by cases h
  | _ :: _, [], _, h => by cases h
/-- With rows: asked, it says so. -/
def conR (ks : List (AK2 × Ty)) (F : Dens2 ks → Option Out) : Con := fun args => match args with
  | [.ask] => some ⟨.unit, []⟩
  | args => (unArgs2 ks args).bind F
/-- Without rows. -/
def conF (ks : List (AK2 × Ty)) (F : Dens2 ks → Option Out) : Con := fun args => match args with
  | [.ask] => none
  | args => (unArgs2 ks args).bind F
theorem mkArgs2_ask {ks : List (AK2 × Ty)} (x : Dens2 ks) : mkArgs2 ks x ≠ [.ask] := by
  cases ks with
  | nil => intro h; cases h
  | cons k r =>
    intro h
    simp only [mkArgs2, List.cons.injEq] at h
    obtain ⟨k, t⟩ := k
    cases k <;> cases h.1
theorem conR_mk {ks : List (AK2 × Ty)} {F : Dens2 ks → Option Out} (x : Dens2 ks) : conR ks F (mkArgs2 ks x) = F x := by
  unfold conR
  split
  · rename_i h; exact absurd h (mkArgs2_ask x)
  · simp [unArgs2_mk]
theorem conF_mk {ks : List (AK2 × Ty)} {F : Dens2 ks → Option Out} (x : Dens2 ks) : conF ks F (mkArgs2 ks x) = F x := by
  unfold conF
  split
  · rename_i h; exact absurd h (mkArgs2_ask x)
  · simp [unArgs2_mk]
theorem conR_inv {ks : List (AK2 × Ty)} {F : Dens2 ks → Option Out} {args : List Arg} {out : Out} (h : conR ks F args = some out) (hne : args ≠ [.ask]) : ∃ x, args = mkArgs2 ks x ∧ F x = some out := by
  unfold conR at h
  split at h
  · exact absurd rfl hne
  · rw [Option.bind_eq_some_iff] at h
    obtain ⟨x, h1, h2⟩ := h
    exact ⟨x, unArgs2_inv h1, h2⟩
theorem conF_inv {ks : List (AK2 × Ty)} {F : Dens2 ks → Option Out} {args : List Arg} {out : Out} (h : conF ks F args = some out) : ∃ x, args = mkArgs2 ks x ∧ F x = some out := by
  unfold conF at h
  split at h
  · cases h
  · rw [Option.bind_eq_some_iff] at h
    obtain ⟨x, h1, h2⟩ := h
    exact ⟨x, unArgs2_inv h1, h2⟩

/-! ### Laws -/
open Classical in
/-- What a law promises: whatever it is given, it says true. -/
noncomputable def lawC (us : List Ty) : Con := fun args => if ∃ l : List Dv, args = l.map .val ∧ l.map (·.1) = us ∧ ∀ d ∈ l, okv d.1 d.2 then some ⟨.val ⟨.bool, true⟩, []⟩ else none

theorem lawC_eq {us : List Ty} {l : List Dv} (h1 : l.map (·.1) = us) (h2 : ∀ d ∈ l, okv d.1 d.2) : lawC us (l.map .val) = some ⟨.val ⟨.bool, true⟩, []⟩ := if_pos ⟨l, rfl, h1, h2⟩

abbrev LawEx (tab : Tab) (Γ : Cons) (fn : Func) (us : List Ty) : Prop := ∀ l : List Dv, l.map (·.1) = us → (∀ d ∈ l, okv d.1 d.2) →
  Ex tab Γ (fn.body.getD .skip) (EndsF tab fn.results.toList (l.map .val) ⟨.val ⟨.bool, true⟩, []⟩) (ini (l.map .val))

theorem law_con {P : Program} {tab : Tab} {Γ : Cons} {f : FuncId} {fn : Func} {us : List Ty} (ok : TabOK P tab) (hΓ : ConsOK P Γ) (hm : P.follows .mixedOrders = true) (hf : P.funcs[f]? = some fn) (hfn : fnOK fn = true)
    (hn : us.length ≤ fn.ntmps) (h : LawEx tab Γ fn us) : ConOK P f (lawC us) := by
  refine con_ok ok hΓ hm hf hfn fun args out hc => ?_
  unfold lawC at hc
  split at hc
  · rename_i hex
    obtain ⟨l, rfl, h1, h2⟩ := hex
    injection hc with hc
    subst hc
    refine ⟨?_, h l h1 h2⟩
    have := congrArg List.length h1
    simp at this
    simp; omega
  · cases hc

theorem types_nil {l : List Dv} (h : l.map (·.1) = []) : l = [] := by simpa using h
theorem types_cons {l : List Dv} {t : Ty} {us : List Ty} (h : l.map (·.1) = t :: us) : ∃ (x : t.den) (r : List Dv), l = ⟨t, x⟩ :: r ∧ r.map (·.1) = us := by
  cases l with
  | nil => cases h
  | cons d l =>
    obtain ⟨t', x⟩ := d
    simp only [List.map_cons, List.cons.injEq] at h
    obtain ⟨rfl, h⟩ := h
    exact ⟨x, l, rfl, h⟩

/-! ### Loops -/
def mem (k : Nat) : List Nat → Bool
  | [] => false
  | d :: l => k == d || mem k l

/-- Another state, of which all but D is as it was. -/
def hav (j st : St) (D : List Nat) : St := fun k => if mem k D = true then j k else st k
theorem hav_in {j st : St} {D : List Nat} {k : Nat} (h : mem k D = true) : hav j st D k = j k := by simp [hav, h]
theorem hav_out {j st : St} {D : List Nat} {k : Nat} (h : mem k D = false) : hav j st D k = st k := by simp [hav, h]

structure Off (D : List Nat) (st st' : St) : Prop where mk ::
  out : ∀ k, mem k D = false → st' k = st k
theorem off_self {D : List Nat} {st : St} : Off D st st = True := eq_true ⟨fun _ _ => rfl⟩
theorem off_hav {D : List Nat} {j st : St} : Off D st (hav j st D) = True := eq_true ⟨fun k h => hav_out h⟩
theorem off_put {D : List Nat} {st f : St} {d : Nat} {s : Slot} (h : mem d D = true) : Off D st (put f d s) = Off D st f := by
  refine propext ⟨fun h' => ⟨fun k hk => ?_⟩, fun h' => ⟨fun k hk => ?_⟩⟩
  · have := h'.out k hk
    rwa [put_ne _ _ (fun e => by subst e; rw [h] at hk; cases hk)] at this
  · rw [put_ne _ _ (fun e => by subst e; rw [h] at hk; cases hk)]
    exact h'.out k hk
def inL (D E : List Nat) : Bool := D.all fun k => mem k E
theorem mem_inL {D E : List Nat} (h : inL D E = true) {k : Nat} (hk : mem k E = false) : mem k D = false := by
  induction D with
  | nil => rfl
  | cons d D ih =>
    simp only [inL, List.all_cons, Bool.and_eq_true] at h
    simp only [mem, Bool.or_eq_false_iff]
    refine ⟨?_, ih h.2⟩
    cases e : k == d with
    | false => rfl
    | true => rw [beq_iff_eq] at e; subst e; rw [h.1] at hk; cases hk
theorem off_hav' {D E : List Nat} {j st f : St} (h : inL E D = true) : Off D st (hav j f E) = Off D st f := by
  refine propext ⟨fun h' => ⟨fun k hk => ?_⟩, fun h' => ⟨fun k hk => ?_⟩⟩
  · have := h'.out k hk
    rwa [hav_out (mem_inL h hk)] at this
  · rw [hav_out (mem_inL h hk)]
    exact h'.out k hk

theorem app_eq : ∀ {u : Ups} {f g : St}, (∀ p ∈ u, g p.1 = p.2) → (∀ k, (∀ p ∈ u, p.1 ≠ k) → f k = g k) → app u f = g
  | [], f, g, h1, h2 => by
    funext k
    exact h2 k (fun p hp => by cases hp)
  | p :: u, f, g, h1, h2 => by
    rw [app_cons]
    refine app_eq (fun q hq => h1 q (by simp [hq])) (fun k hk => ?_)
    by_cases e : k = p.1
    · subst e
      rw [put_same]
      exact (h1 p (by simp)).symm
    · rw [put_ne _ _ e]
      refine h2 k (fun q hq => ?_)
      rcases List.mem_cons.1 hq with rfl | hq
      · exact fun e' => e e'.symm
      · exact hk q hq

def holds (u : Ups) (st : St) : Prop := ∀ p ∈ u, st p.1 = p.2
theorem holds_nil {st : St} : holds [] st = True := eq_true (fun p hp => by cases hp)
theorem holds_cons {k : Nat} {s : Slot} {u : Ups} {st : St} : holds ((k, s) :: u) st = (st k = s ∧ holds u st) := by simp [holds]

section
variable {tab : Tab} {Γ : Cons}
/-- A loop: F: what of the call's own is told as only read from here on; G: what of nil is told as a row of the call's own; D: the slots that turn in it; live: which of them are read again, and what they hold; I: what is known of that. -/
theorem ex_loopG' {σ : Type} (F : List Nat) (G : List (Nat × Ty)) {x : Code} {Q : Exit → St → Prop} {st : St} (D : List Nat) (live : σ → Ups) (I : σ → Prop) (μ : σ → Nat) (h0 : ∀ m, ∃ a0, I a0 ∧ holds (live a0) (opens m G (seals F st)))
    (h : ∀ (m : Nat) (j : St) (a : σ), I a → Ex tab Γ x (loopK Q fun st' => ∃ a', I a' ∧ μ a' < μ a ∧ holds (live a') st' ∧ Off D (opens m G (seals F st)) st') (app (live a) (hav j (opens m G (seals F st)) D))) : Ex tab Γ (.loop x) Q st := by
  refine ex_loopG F G fun m => ?_
  obtain ⟨a0, h0, hl⟩ := h0 m
  refine ⟨fun n st1 => ∃ a, I a ∧ n = μ a ∧ holds (live a) st1 ∧ Off D (opens m G (seals F st)) st1, μ a0, ⟨a0, h0, rfl, hl, ⟨fun _ _ => rfl⟩⟩, ?_⟩
  rintro n st1 ⟨a, h1, rfl, h2, h3⟩
  have e : app (live a) (hav st1 (opens m G (seals F st)) D) = st1 := app_eq h2 (fun k _ => by
    cases hk : mem k D with
    | true => exact hav_in hk
    | false => rw [hav_out hk, h3.out k hk])
  have := h m st1 a h1
  rw [e] at this
  refine ex_mono this fun e st' hk => ?_
  cases e <;> first
    | (obtain ⟨a', k1, k2, k3, k4⟩ := hk; exact ⟨_, k2, a', k1, rfl, k3, k4⟩)
    | exact hk
theorem seals_obj {st : St} {k n : Nat} {t : Ty} {x : t.den} (h : st k = .obj n t x) (hk : k < ghost) : seals [k] st = put st k (.rpt t x) := by
  show seal1 k st = _
  unfold seal1
  rw [h]
  simp only [hk, if_true]
theorem seals_own {st : St} {k n : Nat} {t : Ty} {xs : List t.den} (h : st k = .own n t xs) : seals [k] st = put st k (.val (.slice t) xs) := by
  show seal1 k st = _
  unfold seal1
  rw [h]
theorem opens_one {st : St} {m k : Nat} {t : Ty} (h : st k = .nil) : opens m [(k, t)] st = put st k (.own m t []) := by
  show open1 m k t st = _
  unfold open1
  rw [h]
theorem opens_two {st : St} {m k k2 : Nat} {t t2 : Ty} (h : st k = .nil) (h2 : put st k (.own m t []) k2 = .nil) : opens m [(k, t), (k2, t2)] st = put (put st k (.own m t [])) k2 (.own (m + 1) t2 []) := by
  show open1 (m + 1) k2 t2 (open1 m k t st) = _
  rw [show open1 m k t st = put st k (.own m t []) from opens_one h]
  unfold open1
  rw [h2]
/-- A loop before which an object of the call's own is told as one that is only read. -/
theorem ex_loopO {σ : Type} {x : Code} {Q : Exit → St → Prop} {st : St} (k : Nat) {n : Nat} {t : Ty} {v : t.den} (hk : st k = .obj n t v) (hlt : k < ghost) (D : List Nat) (live : σ → Ups) (I : σ → Prop) (μ : σ → Nat) (a0 : σ) (h0 : I a0) (hl : holds (live a0) (put st k (.rpt t v)))
    (h : ∀ (j : St) (a : σ), I a → Ex tab Γ x (loopK Q fun st' => ∃ a', I a' ∧ μ a' < μ a ∧ holds (live a') st' ∧ Off D (put st k (.rpt t v)) st') (app (live a) (hav j (put st k (.rpt t v)) D))) : Ex tab Γ (.loop x) Q st := by
  rw [← seals_obj hk hlt] at hl h
  exact ex_loopG' [k] [] D live I μ (fun _ => ⟨a0, h0, hl⟩) (fun _ => h)
/-- A loop before which a row of the call's own is told as one that is only read. -/
theorem ex_loopR {σ : Type} {x : Code} {Q : Exit → St → Prop} {st : St} (k : Nat) {n : Nat} {t : Ty} {v : List t.den} (hk : st k = .own n t v) (D : List Nat) (live : σ → Ups) (I : σ → Prop) (μ : σ → Nat) (a0 : σ) (h0 : I a0) (hl : holds (live a0) (put st k (.val (.slice t) v)))
    (h : ∀ (j : St) (a : σ), I a → Ex tab Γ x (loopK Q fun st' => ∃ a', I a' ∧ μ a' < μ a ∧ holds (live a') st' ∧ Off D (put st k (.val (.slice t) v)) st') (app (live a) (hav j (put st k (.val (.slice t) v)) D))) : Ex tab Γ (.loop x) Q st := by
  rw [← seals_own hk] at hl h
  exact ex_loopG' [k] [] D live I μ (fun _ => ⟨a0, h0, hl⟩) (fun _ => h)
/-- A loop before which a nil is told as a row of the call's own. -/
theorem ex_loopN {σ : Type} {x : Code} {Q : Exit → St → Prop} {st : St} (k : Nat) (t : Ty) (hk : st k = .nil) (D : List Nat) (live : σ → Ups) (I : σ → Prop) (μ : σ → Nat) (h0 : ∀ m, ∃ a0, I a0 ∧ holds (live a0) (put st k (.own m t [])))
    (h : ∀ (m : Nat) (j : St) (a : σ), I a → Ex tab Γ x (loopK Q fun st' => ∃ a', I a' ∧ μ a' < μ a ∧ holds (live a') st' ∧ Off D (put st k (.own m t [])) st') (app (live a) (hav j (put st k (.own m t [])) D))) : Ex tab Γ (.loop x) Q st := by
  refine ex_loopG' [] [(k, t)] D live I μ (fun m => ?_) (fun m => ?_)
  · rw [show opens m [(k, t)] (seals [] st) = put st k (.own m t []) from opens_one hk]; exact h0 m
  · rw [show opens m [(k, t)] (seals [] st) = put st k (.own m t []) from opens_one hk]; exact h m
theorem ex_loopN2 {σ : Type} {x : Code} {Q : Exit → St → Prop} {st : St} (k : Nat) (t : Ty) (k2 : Nat) (t2 : Ty) (hk : st k = .nil) (hk2 : ∀ m, put st k (.own m t []) k2 = .nil) (D : List Nat) (live : σ → Ups) (I : σ → Prop) (μ : σ → Nat) (h0 : ∀ m, ∃ a0, I a0 ∧ holds (live a0) (put (put st k (.own m t [])) k2 (.own (m + 1) t2 [])))
    (h : ∀ (m : Nat) (j : St) (a : σ), I a → Ex tab Γ x (loopK Q fun st' => ∃ a', I a' ∧ μ a' < μ a ∧ holds (live a') st' ∧ Off D (put (put st k (.own m t [])) k2 (.own (m + 1) t2 [])) st') (app (live a) (hav j (put (put st k (.own m t [])) k2 (.own (m + 1) t2 [])) D))) : Ex tab Γ (.loop x) Q st := by
  refine ex_loopG' [] [(k, t), (k2, t2)] D live I μ (fun m => ?_) (fun m => ?_)
  · rw [show opens m [(k, t), (k2, t2)] (seals [] st) = put (put st k (.own m t [])) k2 (.own (m + 1) t2 []) from opens_two hk (hk2 m)]; exact h0 m
  · rw [show opens m [(k, t), (k2, t2)] (seals [] st) = put (put st k (.own m t [])) k2 (.own (m + 1) t2 []) from opens_two hk (hk2 m)]; exact h m
/-- A loop before which a nil is told as a row that is only read. -/
theorem ex_loopV {σ : Type} {x : Code} {Q : Exit → St → Prop} {st : St} (k : Nat) (t : Ty) (hk : st k = .nil) (D : List Nat) (live : σ → Ups) (I : σ → Prop) (μ : σ → Nat) (a0 : σ) (h0 : I a0) (hl : holds (live a0) (put st k (.val (.slice t) [])))
    (h : ∀ (j : St) (a : σ), I a → Ex tab Γ x (loopK Q fun st' => ∃ a', I a' ∧ μ a' < μ a ∧ holds (live a') st' ∧ Off D (put st k (.val (.slice t) [])) st') (app (live a) (hav j (put st k (.val (.slice t) [])) D))) : Ex tab Γ (.loop x) Q st := by
  refine ex_loopH k t hk (fun n st1 => ∃ a, I a ∧ n = μ a ∧ holds (live a) st1 ∧ Off D (put st k (.val (.slice t) [])) st1) (μ a0) ⟨a0, h0, rfl, hl, ⟨fun _ _ => rfl⟩⟩ ?_
  rintro n st1 ⟨a, h1, rfl, h2, h3⟩
  have e : app (live a) (hav st1 (put st k (.val (.slice t) [])) D) = st1 := app_eq h2 (fun k' _ => by
    cases hk : mem k' D with
    | true => exact hav_in hk
    | false => rw [hav_out hk, h3.out k' hk])
  have := h st1 a h1
  rw [e] at this
  refine ex_mono this fun e st' hk => ?_
  cases e <;> first
    | (obtain ⟨a', k1, k2, k3, k4⟩ := hk; exact ⟨_, k2, a', k1, rfl, k3, k4⟩)
    | exact hk
theorem ex_loopU {σ : Type} {x : Code} {Q : Exit → St → Prop} {st : St} (D : List Nat) (live : σ → Ups) (I : σ → Prop) (μ : σ → Nat) (a0 : σ) (h0 : I a0) (hl : holds (live a0) st)
    (h : ∀ (j : St) (a : σ), I a → Ex tab Γ x (loopK Q fun st' => ∃ a', I a' ∧ μ a' < μ a ∧ holds (live a') st' ∧ Off D st st') (app (live a) (hav j st D))) : Ex tab Γ (.loop x) Q st := ex_loopG' [] [] D live I μ (fun _ => ⟨a0, h0, hl⟩) (fun _ => h)
end

theorem mem_nil {k : Nat} : mem k [] = false := rfl
theorem mem_cons {k d : Nat} {l : List Nat} : mem k (d :: l) = (k == d || mem k l) := rfl
theorem inL_nil {E : List Nat} : inL [] E = true := rfl
theorem inL_cons {d : Nat} {D E : List Nat} : inL (d :: D) E = (mem d E && inL D E) := by simp [inL]
attribute [simp] hav_in hav_out off_self off_hav off_put off_hav' holds_nil holds_cons mem_nil mem_cons inL_nil inL_cons
/-! ### Guards: where the ways part, what the guard says stands in the state. -/
class KontS where
  f : St → Prop
theorem kontS_f {g : St → Prop} {st : St} : @KontS.f ⟨g⟩ st = g st := rfl
def gI (s : Slot) (t : Option Tmp) (want : Bool) (st : St) [X : KontS] [Y : KontS] : Prop := gUse s want (X.f st) (Y.f st)
section
variable {t : Option Tmp} {k : Tmp} {want b : Bool} {st : St} [X : KontS] [Y : KontS]
theorem gI_tt : gI (.val .bool true) t true st (X := X) (Y := Y) = X.f st := by simp [gI, gUse_bool]
theorem gI_tf : gI (.val .bool true) t false st (X := X) (Y := Y) = Y.f st := by simp [gI, gUse_bool]
theorem gI_ft : gI (.val .bool false) t true st (X := X) (Y := Y) = Y.f st := by simp [gI, gUse_bool]
theorem gI_ff : gI (.val .bool false) t false st (X := X) (Y := Y) = X.f st := by simp [gI, gUse_bool]
theorem gI_tup : gI (.tup []) t want st (X := X) (Y := Y) = Y.f st := by simp [gI, gUse_tup]
end
section
variable {tab : Tab} {Γ : Cons} {d : Option Tmp} {ty0 : TypeId} {ps : String} {af : Array Edge} {m : Nat} {st : St} {ops : Array Oper} {r : List Oper} {o : Op} {j : Nat} {want b : Bool} {k : Tmp}
theorem g_exL {K : Exit → St → Prop} : ExL tab Γ ops (⟨d, o, ty0, ps, af, some (j, want)⟩ :: r) m st K =
    gI (gSlot st (gtmp ops j)) (gtmp ops j) want st (X := ⟨fun st => ExL tab Γ ops (⟨d, o, ty0, ps, af, none⟩ :: r) m st K⟩) (Y := ⟨fun st => ExL tab Γ ops r (m + 1) (app (dstUps d (.tup [])) st) K⟩) := exL_guard
end

/-- A guard of which nothing is known yet: behind it, it is known. -/
structure Known (st : St) (k : Tmp) (b : Bool) : Prop where mk ::
  out : st k = .val .bool b
theorem put_known {st : St} {k : Tmp} {s : Slot} (h : st k = s) : put st k s = st := by
  funext i
  by_cases e : i = k
  · subst e; rw [put_same, h]
  · rw [put_ne _ _ e]
theorem gI_b {k : Tmp} {want b : Bool} {st : St} [X : KontS] [Y : KontS] (h : st k = .val .bool b) : gI (.val .bool b) (some k) want st (X := X) (Y := Y) =
    br b (gI (.val .bool true) (some k) want (put st k (.val .bool true)) (X := X) (Y := Y)) (gI (.val .bool false) (some k) want (put st k (.val .bool false)) (X := X) (Y := Y)) := by
  cases b with
  | true => rw [br_true, put_known h]
  | false => rw [br_false, put_known h]

attribute [simp] kontS_f gI_tt gI_tf gI_ft gI_ff gI_tup g_exL
attribute [simp low] gI_b
theorem br_xf {b : Bool} {X : Prop} : br b X False = (b = true ∧ X) := by cases b <;> simp [br]
theorem br_fx {b : Bool} {X : Prop} : br b False X = (b = false ∧ X) := by cases b <;> simp [br]
theorem br_tx {b : Bool} {X : Prop} : br b True X = (b = false → X) := by cases b <;> simp [br]
theorem br_xt {b : Bool} {X : Prop} : br b X True = (b = true → X) := by cases b <;> simp [br]
theorem br_xx {b : Bool} {X : Prop} : br b X X = X := by cases b <;> simp [br]
attribute [simp] br_xf br_fx br_tx br_xt br_xx

/-! ### Regions that draw their order -/
def rdA (s : Slot) : List Nat := match aliasOf s with | some (_, k) => [k] | none => []
def rdl (st : St) : List Operand → List Nat
  | [] => []
  | x :: r => (match x with | .tmp t => t :: rdA (st t) | _ => []) ++ rdl st r
theorem rdA_val {t : Ty} {x : t.den} : rdA (.val t x) = [] := rfl
theorem rdA_nil : rdA .nil = [] := rfl
theorem rdA_dead : rdA .dead = [] := rfl
theorem rdA_own {n : Nat} {t : Ty} {x : List t.den} : rdA (.own n t x) = [] := rfl
theorem rdA_obj {n : Nat} {t : Ty} {x : t.den} : rdA (.obj n t x) = [] := rfl
theorem rdA_asl {n k : Nat} {g : Option (Nat × Nat)} : rdA (.asl n k g) = [k] := rfl
theorem rdA_apt {n k : Nat} {p : List Way} : rdA (.apt n k p) = [k] := rfl
theorem rdA_rpt {t : Ty} {x : t.den} : rdA (.rpt t x) = [] := rfl
theorem rdA_clo {f : FuncId} {l : List Dv} : rdA (.clo f l) = [] := rfl
theorem rdA_tup {l : List Dv} : rdA (.tup l) = [] := rfl
theorem rdA_ifc {T : TypeId} {t : Ty} {x : t.den} : rdA (.ifc T t x) = [] := rfl
section
variable {st : St} {t : Tmp} {r : List Operand} {v : Value} {f : FuncId} {ops : Array Oper} {d : Option Tmp} {op : Op} {ty0 : TypeId} {ps : String} {af : Array Edge} {j : Nat} {w : Bool}
theorem rdl_nil : rdl st [] = [] := rfl
theorem rdl_tmp : rdl st (.tmp t :: r) = t :: (rdA (st t) ++ rdl st r) := rfl
theorem rdl_const : rdl st (.const v :: r) = rdl st r := rfl
theorem rdl_func : rdl st (.func f :: r) = rdl st r := rfl
theorem rdl_eq : ∀ l : List Operand, (l.map (rd1 st)).flatten = rdl st l
  | [] => rfl
  | x :: l => by
    rw [List.map_cons, List.flatten_cons, rdl_eq l]
    cases x <;> rfl
def rdM (b : Bool) (st : St) : List Operand → List Nat
  | [] => []
  | x :: r => rd2 b st x ++ rdM b st r
theorem rdM_nil {b : Bool} : rdM b st [] = [] := rfl
theorem rdM_move : rdM true st (.tmp t :: r) = t :: rdM true st r := rfl
theorem rdM_tmp : rdM false st (.tmp t :: r) = t :: (rdA (st t) ++ rdM false st r) := rfl
theorem rdM_const {b : Bool} : rdM b st (.const v :: r) = rdM b st r := by cases b <;> rfl
theorem rdM_func {b : Bool} : rdM b st (.func f :: r) = rdM b st r := by cases b <;> rfl
theorem rdM_eq {b : Bool} : ∀ l : List Operand, (l.map (rd2 b st)).flatten = rdM b st l
  | [] => rfl
  | x :: l => by rw [List.map_cons, List.flatten_cons, rdM_eq l]; rfl
theorem rds_none : rds ops st ⟨d, op, ty0, ps, af, none⟩ = rdM (shallow op) st (opnds op) := by
  unfold rds
  rw [rdM_eq]
  rfl
theorem rds_some : rds ops st ⟨d, op, ty0, ps, af, some (j, w)⟩ = (gtmp ops j).toList ++ rdM (shallow op) st (opnds op) := by
  unfold rds
  rw [rdM_eq]
variable {x y z : Operand} {T T2 : TypeId} {o : BinOp} {o2 : UnOp} {k : Nat} {parts : Array (Nat × Operand)} {c : Call}
theorem opn_move : opnds (.move x) = [x] := rfl
theorem opn_assign : opnds (.assign x) = [x] := rfl
theorem opn_box : opnds (.box T x) = [x] := rfl
theorem opn_load : opnds (.load T x) = [x] := rfl
theorem opn_nilCheck : opnds (.nilCheck x) = [x] := rfl
theorem opn_unOp : opnds (.unOp o2 T x) = [x] := rfl
theorem opn_convert : opnds (.convert T T2 x) = [x] := rfl
theorem opn_fieldAddr : opnds (.fieldAddr T x k) = [x] := rfl
theorem opn_field : opnds (.field T x k) = [x] := rfl
theorem opn_extract : opnds (.extract x k) = [x] := rfl
theorem opn_iface : opnds (.makeInterface T x) = [x] := rfl
theorem opn_pick : opnds (.pick x y z) = [x, y, z] := rfl
theorem opn_build : opnds (.build T parts) = parts.toList.map (·.2) := rfl
theorem opn_buildSlice : opnds (.buildSlice T k parts) = parts.toList.map (·.2) := rfl
theorem opn_store : opnds (.store T x y) = [x, y] := rfl
theorem opn_binOp : opnds (.binOp o T x y T2) = [x, y] := rfl
theorem opn_makeSlice : opnds (.makeSlice T x y) = [x, y] := rfl
theorem opn_indexAddr : opnds (.indexAddr T x y) = [x, y] := rfl
theorem opn_index : opnds (.index T x y) = [x, y] := rfl
theorem opn_slice0 : opnds (.slice T x none none none) = [x] := rfl
theorem opn_slice1 : opnds (.slice T x (some y) none none) = [x, y] := rfl
theorem opn_slice2 : opnds (.slice T x none (some y) none) = [x, y] := rfl
theorem opn_slice3 : opnds (.slice T x (some y) (some z) none) = [x, y, z] := rfl
theorem opn_makeFunc {g : Fn} {a b : Array Operand} : opnds (.makeFunc g a b) = b.toList := rfl
theorem opn_alloc : opnds (.alloc T) = [] := rfl
theorem sh_move : shallow (.move x) = true := rfl
theorem sh_assign : shallow (.assign x) = false := rfl
theorem sh_box : shallow (.box T x) = false := rfl
theorem sh_load : shallow (.load T x) = false := rfl
theorem sh_nilCheck : shallow (.nilCheck x) = false := rfl
theorem sh_unOp : shallow (.unOp o2 T x) = false := rfl
theorem sh_convert : shallow (.convert T T2 x) = false := rfl
theorem sh_fieldAddr : shallow (.fieldAddr T x k) = false := rfl
theorem sh_field : shallow (.field T x k) = false := rfl
theorem sh_extract : shallow (.extract x k) = false := rfl
theorem sh_iface : shallow (.makeInterface T x) = false := rfl
theorem sh_pick : shallow (.pick x y z) = false := rfl
theorem sh_build : shallow (.build T parts) = false := rfl
theorem sh_buildSlice : shallow (.buildSlice T k parts) = false := rfl
theorem sh_store : shallow (.store T x y) = false := rfl
theorem sh_binOp : shallow (.binOp o T x y T2) = false := rfl
theorem sh_makeSlice : shallow (.makeSlice T x y) = false := rfl
theorem sh_indexAddr : shallow (.indexAddr T x y) = false := rfl
theorem sh_index : shallow (.index T x y) = false := rfl
theorem sh_slice {l h m : Option Operand} : shallow (.slice T x l h m) = false := rfl
theorem sh_makeFunc {g : Fn} {a b : Array Operand} : shallow (.makeFunc g a b) = false := rfl
theorem sh_call : shallow (.call c) = false := rfl
theorem sh_alloc : shallow (.alloc T) = false := rfl
end
theorem keys_nil : keys [] = [] := rfl
theorem keys_cons {k : Nat} {s : Slot} {u : Ups} : keys ((k, s) :: u) = k :: keys u := rfl
theorem keys_append {u v : Ups} : keys (u ++ v) = keys u ++ keys v := by simp [keys]
section
variable {tab : Tab} {Γ : Cons} {d : Option Tmp} {ty0 : TypeId} {ps : String} {af : Array Edge} {m : Nat} {st : St} {ops : Array Oper} {r : List Oper} {o : Op} {j : Nat} {want b : Bool} {k : Tmp}
theorem g_exO {tr : Tr} {K : St → Tr → Prop} : ExOps tab Γ ops (⟨d, o, ty0, ps, af, some (j, want)⟩ :: r) m st tr K =
    gI (gSlot st (gtmp ops j)) (gtmp ops j) want st (X := ⟨fun st => exI tab Γ ⟨d, o, ty0, ps, af, none⟩ m st (K := ⟨fun u => ExOps tab Γ ops r (m + 1) (app u st) ((rds ops st ⟨d, o, ty0, ps, af, some (j, want)⟩, keys u) :: tr) K⟩)⟩)
      (Y := ⟨fun st => ExOps tab Γ ops r (m + 1) (app (dstUps d (.tup [])) st) ((rds ops st ⟨d, o, ty0, ps, af, some (j, want)⟩, keys (dstUps d (.tup []))) :: tr) K⟩) := exO_guard
end
attribute [simp] sh_move sh_makeFunc sh_assign sh_box sh_load sh_nilCheck sh_unOp sh_convert sh_fieldAddr sh_field sh_extract sh_iface sh_pick sh_build sh_buildSlice sh_store sh_binOp sh_makeSlice sh_indexAddr sh_index sh_slice sh_call sh_alloc rdM_nil rdM_move rdM_tmp rdM_const rdM_func ex_draw_no ex_draw_yes exO_nil i_exO_plain g_exO rdA_val rdA_nil rdA_dead rdA_own rdA_obj rdA_asl rdA_apt rdA_rpt rdA_tup rdA_clo rdA_ifc rdl_nil rdl_tmp rdl_const rdl_func rds_none rds_some opn_move opn_assign opn_box opn_load opn_nilCheck opn_unOp opn_convert opn_fieldAddr opn_field opn_extract opn_iface opn_pick opn_build opn_buildSlice opn_store opn_binOp opn_makeSlice opn_indexAddr opn_index opn_slice0 opn_slice1 opn_slice2 opn_slice3 opn_makeFunc opnds_fn opnds_b opnds_t opn_alloc keys_nil keys_cons keys_append
theorem i_app {u : Ty} {xs ys : List u.den} [K : Kont (List u.den)] : appI xs ys (K := K) = ((xs.length + ys.length) * u.mx ≤ 140737488355328 ∧ K.f (xs ++ ys)) := rfl
attribute [simp] i_app
/-! ### Lengths in regions that draw their order -/
def lenT : Option Ty → Nat → Option Nat
  | some (.slice _), n => some n
  | some (.arr k _), _ => some k
  | _, _ => none
def lenS : Option Ty → Nat → Option Nat
  | some .str, n => some n
  | some (.arr k _), _ => some k
  | _, _ => none
section
variable {tab : Tab} {t : TypeId} {u : Ty} {c : Slot} {n s lo len k : Nat}
theorem lenT_slice : lenT (some (.slice u)) n = some n := rfl
theorem lenT_arr : lenT (some (.arr k u)) n = some k := rfl
theorem lenS_str : lenS (some .str) n = some n := rfl
theorem lenO_val {xs : List u.den} : lenOf? tab t ⟨.val (.slice u) xs, c⟩ = lenT (ty tab t) xs.length := by
  unfold lenOf? lenT
  cases ty tab t with
  | none => rfl
  | some v => cases v <;> rfl
theorem lenO_row {xs : List u.den} : lenOf? tab t ⟨.asl n s none, .own n u xs⟩ = lenT (ty tab t) xs.length := by
  unfold lenOf? lenT
  cases ty tab t with
  | none => rfl
  | some v => cases v <;> simp [slc]
theorem lenO_part {xs : List u.den} : lenOf? tab t ⟨.asl n s (some (lo, len)), .own n u xs⟩ = lenT (ty tab t) ((xs.drop lo).take len).length := by
  unfold lenOf? lenT
  cases ty tab t with
  | none => rfl
  | some v => cases v <;> simp [slc]
theorem lenO_nil : lenOf? tab t ⟨.nil, c⟩ = lenT (ty tab t) 0 := by
  unfold lenOf? lenT
  cases ty tab t with
  | none => rfl
  | some v => cases v <;> rfl
theorem lenO_str {z : ByteArray} : lenOf? tab t ⟨.val .str z, c⟩ = lenS (ty tab t) z.size := by
  unfold lenOf? lenS
  cases ty tab t with
  | none => rfl
  | some v => cases v <;> rfl
end
attribute [simp] lenT_slice lenT_arr lenS_str lenO_val lenO_row lenO_part lenO_nil lenO_str
instance {ops : Array Oper} {tr : Tr} : Decidable (Indep ops tr) := inferInstanceAs (Decidable (indep ops tr = true))
theorem hn {st : St} : holds [] st := fun p hp => by cases hp
theorem hc {k : Nat} {s : Slot} {u : Ups} {st : St} (h : st k = s) (h2 : holds u st) : holds ((k, s) :: u) st := by rw [holds_cons]; exact ⟨h, h2⟩

/-! ### append of so many noughts, copy, clear -/
section
variable {tab : Tab} {Γ : Cons} {d : Option Tmp} {m : Nat} {t t2 : TypeId} {c : Slot} {u : Ty} {n s lo len : Nat} {x y : Operand} {l k : Lk}
theorem i_more_int [F : Kont (List u.den)] {z : Int} : moreI tab u t2 ⟨.val (.int .i64) z, c⟩ (K := F) = (ty tab t2 = some (.int .i64) ∧ 0 ≤ z ∧ F.f (List.replicate z.toNat u.dflt)) := by
  simp only [moreI, moreK, more]
  cases h : ty tab t2 with
  | none => simp [opt]
  | some T =>
    cases T with
    | int q =>
      cases q <;> first | (simp only [opt_ite, opt_some, true_and]; done) | simp [opt]
    | slice v => simp [slc, opt]
    | _ => simp [opt]
theorem i_call_copy [K : Kont Ups] : opI (stepCall tab Γ { callee := .builtin .copy, args := #[x, y], argTypes := #[t, t2] } d m [l, k]) (K := K) = opI (stepCopy tab t t2 d l k) (K := K) := by
  simp only [stepCall]
theorem i_call_clear [K : Kont Ups] : opI (stepCall tab Γ { callee := .builtin .clear, args := #[x], argTypes := #[t] } d m [l]) (K := K) = opI (stepClear tab t d l) (K := K) := by
  simp only [stepCall]
theorem i_copy_asl [K : Kont Ups] {rg : Option (Nat × Nat)} {xs : List u.den} : opI (stepCopy tab t t2 d ⟨.asl n s rg, .own n u xs⟩ k) (K := K) = ((ty tab t = some (.slice u) ∧ d ≠ some s ∧ noInt (ty tab t2) = true) ∧
    moreI tab u t2 k (K := ⟨fun ys => K.f ((s, .own n u (over xs (ys.take (spanOf xs.length rg).2) (spanOf xs.length rg).1)) :: dstUps d (.val (.int .i64) ((min ys.length (spanOf xs.length rg).2 : Nat) : Int)))⟩)) := by
  simp only [stepCopy, opI, moreI, moreK, true_and]
  by_cases h : ty tab t = some (.slice u) ∧ d ≠ some s ∧ noInt (ty tab t2) = true
  · rw [if_pos h, opt_map]
    exact propext ⟨fun h2 => ⟨h, h2⟩, fun h2 => h2.2⟩
  · rw [if_neg h]; simp only [h, false_and, opt_none]
theorem i_clear_asl [K : Kont Ups] {rg : Option (Nat × Nat)} {xs : List u.den} : opI (stepClear tab t d ⟨.asl n s rg, .own n u xs⟩) (K := K) = ((ty tab t = some (.slice u) ∧ d ≠ some s) ∧
    K.f ((s, .own n u (over xs (List.replicate (spanOf xs.length rg).2 u.dflt) (spanOf xs.length rg).1)) :: dstUps d (.tup []))) := by
  simp only [stepClear, opI, true_and]
  by_cases h : ty tab t = some (.slice u) ∧ d ≠ some s
  · rw [if_pos h, opt_some]
    exact propext ⟨fun h2 => ⟨h, h2⟩, fun h2 => h2.2⟩
  · rw [if_neg h]; simp only [h, false_and, opt_none]
theorem span_none : spanOf n none = (0, n) := rfl
theorem span_some : spanOf n (some (lo, len)) = (lo, len) := rfl
theorem noInt_slice : noInt (some (.slice u)) = true := rfl
theorem noInt_str : noInt (some .str) = true := rfl
variable {as : Array Operand} {ts : Array TypeId}
theorem isLen_bclear : isLen (.call { callee := .builtin .clear, args := as, argTypes := ts }) = false := not_true (fun h => by cases h)
end
attribute [simp] i_more_int i_call_copy i_call_clear i_copy_asl i_clear_asl span_none span_some noInt_slice noInt_str isLen_bclear isLen_bcopy
end Go.Tm

/- Laws over programs of which some variables are laid: what they hold is asked of the world, and not used. -/
set_option linter.unusedVariables false
namespace Go.Tm
theorem law_lifted_laid {C : Checked} {os : Os} {f : FuncId} {fn : Func} {con : Con} {tab : Tab} {us : List Ty} {s : ChangeSpec} {conds : List PathCond} {H : Type} {enc : TypeId × Value → H} {rt : TypeId} {X : World → Array Value → Prop}
    (hX : ∀ (w w' : World) (args : Array Value), w.heap = w'.heap → X w args → X w' args)
    (ok : TabOK C.prog tab) (hcon : ConOK C.prog f con)
    (hlaw : ∀ l : List Dv, l.map (·.1) = us → (∀ d ∈ l, okv d.1 d.2) → con (l.map .val) = some ⟨.val ⟨.bool, true⟩, []⟩)
    (own : ownKnob C.prog.godebug = none) (laidOut : laidOutB C.prog = true) (started : os.Started) (noInit : C.prog.inits.idxOf? f = none) (hfn : C.prog.funcs[f]? = some fn)
    (hb : fn.body.isSome = true) (hn : (fn.name == "runtime.NumGoroutine") = false) (hts : fn.params.toList.map (ty tab) = us.map some) (hrt : fn.resultTypes = #[rt]) (hbool : C.prog.underlying rt = some .bool)
    (hread : (fn.params.toList.all fun t => C.prog.readableRec t && decide (t < C.prog.types.size)) = true)
    (hvars : s.vars = []) (hs : ∀ ds : List (DataW H), ds.length = us.length → s.fn H ds = { results := [.lit (.bool true)], args := ds })
    (witness : ∃ (w : World) (tape : Tape) (i : Input), w.os = os ∧ (w.forCall tape i).Shaped C.prog ∧ i.vars = [] ∧ Input.okWide C.prog (w.forCall tape i) .any w.heap.size f i ∧
      ((s.pre enc C.prog fn conds false (w.forCall tape i).memory i.args ∧ X (w.forCall tape i).memory i.args) ∧ sizedMet enc C.prog fn (OpenSpec.ofChange s) false (w.forCall tape i).memory i.args) ∧ Assume.holds {} C.prog (lone (Frame.enter C.prog f i.args .normal) [] (w.forCall tape i))) :
    ReturnsInHanded {} C os f .any (fun w args => (s.pre enc C.prog fn conds false w args ∧ X w args) ∧ sizedMet enc C.prog fn (OpenSpec.ofChange s) false w args) (s.post enc C.prog fn false true false false) := by
  refine returnsInHanded_of_change_and hX own started noInit hfn witness ?_
  intro W base args ds gs before hval hW _ _ _ _
  have hW' := hW
  obtain ⟨p, q, hA, hV, rfl, hfz, hnd⟩ := hW
  rw [hvars] at hV
  have hg : gs = [] ∧ q = [] := by
    cases gs with
    | nil => exact ⟨rfl, hV⟩
    | cons g gs => simp [DataW.TrodVars] at hV
  obtain ⟨rfl, rfl⟩ := hg
  have hlt : ∀ x ∈ p, x.block < W.heap.size := fun x hx => hW'.lt x (by simpa using hx)
  refine (law_calls ok hcon hfn hb hn hlaw hts (fun j t v h1 h2 => hval j t v (by simpa using h1) (by simpa using h2)) hA).mono fun e W' ⟨he, bel⟩ => ?_
  subst he
  have hlen : ds.length = us.length := by
    rw [trodAll_len hA, ← List.length_map (as := fn.params.toList) (f := ty tab), hts, List.length_map]
  refine ⟨_, rfl, ds, [], p ++ [], [], p, [], hW', ?_, ?_, ?_, bel.frame _, fun h => by cases h⟩
  · rw [List.append_nil, hs ds hlen, hrt]
    exact ChangeShapes.trodAll_mk1 (RowKit.shut_bool hbool _)
  · rw [List.append_nil, hs ds hlen]
    exact trodAll_below laidOut bel hread hA hlt
  · rw [List.append_nil, hs ds hlen, hvars]
    rfl
end Go.Tm
