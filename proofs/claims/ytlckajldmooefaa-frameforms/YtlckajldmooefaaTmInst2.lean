/- The rest of the rules in their instance form. -/
import Derived.Test.YtlckajldmooefaaTmInst
set_option linter.unusedVariables false
set_option linter.unusedSimpArgs false
namespace Go.Tm
class Pr where
  p : Prop
theorem pr_p {X : Prop} : @Pr.p ⟨X⟩ = X := rfl
def gUseI (s : Slot) (want : Bool) [X : Pr] [Y : Pr] : Prop := gUse s want X.p Y.p
theorem gUseI_bool {b want : Bool} [X : Pr] [Y : Pr] : gUseI (.val .bool b) want (X := X) (Y := Y) = br (b == want) X.p Y.p := rfl
theorem gUseI_tup {want : Bool} [X : Pr] [Y : Pr] : gUseI (.tup []) want (X := X) (Y := Y) = Y.p := rfl
def onLenI (o : Option Ty) [X : Pr] [Y : Kont Nat] : Prop := onLen o X.p Y.f
theorem onLenI_slice {u : Ty} [X : Pr] [Y : Kont Nat] : onLenI (some (.slice u)) (X := X) (Y := Y) = X.p := rfl
theorem onLenI_arr {n : Nat} {u : Ty} [X : Pr] [Y : Kont Nat] : onLenI (some (.arr n u)) (X := X) (Y := Y) = Y.f n := rfl
def onConvI (o o2 : Option Ty) [X : Pr] [Y : Pr] : Prop := onConv o o2 X.p Y.p
theorem onConvI_str [X : Pr] [Y : Pr] : onConvI (some (.slice (.int .u8))) (some .str) (X := X) (Y := Y) = X.p := rfl
theorem onConvI_row [X : Pr] [Y : Pr] : onConvI (some (.slice (.int .u8))) (some (.slice (.int .u8))) (X := X) (Y := Y) = Y.p := rfl
def onStrI (o o2 : Option Ty) [X : Pr] [Y : Pr] : Prop := onStr o o2 X.p Y.p
theorem onStrI_str [X : Pr] [Y : Pr] : onStrI (some .str) (some .str) (X := X) (Y := Y) = X.p := rfl
theorem onStrI_row [X : Pr] [Y : Pr] : onStrI (some .str) (some (.slice (.int .u8))) (X := X) (Y := Y) = Y.p := rfl

section
variable {tab : Tab} {Γ : Cons} {d : Option Tmp} {ty0 : TypeId} {ps : String} {af : Array Edge} {m : Nat} {st : St} {ops : Array Oper} {r : List Oper} {o : Op} {t t2 : TypeId} {u : Ty} {c : Slot} {n s lo len i : Nat}
theorem i_exL_guard {K : Exit → St → Prop} {j : Nat} {want : Bool} : ExL tab Γ ops (⟨d, o, ty0, ps, af, some (j, want)⟩ :: r) m st K =
    gUseI (gSlot st (gtmp ops j)) want (X := ⟨ExL tab Γ ops (⟨d, o, ty0, ps, af, none⟩ :: r) m st K⟩) (Y := ⟨ExL tab Γ ops r (m + 1) (app (dstUps d (.tup [])) st) K⟩) := exL_guard
theorem i_exO_guard {tr : Tr} {K : St → Tr → Prop} {j : Nat} {want : Bool} : ExOps tab Γ ops (⟨d, o, ty0, ps, af, some (j, want)⟩ :: r) m st tr K = gUseI (gSlot st (gtmp ops j)) want
    (X := ⟨exI tab Γ ⟨d, o, ty0, ps, af, none⟩ m st (K := ⟨fun u => ExOps tab Γ ops r (m + 1) (app u st) ((rds ops st ⟨d, o, ty0, ps, af, some (j, want)⟩, keys u) :: tr) K⟩)⟩)
    (Y := ⟨ExOps tab Γ ops r (m + 1) (app (dstUps d (.tup [])) st) ((rds ops st ⟨d, o, ty0, ps, af, some (j, want)⟩, keys (dstUps d (.tup []))) :: tr) K⟩) := exO_guard
theorem i_len_val {xs : List u.den} [F : Kont Nat] : lenI tab t ⟨.val (.slice u) xs, c⟩ (K := F) = onLenI (ty tab t) (X := ⟨xs.length ≤ maxLen → F.f xs.length⟩) (Y := ⟨fun n => xs.length ≤ maxLen → F.f n⟩) := len_val (F := F.f)
theorem i_len_row {xs : List u.den} [F : Kont Nat] : lenI tab t ⟨.asl n s none, .own n u xs⟩ (K := F) = onLenI (ty tab t) (X := ⟨xs.length ≤ maxLen → F.f xs.length⟩) (Y := ⟨fun n => xs.length ≤ maxLen → F.f n⟩) := len_row (F := F.f)
theorem i_len_part {xs : List u.den} [F : Kont Nat] : lenI tab t ⟨.asl n s (some (lo, len)), .own n u xs⟩ (K := F) = onLenI (ty tab t) (X := ⟨((xs.drop lo).take len).length ≤ maxLen → F.f ((xs.drop lo).take len).length⟩) (Y := ⟨fun n => ((xs.drop lo).take len).length ≤ maxLen → F.f n⟩) := len_part (F := F.f)
theorem i_len_nil [F : Kont Nat] : lenI tab t ⟨.nil, c⟩ (K := F) = onLenI (ty tab t) (X := ⟨F.f 0⟩) (Y := ⟨fun n => F.f n⟩) := len_nil (F := F.f)
theorem i_conv_row {xs : List Int} [K : Kont Ups] : opI (stepConvert tab t t2 (some i) m ⟨.asl n s none, .own n (.int .u8) xs⟩) (K := K) =
    onConvI (ty tab t) (ty tab t2) (X := ⟨K.f [(i, .val .str (strOf xs))]⟩) (Y := ⟨(t = t2 ∧ s ≠ i ∧ xs ≠ []) ∧ K.f [(s, .dead), (i, .own m (.int .u8) xs)]⟩) := conv_row (K := K.f)
theorem i_conv_part {xs : List Int} [K : Kont Ups] : opI (stepConvert tab t t2 (some i) m ⟨.asl n s (some (lo, len)), .own n (.int .u8) xs⟩) (K := K) = onConvI (ty tab t) (ty tab t2) (X := ⟨K.f [(i, .val .str (strOf ((xs.drop lo).take len)))]⟩) (Y := ⟨False⟩) := conv_part (K := K.f)
theorem i_conv_bytes {xs : List Int} [K : Kont Ups] : opI (stepConvert tab t t2 (some i) m ⟨.val (.slice (.int .u8)) xs, c⟩) (K := K) = onConvI (ty tab t) (ty tab t2) (X := ⟨K.f [(i, .val .str (strOf xs))]⟩) (Y := ⟨False⟩) := conv_bytes (K := K.f)
theorem i_conv_str {z : ByteArray} [K : Kont Ups] : opI (stepConvert tab t t2 (some i) m ⟨.val .str z, c⟩) (K := K) = onStrI (ty tab t) (ty tab t2) (X := ⟨K.f [(i, .val .str z)]⟩) (Y := ⟨z.size ≤ 9223372036854775807 ∧ K.f [(i, .own m (.int .u8) (bytesOf z))]⟩) := conv_str (K := K.f)

def buildI (tab : Tab) (t : TypeId) (idx : List Nat) (ls : List Lk) (i : Nat) (o : Option Ty) [K : Kont Ups] : Prop := buildK tab t idx ls i K.f o
theorem i_build_ok {idx : List Nat} {ls : List Lk} [K : Kont Ups] : opI (stepBuild tab t idx (some i) ls) (K := K) = buildI tab t idx ls i (ty tab t) (K := K) := build_ok (K := K.f)
theorem i_buildK_arr {k : Nat} {idx : List Nat} {ls : List Lk} [K : Kont Ups] : buildI tab t idx ls i (some (.arr k u)) (K := K) = opI (frzAll ls (idx.map fun _ => some u)) (K := ⟨fun r => fillI (.arr k u) (List.replicate k u.dflt) (idx.zip r.1) (K := ⟨fun xs => K.f (r.2 ++ [(i, .val (.arr k u) xs)])⟩)⟩) := rfl
theorem i_buildK_prod {a b : Ty} {idx : List Nat} {ls : List Lk} [K : Kont Ups] : buildI tab t idx ls i (some (.prod a b)) (K := K) = opI (frzAll ls (idx.map fun j => (fieldTys (.prod a b))[j]?)) (K := ⟨fun r => fillI (.prod a b) (Ty.prod a b).dflt (idx.zip r.1) (K := ⟨fun v => K.f (r.2 ++ [(i, .val (.prod a b) v)])⟩)⟩) := rfl
end

section
variable {tab : Tab} {Γ : Cons} {d : Option Tmp} {ty0 : TypeId} {ps : String} {af : Array Edge} {g : Option (Nat × Bool)} {m : Nat} {st : St} {ops : Array Oper} {r : List Oper} {op : Op} {x : Operand} {t yt : TypeId}
theorem i_exL_plain {K : Exit → St → Prop} : ExL tab Γ ops (⟨d, op, ty0, ps, af, none⟩ :: r) m st K = exSel (isLen op) (exFI tab Γ ⟨d, op, ty0, ps, af, none⟩ m st (K := ⟨fun u => ExL tab Γ ops r (m + 1) (app u st) K⟩) (X := ⟨fun ch u => K (.panic ch) (app u st)⟩))
    (exI tab Γ ⟨d, op, ty0, ps, af, none⟩ m st (K := ⟨fun u => ExL tab Γ ops r (m + 1) (app u st) K⟩)) := exL_plain
theorem i_exOpF_len [K : Kont Ups] [X : Kont2 (List PanicEntry) Ups] {i : Nat} : exFI tab Γ ⟨some i, .call { callee := .builtin .len, args := #[x], argTypes := #[t] }, ty0, ps, af, none⟩ m st (K := K) (X := X) =
    opI (look st x) (K := ⟨fun l => lenI tab t l (K := ⟨fun n => K.f [(i, .val (.int .i64) (n : Int))]⟩)⟩) := exOpF_len

class KontB where
  f : Bool → Prop
def nilI (tab : Tab) (t : TypeId) (l : Lk) [F : KontB] : Prop := nilK tab t l F.f
theorem i_exOpF_nil [K : Kont Ups] [X : Kont2 (List PanicEntry) Ups] : exFI tab Γ ⟨d, .binOp .eql t x (.const (.slice none 0 0)) yt, ty0, ps, af, none⟩ m st (K := K) (X := X) =
    opI (look st x) (K := ⟨fun l => nilI tab t l (F := ⟨fun b => K.f (dstUps d (.val .bool b))⟩)⟩) := exOpF_nil
theorem i_exOpF_notnil [K : Kont Ups] [X : Kont2 (List PanicEntry) Ups] : exFI tab Γ ⟨d, .binOp .neq t x (.const (.slice none 0 0)) yt, ty0, ps, af, none⟩ m st (K := K) (X := X) =
    opI (look st x) (K := ⟨fun l => nilI tab t l (F := ⟨fun b => K.f (dstUps d (.val .bool (!b)))⟩)⟩) := exOpF_notnil
def onSlcI (o : Option Ty) [Y : Pr] : Prop := match o with | some (.slice _) => Y.p | _ => False
theorem onSlcI_ok {u : Ty} [Y : Pr] : onSlcI (some (.slice u)) (Y := Y) = Y.p := rfl
theorem i_nil_nil {c : Slot} [F : KontB] : nilI tab t ⟨.nil, c⟩ (F := F) = onSlcI (ty tab t) (Y := ⟨F.f true⟩) := by
  unfold nilI nilK onSlcI
  cases ty tab t with
  | none => rfl
  | some u => cases u <;> rfl
theorem i_nil_val {u : Ty} {xs : List u.den} {c : Slot} [F : KontB] : nilI tab t ⟨.val (.slice u) xs, c⟩ (F := F) = onSlcI (ty tab t) (Y := ⟨F.f false ∧ (xs = [] → F.f true)⟩) := by
  unfold nilI nilK onSlcI
  cases ty tab t with
  | none => rfl
  | some u => cases u <;> simp [slc]
theorem i_nil_row {u : Ty} {xs : List u.den} {n s : Nat} [F : KontB] : nilI tab t ⟨.asl n s none, .own n u xs⟩ (F := F) = onSlcI (ty tab t) (Y := ⟨F.f false ∧ (xs = [] → F.f true)⟩) := by
  unfold nilI nilK onSlcI
  cases ty tab t with
  | none => rfl
  | some u => cases u <;> simp [slc]
theorem kontB_f {g : Bool → Prop} {b : Bool} : @KontB.f ⟨g⟩ b = g b := rfl

def panI (s : Slot) [X : Kont2 (List PanicEntry) Ups] : Prop := panK s X.f
theorem i_exOpF_panic [K : Kont Ups] [X : Kont2 (List PanicEntry) Ups] : exFI tab Γ ⟨d, .panic x, ty0, ps, af, none⟩ m st (K := K) (X := X) = opI (look st x) (K := ⟨fun l => panI l.s (X := X)⟩) := exOpF_panic
theorem i_pan_ifc {T : TypeId} {t : Ty} {x : t.den} [X : Kont2 (List PanicEntry) Ups] : panI (.ifc T t x) (X := X) = (flat t = true ∧ X.f [⟨ifcV T t x, false, false⟩] []) := rfl

def ifcI (tab : Tab) (T : TypeId) (d : Option Tmp) (s : Slot) [K : Kont Ups] : Prop :=
  match s with
  | .val t v => ty tab T = some t ∧ opt (into d (.ifc T t v)) K.f
  | _ => False
theorem i_exOp_iface [K : Kont Ups] {T : TypeId} : exI tab Γ ⟨d, .makeInterface T x, ty0, ps, af, g⟩ m st (K := K) = opI (look st x) (K := ⟨fun l => ifcI tab T d l.s (K := K)⟩) := by
  show opt (looks st [x]) _ = _
  rw [looks1]
  show opt (look st x) _ = opt (look st x) _
  congr 1
  funext l
  obtain ⟨s, c⟩ := l
  cases s with
  | val t v =>
    simp only [step, ifcI]
    by_cases h : ty tab T = some t
    · simp [h]
    · simp [h, opt]
  | _ => simp [step, ifcI, opt]
theorem i_ifc_val {T : TypeId} {t : Ty} {v : t.den} {i : Nat} [K : Kont Ups] : ifcI tab T (some i) (.val t v) (K := K) = (ty tab T = some t ∧ K.f [(i, .ifc T t v)]) := by
  simp [ifcI, into, aliasOf, opt]

/-- Behind a call. -/
def endI (out : Out) (d : Option Tmp) (m : Nat) (as : List Lent) [K : Kont Ups] [X : Kont2 (List PanicEntry) Ups] : Prop :=
  match out.res with
  | .panic ch => opt (ioUps as out.ios) fun u => X.f ch ((if out.far then lentsOf as else []) ++ u)
  | r => dstFree d (iosOf as) = true ∧ opt (ioUps as out.ios) fun u => K.f ((if out.far then lentsOf as else []) ++ u ++ dstUps d (r.slot m))
theorem callK_end {con : Con} {as : List Lent} {K : Ups → Prop} {X : List PanicEntry → Ups → Prop} : (opt (con (as.map (·.arg))) fun out => callK con d m as out K X) =
    ((nodup (iosOf as) && (lentsOf as).all (fun l => !(iosOf as).contains l.1)) = true ∧ opt (con (as.map (·.arg))) fun out => endI out d m as (K := ⟨K⟩) (X := ⟨X⟩)) := by
  cases hc : con (as.map (·.arg)) with
  | none => simp [opt]
  | some out =>
    simp only [opt_some]
    obtain ⟨r, ios⟩ := out
    cases r with
    | panic ch =>
      simp only [callK, endI, callP, hc]
      by_cases h : (nodup (iosOf as) && (lentsOf as).all (fun l => !(iosOf as).contains l.1)) = true
      · simp only [h, if_true, true_and]
        cases ioUps as ios <;> simp [opt]
      · simp only [h, if_false, false_and]
        simp [opt]
    | _ =>
      simp only [callK, endI, callT, hc]
      by_cases h : (nodup (iosOf as) && (lentsOf as).all (fun l => !(iosOf as).contains l.1)) = true
      · by_cases h2 : dstFree d (iosOf as) = true
        · simp only [h, h2, Bool.and_self, if_true, true_and, Res.isPanic, Bool.false_eq_true, if_false]
          cases ioUps as ios <;> simp [opt]
        · simp only [h, Bool.true_and, h2, if_false, true_and, false_and]
          simp [opt]
      · simp only [Bool.and_eq_true] at h ⊢
        simp only [h, false_and, if_false]
        simp [opt]
theorem i_exOpF_call [K : Kont Ups] [X : Kont2 (List PanicEntry) Ups] {f : FuncId} {args : Array Operand} {ts : Array TypeId} : exFI tab Γ ⟨d, .call { callee := .value (.func f), args := args, argTypes := ts }, ty0, ps, af, none⟩ m st (K := K) (X := X) =
    opI (looks st args.toList) (K := ⟨fun ls => opI (Γ f) (K := ⟨fun con => opI (toArgs ls (ts.toList.map (ty tab))) (K := ⟨fun as => ((nodup (iosOf as) && (lentsOf as).all (fun l => !(iosOf as).contains l.1)) = true ∧ opI (con (as.map (·.arg))) (K := ⟨fun out => endI out d m as (K := K) (X := X)⟩))⟩)⟩)⟩) := by
  show opt (looks st args.toList) _ = opt (looks st args.toList) _
  congr 1
  funext ls
  show opt (Γ f) _ = opt (Γ f) _
  congr 1
  funext con
  show opt (toArgs ls (ts.toList.map (ty tab))) _ = opt (toArgs ls (ts.toList.map (ty tab))) _
  congr 1
  funext as
  exact callK_end
variable {as : List Lent} [K : Kont Ups] [X : Kont2 (List PanicEntry) Ups] {ios : List Dv}
theorem i_end_unit : endI ⟨.unit, ios⟩ d m as (K := K) (X := X) = (dstFree d (iosOf as) = true ∧ opI (ioUps as ios) (K := ⟨fun u => K.f ((if (Out.mk .unit ios).far then lentsOf as else []) ++ u ++ dstUps d (Res.slot m .unit))⟩)) := rfl
theorem i_end_val {v : Dv} : endI ⟨.val v, ios⟩ d m as (K := K) (X := X) = (dstFree d (iosOf as) = true ∧ opI (ioUps as ios) (K := ⟨fun u => K.f ((if (Out.mk (.val v) ios).far then lentsOf as else []) ++ u ++ dstUps d (Res.slot m (.val v)))⟩)) := rfl
theorem i_end_own {t : Ty} {v : List t.den} : endI ⟨.own t v, ios⟩ d m as (K := K) (X := X) = (dstFree d (iosOf as) = true ∧ opI (ioUps as ios) (K := ⟨fun u => K.f ((if (Out.mk (.own t v) ios).far then lentsOf as else []) ++ u ++ dstUps d (Res.slot m (.own t v)))⟩)) := rfl
theorem i_end_obj {t : Ty} {v : t.den} : endI ⟨.obj t v, ios⟩ d m as (K := K) (X := X) = (dstFree d (iosOf as) = true ∧ opI (ioUps as ios) (K := ⟨fun u => K.f ((if (Out.mk (.obj t v) ios).far then lentsOf as else []) ++ u ++ dstUps d (Res.slot m (.obj t v)))⟩)) := rfl
theorem i_end_tup {l : List Dv} : endI ⟨.tup l, ios⟩ d m as (K := K) (X := X) = (dstFree d (iosOf as) = true ∧ opI (ioUps as ios) (K := ⟨fun u => K.f ((if (Out.mk (.tup l) ios).far then lentsOf as else []) ++ u ++ dstUps d (Res.slot m (.tup l)))⟩)) := rfl
theorem i_end_panic {ch : List PanicEntry} : endI ⟨.panic ch, ios⟩ d m as (K := K) (X := X) = opI (ioUps as ios) (K := ⟨fun u => X.f ch ((if (Out.mk (.panic ch) ios).far then lentsOf as else []) ++ u)⟩) := rfl
omit K X in
theorem far_panic {ch : List PanicEntry} : Res.far (.panic ch) = false := rfl
omit K X in
theorem panics_iff {args : List Arg} {out : Out} {ch : List PanicEntry} {st : St} : Panics args out ch st = (out.res = .panic ch ∧ finIos st args 0 out.ios) := propext ⟨fun h => h.out, fun h => ⟨h⟩⟩
end
section
variable {tab : Tab} {t : TypeId} {d : Option Tmp} {lo hi : Option Lk} {c : Slot} {u : Ty} {n s n' k : Nat} [K : Kont Ups]
theorem i_sl_val {x : u.den} : opI (stepSl tab t d ⟨.val u x, c⟩ lo hi) (K := K) = opI (stepSlice tab t ⟨.val u x, c⟩ lo hi) (K := ⟨fun s => opI (into d s) (K := K)⟩) := by
  show opt (stepSl tab t d ⟨.val u x, c⟩ lo hi) K.f = opt (stepSlice tab t ⟨.val u x, c⟩ lo hi) fun s => opt (into d s) K.f
  simp only [stepSl]
  generalize stepSlice tab t ⟨.val u x, c⟩ lo hi = q
  cases q <;> simp only [opt_none, opt_some]
theorem i_sl_nil : opI (stepSl tab t d ⟨.nil, c⟩ lo hi) (K := K) = opI (stepSlice tab t ⟨.nil, c⟩ lo hi) (K := ⟨fun s => opI (into d s) (K := K)⟩) := by
  show opt (stepSl tab t d ⟨.nil, c⟩ lo hi) K.f = opt (stepSlice tab t ⟨.nil, c⟩ lo hi) fun s => opt (into d s) K.f
  simp only [stepSl]
  generalize stepSlice tab t ⟨.nil, c⟩ lo hi = q
  cases q <;> simp only [opt_none, opt_some]
theorem i_sl_asl {g : Option (Nat × Nat)} : opI (stepSl tab t d ⟨.asl n s g, c⟩ lo hi) (K := K) = opI (stepSlice tab t ⟨.asl n s g, c⟩ lo hi) (K := ⟨fun s => opI (into d s) (K := K)⟩) := by
  show opt (stepSl tab t d ⟨.asl n s g, c⟩ lo hi) K.f = opt (stepSlice tab t ⟨.asl n s g, c⟩ lo hi) fun s => opt (into d s) K.f
  simp only [stepSl]
  generalize stepSlice tab t ⟨.asl n s g, c⟩ lo hi = q
  cases q <;> simp only [opt_none, opt_some]
theorem i_sl_rpt {xs : List u.den} : opI (stepSl tab t d ⟨.rpt (.arr k u) xs, c⟩ lo hi) (K := K) = ((k ≤ 1000000 ∧ ty tab t = some (.arr k u)) ∧ opI (cutB lo hi (k : Int)) (K := ⟨fun p => K.f (dstUps d (.val (.slice u) ((xs.drop p.1).take (p.2 - p.1))))⟩)) := by
  show opt (stepSl tab t d ⟨.rpt (.arr k u) xs, c⟩ lo hi) K.f = (_ ∧ opt (cutB lo hi (k : Int)) fun p => K.f _)
  simp only [stepSl, stepArr, opt_ite, opt_map]
theorem i_sl_obj {xs : List u.den} : opI (stepSl tab t d ⟨.apt n s [], .obj n' (.arr k u) xs⟩ lo hi) (K := K) = ((n = n' ∧ s < ghost ∧ d ≠ some s ∧ k ≤ 1000000 ∧ ty tab t = some (.arr k u)) ∧
    opI (cutB lo hi (k : Int)) (K := ⟨fun p => K.f ((s, .rpt (.arr k u) xs) :: dstUps d (.val (.slice u) ((xs.drop p.1).take (p.2 - p.1))))⟩)) := by
  show opt (stepSl tab t d ⟨.apt n s [], .obj n' (.arr k u) xs⟩ lo hi) K.f = (_ ∧ opt (cutB lo hi (k : Int)) fun p => K.f _)
  simp only [stepSl, stepArr, opt_ite, opt_map]
end
end Go.Tm
