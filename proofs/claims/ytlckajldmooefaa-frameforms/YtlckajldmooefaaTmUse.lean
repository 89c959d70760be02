/- How the rules are used: contracts of several functions, loops told by what turns in them. -/
import Derived.Test.YtlckajldmooefaaTmRow
set_option linter.unusedVariables false
set_option linter.unusedSimpArgs false
namespace Go.Tm

/-! ### Contracts -/
def cons : List (FuncId × Con) → Cons
  | [], _ => none
  | (f, c) :: l, g => if g = f then some c else cons l g

theorem cons_here {f : FuncId} {c : Con} {l : List (FuncId × Con)} : cons ((f, c) :: l) f = some c := by simp [cons]
theorem cons_there {f g : FuncId} {c : Con} {l : List (FuncId × Con)} (h : g ≠ f) : cons ((f, c) :: l) g = cons l g := by simp [cons, h]

theorem consOK_nil {P : Program} : ConsOK P (cons []) := fun f con h => by cases h
theorem consOK_cons {P : Program} {f : FuncId} {c : Con} {l : List (FuncId × Con)} (h : ConOK P f c) (hl : ConsOK P (cons l)) : ConsOK P (cons ((f, c) :: l)) := by
  intro g con hg
  simp only [cons] at hg
  split at hg
  · rename_i e
    injection hg with hg
    subst e hg
    exact h
  · exact hl g con hg

def fnOK (fn : Func) : Bool := fn.body.isSome && (fn.name != "runtime.NumGoroutine") && fits fn.ntmps (fn.body.getD .skip) && decide (fn.ntmps ≤ ghost)

theorem con_ok {P : Program} {tab : Tab} {Γ : Cons} {f : FuncId} {fn : Func} {con : Con} (ok : TabOK P tab) (hΓ : ConsOK P Γ) (hm : P.follows .mixedOrders = true) (hf : P.funcs[f]? = some fn) (hfn : fnOK fn = true)
    (h : ∀ args out, con args = some out → args.length ≤ fn.ntmps ∧ Ex tab Γ (fn.body.getD .skip) (EndsF tab fn.results.toList args out) (ini args)) : ConOK P f con := by
  simp only [fnOK, Bool.and_eq_true, bne_iff_ne, decide_eq_true_eq] at hfn
  obtain ⟨⟨⟨h1, h2⟩, h3⟩, h4⟩ := hfn
  obtain ⟨c, hc⟩ := Option.isSome_iff_exists.1 h1
  rw [hc] at h h3
  exact fn_ok ok hΓ hm hf (by simpa using h2) hc (by rw [show fits fn.ntmps c = true from h3, Bool.true_and]; exact decide_eq_true h4) h

/-! ### Contracts by the types of the arguments -/
inductive AK where
  | v
  | o
  | p
@[reducible] def Dens : List (AK × Ty) → Type
  | [] => Unit
  | k :: r => k.2.den × Dens r
def mkA : AK → Dv → Arg
  | .v => .val
  | .o => .obj
  | .p => .ptr
def mkArgs : (ks : List (AK × Ty)) → Dens ks → List Arg
  | [], _ => []
  | k :: r, x => mkA k.1 ⟨k.2, x.1⟩ :: mkArgs r x.2
def unA (k : AK) (t : Ty) (a : Arg) : Option t.den :=
  match k, a with
  | .v, .val d => castTo d.1 t d.2
  | .o, .obj d => castTo d.1 t d.2
  | .p, .ptr d => castTo d.1 t d.2
  | _, _ => none
def unArgs : (ks : List (AK × Ty)) → List Arg → Option (Dens ks)
  | [], [] => some ()
  | k :: r, a :: as => match unA k.1 k.2 a, unArgs r as with
    | some x, some xs => some (x, xs)
    | _, _ => none
  | _, _ => none
def conN (ks : List (AK × Ty)) (F : Dens ks → Option Out) : Con := fun args => (unArgs ks args).bind F
theorem unA_mk (k : AK) (t : Ty) (x : t.den) : unA k t (mkA k ⟨t, x⟩) = some x := by cases k <;> simp [unA, mkA]
theorem unArgs_mk : ∀ (ks : List (AK × Ty)) (x : Dens ks), unArgs ks (mkArgs ks x) = some x
  | [], _ => rfl
  | k :: r, x => by simp only [mkArgs, unArgs, unA_mk, unArgs_mk r]
theorem mkArgs_len : ∀ (ks : List (AK × Ty)) (x : Dens ks), (mkArgs ks x).length = ks.length
  | [], _ => rfl
  | k :: r, x => by simp only [mkArgs, List.length_cons, mkArgs_len r]
theorem conN_mk {ks : List (AK × Ty)} {F : Dens ks → Option Out} (x : Dens ks) : conN ks F (mkArgs ks x) = F x := by simp [conN, unArgs_mk]
theorem unA_inv {k : AK} {t : Ty} {a : Arg} {x : t.den} (h : unA k t a = some x) : a = mkA k ⟨t, x⟩ := by
  unfold unA at h
  split at h <;> first
    | (obtain ⟨rfl, rfl⟩ := cast_cast h; rfl)
    | (cases h; done)
theorem unArgs_inv : ∀ {ks : List (AK × Ty)} {args : List Arg} {x : Dens ks}, unArgs ks args = some x → args = mkArgs ks x
  | [], [], _, _ => rfl
  | k :: r, a :: as, x, h => by
    simp only [unArgs] at h
    split at h
    · rename_i y ys h1 h2
      injection h with h
      subst h
      simp only [mkArgs]
      rw [unA_inv h1, unArgs_inv h2]
    · cases h
  | [], _ :: _, _, h => by cases h
  | _ :: _, [], _, h => by cases h
theorem conN_inv {ks : List (AK × Ty)} {F : Dens ks → Option Out} {args : List Arg} {out : Out} (h : conN ks F args = some out) : ∃ x, args = mkArgs ks x ∧ F x = some out := by
  unfold conN at h
  rw [Option.bind_eq_some_iff] at h
  obtain ⟨x, h1, h2⟩ := h
  exact ⟨x, unArgs_inv h1, h2⟩

/-! ### Laws -/
open Classical in
/-- What a law promises: whatever it is given, it says true. -/
noncomputable def lawC (us : List Ty) : Con := fun args => if ∃ l : List Dv, args = l.map .val ∧ l.map (·.1) = us ∧ ∀ d ∈ l, okv d.1 d.2 then some ⟨.val ⟨.bool, true⟩, []⟩ else none

theorem lawC_eq {us : List Ty} {l : List Dv} (h1 : l.map (·.1) = us) (h2 : ∀ d ∈ l, okv d.1 d.2) : lawC us (l.map .val) = some ⟨.val ⟨.bool, true⟩, []⟩ := if_pos ⟨l, rfl, h1, h2⟩

abbrev LawEx (tab : Tab) (Γ : Cons) (fn : Func) (us : List Ty) : Prop := ∀ l : List Dv, l.map (·.1) = us → (∀ d ∈ l, okv d.1 d.2) →
  Ex tab Γ (fn.body.getD .skip) (EndsF tab fn.results.toList (l.map .val) ⟨.val ⟨.bool, true⟩, []⟩) (ini (l.map .val))

theorem law_con {P : Program} {tab : Tab} {Γ : Cons} {f : FuncId} {fn : Func} {us : List Ty} (ok : TabOK P tab) (hΓ : ConsOK P Γ) (hm : P.follows .mixedOrders = true) (hf : P.funcs[f]? = some fn) (hfn : fnOK fn = true)
    (hn : us.length ≤ fn.ntmps) (h : LawEx tab Γ fn us) : ConOK P f (lawC us) := by
  refine con_ok ok hΓ hm hf hfn fun args out hc => ?_
  unfold lawC at hc
  split at hc
  · rename_i hex
    obtain ⟨l, rfl, h1, h2⟩ := hex
    injection hc with hc
    subst hc
    refine ⟨?_, h l h1 h2⟩
    have := congrArg List.length h1
    simp at this
    simp; omega
  · cases hc

theorem types_nil {l : List Dv} (h : l.map (·.1) = []) : l = [] := by simpa using h
theorem types_cons {l : List Dv} {t : Ty} {us : List Ty} (h : l.map (·.1) = t :: us) : ∃ (x : t.den) (r : List Dv), l = ⟨t, x⟩ :: r ∧ r.map (·.1) = us := by
  cases l with
  | nil => cases h
  | cons d l =>
    obtain ⟨t', x⟩ := d
    simp only [List.map_cons, List.cons.injEq] at h
    obtain ⟨rfl, h⟩ := h
    exact ⟨x, l, rfl, h⟩

/-! ### Loops -/
def mem (k : Nat) : List Nat → Bool
  | [] => false
  | d :: l => k == d || mem k l

/-- Another state, of which all but D is as it was. -/
def hav (j st : St) (D : List Nat) : St := fun k => if mem k D = true then j k else st k
theorem hav_in {j st : St} {D : List Nat} {k : Nat} (h : mem k D = true) : hav j st D k = j k := by simp [hav, h]
theorem hav_out {j st : St} {D : List Nat} {k : Nat} (h : mem k D = false) : hav j st D k = st k := by simp [hav, h]

structure Off (D : List Nat) (st st' : St) : Prop where mk ::
  out : ∀ k, mem k D = false → st' k = st k
theorem off_self {D : List Nat} {st : St} : Off D st st = True := eq_true ⟨fun _ _ => rfl⟩
theorem off_hav {D : List Nat} {j st : St} : Off D st (hav j st D) = True := eq_true ⟨fun k h => hav_out h⟩
theorem off_put {D : List Nat} {st f : St} {d : Nat} {s : Slot} (h : mem d D = true) : Off D st (put f d s) = Off D st f := by
  refine propext ⟨fun h' => ⟨fun k hk => ?_⟩, fun h' => ⟨fun k hk => ?_⟩⟩
  · have := h'.out k hk
    rwa [put_ne _ _ (fun e => by subst e; rw [h] at hk; cases hk)] at this
  · rw [put_ne _ _ (fun e => by subst e; rw [h] at hk; cases hk)]
    exact h'.out k hk
def inL (D E : List Nat) : Bool := D.all fun k => mem k E
theorem mem_inL {D E : List Nat} (h : inL D E = true) {k : Nat} (hk : mem k E = false) : mem k D = false := by
  induction D with
  | nil => rfl
  | cons d D ih =>
    simp only [inL, List.all_cons, Bool.and_eq_true] at h
    simp only [mem, Bool.or_eq_false_iff]
    refine ⟨?_, ih h.2⟩
    cases e : k == d with
    | false => rfl
    | true => rw [beq_iff_eq] at e; subst e; rw [h.1] at hk; cases hk
theorem off_hav' {D E : List Nat} {j st f : St} (h : inL E D = true) : Off D st (hav j f E) = Off D st f := by
  refine propext ⟨fun h' => ⟨fun k hk => ?_⟩, fun h' => ⟨fun k hk => ?_⟩⟩
  · have := h'.out k hk
    rwa [hav_out (mem_inL h hk)] at this
  · rw [hav_out (mem_inL h hk)]
    exact h'.out k hk

theorem app_eq : ∀ {u : Ups} {f g : St}, (∀ p ∈ u, g p.1 = p.2) → (∀ k, (∀ p ∈ u, p.1 ≠ k) → f k = g k) → app u f = g
  | [], f, g, h1, h2 => by
    funext k
    exact h2 k (fun p hp => by cases hp)
  | p :: u, f, g, h1, h2 => by
    rw [app_cons]
    refine app_eq (fun q hq => h1 q (by simp [hq])) (fun k hk => ?_)
    by_cases e : k = p.1
    · subst e
      rw [put_same]
      exact (h1 p (by simp)).symm
    · rw [put_ne _ _ e]
      refine h2 k (fun q hq => ?_)
      rcases List.mem_cons.1 hq with rfl | hq
      · exact fun e' => e e'.symm
      · exact hk q hq

def holds (u : Ups) (st : St) : Prop := ∀ p ∈ u, st p.1 = p.2
theorem holds_nil {st : St} : holds [] st = True := eq_true (fun p hp => by cases hp)
theorem holds_cons {k : Nat} {s : Slot} {u : Ups} {st : St} : holds ((k, s) :: u) st = (st k = s ∧ holds u st) := by simp [holds]

section
variable {tab : Tab} {Γ : Cons}
/-- A loop: F: what of the call's own is told as only read from here on; G: what of nil is told as a row of the call's own; D: the slots that turn in it; live: which of them are read again, and what they hold; I: what is known of that. -/
theorem ex_loopG' {σ : Type} (F : List Nat) (G : List (Nat × Ty)) {x : Code} {Q : Exit → St → Prop} {st : St} (D : List Nat) (live : σ → Ups) (I : σ → Prop) (μ : σ → Nat) (h0 : ∀ m, ∃ a0, I a0 ∧ holds (live a0) (opens m G (seals F st)))
    (h : ∀ (m : Nat) (j : St) (a : σ), I a → Ex tab Γ x (loopK Q fun st' => ∃ a', I a' ∧ μ a' < μ a ∧ holds (live a') st' ∧ Off D (opens m G (seals F st)) st') (app (live a) (hav j (opens m G (seals F st)) D))) : Ex tab Γ (.loop x) Q st := by
  refine ex_loopG F G fun m => ?_
  obtain ⟨a0, h0, hl⟩ := h0 m
  refine ⟨fun n st1 => ∃ a, I a ∧ n = μ a ∧ holds (live a) st1 ∧ Off D (opens m G (seals F st)) st1, μ a0, ⟨a0, h0, rfl, hl, ⟨fun _ _ => rfl⟩⟩, ?_⟩
  rintro n st1 ⟨a, h1, rfl, h2, h3⟩
  have e : app (live a) (hav st1 (opens m G (seals F st)) D) = st1 := app_eq h2 (fun k _ => by
    cases hk : mem k D with
    | true => exact hav_in hk
    | false => rw [hav_out hk, h3.out k hk])
  have := h m st1 a h1
  rw [e] at this
  refine ex_mono this fun e st' hk => ?_
  cases e <;> first
    | (obtain ⟨a', k1, k2, k3, k4⟩ := hk; exact ⟨_, k2, a', k1, rfl, k3, k4⟩)
    | exact hk
theorem seals_obj {st : St} {k n : Nat} {t : Ty} {x : t.den} (h : st k = .obj n t x) (hk : k < ghost) : seals [k] st = put st k (.rpt t x) := by
  show seal1 k st = _
  unfold seal1
  rw [h]
  simp only [hk, if_true]
theorem seals_own {st : St} {k n : Nat} {t : Ty} {xs : List t.den} (h : st k = .own n t xs) : seals [k] st = put st k (.val (.slice t) xs) := by
  show seal1 k st = _
  unfold seal1
  rw [h]
theorem opens_one {st : St} {m k : Nat} {t : Ty} (h : st k = .nil) : opens m [(k, t)] st = put st k (.own m t []) := by
  show open1 m k t st = _
  unfold open1
  rw [h]
theorem opens_two {st : St} {m k k2 : Nat} {t t2 : Ty} (h : st k = .nil) (h2 : put st k (.own m t []) k2 = .nil) : opens m [(k, t), (k2, t2)] st = put (put st k (.own m t [])) k2 (.own (m + 1) t2 []) := by
  show open1 (m + 1) k2 t2 (open1 m k t st) = _
  rw [show open1 m k t st = put st k (.own m t []) from opens_one h]
  unfold open1
  rw [h2]
/-- A loop before which an object of the call's own is told as one that is only read. -/
theorem ex_loopO {σ : Type} {x : Code} {Q : Exit → St → Prop} {st : St} (k : Nat) {n : Nat} {t : Ty} {v : t.den} (hk : st k = .obj n t v) (hlt : k < ghost) (D : List Nat) (live : σ → Ups) (I : σ → Prop) (μ : σ → Nat) (a0 : σ) (h0 : I a0) (hl : holds (live a0) (put st k (.rpt t v)))
    (h : ∀ (j : St) (a : σ), I a → Ex tab Γ x (loopK Q fun st' => ∃ a', I a' ∧ μ a' < μ a ∧ holds (live a') st' ∧ Off D (put st k (.rpt t v)) st') (app (live a) (hav j (put st k (.rpt t v)) D))) : Ex tab Γ (.loop x) Q st := by
  rw [← seals_obj hk hlt] at hl h
  exact ex_loopG' [k] [] D live I μ (fun _ => ⟨a0, h0, hl⟩) (fun _ => h)
/-- A loop before which a row of the call's own is told as one that is only read. -/
theorem ex_loopR {σ : Type} {x : Code} {Q : Exit → St → Prop} {st : St} (k : Nat) {n : Nat} {t : Ty} {v : List t.den} (hk : st k = .own n t v) (D : List Nat) (live : σ → Ups) (I : σ → Prop) (μ : σ → Nat) (a0 : σ) (h0 : I a0) (hl : holds (live a0) (put st k (.val (.slice t) v)))
    (h : ∀ (j : St) (a : σ), I a → Ex tab Γ x (loopK Q fun st' => ∃ a', I a' ∧ μ a' < μ a ∧ holds (live a') st' ∧ Off D (put st k (.val (.slice t) v)) st') (app (live a) (hav j (put st k (.val (.slice t) v)) D))) : Ex tab Γ (.loop x) Q st := by
  rw [← seals_own hk] at hl h
  exact ex_loopG' [k] [] D live I μ (fun _ => ⟨a0, h0, hl⟩) (fun _ => h)
/-- A loop before which a nil is told as a row of the call's own. -/
theorem ex_loopN {σ : Type} {x : Code} {Q : Exit → St → Prop} {st : St} (k : Nat) (t : Ty) (hk : st k = .nil) (D : List Nat) (live : σ → Ups) (I : σ → Prop) (μ : σ → Nat) (h0 : ∀ m, ∃ a0, I a0 ∧ holds (live a0) (put st k (.own m t [])))
    (h : ∀ (m : Nat) (j : St) (a : σ), I a → Ex tab Γ x (loopK Q fun st' => ∃ a', I a' ∧ μ a' < μ a ∧ holds (live a') st' ∧ Off D (put st k (.own m t [])) st') (app (live a) (hav j (put st k (.own m t [])) D))) : Ex tab Γ (.loop x) Q st := by
  refine ex_loopG' [] [(k, t)] D live I μ (fun m => ?_) (fun m => ?_)
  · rw [show opens m [(k, t)] (seals [] st) = put st k (.own m t []) from opens_one hk]; exact h0 m
  · rw [show opens m [(k, t)] (seals [] st) = put st k (.own m t []) from opens_one hk]; exact h m
theorem ex_loopN2 {σ : Type} {x : Code} {Q : Exit → St → Prop} {st : St} (k : Nat) (t : Ty) (k2 : Nat) (t2 : Ty) (hk : st k = .nil) (hk2 : ∀ m, put st k (.own m t []) k2 = .nil) (D : List Nat) (live : σ → Ups) (I : σ → Prop) (μ : σ → Nat) (h0 : ∀ m, ∃ a0, I a0 ∧ holds (live a0) (put (put st k (.own m t [])) k2 (.own (m + 1) t2 [])))
    (h : ∀ (m : Nat) (j : St) (a : σ), I a → Ex tab Γ x (loopK Q fun st' => ∃ a', I a' ∧ μ a' < μ a ∧ holds (live a') st' ∧ Off D (put (put st k (.own m t [])) k2 (.own (m + 1) t2 [])) st') (app (live a) (hav j (put (put st k (.own m t [])) k2 (.own (m + 1) t2 [])) D))) : Ex tab Γ (.loop x) Q st := by
  refine ex_loopG' [] [(k, t), (k2, t2)] D live I μ (fun m => ?_) (fun m => ?_)
  · rw [show opens m [(k, t), (k2, t2)] (seals [] st) = put (put st k (.own m t [])) k2 (.own (m + 1) t2 []) from opens_two hk (hk2 m)]; exact h0 m
  · rw [show opens m [(k, t), (k2, t2)] (seals [] st) = put (put st k (.own m t [])) k2 (.own (m + 1) t2 []) from opens_two hk (hk2 m)]; exact h m
theorem ex_loopU {σ : Type} {x : Code} {Q : Exit → St → Prop} {st : St} (D : List Nat) (live : σ → Ups) (I : σ → Prop) (μ : σ → Nat) (a0 : σ) (h0 : I a0) (hl : holds (live a0) st)
    (h : ∀ (j : St) (a : σ), I a → Ex tab Γ x (loopK Q fun st' => ∃ a', I a' ∧ μ a' < μ a ∧ holds (live a') st' ∧ Off D st st') (app (live a) (hav j st D))) : Ex tab Γ (.loop x) Q st := ex_loopG' [] [] D live I μ (fun _ => ⟨a0, h0, hl⟩) (fun _ => h)
end

theorem mem_nil {k : Nat} : mem k [] = false := rfl
theorem mem_cons {k d : Nat} {l : List Nat} : mem k (d :: l) = (k == d || mem k l) := rfl
theorem inL_nil {E : List Nat} : inL [] E = true := rfl
theorem inL_cons {d : Nat} {D E : List Nat} : inL (d :: D) E = (mem d E && inL D E) := by simp [inL]
attribute [simp] hav_in hav_out off_self off_hav off_put off_hav' holds_nil holds_cons mem_nil mem_cons inL_nil inL_cons
/-! ### Guards: where the ways part, what the guard says stands in the state. -/
class KontS where
  f : St → Prop
theorem kontS_f {g : St → Prop} {st : St} : @KontS.f ⟨g⟩ st = g st := rfl
def gI (s : Slot) (t : Option Tmp) (want : Bool) (st : St) [X : KontS] [Y : KontS] : Prop := gUse s want (X.f st) (Y.f st)
section
variable {t : Option Tmp} {k : Tmp} {want b : Bool} {st : St} [X : KontS] [Y : KontS]
theorem gI_tt : gI (.val .bool true) t true st (X := X) (Y := Y) = X.f st := by simp [gI, gUse_bool]
theorem gI_tf : gI (.val .bool true) t false st (X := X) (Y := Y) = Y.f st := by simp [gI, gUse_bool]
theorem gI_ft : gI (.val .bool false) t true st (X := X) (Y := Y) = Y.f st := by simp [gI, gUse_bool]
theorem gI_ff : gI (.val .bool false) t false st (X := X) (Y := Y) = X.f st := by simp [gI, gUse_bool]
theorem gI_tup : gI (.tup []) t want st (X := X) (Y := Y) = Y.f st := by simp [gI, gUse_tup]
end
section
variable {tab : Tab} {Γ : Cons} {d : Option Tmp} {ty0 : TypeId} {ps : String} {af : Array Edge} {m : Nat} {st : St} {ops : Array Oper} {r : List Oper} {o : Op} {j : Nat} {want b : Bool} {k : Tmp}
theorem g_exL {K : Exit → St → Prop} : ExL tab Γ ops (⟨d, o, ty0, ps, af, some (j, want)⟩ :: r) m st K =
    gI (gSlot st (gtmp ops j)) (gtmp ops j) want st (X := ⟨fun st => ExL tab Γ ops (⟨d, o, ty0, ps, af, none⟩ :: r) m st K⟩) (Y := ⟨fun st => ExL tab Γ ops r (m + 1) (app (dstUps d (.tup [])) st) K⟩) := exL_guard
end

/-- A guard of which nothing is known yet: behind it, it is known. -/
structure Known (st : St) (k : Tmp) (b : Bool) : Prop where mk ::
  out : st k = .val .bool b
theorem put_known {st : St} {k : Tmp} {s : Slot} (h : st k = s) : put st k s = st := by
  funext i
  by_cases e : i = k
  · subst e; rw [put_same, h]
  · rw [put_ne _ _ e]
theorem gI_b {k : Tmp} {want b : Bool} {st : St} [X : KontS] [Y : KontS] (h : st k = .val .bool b) : gI (.val .bool b) (some k) want st (X := X) (Y := Y) =
    br b (gI (.val .bool true) (some k) want (put st k (.val .bool true)) (X := X) (Y := Y)) (gI (.val .bool false) (some k) want (put st k (.val .bool false)) (X := X) (Y := Y)) := by
  cases b with
  | true => rw [br_true, put_known h]
  | false => rw [br_false, put_known h]

attribute [simp] kontS_f gI_tt gI_tf gI_ft gI_ff gI_tup g_exL
attribute [simp low] gI_b
theorem br_xf {b : Bool} {X : Prop} : br b X False = (b = true ∧ X) := by cases b <;> simp [br]
theorem br_fx {b : Bool} {X : Prop} : br b False X = (b = false ∧ X) := by cases b <;> simp [br]
theorem br_tx {b : Bool} {X : Prop} : br b True X = (b = false → X) := by cases b <;> simp [br]
theorem br_xt {b : Bool} {X : Prop} : br b X True = (b = true → X) := by cases b <;> simp [br]
theorem br_xx {b : Bool} {X : Prop} : br b X X = X := by cases b <;> simp [br]
attribute [simp] br_xf br_fx br_tx br_xt br_xx

/-! ### Regions that draw their order -/
def rdA (s : Slot) : List Nat := match aliasOf s with | some (_, k) => [k] | none => []
def rdl (st : St) : List Operand → List Nat
  | [] => []
  | x :: r => (match x with | .tmp t => t :: rdA (st t) | _ => []) ++ rdl st r
theorem rdA_val {t : Ty} {x : t.den} : rdA (.val t x) = [] := rfl
theorem rdA_nil : rdA .nil = [] := rfl
theorem rdA_dead : rdA .dead = [] := rfl
theorem rdA_own {n : Nat} {t : Ty} {x : List t.den} : rdA (.own n t x) = [] := rfl
theorem rdA_obj {n : Nat} {t : Ty} {x : t.den} : rdA (.obj n t x) = [] := rfl
theorem rdA_asl {n k : Nat} {g : Option (Nat × Nat)} : rdA (.asl n k g) = [k] := rfl
theorem rdA_apt {n k : Nat} {p : List Way} : rdA (.apt n k p) = [k] := rfl
theorem rdA_rpt {t : Ty} {x : t.den} : rdA (.rpt t x) = [] := rfl
theorem rdA_tup {l : List Dv} : rdA (.tup l) = [] := rfl
theorem rdA_ifc {T : TypeId} {t : Ty} {x : t.den} : rdA (.ifc T t x) = [] := rfl
section
variable {st : St} {t : Tmp} {r : List Operand} {v : Value} {f : FuncId} {ops : Array Oper} {d : Option Tmp} {op : Op} {ty0 : TypeId} {ps : String} {af : Array Edge} {j : Nat} {w : Bool}
theorem rdl_nil : rdl st [] = [] := rfl
theorem rdl_tmp : rdl st (.tmp t :: r) = t :: (rdA (st t) ++ rdl st r) := rfl
theorem rdl_const : rdl st (.const v :: r) = rdl st r := rfl
theorem rdl_func : rdl st (.func f :: r) = rdl st r := rfl
theorem rdl_eq : ∀ l : List Operand, (l.map (rd1 st)).flatten = rdl st l
  | [] => rfl
  | x :: l => by
    rw [List.map_cons, List.flatten_cons, rdl_eq l]
    cases x <;> rfl
theorem rds_none : rds ops st ⟨d, op, ty0, ps, af, none⟩ = rdl st (opnds op) := by
  unfold rds
  rw [rdl_eq]
  rfl
theorem rds_some : rds ops st ⟨d, op, ty0, ps, af, some (j, w)⟩ = (gtmp ops j).toList ++ rdl st (opnds op) := by
  unfold rds
  rw [rdl_eq]
variable {x y z : Operand} {T T2 : TypeId} {o : BinOp} {o2 : UnOp} {k : Nat} {parts : Array (Nat × Operand)} {c : Call}
theorem opn_move : opnds (.move x) = [x] := rfl
theorem opn_assign : opnds (.assign x) = [x] := rfl
theorem opn_box : opnds (.box T x) = [x] := rfl
theorem opn_load : opnds (.load T x) = [x] := rfl
theorem opn_nilCheck : opnds (.nilCheck x) = [x] := rfl
theorem opn_unOp : opnds (.unOp o2 T x) = [x] := rfl
theorem opn_convert : opnds (.convert T T2 x) = [x] := rfl
theorem opn_fieldAddr : opnds (.fieldAddr T x k) = [x] := rfl
theorem opn_field : opnds (.field T x k) = [x] := rfl
theorem opn_extract : opnds (.extract x k) = [x] := rfl
theorem opn_iface : opnds (.makeInterface T x) = [x] := rfl
theorem opn_pick : opnds (.pick x y z) = [x, y, z] := rfl
theorem opn_build : opnds (.build T parts) = parts.toList.map (·.2) := rfl
theorem opn_buildSlice : opnds (.buildSlice T k parts) = parts.toList.map (·.2) := rfl
theorem opn_store : opnds (.store T x y) = [x, y] := rfl
theorem opn_binOp : opnds (.binOp o T x y T2) = [x, y] := rfl
theorem opn_makeSlice : opnds (.makeSlice T x y) = [x, y] := rfl
theorem opn_indexAddr : opnds (.indexAddr T x y) = [x, y] := rfl
theorem opn_index : opnds (.index T x y) = [x, y] := rfl
theorem opn_slice0 : opnds (.slice T x none none none) = [x] := rfl
theorem opn_slice1 : opnds (.slice T x (some y) none none) = [x, y] := rfl
theorem opn_slice2 : opnds (.slice T x none (some y) none) = [x, y] := rfl
theorem opn_slice3 : opnds (.slice T x (some y) (some z) none) = [x, y, z] := rfl
theorem opn_call : opnds (.call c) = c.args.toList := rfl
theorem opn_alloc : opnds (.alloc T) = [] := rfl
end
theorem keys_nil : keys [] = [] := rfl
theorem keys_cons {k : Nat} {s : Slot} {u : Ups} : keys ((k, s) :: u) = k :: keys u := rfl
theorem keys_append {u v : Ups} : keys (u ++ v) = keys u ++ keys v := by simp [keys]
section
variable {tab : Tab} {Γ : Cons} {d : Option Tmp} {ty0 : TypeId} {ps : String} {af : Array Edge} {m : Nat} {st : St} {ops : Array Oper} {r : List Oper} {o : Op} {j : Nat} {want b : Bool} {k : Tmp}
theorem g_exO {tr : Tr} {K : St → Tr → Prop} : ExOps tab Γ ops (⟨d, o, ty0, ps, af, some (j, want)⟩ :: r) m st tr K =
    gI (gSlot st (gtmp ops j)) (gtmp ops j) want st (X := ⟨fun st => exI tab Γ ⟨d, o, ty0, ps, af, none⟩ m st (K := ⟨fun u => ExOps tab Γ ops r (m + 1) (app u st) ((rds ops st ⟨d, o, ty0, ps, af, some (j, want)⟩, keys u) :: tr) K⟩)⟩)
      (Y := ⟨fun st => ExOps tab Γ ops r (m + 1) (app (dstUps d (.tup [])) st) ((rds ops st ⟨d, o, ty0, ps, af, some (j, want)⟩, keys (dstUps d (.tup []))) :: tr) K⟩) := exO_guard
end
attribute [simp] ex_draw_no ex_draw_yes exO_nil i_exO_plain g_exO rdA_val rdA_nil rdA_dead rdA_own rdA_obj rdA_asl rdA_apt rdA_rpt rdA_tup rdA_ifc rdl_nil rdl_tmp rdl_const rdl_func rds_none rds_some opn_move opn_assign opn_box opn_load opn_nilCheck opn_unOp opn_convert opn_fieldAddr opn_field opn_extract opn_iface opn_pick opn_build opn_buildSlice opn_store opn_binOp opn_makeSlice opn_indexAddr opn_index opn_slice0 opn_slice1 opn_slice2 opn_slice3 opn_call opn_alloc keys_nil keys_cons keys_append
theorem i_app {u : Ty} {xs ys : List u.den} [K : Kont (List u.den)] : appI xs ys (K := K) = ((xs.length + ys.length) * u.mx ≤ 140737488355328 ∧ K.f (xs ++ ys)) := rfl
attribute [simp] i_app
/-! ### Lengths in regions that draw their order -/
def lenT : Option Ty → Nat → Option Nat
  | some (.slice _), n => some n
  | some (.arr k _), _ => some k
  | _, _ => none
def lenS : Option Ty → Nat → Option Nat
  | some .str, n => some n
  | some (.arr k _), _ => some k
  | _, _ => none
section
variable {tab : Tab} {t : TypeId} {u : Ty} {c : Slot} {n s lo len k : Nat}
theorem lenT_slice : lenT (some (.slice u)) n = some n := rfl
theorem lenT_arr : lenT (some (.arr k u)) n = some k := rfl
theorem lenS_str : lenS (some .str) n = some n := rfl
theorem lenO_val {xs : List u.den} : lenOf? tab t ⟨.val (.slice u) xs, c⟩ = lenT (ty tab t) xs.length := by
  unfold lenOf? lenT
  cases ty tab t with
  | none => rfl
  | some v => cases v <;> rfl
theorem lenO_row {xs : List u.den} : lenOf? tab t ⟨.asl n s none, .own n u xs⟩ = lenT (ty tab t) xs.length := by
  unfold lenOf? lenT
  cases ty tab t with
  | none => rfl
  | some v => cases v <;> simp [slc]
theorem lenO_part {xs : List u.den} : lenOf? tab t ⟨.asl n s (some (lo, len)), .own n u xs⟩ = lenT (ty tab t) ((xs.drop lo).take len).length := by
  unfold lenOf? lenT
  cases ty tab t with
  | none => rfl
  | some v => cases v <;> simp [slc]
theorem lenO_nil : lenOf? tab t ⟨.nil, c⟩ = lenT (ty tab t) 0 := by
  unfold lenOf? lenT
  cases ty tab t with
  | none => rfl
  | some v => cases v <;> rfl
theorem lenO_str {z : ByteArray} : lenOf? tab t ⟨.val .str z, c⟩ = lenS (ty tab t) z.size := by
  unfold lenOf? lenS
  cases ty tab t with
  | none => rfl
  | some v => cases v <;> rfl
end
attribute [simp] lenT_slice lenT_arr lenS_str lenO_val lenO_row lenO_part lenO_nil lenO_str
instance {ops : Array Oper} {tr : Tr} : Decidable (Indep ops tr) := inferInstanceAs (Decidable (indep ops tr = true))
theorem hn {st : St} : holds [] st := fun p hp => by cases hp
theorem hc {k : Nat} {s : Slot} {u : Ups} {st : St} (h : st k = s) (h2 : holds u st) : holds ((k, s) :: u) st := by rw [holds_cons]; exact ⟨h, h2⟩
end Go.Tm
