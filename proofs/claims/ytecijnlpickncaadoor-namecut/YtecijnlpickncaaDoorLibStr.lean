/- strings: what the shelf's contracts say, as contracts here. -/
import Derived.Test.YtecijnlpickncaaDoorTab
import Derived.Test.YtecijnlpickncaaDoorPStr
import Derived.Test.YtecijnlpickncaaDoorLibKit
import Derived.Shelf.Small.Wraps
import Derived.Shelf.Strings.Split
import Derived.Test.YtecijnlpickncaaDoorLibSplit
import Derived.Shelf.Strings.OnBuilder
set_option maxRecDepth 100000
set_option linter.unusedSimpArgs false
set_option linter.unusedVariables false
namespace Go.Proofs.YtecijnlpickncaaDoor
open Go.Tm Go.IntWalk
def layCutP_ren : Go.Shelf.Ren := {
  f := fun x => match x with
    | 103 => 19
    | 210 => 22
    | 206 => 27
    | n => n
  t := fun x => match x with
    | 9 => 9
    | 4 => 4
    | 24 => 39
    | 3 => 3
    | n => n
  g := fun n => n }
theorem layCutP : Lays.n103 Tryd.prog layCutP_ren := {
  mixed := by kernel_rfl
  f103 := by kernel_rfl
  f206 := by kernel_rfl
  f210 := by kernel_rfl
  t3 := Tryd.underlying3
  a3 := Tryd.isAgg3
  z3 := Tryd.sizeOf3
  v3 := Tryd.zeroValue3
  t4 := Tryd.underlying4
  a4 := Tryd.isAgg4
  z4 := Tryd.sizeOf4
  v4 := Tryd.zeroValue4
  t9 := Tryd.underlying9
  a9 := Tryd.isAgg9
  z9 := Tryd.sizeOf9
  v9 := Tryd.zeroValue9
  t24 := Tryd.underlying39
  a24 := Tryd.isAgg39
  z24 := Tryd.sizeOf39
  v24 := Tryd.zeroValue39 }

def laySplit_ren : Go.Shelf.Ren := {
  f := fun x => match x with
    | 146 => 20
    | 221 => 23
    | 268 => 28
    | 138 => 29
    | 143 => 30
    | 195 => 33
    | 197 => 34
    | 218 => 35
    | 219 => 36
    | 260 => 39
    | 217 => 40
    | 225 => 41
    | 224 => 42
    | 267 => 43
    | 266 => 44
    | 314 => 45
    | n => n
  t := fun x => match x with
    | 9 => 9
    | 31 => 27
    | 3 => 3
    | 4 => 4
    | 0 => 0
    | 105 => 57
    | 21 => 21
    | 5 => 5
    | 46 => 63
    | 119 => 64
    | 139 => 67
    | 138 => 66
    | 146 => 69
    | 51 => 68
    | n => n
  g := fun x => match x with
    | 1 => 0
    | 3 => 1
    | 4 => 2
    | n => n }
theorem laySplit : Lays.n146 Tryd.prog laySplit_ren := {
  mixed := by kernel_rfl
  f138 := by kernel_rfl
  f143 := by kernel_rfl
  f146 := by kernel_rfl
  f195 := by kernel_rfl
  f197 := by kernel_rfl
  f217 := by kernel_rfl
  f218 := by kernel_rfl
  f219 := by kernel_rfl
  f221 := by kernel_rfl
  f224 := by kernel_rfl
  f225 := by kernel_rfl
  f260 := by kernel_rfl
  f266 := by kernel_rfl
  f267 := by kernel_rfl
  f268 := by kernel_rfl
  f314 := by kernel_rfl
  t0 := Tryd.underlying0
  a0 := Tryd.isAgg0
  z0 := Tryd.sizeOf0
  v0 := Tryd.zeroValue0
  t3 := Tryd.underlying3
  a3 := Tryd.isAgg3
  z3 := Tryd.sizeOf3
  v3 := Tryd.zeroValue3
  t4 := Tryd.underlying4
  a4 := Tryd.isAgg4
  z4 := Tryd.sizeOf4
  v4 := Tryd.zeroValue4
  t5 := Tryd.underlying5
  a5 := Tryd.isAgg5
  z5 := Tryd.sizeOf5
  v5 := Tryd.zeroValue5
  t9 := Tryd.underlying9
  a9 := Tryd.isAgg9
  z9 := Tryd.sizeOf9
  v9 := Tryd.zeroValue9
  t21 := Tryd.underlying21
  a21 := Tryd.isAgg21
  z21 := Tryd.sizeOf21
  v21 := Tryd.zeroValue21
  t31 := Tryd.underlying27
  a31 := Tryd.isAgg27
  z31 := Tryd.sizeOf27
  v31 := Tryd.zeroValue27
  t46 := Tryd.underlying63
  a46 := Tryd.isAgg63
  z46 := Tryd.sizeOf63
  v46 := Tryd.zeroValue63
  t51 := Tryd.underlying68
  a51 := Tryd.isAgg68
  z51 := Tryd.sizeOf68
  v51 := Tryd.zeroValue68
  t105 := Tryd.underlying57
  a105 := Tryd.isAgg57
  z105 := Tryd.sizeOf57
  v105 := Tryd.zeroValue57
  t119 := Tryd.underlying64
  a119 := Tryd.isAgg64
  z119 := Tryd.sizeOf64
  t138 := Tryd.underlying66
  a138 := Tryd.isAgg66
  z138 := Tryd.sizeOf66
  v138 := Tryd.zeroValue66
  t139 := Tryd.underlying67
  a139 := Tryd.isAgg67
  z139 := Tryd.sizeOf67
  v139 := Tryd.zeroValue67
  t146 := Tryd.underlying69
  a146 := Tryd.isAgg69
  z146 := Tryd.sizeOf69
  v146 := Tryd.zeroValue69
  g1 := by kernel_rfl
  g3 := by kernel_rfl
  g4 := by kernel_rfl }

def layJoin_ren : Go.Shelf.Ren := {
  f := fun x => match x with
    | 156 => 21
    | 165 => 24
    | 166 => 25
    | 169 => 26
    | 240 => 31
    | 241 => 32
    | 276 => 37
    | 277 => 38
    | n => n
  t := fun x => match x with
    | 31 => 27
    | 9 => 9
    | 3 => 3
    | 4 => 4
    | 0 => 0
    | 20 => 20
    | 72 => 46
    | 76 => 50
    | 70 => 44
    | 37 => 22
    | 75 => 49
    | 127 => 55
    | 164 => 60
    | 5 => 5
    | 80 => 26
    | n => n
  g := fun n => n }
theorem layJoin : Lays.n156 Tryd.prog layJoin_ren := {
  mixed := by kernel_rfl
  f156 := by kernel_rfl
  f165 := by kernel_rfl
  f166 := by kernel_rfl
  f169 := by kernel_rfl
  f240 := by kernel_rfl
  f241 := by kernel_rfl
  f276 := by kernel_rfl
  f277 := by kernel_rfl
  t0 := Tryd.underlying0
  a0 := Tryd.isAgg0
  z0 := Tryd.sizeOf0
  v0 := Tryd.zeroValue0
  t3 := Tryd.underlying3
  a3 := Tryd.isAgg3
  z3 := Tryd.sizeOf3
  v3 := Tryd.zeroValue3
  t4 := Tryd.underlying4
  a4 := Tryd.isAgg4
  z4 := Tryd.sizeOf4
  v4 := Tryd.zeroValue4
  t9 := Tryd.underlying9
  a9 := Tryd.isAgg9
  z9 := Tryd.sizeOf9
  v9 := Tryd.zeroValue9
  t20 := Tryd.underlying20
  a20 := Tryd.isAgg20
  z20 := Tryd.sizeOf20
  v20 := Tryd.zeroValue20
  t31 := Tryd.underlying27
  a31 := Tryd.isAgg27
  z31 := Tryd.sizeOf27
  v31 := Tryd.zeroValue27
  t37 := Tryd.underlying22
  a37 := Tryd.isAgg22
  z37 := Tryd.sizeOf22
  v37 := Tryd.zeroValue22
  t70 := Tryd.underlying44
  a70 := Tryd.isAgg44
  z70 := Tryd.sizeOf44
  v70 := Tryd.zeroValue44
  t72 := Tryd.underlying46
  a72 := Tryd.isAgg46
  z72 := Tryd.sizeOf46
  v72 := Tryd.zeroValue46
  t75 := Tryd.underlying49
  a75 := Tryd.isAgg49
  z75 := Tryd.sizeOf49
  v75 := Tryd.zeroValue49
  t76 := Tryd.underlying50
  a76 := Tryd.isAgg50
  z76 := Tryd.sizeOf50
  v76 := Tryd.zeroValue50
  t127 := Tryd.underlying55
  a127 := Tryd.isAgg55
  z127 := Tryd.sizeOf55
  v127 := Tryd.zeroValue55
  t164 := Tryd.underlying60
  a164 := Tryd.isAgg60
  z164 := Tryd.sizeOf60
  v164 := Tryd.zeroValue60 }

theorem fCutP : layCutP_ren.f 103 = 19 := by kernel_rfl
theorem fSplit : laySplit_ren.f 146 = 20 := by kernel_rfl
theorem fJoin : layJoin_ren.f 156 = 21 := by kernel_rfl
def cutP (s p : ByteArray) : ByteArray × Bool := (⟨(Lib.trimPrefix s.data.toList p.data.toList).toArray⟩, Lib.hasPrefix s.data.toList p.data.toList)
/-- The contract of strings.CutPrefix. -/
def scutC : Con := conN [(.v, .str), (.v, .str)] fun (s, p, _) => some ⟨.tup [⟨.str, (cutP s p).1⟩, ⟨.bool, (cutP s p).2⟩], []⟩
theorem scutC_eq {s : ByteArray} {p : ByteArray} : scutC [.val ⟨.str, s⟩, .val ⟨.str, p⟩] = some ⟨.tup [⟨.str, (cutP s p).1⟩, ⟨.bool, (cutP s p).2⟩], []⟩ := conN_mk (ks := [(.v, .str), (.v, .str)]) (s, p, ())
def Γscut : Cons := cons []
theorem scut_ok : ConOK Tryd.prog 19 scutC := by
  intro args out vals w R hc hr
  obtain ⟨x, e, h1⟩ := conN_inv hc
  obtain ⟨s, p, x0⟩ := x
  subst e
  replace h1 : some (⟨.tup [⟨.str, (cutP s p).1⟩, ⟨.bool, (cutP s p).2⟩], []⟩ : Out) = some out := h1
  injection h1 with h1
  subst h1
  obtain ⟨v1, r1, rfl, hv1, v2, r2, rfl, hv2, e3⟩ := hr.rep
  simp only [argsRep] at e3
  subst e3
  have e1 := vrep_str hv1
  have e2 := vrep_str hv2
  subst e1 e2
  have hcall := Any.strings_CutPrefix layCutP s p w
  rw [fCutP] at hcall
  exact goes_near2 Tryd.func19 (by kernel_rfl) (by kernel_rfl) (by intro a ha; simp [mkArgs, mkA] at ha; rcases ha with rfl | rfl <;> exact ⟨_, rfl⟩) rfl (fun _ _ => mk_str _ _ _) (fun _ _ => mk_bool _ _ _) (hcall.mono fun e w' ⟨he, hw⟩ => ⟨he, hw ▸ RowKit.Below.refl _ _⟩)
/-- A new row of texts. -/
theorem goes_strs {P : Program} {f : FuncId} {fn : Func} {args : List Arg} {vals : List Value} {w : World} {R : Nat → Prop} {xs : List ByteArray} {n : Nat} {t : TypeId} (hf : P.funcs[f]? = some fn) (hname : (fn.name == "runtime.NumGoroutine") = false) (hb : fn.body.isSome = true)
    (ha : ∀ a ∈ args, ∃ d, a = .val d) (hl : args.length = vals.length) (hn : xs.length = n) (hm : n ≤ Go.maxLen) (h : Calls P f vals.toArray w fun e w' => e = .returned (.slice (some ⟨w.heap.size, 0, none⟩) n n) ∧ w' = w.alloc (.cells (xs.map Value.string).toArray t)) :
    Goes P f vals w (Res.own .str xs) (After w R args vals ⟨.own .str xs, []⟩) := by
  refine .inl ⟨f, vals.toArray, w, enters hf hname hb _ _, h.mono ?_⟩
  rintro e w' ⟨rfl, rfl⟩
  subst hn
  have hbut := but_alloc w (.cells (xs.map Value.string).toArray t) none
  have hrl : ∀ (w : World) (R : Nat → Prop) (l : List ByteArray), repList (rep w R .str) l (l.map Value.string) := by
    intro w R l
    induction l with
    | nil => rfl
    | cons x l ih => exact ⟨[.string x], l.map Value.string, rfl, rfl, ih⟩
  refine ⟨_, rfl, ⟨rfl, rfl, rfl, by simp, fun b hb _ => RowKit.Below.heap_alloc w _ b hb⟩, fun b hb => ?_, ?_, iosN hl ha⟩
  · have : w.heap.size = b := by simpa [Res.slot, ownBlk] using hb
    exact .inl (by omega)
  · refine ⟨some ⟨w.heap.size, 0, none⟩, xs.length, xs.map Value.string, rfl, Nat.le_refl _, hm, hrl _ _ xs, .inr ⟨_, rfl, mem_new w _ t _ _ (by simp [Ty.sz]) (by simp [Ty.sz]) (fun j v hv => by simpa using hv)⟩⟩
def splitS (s : ByteArray) : List ByteArray := Lib.splitB ⟨#[47]⟩ 0 (Lib.countB s ⟨#[47]⟩) s
/-- The contract of strings.Split. -/
def ssplitC : Con := conN [(.v, .str), (.v, .str)] fun (s, p, _) => if s.size ≤ 1000000000 ∧ p = ⟨#[47]⟩ then some ⟨.own .str (splitS s), []⟩ else none
theorem ssplitC_eq {s : ByteArray} {p : ByteArray} : ssplitC [.val ⟨.str, s⟩, .val ⟨.str, p⟩] = if s.size ≤ 1000000000 ∧ p = ⟨#[47]⟩ then some ⟨.own .str (splitS s), []⟩ else none := conN_mk (ks := [(.v, .str), (.v, .str)]) (s, p, ())
def Γssplit : Cons := cons []
theorem ssplit_ok : ConOK Tryd.prog 20 ssplitC := by
  intro args out vals w R hc hr
  obtain ⟨x, e, h1⟩ := conN_inv hc
  obtain ⟨s, p, x0⟩ := x
  subst e
  replace h1 : (if s.size ≤ 1000000000 ∧ p = ⟨#[47]⟩ then some (⟨.own .str (splitS s), []⟩ : Out) else none) = some out := h1
  split at h1
  case isFalse => cases h1
  rename_i hb
  injection h1 with h1
  subst h1
  obtain ⟨v1, r1, rfl, hv1, v2, r2, rfl, hv2, e3⟩ := hr.rep
  simp only [argsRep] at e3
  subst e3
  have e1 := vrep_str hv1
  have e2 := vrep_str hv2
  subst e1 e2
  obtain ⟨hs, rfl⟩ := hb
  have hcall := split_one laySplit (by kernel_rfl) s 47 w (by omega)
  rw [fSplit] at hcall
  have hlen := Lib.splitB_all ⟨#[47]⟩ (Nat.le_refl _) 0 _ s rfl
  have hle := Lib.countB_le ⟨#[47]⟩ (Nat.le_refl _) s.size s (Nat.le_refl _)
  exact goes_strs Tryd.func20 (by kernel_rfl) (by kernel_rfl) (by intro a ha; simp [mkArgs, mkA] at ha; rcases ha with rfl | rfl <;> exact ⟨_, rfl⟩) rfl hlen (by unfold Go.maxLen; omega) hcall
theorem layJoin_extra : Builder.Extra Tryd.prog layJoin_ren where
  sizeBuilder := by kernel_rfl
  liesBuilder := by kernel_rfl
  t5 := laySplit.t5
  a5 := laySplit.a5
  z5 := laySplit.z5
  v5 := laySplit.v5
  infoByte := by kernel_rfl
  cellsByte := by kernel_rfl
  sizeByte := by kernel_rfl
  neB5 := by decide
def joinS (l : List ByteArray) (p : ByteArray) : ByteArray := ⟨(Lib.join (l.map (·.data.toList)) p.data.toList).toArray⟩
theorem join_len {l : List ByteArray} {p : ByteArray} (hp : p.size ≤ 1000) (hl : ∀ x ∈ l, x.size ≤ 1000) : (Lib.join (l.map (·.data.toList)) p.data.toList).length ≤ l.length * 2000 := by
  have hp' : p.data.toList.length ≤ 1000 := by rw [← Lib.size_eq]; exact hp
  have tail : ∀ l : List ByteArray, (∀ x ∈ l, x.size ≤ 1000) → (Lib.joinTail p.data.toList (l.map (·.data.toList))).length ≤ l.length * 2000 := by
    intro l
    induction l with
    | nil => intro _; simp [Lib.joinTail]
    | cons x l ih =>
      intro h
      have hx := h x (List.mem_cons_self ..)
      rw [Lib.size_eq] at hx
      have := ih fun y hy => h y (List.mem_cons_of_mem _ hy)
      simp only [Lib.joinTail, List.map_cons, List.flatten_cons, List.length_append, List.length_cons] at this ⊢
      omega
  cases l with
  | nil => simp [Lib.join_nil]
  | cons x l =>
    have hx := hl x (List.mem_cons_self ..)
    rw [Lib.size_eq] at hx
    have := tail l fun y hy => hl y (List.mem_cons_of_mem _ hy)
    rw [List.map_cons, Lib.join_cons, List.length_append, List.length_cons]
    omega
def smallL (l : List ByteArray) : Prop := ∀ x ∈ l, x.size ≤ 1000
instance {l : List ByteArray} : Decidable (smallL l) := inferInstanceAs (Decidable (∀ x ∈ l, x.size ≤ 1000))
theorem strs_lie {w : World} {R : Nat → Prop} : ∀ {l : List ByteArray} {cs : List Value}, repList (rep w R .str) l cs → cs = l.map Value.string
  | [], cs, h => h
  | x :: l, cs, ⟨c1, c2, e, h1, h2⟩ => by
    rw [e, h1, strs_lie h2]
    rfl
/-- The contract of strings.Join. -/
def sjoinC : Con := conN [(.v, .slice .str), (.v, .str)] fun (l, p, _) => if l.length ≤ 1000 ∧ p.size ≤ 1000 ∧ smallL l then some ⟨.val ⟨.str, joinS l p⟩, []⟩ else none
theorem sjoinC_eq {l : List ByteArray} {p : ByteArray} : sjoinC [.val ⟨.slice .str, l⟩, .val ⟨.str, p⟩] = if l.length ≤ 1000 ∧ p.size ≤ 1000 ∧ smallL l then some ⟨.val ⟨.str, joinS l p⟩, []⟩ else none := conN_mk (ks := [(.v, .slice .str), (.v, .str)]) (l, p, ())
def Γsjoin : Cons := cons []
theorem sjoin_ok : ConOK Tryd.prog 21 sjoinC := by
  intro args out vals w R hc hr
  obtain ⟨x, e, h1⟩ := conN_inv hc
  obtain ⟨l, p, x0⟩ := x
  subst e
  replace h1 : (if l.length ≤ 1000 ∧ p.size ≤ 1000 ∧ smallL l then some (⟨.val ⟨.str, joinS l p⟩, []⟩ : Out) else none) = some out := h1
  split at h1
  case isFalse => cases h1
  rename_i hb
  injection h1 with h1
  subst h1
  obtain ⟨v1, r1, rfl, hv1, v2, r2, rfl, hv2, e3⟩ := hr.rep
  simp only [argsRep] at e3
  subst e3
  have e2 := vrep_str hv2
  subst e2
  obtain ⟨cs, ⟨A, c, ecs, hcl, hcm, hin⟩, ev⟩ := hv1
  subst ecs
  have ev : v1 = .slice A l.length c := ev
  subst ev
  obtain ⟨b1, b2, b3⟩ := hb
  have hjl := join_len b2 b3
  have key : Calls Tryd.prog 21 #[.slice A l.length c, .string p] w fun e w' => e = .returned (.string (joinS l p)) ∧ RowKit.Below w.heap.size w w' := by
    rw [← fJoin]
    rcases hin with rfl | ⟨ad, inner, rfl, _, hlt, hrl, hlies⟩
    · exact (Any.strings_Join_none layJoin layJoin_extra A c p w).mono fun e w' ⟨he, hw⟩ => ⟨he, hw ▸ RowKit.Below.refl _ _⟩
    · have hi := strs_lie hrl
      subst hi
      cases l with
      | nil => exact (Any.strings_Join_none layJoin layJoin_extra _ c p w).mono fun e w' ⟨he, hw⟩ => ⟨he, hw ▸ RowKit.Below.refl _ _⟩
      | cons x l =>
        have h0 := hlies 0 (.string x) rfl
        obtain ⟨bk, o, sp⟩ := ad
        have hsp : sp = none := by
          cases sp with
          | none => rfl
          | some k =>
            exfalso
            unfold World.cell? at h0
            split at h0
            · simp [Addr.add] at h0
            · cases h0
        subst hsp
        exact Any.strings_Join layJoin layJoin_extra bk o c (x :: l) p w (fun j y hy => by have := hlies j (.string y) (by rw [List.getElem?_map, hy]; rfl); cases j <;> simpa [Addr.add] using this) hlt (by omega) hcl (by omega)
  exact goes_near Tryd.func21 (by kernel_rfl) (by kernel_rfl) (by intro a ha; simp [mkArgs, mkA] at ha; rcases ha with rfl | rfl <;> exact ⟨_, rfl⟩) rfl (fun _ _ => mk_str _ _ _) key
end Go.Proofs.YtecijnlpickncaaDoor
