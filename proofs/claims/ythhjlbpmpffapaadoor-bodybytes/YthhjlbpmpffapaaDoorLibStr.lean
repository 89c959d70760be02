/- strings: what the shelf's contracts say, as contracts here. -/
import Derived.Test.YthhjlbpmpffapaaDoorTab
import Derived.Test.YthhjlbpmpffapaaDoorPStr
import Derived.Test.YthhjlbpmpffapaaDoorLibKit
import Derived.Shelf.Small.Wraps
import Derived.Shelf.Strings.Split
import Derived.Test.YthhjlbpmpffapaaDoorLibSplit
import Derived.Shelf.Strings.OnBuilder
set_option maxRecDepth 100000
set_option linter.unusedSimpArgs false
set_option linter.unusedVariables false
namespace Go.Proofs.YthhjlbpmpffapaaDoor
open Go.Tm Go.IntWalk
def layCutP_ren : Go.Shelf.Ren := {
  f := fun x => match x with
    | 103 => 59
    | 210 => 66
    | 206 => 56
    | n => n
  t := fun x => match x with
    | 9 => 9
    | 4 => 4
    | 24 => 72
    | 3 => 3
    | n => n
  g := fun n => n }
theorem layCutP : Lays.n103 Tryd.prog layCutP_ren := {
  mixed := by kernel_rfl
  f103 := by kernel_rfl
  f206 := by kernel_rfl
  f210 := by kernel_rfl
  t3 := Tryd.underlying3
  a3 := Tryd.isAgg3
  z3 := Tryd.sizeOf3
  v3 := Tryd.zeroValue3
  t4 := Tryd.underlying4
  a4 := Tryd.isAgg4
  z4 := Tryd.sizeOf4
  v4 := Tryd.zeroValue4
  t9 := Tryd.underlying9
  a9 := Tryd.isAgg9
  z9 := Tryd.sizeOf9
  v9 := Tryd.zeroValue9
  t24 := Tryd.underlying72
  a24 := Tryd.isAgg72
  z24 := Tryd.sizeOf72
  v24 := Tryd.zeroValue72 }

def laySplit_ren : Go.Shelf.Ren := {
  f := fun x => match x with
    | 146 => 60
    | 221 => 67
    | 268 => 71
    | 138 => 72
    | 143 => 73
    | 195 => 75
    | 197 => 76
    | 218 => 77
    | 219 => 78
    | 260 => 79
    | 217 => 80
    | 225 => 81
    | 224 => 82
    | 267 => 83
    | 266 => 84
    | 314 => 85
    | n => n
  t := fun x => match x with
    | 9 => 9
    | 31 => 48
    | 3 => 3
    | 4 => 4
    | 0 => 0
    | 105 => 118
    | 21 => 21
    | 5 => 5
    | 46 => 81
    | 119 => 122
    | 139 => 125
    | 138 => 124
    | 146 => 99
    | 51 => 98
    | n => n
  g := fun x => match x with
    | 1 => 0
    | 3 => 1
    | 4 => 2
    | n => n }
theorem laySplit : Lays.n146 Tryd.prog laySplit_ren := {
  mixed := by kernel_rfl
  f138 := by kernel_rfl
  f143 := by kernel_rfl
  f146 := by kernel_rfl
  f195 := by kernel_rfl
  f197 := by kernel_rfl
  f217 := by kernel_rfl
  f218 := by kernel_rfl
  f219 := by kernel_rfl
  f221 := by kernel_rfl
  f224 := by kernel_rfl
  f225 := by kernel_rfl
  f260 := by kernel_rfl
  f266 := by kernel_rfl
  f267 := by kernel_rfl
  f268 := by kernel_rfl
  f314 := by kernel_rfl
  t0 := Tryd.underlying0
  a0 := Tryd.isAgg0
  z0 := Tryd.sizeOf0
  v0 := Tryd.zeroValue0
  t3 := Tryd.underlying3
  a3 := Tryd.isAgg3
  z3 := Tryd.sizeOf3
  v3 := Tryd.zeroValue3
  t4 := Tryd.underlying4
  a4 := Tryd.isAgg4
  z4 := Tryd.sizeOf4
  v4 := Tryd.zeroValue4
  t5 := Tryd.underlying5
  a5 := Tryd.isAgg5
  z5 := Tryd.sizeOf5
  v5 := Tryd.zeroValue5
  t9 := Tryd.underlying9
  a9 := Tryd.isAgg9
  z9 := Tryd.sizeOf9
  v9 := Tryd.zeroValue9
  t21 := Tryd.underlying21
  a21 := Tryd.isAgg21
  z21 := Tryd.sizeOf21
  v21 := Tryd.zeroValue21
  t31 := Tryd.underlying48
  a31 := Tryd.isAgg48
  z31 := Tryd.sizeOf48
  v31 := Tryd.zeroValue48
  t46 := Tryd.underlying81
  a46 := Tryd.isAgg81
  z46 := Tryd.sizeOf81
  v46 := Tryd.zeroValue81
  t51 := Tryd.underlying98
  a51 := Tryd.isAgg98
  z51 := Tryd.sizeOf98
  v51 := Tryd.zeroValue98
  t105 := Tryd.underlying118
  a105 := Tryd.isAgg118
  z105 := Tryd.sizeOf118
  v105 := Tryd.zeroValue118
  t119 := Tryd.underlying122
  a119 := Tryd.isAgg122
  z119 := Tryd.sizeOf122
  t138 := Tryd.underlying124
  a138 := Tryd.isAgg124
  z138 := Tryd.sizeOf124
  v138 := Tryd.zeroValue124
  t139 := Tryd.underlying125
  a139 := Tryd.isAgg125
  z139 := Tryd.sizeOf125
  v139 := Tryd.zeroValue125
  t146 := Tryd.underlying99
  a146 := Tryd.isAgg99
  z146 := Tryd.sizeOf99
  v146 := Tryd.zeroValue99
  g1 := by kernel_rfl
  g3 := by kernel_rfl
  g4 := by kernel_rfl }

theorem fCutP : layCutP_ren.f 103 = 59 := by kernel_rfl
theorem fSplit : laySplit_ren.f 146 = 60 := by kernel_rfl
def cutP (s p : ByteArray) : ByteArray × Bool := (⟨(Lib.trimPrefix s.data.toList p.data.toList).toArray⟩, Lib.hasPrefix s.data.toList p.data.toList)
/-- The contract of strings.CutPrefix. -/
def scutC : Con := conN [(.v, .str), (.v, .str)] fun (s, p, _) => some ⟨.tup [⟨.str, (cutP s p).1⟩, ⟨.bool, (cutP s p).2⟩], []⟩
theorem scutC_eq {s : ByteArray} {p : ByteArray} : scutC [.val ⟨.str, s⟩, .val ⟨.str, p⟩] = some ⟨.tup [⟨.str, (cutP s p).1⟩, ⟨.bool, (cutP s p).2⟩], []⟩ := conN_mk (ks := [(.v, .str), (.v, .str)]) (s, p, ())
def Γscut : Cons := cons []
theorem scut_ok : ConOK Tryd.prog 59 scutC := by
  intro args out vals w R hc hr
  obtain ⟨x, e, h1⟩ := conN_inv hc
  obtain ⟨s, p, x0⟩ := x
  subst e
  replace h1 : some (⟨.tup [⟨.str, (cutP s p).1⟩, ⟨.bool, (cutP s p).2⟩], []⟩ : Out) = some out := h1
  injection h1 with h1
  subst h1
  obtain ⟨v1, r1, rfl, hv1, v2, r2, rfl, hv2, e3⟩ := hr.rep
  simp only [argsRep] at e3
  subst e3
  have e1 := vrep_str hv1
  have e2 := vrep_str hv2
  subst e1 e2
  have hcall := Any.strings_CutPrefix layCutP s p w
  rw [fCutP] at hcall
  exact goes_near2 Tryd.func59 (by kernel_rfl) (by kernel_rfl) (by intro a ha; simp [mkArgs, mkA] at ha; rcases ha with rfl | rfl <;> exact ⟨_, rfl⟩) rfl (fun _ _ => mk_str _ _ _) (fun _ _ => mk_bool _ _ _) (hcall.mono fun e w' ⟨he, hw⟩ => ⟨he, hw ▸ RowKit.Below.refl _ _⟩)
/-- A new row of texts. -/
theorem goes_strs {P : Program} {f : FuncId} {fn : Func} {args : List Arg} {vals : List Value} {w : World} {R : Nat → Prop} {xs : List ByteArray} {n : Nat} {t : TypeId} (hf : P.funcs[f]? = some fn) (hname : (fn.name == "runtime.NumGoroutine") = false) (hb : fn.body.isSome = true)
    (ha : ∀ a ∈ args, ∃ d, a = .val d) (hl : args.length = vals.length) (hn : xs.length = n) (hm : n ≤ Go.maxLen) (h : Calls P f vals.toArray w fun e w' => e = .returned (.slice (some ⟨w.heap.size, 0, none⟩) n n) ∧ w' = w.alloc (.cells (xs.map Value.string).toArray t)) :
    Goes P f vals w (Res.own .str xs) (After w R args vals ⟨.own .str xs, []⟩) := by
  refine .inl ⟨f, vals.toArray, w, enters hf hname hb _ _, h.mono ?_⟩
  rintro e w' ⟨rfl, rfl⟩
  subst hn
  have hbut := but_alloc w (.cells (xs.map Value.string).toArray t) none
  have hrl : ∀ (w : World) (R : Nat → Prop) (l : List ByteArray), repList (rep w R .str) l (l.map Value.string) := by
    intro w R l
    induction l with
    | nil => rfl
    | cons x l ih => exact ⟨[.string x], l.map Value.string, rfl, rfl, ih⟩
  refine ⟨_, rfl, ⟨rfl, rfl, rfl, by simp, fun b hb _ => RowKit.Below.heap_alloc w _ b hb⟩, fun b hb => ?_, ?_, iosN hl ha⟩
  · have : w.heap.size = b := by simpa [Res.slot, ownBlk] using hb
    exact .inl (by omega)
  · refine ⟨some ⟨w.heap.size, 0, none⟩, xs.length, xs.map Value.string, rfl, Nat.le_refl _, hm, hrl _ _ xs, .inr ⟨_, rfl, mem_new w _ t _ _ (by simp [Ty.sz]) (by simp [Ty.sz]) (fun j v hv => by simpa using hv)⟩⟩
def splitS (s : ByteArray) : List ByteArray := Lib.splitB ⟨#[47]⟩ 0 (Lib.countB s ⟨#[47]⟩) s
/-- The contract of strings.Split. -/
def ssplitC : Con := conN [(.v, .str), (.v, .str)] fun (s, p, _) => if s.size ≤ 1000000000 ∧ p = ⟨#[47]⟩ then some ⟨.own .str (splitS s), []⟩ else none
theorem ssplitC_eq {s : ByteArray} {p : ByteArray} : ssplitC [.val ⟨.str, s⟩, .val ⟨.str, p⟩] = if s.size ≤ 1000000000 ∧ p = ⟨#[47]⟩ then some ⟨.own .str (splitS s), []⟩ else none := conN_mk (ks := [(.v, .str), (.v, .str)]) (s, p, ())
def Γssplit : Cons := cons []
theorem ssplit_ok : ConOK Tryd.prog 60 ssplitC := by
  intro args out vals w R hc hr
  obtain ⟨x, e, h1⟩ := conN_inv hc
  obtain ⟨s, p, x0⟩ := x
  subst e
  replace h1 : (if s.size ≤ 1000000000 ∧ p = ⟨#[47]⟩ then some (⟨.own .str (splitS s), []⟩ : Out) else none) = some out := h1
  split at h1
  case isFalse => cases h1
  rename_i hb
  injection h1 with h1
  subst h1
  obtain ⟨v1, r1, rfl, hv1, v2, r2, rfl, hv2, e3⟩ := hr.rep
  simp only [argsRep] at e3
  subst e3
  have e1 := vrep_str hv1
  have e2 := vrep_str hv2
  subst e1 e2
  obtain ⟨hs, rfl⟩ := hb
  have hcall := split_one laySplit (by kernel_rfl) s 47 w (by omega)
  rw [fSplit] at hcall
  have hlen := Lib.splitB_all ⟨#[47]⟩ (Nat.le_refl _) 0 _ s rfl
  have hle := Lib.countB_le ⟨#[47]⟩ (Nat.le_refl _) s.size s (Nat.le_refl _)
  exact goes_strs Tryd.func60 (by kernel_rfl) (by kernel_rfl) (by intro a ha; simp [mkArgs, mkA] at ha; rcases ha with rfl | rfl <;> exact ⟨_, rfl⟩) rfl hlen (by unfold Go.maxLen; omega) hcall
def joinS (l : List ByteArray) (p : ByteArray) : ByteArray := ⟨(Lib.join (l.map (·.data.toList)) p.data.toList).toArray⟩
theorem join_len {l : List ByteArray} {p : ByteArray} (hp : p.size ≤ 1000) (hl : ∀ x ∈ l, x.size ≤ 1000) : (Lib.join (l.map (·.data.toList)) p.data.toList).length ≤ l.length * 2000 := by
  have hp' : p.data.toList.length ≤ 1000 := by rw [← Lib.size_eq]; exact hp
  have tail : ∀ l : List ByteArray, (∀ x ∈ l, x.size ≤ 1000) → (Lib.joinTail p.data.toList (l.map (·.data.toList))).length ≤ l.length * 2000 := by
    intro l
    induction l with
    | nil => intro _; simp [Lib.joinTail]
    | cons x l ih =>
      intro h
      have hx := h x (List.mem_cons_self ..)
      rw [Lib.size_eq] at hx
      have := ih fun y hy => h y (List.mem_cons_of_mem _ hy)
      simp only [Lib.joinTail, List.map_cons, List.flatten_cons, List.length_append, List.length_cons] at this ⊢
      omega
  cases l with
  | nil => simp [Lib.join_nil]
  | cons x l =>
    have hx := hl x (List.mem_cons_self ..)
    rw [Lib.size_eq] at hx
    have := tail l fun y hy => hl y (List.mem_cons_of_mem _ hy)
    rw [List.map_cons, Lib.join_cons, List.length_append, List.length_cons]
    omega
def smallL (l : List ByteArray) : Prop := ∀ x ∈ l, x.size ≤ 1000
instance {l : List ByteArray} : Decidable (smallL l) := inferInstanceAs (Decidable (∀ x ∈ l, x.size ≤ 1000))
theorem strs_lie {w : World} {R : Nat → Prop} : ∀ {l : List ByteArray} {cs : List Value}, repList (rep w R .str) l cs → cs = l.map Value.string
  | [], cs, h => h
  | x :: l, cs, ⟨c1, c2, e, h1, h2⟩ => by
    rw [e, h1, strs_lie h2]
    rfl
end Go.Proofs.YthhjlbpmpffapaaDoor
