/- strings: what the shelf's contracts say, as contracts here. -/
import Derived.Test.YthhjlbpmpffapaaGreatDoorTab
import Derived.Test.YthhjlbpmpffapaaGreatDoorPStr
import Derived.Test.YthhjlbpmpffapaaGreatDoorLibKit
import Derived.Shelf.Small.Wraps
import Derived.Shelf.Strings.Split
import Derived.Test.YthhjlbpmpffapaaGreatDoorLibSplit
import Derived.Shelf.Strings.OnBuilder
set_option maxRecDepth 100000
set_option linter.unusedSimpArgs false
set_option linter.unusedVariables false
namespace Go.Proofs.YthhjlbpmpffapaaGreatDoor
open Go.Tm Go.IntWalk
def layCutP_ren : Go.Shelf.Ren := {
  f := fun x => match x with
    | 103 => 84
    | 210 => 92
    | 206 => 81
    | n => n
  t := fun x => match x with
    | 9 => 9
    | 4 => 4
    | 24 => 94
    | 3 => 3
    | n => n
  g := fun n => n }
theorem layCutP : Lays.n103 Tryz.prog layCutP_ren := {
  mixed := by kernel_rfl
  f103 := by kernel_rfl
  f206 := by kernel_rfl
  f210 := by kernel_rfl
  t3 := Tryz.underlying3
  a3 := Tryz.isAgg3
  z3 := Tryz.sizeOf3
  v3 := Tryz.zeroValue3
  t4 := Tryz.underlying4
  a4 := Tryz.isAgg4
  z4 := Tryz.sizeOf4
  v4 := Tryz.zeroValue4
  t9 := Tryz.underlying9
  a9 := Tryz.isAgg9
  z9 := Tryz.sizeOf9
  v9 := Tryz.zeroValue9
  t24 := Tryz.underlying94
  a24 := Tryz.isAgg94
  z24 := Tryz.sizeOf94
  v24 := Tryz.zeroValue94 }

def laySplit_ren : Go.Shelf.Ren := {
  f := fun x => match x with
    | 146 => 85
    | 221 => 93
    | 268 => 97
    | 138 => 98
    | 143 => 99
    | 195 => 101
    | 197 => 102
    | 218 => 103
    | 219 => 104
    | 260 => 105
    | 217 => 106
    | 225 => 107
    | 224 => 108
    | 267 => 109
    | 266 => 110
    | 314 => 111
    | n => n
  t := fun x => match x with
    | 9 => 9
    | 31 => 30
    | 3 => 3
    | 4 => 4
    | 0 => 0
    | 105 => 138
    | 21 => 21
    | 5 => 5
    | 46 => 100
    | 119 => 141
    | 139 => 144
    | 138 => 143
    | 146 => 119
    | 51 => 118
    | n => n
  g := fun x => match x with
    | 1 => 0
    | 3 => 1
    | 4 => 2
    | n => n }
theorem laySplit : Lays.n146 Tryz.prog laySplit_ren := {
  mixed := by kernel_rfl
  f138 := by kernel_rfl
  f143 := by kernel_rfl
  f146 := by kernel_rfl
  f195 := by kernel_rfl
  f197 := by kernel_rfl
  f217 := by kernel_rfl
  f218 := by kernel_rfl
  f219 := by kernel_rfl
  f221 := by kernel_rfl
  f224 := by kernel_rfl
  f225 := by kernel_rfl
  f260 := by kernel_rfl
  f266 := by kernel_rfl
  f267 := by kernel_rfl
  f268 := by kernel_rfl
  f314 := by kernel_rfl
  t0 := Tryz.underlying0
  a0 := Tryz.isAgg0
  z0 := Tryz.sizeOf0
  v0 := Tryz.zeroValue0
  t3 := Tryz.underlying3
  a3 := Tryz.isAgg3
  z3 := Tryz.sizeOf3
  v3 := Tryz.zeroValue3
  t4 := Tryz.underlying4
  a4 := Tryz.isAgg4
  z4 := Tryz.sizeOf4
  v4 := Tryz.zeroValue4
  t5 := Tryz.underlying5
  a5 := Tryz.isAgg5
  z5 := Tryz.sizeOf5
  v5 := Tryz.zeroValue5
  t9 := Tryz.underlying9
  a9 := Tryz.isAgg9
  z9 := Tryz.sizeOf9
  v9 := Tryz.zeroValue9
  t21 := Tryz.underlying21
  a21 := Tryz.isAgg21
  z21 := Tryz.sizeOf21
  v21 := Tryz.zeroValue21
  t31 := Tryz.underlying30
  a31 := Tryz.isAgg30
  z31 := Tryz.sizeOf30
  v31 := Tryz.zeroValue30
  t46 := Tryz.underlying100
  a46 := Tryz.isAgg100
  z46 := Tryz.sizeOf100
  v46 := Tryz.zeroValue100
  t51 := Tryz.underlying118
  a51 := Tryz.isAgg118
  z51 := Tryz.sizeOf118
  v51 := Tryz.zeroValue118
  t105 := Tryz.underlying138
  a105 := Tryz.isAgg138
  z105 := Tryz.sizeOf138
  v105 := Tryz.zeroValue138
  t119 := Tryz.underlying141
  a119 := Tryz.isAgg141
  z119 := Tryz.sizeOf141
  t138 := Tryz.underlying143
  a138 := Tryz.isAgg143
  z138 := Tryz.sizeOf143
  v138 := Tryz.zeroValue143
  t139 := Tryz.underlying144
  a139 := Tryz.isAgg144
  z139 := Tryz.sizeOf144
  v139 := Tryz.zeroValue144
  t146 := Tryz.underlying119
  a146 := Tryz.isAgg119
  z146 := Tryz.sizeOf119
  v146 := Tryz.zeroValue119
  g1 := by kernel_rfl
  g3 := by kernel_rfl
  g4 := by kernel_rfl }

theorem fCutP : layCutP_ren.f 103 = 84 := by kernel_rfl
theorem fSplit : laySplit_ren.f 146 = 85 := by kernel_rfl
def cutP (s p : ByteArray) : ByteArray × Bool := (⟨(Lib.trimPrefix s.data.toList p.data.toList).toArray⟩, Lib.hasPrefix s.data.toList p.data.toList)
/-- The contract of strings.CutPrefix. -/
def scutC : Con := conN [(.v, .str), (.v, .str)] fun (s, p, _) => some ⟨.tup [⟨.str, (cutP s p).1⟩, ⟨.bool, (cutP s p).2⟩], []⟩
theorem scutC_eq {s : ByteArray} {p : ByteArray} : scutC [.val ⟨.str, s⟩, .val ⟨.str, p⟩] = some ⟨.tup [⟨.str, (cutP s p).1⟩, ⟨.bool, (cutP s p).2⟩], []⟩ := conN_mk (ks := [(.v, .str), (.v, .str)]) (s, p, ())
def Γscut : Cons := cons []
theorem scut_ok : ConOK Tryz.prog 84 scutC := by
  intro args out vals w R hc hr
  obtain ⟨x, e, h1⟩ := conN_inv hc
  obtain ⟨s, p, x0⟩ := x
  subst e
  replace h1 : some (⟨.tup [⟨.str, (cutP s p).1⟩, ⟨.bool, (cutP s p).2⟩], []⟩ : Out) = some out := h1
  injection h1 with h1
  subst h1
  obtain ⟨v1, r1, rfl, hv1, v2, r2, rfl, hv2, e3⟩ := hr.rep
  simp only [argsRep] at e3
  subst e3
  have e1 := vrep_str hv1
  have e2 := vrep_str hv2
  subst e1 e2
  have hcall := Any.strings_CutPrefix layCutP s p w
  rw [fCutP] at hcall
  exact goes_near2 Tryz.func84 (by kernel_rfl) (by kernel_rfl) (by intro a ha; simp [mkArgs, mkA] at ha; rcases ha with rfl | rfl <;> exact ⟨_, rfl⟩) rfl (fun _ _ => mk_str _ _ _) (fun _ _ => mk_bool _ _ _) (hcall.mono fun e w' ⟨he, hw⟩ => ⟨he, hw ▸ RowKit.Below.refl _ _⟩)
/-- A new row of texts. -/
theorem goes_strs {P : Program} {f : FuncId} {fn : Func} {args : List Arg} {vals : List Value} {w : World} {R : Nat → Prop} {xs : List ByteArray} {n : Nat} {t : TypeId} (hf : P.funcs[f]? = some fn) (hname : (fn.name == "runtime.NumGoroutine") = false) (hb : fn.body.isSome = true)
    (ha : ∀ a ∈ args, ∃ d, a = .val d) (hl : args.length = vals.length) (hn : xs.length = n) (hm : n ≤ Go.maxLen) (h : Calls P f vals.toArray w fun e w' => e = .returned (.slice (some ⟨w.heap.size, 0, none⟩) n n) ∧ w' = w.alloc (.cells (xs.map Value.string).toArray t)) :
    Goes P f vals w (Res.own .str xs) (After w R args vals ⟨.own .str xs, []⟩) := by
  refine .inl ⟨f, vals.toArray, w, enters hf hname hb _ _, h.mono ?_⟩
  rintro e w' ⟨rfl, rfl⟩
  subst hn
  have hbut := but_alloc w (.cells (xs.map Value.string).toArray t) none
  have hrl : ∀ (w : World) (R : Nat → Prop) (l : List ByteArray), repList (rep w R .str) l (l.map Value.string) := by
    intro w R l
    induction l with
    | nil => rfl
    | cons x l ih => exact ⟨[.string x], l.map Value.string, rfl, rfl, ih⟩
  refine ⟨_, rfl, ⟨rfl, rfl, rfl, by simp, fun b hb _ => RowKit.Below.heap_alloc w _ b hb⟩, fun b hb => ?_, ?_, iosN hl ha⟩
  · have : w.heap.size = b := by simpa [Res.slot, ownBlk] using hb
    exact .inl (by omega)
  · refine ⟨some ⟨w.heap.size, 0, none⟩, xs.length, xs.map Value.string, rfl, Nat.le_refl _, hm, hrl _ _ xs, .inr ⟨_, rfl, mem_new w _ t _ _ (by simp [Ty.sz]) (by simp [Ty.sz]) (fun j v hv => by simpa using hv)⟩⟩
def splitS (s : ByteArray) : List ByteArray := Lib.splitB ⟨#[47]⟩ 0 (Lib.countB s ⟨#[47]⟩) s
/-- The contract of strings.Split. -/
def ssplitC : Con := conN [(.v, .str), (.v, .str)] fun (s, p, _) => if s.size ≤ 1000000000 ∧ p = ⟨#[47]⟩ then some ⟨.own .str (splitS s), []⟩ else none
theorem ssplitC_eq {s : ByteArray} {p : ByteArray} : ssplitC [.val ⟨.str, s⟩, .val ⟨.str, p⟩] = if s.size ≤ 1000000000 ∧ p = ⟨#[47]⟩ then some ⟨.own .str (splitS s), []⟩ else none := conN_mk (ks := [(.v, .str), (.v, .str)]) (s, p, ())
def Γssplit : Cons := cons []
theorem ssplit_ok : ConOK Tryz.prog 85 ssplitC := by
  intro args out vals w R hc hr
  obtain ⟨x, e, h1⟩ := conN_inv hc
  obtain ⟨s, p, x0⟩ := x
  subst e
  replace h1 : (if s.size ≤ 1000000000 ∧ p = ⟨#[47]⟩ then some (⟨.own .str (splitS s), []⟩ : Out) else none) = some out := h1
  split at h1
  case isFalse => cases h1
  rename_i hb
  injection h1 with h1
  subst h1
  obtain ⟨v1, r1, rfl, hv1, v2, r2, rfl, hv2, e3⟩ := hr.rep
  simp only [argsRep] at e3
  subst e3
  have e1 := vrep_str hv1
  have e2 := vrep_str hv2
  subst e1 e2
  obtain ⟨hs, rfl⟩ := hb
  have hcall := split_one laySplit (by kernel_rfl) s 47 w (by omega)
  rw [fSplit] at hcall
  have hlen := Lib.splitB_all ⟨#[47]⟩ (Nat.le_refl _) 0 _ s rfl
  have hle := Lib.countB_le ⟨#[47]⟩ (Nat.le_refl _) s.size s (Nat.le_refl _)
  exact goes_strs Tryz.func85 (by kernel_rfl) (by kernel_rfl) (by intro a ha; simp [mkArgs, mkA] at ha; rcases ha with rfl | rfl <;> exact ⟨_, rfl⟩) rfl hlen (by unfold Go.maxLen; omega) hcall
def joinS (l : List ByteArray) (p : ByteArray) : ByteArray := ⟨(Lib.join (l.map (·.data.toList)) p.data.toList).toArray⟩
theorem join_len {l : List ByteArray} {p : ByteArray} (hp : p.size ≤ 1000) (hl : ∀ x ∈ l, x.size ≤ 1000) : (Lib.join (l.map (·.data.toList)) p.data.toList).length ≤ l.length * 2000 := by
  have hp' : p.data.toList.length ≤ 1000 := by rw [← Lib.size_eq]; exact hp
  have tail : ∀ l : List ByteArray, (∀ x ∈ l, x.size ≤ 1000) → (Lib.joinTail p.data.toList (l.map (·.data.toList))).length ≤ l.length * 2000 := by
    intro l
    induction l with
    | nil => intro _; simp [Lib.joinTail]
    | cons x l ih =>
      intro h
      have hx := h x (List.mem_cons_self ..)
      rw [Lib.size_eq] at hx
      have := ih fun y hy => h y (List.mem_cons_of_mem _ hy)
      simp only [Lib.joinTail, List.map_cons, List.flatten_cons, List.length_append, List.length_cons] at this ⊢
      omega
  cases l with
  | nil => simp [Lib.join_nil]
  | cons x l =>
    have hx := hl x (List.mem_cons_self ..)
    rw [Lib.size_eq] at hx
    have := tail l fun y hy => hl y (List.mem_cons_of_mem _ hy)
    rw [List.map_cons, Lib.join_cons, List.length_append, List.length_cons]
    omega
def smallL (l : List ByteArray) : Prop := ∀ x ∈ l, x.size ≤ 1000
instance {l : List ByteArray} : Decidable (smallL l) := inferInstanceAs (Decidable (∀ x ∈ l, x.size ≤ 1000))
theorem strs_lie {w : World} {R : Nat → Prop} : ∀ {l : List ByteArray} {cs : List Value}, repList (rep w R .str) l cs → cs = l.map Value.string
  | [], cs, h => h
  | x :: l, cs, ⟨c1, c2, e, h1, h2⟩ => by
    rw [e, h1, strs_lie h2]
    rfl
end Go.Proofs.YthhjlbpmpffapaaGreatDoor
