/- strings: what the shelf's contracts say, as contracts here. -/
import Derived.Test.YtodkmhamaahjmaaGreatDoorTab
import Derived.Test.YtodkmhamaahjmaaGreatDoorG0
import Derived.Test.YtodkmhamaahjmaaGreatDoorLibKit
import Derived.Shelf.Small.Wraps
import Derived.Shelf.Strings.Split
import Derived.Test.YtodkmhamaahjmaaGreatDoorLibSplit
import Derived.Shelf.Strings.OnBuilder
set_option maxRecDepth 100000
set_option linter.unusedSimpArgs false
set_option linter.unusedVariables false
namespace Go.Proofs.YtodkmhamaahjmaaGreatDoor
open Go.Tm Go.IntWalk
def layCutP_ren : Go.Shelf.Ren := {
  f := fun x => match x with
    | 103 => 82
    | 210 => 96
    | 206 => 109
    | n => n
  t := fun x => match x with
    | 9 => 9
    | 4 => 4
    | 24 => 106
    | 3 => 3
    | n => n
  g := fun n => n }
theorem layCutP : Lays.n103 Tryz.prog layCutP_ren := {
  mixed := by kernel_rfl
  f103 := by kernel_rfl
  f206 := by kernel_rfl
  f210 := by kernel_rfl
  t3 := Tryz.underlying3
  a3 := Tryz.isAgg3
  z3 := Tryz.sizeOf3
  v3 := Tryz.zeroValue3
  t4 := Tryz.underlying4
  a4 := Tryz.isAgg4
  z4 := Tryz.sizeOf4
  v4 := Tryz.zeroValue4
  t9 := Tryz.underlying9
  a9 := Tryz.isAgg9
  z9 := Tryz.sizeOf9
  v9 := Tryz.zeroValue9
  t24 := Tryz.underlying106
  a24 := Tryz.isAgg106
  z24 := Tryz.sizeOf106
  v24 := Tryz.zeroValue106 }

def laySplit_ren : Go.Shelf.Ren := {
  f := fun x => match x with
    | 146 => 83
    | 221 => 97
    | 268 => 110
    | 138 => 111
    | 143 => 112
    | 195 => 117
    | 197 => 118
    | 218 => 119
    | 219 => 120
    | 260 => 124
    | 217 => 125
    | 225 => 126
    | 224 => 127
    | 267 => 128
    | 266 => 129
    | 314 => 130
    | n => n
  t := fun x => match x with
    | 9 => 9
    | 31 => 30
    | 3 => 3
    | 4 => 4
    | 0 => 0
    | 105 => 147
    | 21 => 21
    | 5 => 5
    | 46 => 146
    | 119 => 154
    | 139 => 157
    | 138 => 156
    | 146 => 159
    | 51 => 158
    | n => n
  g := fun x => match x with
    | 1 => 0
    | 3 => 1
    | 4 => 2
    | n => n }
theorem laySplit : Lays.n146 Tryz.prog laySplit_ren := {
  mixed := by kernel_rfl
  f138 := by kernel_rfl
  f143 := by kernel_rfl
  f146 := by kernel_rfl
  f195 := by kernel_rfl
  f197 := by kernel_rfl
  f217 := by kernel_rfl
  f218 := by kernel_rfl
  f219 := by kernel_rfl
  f221 := by kernel_rfl
  f224 := by kernel_rfl
  f225 := by kernel_rfl
  f260 := by kernel_rfl
  f266 := by kernel_rfl
  f267 := by kernel_rfl
  f268 := by kernel_rfl
  f314 := by kernel_rfl
  t0 := Tryz.underlying0
  a0 := Tryz.isAgg0
  z0 := Tryz.sizeOf0
  v0 := Tryz.zeroValue0
  t3 := Tryz.underlying3
  a3 := Tryz.isAgg3
  z3 := Tryz.sizeOf3
  v3 := Tryz.zeroValue3
  t4 := Tryz.underlying4
  a4 := Tryz.isAgg4
  z4 := Tryz.sizeOf4
  v4 := Tryz.zeroValue4
  t5 := Tryz.underlying5
  a5 := Tryz.isAgg5
  z5 := Tryz.sizeOf5
  v5 := Tryz.zeroValue5
  t9 := Tryz.underlying9
  a9 := Tryz.isAgg9
  z9 := Tryz.sizeOf9
  v9 := Tryz.zeroValue9
  t21 := Tryz.underlying21
  a21 := Tryz.isAgg21
  z21 := Tryz.sizeOf21
  v21 := Tryz.zeroValue21
  t31 := Tryz.underlying30
  a31 := Tryz.isAgg30
  z31 := Tryz.sizeOf30
  v31 := Tryz.zeroValue30
  t46 := Tryz.underlying146
  a46 := Tryz.isAgg146
  z46 := Tryz.sizeOf146
  v46 := Tryz.zeroValue146
  t51 := Tryz.underlying158
  a51 := Tryz.isAgg158
  z51 := Tryz.sizeOf158
  v51 := Tryz.zeroValue158
  t105 := Tryz.underlying147
  a105 := Tryz.isAgg147
  z105 := Tryz.sizeOf147
  v105 := Tryz.zeroValue147
  t119 := Tryz.underlying154
  a119 := Tryz.isAgg154
  z119 := Tryz.sizeOf154
  t138 := Tryz.underlying156
  a138 := Tryz.isAgg156
  z138 := Tryz.sizeOf156
  v138 := Tryz.zeroValue156
  t139 := Tryz.underlying157
  a139 := Tryz.isAgg157
  z139 := Tryz.sizeOf157
  v139 := Tryz.zeroValue157
  t146 := Tryz.underlying159
  a146 := Tryz.isAgg159
  z146 := Tryz.sizeOf159
  v146 := Tryz.zeroValue159
  g1 := by kernel_rfl
  g3 := by kernel_rfl
  g4 := by kernel_rfl }

def layJoin_ren : Go.Shelf.Ren := {
  f := fun x => match x with
    | 156 => 86
    | 165 => 98
    | 166 => 99
    | 169 => 100
    | 240 => 113
    | 241 => 114
    | 276 => 121
    | 277 => 122
    | n => n
  t := fun x => match x with
    | 31 => 30
    | 9 => 9
    | 3 => 3
    | 4 => 4
    | 0 => 0
    | 20 => 20
    | 72 => 128
    | 76 => 132
    | 70 => 126
    | 37 => 22
    | 75 => 131
    | 127 => 145
    | 164 => 150
    | 5 => 5
    | 80 => 29
    | n => n
  g := fun n => n }
theorem layJoin : Lays.n156 Tryz.prog layJoin_ren := {
  mixed := by kernel_rfl
  f156 := by kernel_rfl
  f165 := by kernel_rfl
  f166 := by kernel_rfl
  f169 := by kernel_rfl
  f240 := by kernel_rfl
  f241 := by kernel_rfl
  f276 := by kernel_rfl
  f277 := by kernel_rfl
  t0 := Tryz.underlying0
  a0 := Tryz.isAgg0
  z0 := Tryz.sizeOf0
  v0 := Tryz.zeroValue0
  t3 := Tryz.underlying3
  a3 := Tryz.isAgg3
  z3 := Tryz.sizeOf3
  v3 := Tryz.zeroValue3
  t4 := Tryz.underlying4
  a4 := Tryz.isAgg4
  z4 := Tryz.sizeOf4
  v4 := Tryz.zeroValue4
  t9 := Tryz.underlying9
  a9 := Tryz.isAgg9
  z9 := Tryz.sizeOf9
  v9 := Tryz.zeroValue9
  t20 := Tryz.underlying20
  a20 := Tryz.isAgg20
  z20 := Tryz.sizeOf20
  v20 := Tryz.zeroValue20
  t31 := Tryz.underlying30
  a31 := Tryz.isAgg30
  z31 := Tryz.sizeOf30
  v31 := Tryz.zeroValue30
  t37 := Tryz.underlying22
  a37 := Tryz.isAgg22
  z37 := Tryz.sizeOf22
  v37 := Tryz.zeroValue22
  t70 := Tryz.underlying126
  a70 := Tryz.isAgg126
  z70 := Tryz.sizeOf126
  v70 := Tryz.zeroValue126
  t72 := Tryz.underlying128
  a72 := Tryz.isAgg128
  z72 := Tryz.sizeOf128
  v72 := Tryz.zeroValue128
  t75 := Tryz.underlying131
  a75 := Tryz.isAgg131
  z75 := Tryz.sizeOf131
  v75 := Tryz.zeroValue131
  t76 := Tryz.underlying132
  a76 := Tryz.isAgg132
  z76 := Tryz.sizeOf132
  v76 := Tryz.zeroValue132
  t127 := Tryz.underlying145
  a127 := Tryz.isAgg145
  z127 := Tryz.sizeOf145
  v127 := Tryz.zeroValue145
  t164 := Tryz.underlying150
  a164 := Tryz.isAgg150
  z164 := Tryz.sizeOf150
  v164 := Tryz.zeroValue150 }

theorem fCutP : layCutP_ren.f 103 = 82 := by kernel_rfl
theorem fSplit : laySplit_ren.f 146 = 83 := by kernel_rfl
theorem fJoin : layJoin_ren.f 156 = 86 := by kernel_rfl
def cutP (s p : ByteArray) : ByteArray × Bool := (⟨(Lib.trimPrefix s.data.toList p.data.toList).toArray⟩, Lib.hasPrefix s.data.toList p.data.toList)
/-- The contract of strings.CutPrefix. -/
def scutC : Con := conN [(.v, .str), (.v, .str)] fun (s, p, _) => some ⟨.tup [⟨.str, (cutP s p).1⟩, ⟨.bool, (cutP s p).2⟩], []⟩
theorem scutC_eq {s : ByteArray} {p : ByteArray} : scutC [.val ⟨.str, s⟩, .val ⟨.str, p⟩] = some ⟨.tup [⟨.str, (cutP s p).1⟩, ⟨.bool, (cutP s p).2⟩], []⟩ := conN_mk (ks := [(.v, .str), (.v, .str)]) (s, p, ())
def Γscut : Cons := cons []
theorem scut_ok : ConOK Tryz.prog 82 scutC := by
  intro args out vals w R hc hr
  obtain ⟨x, e, h1⟩ := conN_inv hc
  obtain ⟨s, p, x0⟩ := x
  subst e
  replace h1 : some (⟨.tup [⟨.str, (cutP s p).1⟩, ⟨.bool, (cutP s p).2⟩], []⟩ : Out) = some out := h1
  injection h1 with h1
  subst h1
  obtain ⟨v1, r1, rfl, hv1, v2, r2, rfl, hv2, e3⟩ := hr.rep
  simp only [argsRep] at e3
  subst e3
  have e1 := vrep_str hv1
  have e2 := vrep_str hv2
  subst e1 e2
  have hcall := Any.strings_CutPrefix layCutP s p w
  rw [fCutP] at hcall
  exact goes_near2 Tryz.func82 (by kernel_rfl) (by kernel_rfl) (by intro a ha; simp [mkArgs, mkA] at ha; rcases ha with rfl | rfl <;> exact ⟨_, rfl⟩) rfl (fun _ _ => mk_str _ _ _) (fun _ _ => mk_bool _ _ _) (hcall.mono fun e w' ⟨he, hw⟩ => ⟨he, hw ▸ RowKit.Below.refl _ _⟩)
/-- A new row of texts. -/
theorem goes_strs {P : Program} {f : FuncId} {fn : Func} {args : List Arg} {vals : List Value} {w : World} {R : Nat → Prop} {xs : List ByteArray} {n : Nat} {t : TypeId} (hf : P.funcs[f]? = some fn) (hname : (fn.name == "runtime.NumGoroutine") = false) (hb : fn.body.isSome = true)
    (ha : ∀ a ∈ args, ∃ d, a = .val d) (hl : args.length = vals.length) (hn : xs.length = n) (hm : n ≤ Go.maxLen) (h : Calls P f vals.toArray w fun e w' => e = .returned (.slice (some ⟨w.heap.size, 0, none⟩) n n) ∧ w' = w.alloc (.cells (xs.map Value.string).toArray t)) :
    Goes P f vals w (Res.own .str xs) (After w R args vals ⟨.own .str xs, []⟩) := by
  refine .inl ⟨f, vals.toArray, w, enters hf hname hb _ _, h.mono ?_⟩
  rintro e w' ⟨rfl, rfl⟩
  subst hn
  have hbut := but_alloc w (.cells (xs.map Value.string).toArray t) none
  have hrl : ∀ (w : World) (R : Nat → Prop) (l : List ByteArray), repList (rep w R .str) l (l.map Value.string) := by
    intro w R l
    induction l with
    | nil => rfl
    | cons x l ih => exact ⟨[.string x], l.map Value.string, rfl, rfl, ih⟩
  refine ⟨_, rfl, ⟨rfl, rfl, rfl, by simp, fun b hb _ => RowKit.Below.heap_alloc w _ b hb⟩, fun b hb => ?_, ?_, iosN hl ha⟩
  · have : w.heap.size = b := by simpa [Res.slot, ownBlk] using hb
    exact .inl (by omega)
  · refine ⟨some ⟨w.heap.size, 0, none⟩, xs.length, xs.map Value.string, rfl, Nat.le_refl _, hm, hrl _ _ xs, .inr ⟨_, rfl, mem_new w _ t _ _ (by simp [Ty.sz]) (by simp [Ty.sz]) (fun j v hv => by simpa using hv)⟩⟩
def splitS (s : ByteArray) : List ByteArray := Lib.splitB ⟨#[47]⟩ 0 (Lib.countB s ⟨#[47]⟩) s
/-- The contract of strings.Split. -/
def ssplitC : Con := conN [(.v, .str), (.v, .str)] fun (s, p, _) => if s.size ≤ 1000000000 ∧ p = ⟨#[47]⟩ then some ⟨.own .str (splitS s), []⟩ else none
theorem ssplitC_eq {s : ByteArray} {p : ByteArray} : ssplitC [.val ⟨.str, s⟩, .val ⟨.str, p⟩] = if s.size ≤ 1000000000 ∧ p = ⟨#[47]⟩ then some ⟨.own .str (splitS s), []⟩ else none := conN_mk (ks := [(.v, .str), (.v, .str)]) (s, p, ())
def Γssplit : Cons := cons []
theorem ssplit_ok : ConOK Tryz.prog 83 ssplitC := by
  intro args out vals w R hc hr
  obtain ⟨x, e, h1⟩ := conN_inv hc
  obtain ⟨s, p, x0⟩ := x
  subst e
  replace h1 : (if s.size ≤ 1000000000 ∧ p = ⟨#[47]⟩ then some (⟨.own .str (splitS s), []⟩ : Out) else none) = some out := h1
  split at h1
  case isFalse => cases h1
  rename_i hb
  injection h1 with h1
  subst h1
  obtain ⟨v1, r1, rfl, hv1, v2, r2, rfl, hv2, e3⟩ := hr.rep
  simp only [argsRep] at e3
  subst e3
  have e1 := vrep_str hv1
  have e2 := vrep_str hv2
  subst e1 e2
  obtain ⟨hs, rfl⟩ := hb
  have hcall := split_one laySplit (by kernel_rfl) s 47 w (by omega)
  rw [fSplit] at hcall
  have hlen := Lib.splitB_all ⟨#[47]⟩ (Nat.le_refl _) 0 _ s rfl
  have hle := Lib.countB_le ⟨#[47]⟩ (Nat.le_refl _) s.size s (Nat.le_refl _)
  exact goes_strs Tryz.func83 (by kernel_rfl) (by kernel_rfl) (by intro a ha; simp [mkArgs, mkA] at ha; rcases ha with rfl | rfl <;> exact ⟨_, rfl⟩) rfl hlen (by unfold Go.maxLen; omega) hcall
theorem layJoin_extra : Builder.Extra Tryz.prog layJoin_ren where
  sizeBuilder := by kernel_rfl
  liesBuilder := by kernel_rfl
  t5 := laySplit.t5
  a5 := laySplit.a5
  z5 := laySplit.z5
  v5 := laySplit.v5
  infoByte := by kernel_rfl
  cellsByte := by kernel_rfl
  sizeByte := by kernel_rfl
  neB5 := by decide
def joinS (l : List ByteArray) (p : ByteArray) : ByteArray := ⟨(Lib.join (l.map (·.data.toList)) p.data.toList).toArray⟩
theorem join_len {l : List ByteArray} {p : ByteArray} (hp : p.size ≤ 1000) (hl : ∀ x ∈ l, x.size ≤ 1000) : (Lib.join (l.map (·.data.toList)) p.data.toList).length ≤ l.length * 2000 := by
  have hp' : p.data.toList.length ≤ 1000 := by rw [← Lib.size_eq]; exact hp
  have tail : ∀ l : List ByteArray, (∀ x ∈ l, x.size ≤ 1000) → (Lib.joinTail p.data.toList (l.map (·.data.toList))).length ≤ l.length * 2000 := by
    intro l
    induction l with
    | nil => intro _; simp [Lib.joinTail]
    | cons x l ih =>
      intro h
      have hx := h x (List.mem_cons_self ..)
      rw [Lib.size_eq] at hx
      have := ih fun y hy => h y (List.mem_cons_of_mem _ hy)
      simp only [Lib.joinTail, List.map_cons, List.flatten_cons, List.length_append, List.length_cons] at this ⊢
      omega
  cases l with
  | nil => simp [Lib.join_nil]
  | cons x l =>
    have hx := hl x (List.mem_cons_self ..)
    rw [Lib.size_eq] at hx
    have := tail l fun y hy => hl y (List.mem_cons_of_mem _ hy)
    rw [List.map_cons, Lib.join_cons, List.length_append, List.length_cons]
    omega
def smallL (l : List ByteArray) : Prop := ∀ x ∈ l, x.size ≤ 1000
instance {l : List ByteArray} : Decidable (smallL l) := inferInstanceAs (Decidable (∀ x ∈ l, x.size ≤ 1000))
theorem strs_lie {w : World} {R : Nat → Prop} : ∀ {l : List ByteArray} {cs : List Value}, repList (rep w R .str) l cs → cs = l.map Value.string
  | [], cs, h => h
  | x :: l, cs, ⟨c1, c2, e, h1, h2⟩ => by
    rw [e, h1, strs_lie h2]
    rfl
/-- The contract of strings.Join. -/
def sjoinC : Con := conN [(.v, .slice .str), (.v, .str)] fun (l, p, _) => if l.length ≤ 1000 ∧ p.size ≤ 1000 ∧ smallL l then some ⟨.val ⟨.str, joinS l p⟩, []⟩ else none
theorem sjoinC_eq {l : List ByteArray} {p : ByteArray} : sjoinC [.val ⟨.slice .str, l⟩, .val ⟨.str, p⟩] = if l.length ≤ 1000 ∧ p.size ≤ 1000 ∧ smallL l then some ⟨.val ⟨.str, joinS l p⟩, []⟩ else none := conN_mk (ks := [(.v, .slice .str), (.v, .str)]) (l, p, ())
def Γsjoin : Cons := cons []
theorem sjoin_ok : ConOK Tryz.prog 86 sjoinC := by
  intro args out vals w R hc hr
  obtain ⟨x, e, h1⟩ := conN_inv hc
  obtain ⟨l, p, x0⟩ := x
  subst e
  replace h1 : (if l.length ≤ 1000 ∧ p.size ≤ 1000 ∧ smallL l then some (⟨.val ⟨.str, joinS l p⟩, []⟩ : Out) else none) = some out := h1
  split at h1
  case isFalse => cases h1
  rename_i hb
  injection h1 with h1
  subst h1
  obtain ⟨v1, r1, rfl, hv1, v2, r2, rfl, hv2, e3⟩ := hr.rep
  simp only [argsRep] at e3
  subst e3
  have e2 := vrep_str hv2
  subst e2
  obtain ⟨cs, ⟨A, c, ecs, hcl, hcm, hin⟩, ev⟩ := hv1
  subst ecs
  have ev : v1 = .slice A l.length c := ev
  subst ev
  obtain ⟨b1, b2, b3⟩ := hb
  have hjl := join_len b2 b3
  have key : Calls Tryz.prog 86 #[.slice A l.length c, .string p] w fun e w' => e = .returned (.string (joinS l p)) ∧ RowKit.Below w.heap.size w w' := by
    rw [← fJoin]
    rcases hin with rfl | ⟨ad, inner, rfl, _, hlt, hrl, hlies⟩
    · exact (Any.strings_Join_none layJoin layJoin_extra A c p w).mono fun e w' ⟨he, hw⟩ => ⟨he, hw ▸ RowKit.Below.refl _ _⟩
    · have hi := strs_lie hrl
      subst hi
      cases l with
      | nil => exact (Any.strings_Join_none layJoin layJoin_extra _ c p w).mono fun e w' ⟨he, hw⟩ => ⟨he, hw ▸ RowKit.Below.refl _ _⟩
      | cons x l =>
        have h0 := hlies 0 (.string x) rfl
        obtain ⟨bk, o, sp⟩ := ad
        have hsp : sp = none := by
          cases sp with
          | none => rfl
          | some k =>
            exfalso
            unfold World.cell? at h0
            split at h0
            · simp [Addr.add] at h0
            · cases h0
        subst hsp
        exact Any.strings_Join layJoin layJoin_extra bk o c (x :: l) p w (fun j y hy => by have := hlies j (.string y) (by rw [List.getElem?_map, hy]; rfl); cases j <;> simpa [Addr.add] using this) hlt (by omega) hcl (by omega)
  exact goes_near Tryz.func86 (by kernel_rfl) (by kernel_rfl) (by intro a ha; simp [mkArgs, mkA] at ha; rcases ha with rfl | rfl <;> exact ⟨_, rfl⟩) rfl (fun _ _ => mk_str _ _ _) key
end Go.Proofs.YtodkmhamaahjmaaGreatDoor
