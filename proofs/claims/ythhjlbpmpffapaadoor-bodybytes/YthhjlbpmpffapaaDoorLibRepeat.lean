/- strings.Repeat: what the shelf's contract says, as a contract here. -/
import Derived.Test.YthhjlbpmpffapaaDoorTab
import Derived.Test.YthhjlbpmpffapaaDoorPStr
import Derived.Test.YthhjlbpmpffapaaDoorLibKit
import Derived.Shelf.Strings.Repeat
set_option maxRecDepth 100000
set_option linter.unusedSimpArgs false
set_option linter.unusedVariables false
namespace Go.Proofs.YthhjlbpmpffapaaDoor
open Go.Tm Go.IntWalk
def layRepeat_ren : Go.Shelf.Ren := {
  f := fun x => match x with
    | 105 => 35
    | 212 => 42
    | 99 => 43
    | 165 => 44
    | 166 => 45
    | 170 => 46
    | 169 => 47
    | 263 => 54
    | 264 => 55
    | 206 => 56
    | 240 => 57
    | 241 => 58
    | 276 => 64
    | 277 => 65
    | n => n
  t := fun x => match x with
    | 9 => 9
    | 3 => 3
    | 4 => 4
    | 20 => 20
    | 0 => 0
    | 46 => 81
    | 109 => 82
    | 5 => 5
    | 72 => 87
    | 76 => 91
    | 51 => 98
    | 146 => 99
    | 53 => 101
    | 148 => 102
    | 70 => 85
    | 37 => 32
    | 75 => 90
    | 127 => 104
    | 164 => 109
    | 80 => 94
    | n => n
  g := fun n => n }
theorem layRepeat : Lays.n105 Tryd.prog layRepeat_ren := {
  mixed := by kernel_rfl
  f99 := by kernel_rfl
  f105 := by kernel_rfl
  f165 := by kernel_rfl
  f166 := by kernel_rfl
  f169 := by kernel_rfl
  f170 := by kernel_rfl
  f206 := by kernel_rfl
  f212 := by kernel_rfl
  f240 := by kernel_rfl
  f241 := by kernel_rfl
  f263 := by kernel_rfl
  f264 := by kernel_rfl
  f276 := by kernel_rfl
  f277 := by kernel_rfl
  t0 := Tryd.underlying0
  a0 := Tryd.isAgg0
  z0 := Tryd.sizeOf0
  v0 := Tryd.zeroValue0
  t3 := Tryd.underlying3
  a3 := Tryd.isAgg3
  z3 := Tryd.sizeOf3
  v3 := Tryd.zeroValue3
  t4 := Tryd.underlying4
  a4 := Tryd.isAgg4
  z4 := Tryd.sizeOf4
  v4 := Tryd.zeroValue4
  t5 := Tryd.underlying5
  a5 := Tryd.isAgg5
  z5 := Tryd.sizeOf5
  v5 := Tryd.zeroValue5
  t9 := Tryd.underlying9
  a9 := Tryd.isAgg9
  z9 := Tryd.sizeOf9
  v9 := Tryd.zeroValue9
  t20 := Tryd.underlying20
  a20 := Tryd.isAgg20
  z20 := Tryd.sizeOf20
  v20 := Tryd.zeroValue20
  t37 := Tryd.underlying32
  a37 := Tryd.isAgg32
  z37 := Tryd.sizeOf32
  v37 := Tryd.zeroValue32
  t46 := Tryd.underlying81
  a46 := Tryd.isAgg81
  z46 := Tryd.sizeOf81
  v46 := Tryd.zeroValue81
  t51 := Tryd.underlying98
  a51 := Tryd.isAgg98
  z51 := Tryd.sizeOf98
  v51 := Tryd.zeroValue98
  t53 := Tryd.underlying101
  a53 := Tryd.isAgg101
  z53 := Tryd.sizeOf101
  v53 := Tryd.zeroValue101
  t70 := Tryd.underlying85
  a70 := Tryd.isAgg85
  z70 := Tryd.sizeOf85
  v70 := Tryd.zeroValue85
  t72 := Tryd.underlying87
  a72 := Tryd.isAgg87
  z72 := Tryd.sizeOf87
  v72 := Tryd.zeroValue87
  t75 := Tryd.underlying90
  a75 := Tryd.isAgg90
  z75 := Tryd.sizeOf90
  v75 := Tryd.zeroValue90
  t76 := Tryd.underlying91
  a76 := Tryd.isAgg91
  z76 := Tryd.sizeOf91
  v76 := Tryd.zeroValue91
  t109 := Tryd.underlying82
  a109 := Tryd.isAgg82
  z109 := Tryd.sizeOf82
  v109 := Tryd.zeroValue82
  t127 := Tryd.underlying104
  a127 := Tryd.isAgg104
  z127 := Tryd.sizeOf104
  v127 := Tryd.zeroValue104
  t146 := Tryd.underlying99
  a146 := Tryd.isAgg99
  z146 := Tryd.sizeOf99
  v146 := Tryd.zeroValue99
  t148 := Tryd.underlying102
  a148 := Tryd.isAgg102
  z148 := Tryd.sizeOf102
  v148 := Tryd.zeroValue102
  t164 := Tryd.underlying109
  a164 := Tryd.isAgg109
  z164 := Tryd.sizeOf109
  v164 := Tryd.zeroValue109 }

theorem layRepeat_extra : Builder.Extra Tryd.prog layRepeat_ren where
  sizeBuilder := by kernel_rfl
  liesBuilder := by kernel_rfl
  t5 := layRepeat.t5
  a5 := layRepeat.a5
  z5 := layRepeat.z5
  v5 := layRepeat.v5
  infoByte := by kernel_rfl
  cellsByte := by kernel_rfl
  sizeByte := by kernel_rfl
  neB5 := by decide
theorem fRepeat : layRepeat_ren.f 105 = 35 := by kernel_rfl
def repB (s : ByteArray) (n : Nat) : ByteArray := ⟨(Lib.repeatL s.data.toList n).toArray⟩
/-- The contract of strings.Repeat. -/
def repeat6C : Con := conN [(.v, .str), (.v, .int .i64)] fun (s, n, _) => if 0 ≤ n ∧ n ≤ 1000000000 ∧ s.size ≤ 1000 then some ⟨.val ⟨.str, repB s n.toNat⟩, []⟩ else none
theorem repeat6C_eq {s : ByteArray} {n : Int} : repeat6C [.val ⟨.str, s⟩, .val ⟨.int .i64, n⟩] = if 0 ≤ n ∧ n ≤ 1000000000 ∧ s.size ≤ 1000 then some ⟨.val ⟨.str, repB s n.toNat⟩, []⟩ else none := conN_mk (ks := [(.v, .str), (.v, .int .i64)]) (s, n, ())
def Γrepeat6 : Cons := cons []
theorem repeat6_ok : ConOK Tryd.prog 35 repeat6C := by
  intro args out vals w R hc hr
  obtain ⟨x, e, h1⟩ := conN_inv hc
  obtain ⟨s, n, x0⟩ := x
  subst e
  replace h1 : (if 0 ≤ n ∧ n ≤ 1000000000 ∧ s.size ≤ 1000 then some (⟨.val ⟨.str, repB s n.toNat⟩, []⟩ : Out) else none) = some out := h1
  split at h1
  case isFalse => cases h1
  rename_i hb
  injection h1 with h1
  subst h1
  obtain ⟨v1, r1, rfl, hv1, v2, r2, rfl, hv2, e3⟩ := hr.rep
  simp only [argsRep] at e3
  subst e3
  have e1 := vrep_str hv1
  have e2 := vrep_int hv2
  subst e1 e2
  obtain ⟨m, hm⟩ : ∃ m : Nat, n = (m : Int) := ⟨Int.toNat n, (Int.toNat_of_nonneg hb.1).symm⟩
  subst hm
  have hm2 : (m : Int) ≤ 1000000000 := hb.2.1
  have hlen : s.size * m ≤ 140737488355328 := by
    have h1 : s.size * m ≤ 1000 * 1000000000 := Nat.mul_le_mul hb.2.2 (by omega)
    omega
  have hcall := Any.strings_Repeat layRepeat layRepeat_extra s m w (by omega) hlen
  rw [fRepeat] at hcall
  exact goes_near Tryd.func35 (by kernel_rfl) (by kernel_rfl) (by intro a ha; simp [mkArgs, mkA] at ha; rcases ha with rfl | rfl <;> exact ⟨_, rfl⟩) rfl (fun _ _ => mk_str _ _ _) hcall
end Go.Proofs.YthhjlbpmpffapaaDoor
