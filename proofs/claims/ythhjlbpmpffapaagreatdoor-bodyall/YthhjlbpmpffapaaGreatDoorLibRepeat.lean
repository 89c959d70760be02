/- strings.Repeat: what the shelf's contract says, as a contract here. -/
import Derived.Test.YthhjlbpmpffapaaGreatDoorTab
import Derived.Test.YthhjlbpmpffapaaGreatDoorPStr
import Derived.Test.YthhjlbpmpffapaaGreatDoorLibKit
import Derived.Shelf.Strings.Repeat
set_option maxRecDepth 100000
set_option linter.unusedSimpArgs false
set_option linter.unusedVariables false
namespace Go.Proofs.YthhjlbpmpffapaaGreatDoor
open Go.Tm Go.IntWalk
def layRepeat_ren : Go.Shelf.Ren := {
  f := fun x => match x with
    | 105 => 50
    | 212 => 65
    | 99 => 66
    | 165 => 67
    | 166 => 68
    | 170 => 69
    | 169 => 70
    | 263 => 79
    | 264 => 80
    | 206 => 81
    | 240 => 82
    | 241 => 83
    | 276 => 90
    | 277 => 91
    | n => n
  t := fun x => match x with
    | 9 => 9
    | 3 => 3
    | 4 => 4
    | 20 => 20
    | 0 => 0
    | 46 => 100
    | 109 => 101
    | 5 => 5
    | 72 => 106
    | 76 => 110
    | 51 => 118
    | 146 => 119
    | 53 => 121
    | 148 => 122
    | 70 => 104
    | 37 => 22
    | 75 => 109
    | 127 => 124
    | 164 => 129
    | 80 => 29
    | n => n
  g := fun n => n }
theorem layRepeat : Lays.n105 Tryz.prog layRepeat_ren := {
  mixed := by kernel_rfl
  f99 := by kernel_rfl
  f105 := by kernel_rfl
  f165 := by kernel_rfl
  f166 := by kernel_rfl
  f169 := by kernel_rfl
  f170 := by kernel_rfl
  f206 := by kernel_rfl
  f212 := by kernel_rfl
  f240 := by kernel_rfl
  f241 := by kernel_rfl
  f263 := by kernel_rfl
  f264 := by kernel_rfl
  f276 := by kernel_rfl
  f277 := by kernel_rfl
  t0 := Tryz.underlying0
  a0 := Tryz.isAgg0
  z0 := Tryz.sizeOf0
  v0 := Tryz.zeroValue0
  t3 := Tryz.underlying3
  a3 := Tryz.isAgg3
  z3 := Tryz.sizeOf3
  v3 := Tryz.zeroValue3
  t4 := Tryz.underlying4
  a4 := Tryz.isAgg4
  z4 := Tryz.sizeOf4
  v4 := Tryz.zeroValue4
  t5 := Tryz.underlying5
  a5 := Tryz.isAgg5
  z5 := Tryz.sizeOf5
  v5 := Tryz.zeroValue5
  t9 := Tryz.underlying9
  a9 := Tryz.isAgg9
  z9 := Tryz.sizeOf9
  v9 := Tryz.zeroValue9
  t20 := Tryz.underlying20
  a20 := Tryz.isAgg20
  z20 := Tryz.sizeOf20
  v20 := Tryz.zeroValue20
  t37 := Tryz.underlying22
  a37 := Tryz.isAgg22
  z37 := Tryz.sizeOf22
  v37 := Tryz.zeroValue22
  t46 := Tryz.underlying100
  a46 := Tryz.isAgg100
  z46 := Tryz.sizeOf100
  v46 := Tryz.zeroValue100
  t51 := Tryz.underlying118
  a51 := Tryz.isAgg118
  z51 := Tryz.sizeOf118
  v51 := Tryz.zeroValue118
  t53 := Tryz.underlying121
  a53 := Tryz.isAgg121
  z53 := Tryz.sizeOf121
  v53 := Tryz.zeroValue121
  t70 := Tryz.underlying104
  a70 := Tryz.isAgg104
  z70 := Tryz.sizeOf104
  v70 := Tryz.zeroValue104
  t72 := Tryz.underlying106
  a72 := Tryz.isAgg106
  z72 := Tryz.sizeOf106
  v72 := Tryz.zeroValue106
  t75 := Tryz.underlying109
  a75 := Tryz.isAgg109
  z75 := Tryz.sizeOf109
  v75 := Tryz.zeroValue109
  t76 := Tryz.underlying110
  a76 := Tryz.isAgg110
  z76 := Tryz.sizeOf110
  v76 := Tryz.zeroValue110
  t109 := Tryz.underlying101
  a109 := Tryz.isAgg101
  z109 := Tryz.sizeOf101
  v109 := Tryz.zeroValue101
  t127 := Tryz.underlying124
  a127 := Tryz.isAgg124
  z127 := Tryz.sizeOf124
  v127 := Tryz.zeroValue124
  t146 := Tryz.underlying119
  a146 := Tryz.isAgg119
  z146 := Tryz.sizeOf119
  v146 := Tryz.zeroValue119
  t148 := Tryz.underlying122
  a148 := Tryz.isAgg122
  z148 := Tryz.sizeOf122
  v148 := Tryz.zeroValue122
  t164 := Tryz.underlying129
  a164 := Tryz.isAgg129
  z164 := Tryz.sizeOf129
  v164 := Tryz.zeroValue129 }

theorem layRepeat_extra : Builder.Extra Tryz.prog layRepeat_ren where
  sizeBuilder := by kernel_rfl
  liesBuilder := by kernel_rfl
  t5 := layRepeat.t5
  a5 := layRepeat.a5
  z5 := layRepeat.z5
  v5 := layRepeat.v5
  infoByte := by kernel_rfl
  cellsByte := by kernel_rfl
  sizeByte := by kernel_rfl
  neB5 := by decide
theorem fRepeat : layRepeat_ren.f 105 = 50 := by kernel_rfl
def repB (s : ByteArray) (n : Nat) : ByteArray := ⟨(Lib.repeatL s.data.toList n).toArray⟩
/-- The contract of strings.Repeat. -/
def repeat6C : Con := conN [(.v, .str), (.v, .int .i64)] fun (s, n, _) => if 0 ≤ n ∧ n ≤ 1000000000 ∧ s.size ≤ 1000 then some ⟨.val ⟨.str, repB s n.toNat⟩, []⟩ else none
theorem repeat6C_eq {s : ByteArray} {n : Int} : repeat6C [.val ⟨.str, s⟩, .val ⟨.int .i64, n⟩] = if 0 ≤ n ∧ n ≤ 1000000000 ∧ s.size ≤ 1000 then some ⟨.val ⟨.str, repB s n.toNat⟩, []⟩ else none := conN_mk (ks := [(.v, .str), (.v, .int .i64)]) (s, n, ())
def Γrepeat6 : Cons := cons []
theorem repeat6_ok : ConOK Tryz.prog 50 repeat6C := by
  intro args out vals w R hc hr
  obtain ⟨x, e, h1⟩ := conN_inv hc
  obtain ⟨s, n, x0⟩ := x
  subst e
  replace h1 : (if 0 ≤ n ∧ n ≤ 1000000000 ∧ s.size ≤ 1000 then some (⟨.val ⟨.str, repB s n.toNat⟩, []⟩ : Out) else none) = some out := h1
  split at h1
  case isFalse => cases h1
  rename_i hb
  injection h1 with h1
  subst h1
  obtain ⟨v1, r1, rfl, hv1, v2, r2, rfl, hv2, e3⟩ := hr.rep
  simp only [argsRep] at e3
  subst e3
  have e1 := vrep_str hv1
  have e2 := vrep_int hv2
  subst e1 e2
  obtain ⟨m, hm⟩ : ∃ m : Nat, n = (m : Int) := ⟨Int.toNat n, (Int.toNat_of_nonneg hb.1).symm⟩
  subst hm
  have hm2 : (m : Int) ≤ 1000000000 := hb.2.1
  have hlen : s.size * m ≤ 140737488355328 := by
    have h1 : s.size * m ≤ 1000 * 1000000000 := Nat.mul_le_mul hb.2.2 (by omega)
    omega
  have hcall := Any.strings_Repeat layRepeat layRepeat_extra s m w (by omega) hlen
  rw [fRepeat] at hcall
  exact goes_near Tryz.func50 (by kernel_rfl) (by kernel_rfl) (by intro a ha; simp [mkArgs, mkA] at ha; rcases ha with rfl | rfl <;> exact ⟨_, rfl⟩) rfl (fun _ _ => mk_str _ _ _) hcall
end Go.Proofs.YthhjlbpmpffapaaGreatDoor
