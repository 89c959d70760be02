/- strings.Repeat: what the shelf's contract says, as a contract here. -/
import Derived.Test.YtcopoofbicgjbaaTab
import Derived.Test.YtcopoofbicgjbaaPStr
import Derived.Test.YtcopoofbicgjbaaLibKit
import Derived.Shelf.Strings.Repeat
set_option maxRecDepth 100000
set_option linter.unusedSimpArgs false
set_option linter.unusedVariables false
namespace Go.Proofs.Ytcopoofbicgjbaa
open Go.Tm Go.IntWalk
def layRepeat_ren : Go.Shelf.Ren := {
  f := fun x => match x with
    | 105 => 22
    | 212 => 31
    | 99 => 32
    | 165 => 33
    | 166 => 34
    | 170 => 35
    | 169 => 36
    | 263 => 40
    | 264 => 41
    | 206 => 42
    | 240 => 43
    | 241 => 44
    | 276 => 45
    | 277 => 46
    | n => n
  t := fun x => match x with
    | 9 => 9
    | 3 => 3
    | 4 => 4
    | 20 => 20
    | 0 => 0
    | 46 => 65
    | 109 => 66
    | 5 => 5
    | 72 => 71
    | 76 => 75
    | 51 => 81
    | 146 => 82
    | 53 => 84
    | 148 => 85
    | 70 => 69
    | 37 => 45
    | 75 => 74
    | 127 => 87
    | 164 => 88
    | 80 => 50
    | n => n
  g := fun n => n }
theorem layRepeat : Lays.n105 Try.prog layRepeat_ren := {
  mixed := by kernel_rfl
  f99 := by kernel_rfl
  f105 := by kernel_rfl
  f165 := by kernel_rfl
  f166 := by kernel_rfl
  f169 := by kernel_rfl
  f170 := by kernel_rfl
  f206 := by kernel_rfl
  f212 := by kernel_rfl
  f240 := by kernel_rfl
  f241 := by kernel_rfl
  f263 := by kernel_rfl
  f264 := by kernel_rfl
  f276 := by kernel_rfl
  f277 := by kernel_rfl
  t0 := Try.underlying0
  a0 := Try.isAgg0
  z0 := Try.sizeOf0
  v0 := Try.zeroValue0
  t3 := Try.underlying3
  a3 := Try.isAgg3
  z3 := Try.sizeOf3
  v3 := Try.zeroValue3
  t4 := Try.underlying4
  a4 := Try.isAgg4
  z4 := Try.sizeOf4
  v4 := Try.zeroValue4
  t5 := Try.underlying5
  a5 := Try.isAgg5
  z5 := Try.sizeOf5
  v5 := Try.zeroValue5
  t9 := Try.underlying9
  a9 := Try.isAgg9
  z9 := Try.sizeOf9
  v9 := Try.zeroValue9
  t20 := Try.underlying20
  a20 := Try.isAgg20
  z20 := Try.sizeOf20
  v20 := Try.zeroValue20
  t37 := Try.underlying45
  a37 := Try.isAgg45
  z37 := Try.sizeOf45
  v37 := Try.zeroValue45
  t46 := Try.underlying65
  a46 := Try.isAgg65
  z46 := Try.sizeOf65
  v46 := Try.zeroValue65
  t51 := Try.underlying81
  a51 := Try.isAgg81
  z51 := Try.sizeOf81
  v51 := Try.zeroValue81
  t53 := Try.underlying84
  a53 := Try.isAgg84
  z53 := Try.sizeOf84
  v53 := Try.zeroValue84
  t70 := Try.underlying69
  a70 := Try.isAgg69
  z70 := Try.sizeOf69
  v70 := Try.zeroValue69
  t72 := Try.underlying71
  a72 := Try.isAgg71
  z72 := Try.sizeOf71
  v72 := Try.zeroValue71
  t75 := Try.underlying74
  a75 := Try.isAgg74
  z75 := Try.sizeOf74
  v75 := Try.zeroValue74
  t76 := Try.underlying75
  a76 := Try.isAgg75
  z76 := Try.sizeOf75
  v76 := Try.zeroValue75
  t109 := Try.underlying66
  a109 := Try.isAgg66
  z109 := Try.sizeOf66
  v109 := Try.zeroValue66
  t127 := Try.underlying87
  a127 := Try.isAgg87
  z127 := Try.sizeOf87
  v127 := Try.zeroValue87
  t146 := Try.underlying82
  a146 := Try.isAgg82
  z146 := Try.sizeOf82
  v146 := Try.zeroValue82
  t148 := Try.underlying85
  a148 := Try.isAgg85
  z148 := Try.sizeOf85
  v148 := Try.zeroValue85
  t164 := Try.underlying88
  a164 := Try.isAgg88
  z164 := Try.sizeOf88
  v164 := Try.zeroValue88 }

theorem layRepeat_extra : Builder.Extra Try.prog layRepeat_ren where
  sizeBuilder := by kernel_rfl
  liesBuilder := by kernel_rfl
  t5 := layRepeat.t5
  a5 := layRepeat.a5
  z5 := layRepeat.z5
  v5 := layRepeat.v5
  infoByte := by kernel_rfl
  cellsByte := by kernel_rfl
  sizeByte := by kernel_rfl
  neB5 := by decide
theorem fRepeat : layRepeat_ren.f 105 = 22 := by kernel_rfl
def repB (s : ByteArray) (n : Nat) : ByteArray := ⟨(Lib.repeatL s.data.toList n).toArray⟩
/-- The contract of strings.Repeat. -/
def repeat6C : Con := conN [(.v, .str), (.v, .int .i64)] fun (s, n, _) => if 0 ≤ n ∧ n ≤ 1000000000 ∧ s.size ≤ 1000 then some ⟨.val ⟨.str, repB s n.toNat⟩, []⟩ else none
theorem repeat6C_eq {s : ByteArray} {n : Int} : repeat6C [.val ⟨.str, s⟩, .val ⟨.int .i64, n⟩] = if 0 ≤ n ∧ n ≤ 1000000000 ∧ s.size ≤ 1000 then some ⟨.val ⟨.str, repB s n.toNat⟩, []⟩ else none := conN_mk (ks := [(.v, .str), (.v, .int .i64)]) (s, n, ())
def Γrepeat6 : Cons := cons []
theorem repeat6_ok : ConOK Try.prog 22 repeat6C := by
  intro args out vals w R hc hr
  obtain ⟨x, e, h1⟩ := conN_inv hc
  obtain ⟨s, n, x0⟩ := x
  subst e
  replace h1 : (if 0 ≤ n ∧ n ≤ 1000000000 ∧ s.size ≤ 1000 then some (⟨.val ⟨.str, repB s n.toNat⟩, []⟩ : Out) else none) = some out := h1
  split at h1
  case isFalse => cases h1
  rename_i hb
  injection h1 with h1
  subst h1
  obtain ⟨v1, r1, rfl, hv1, v2, r2, rfl, hv2, e3⟩ := hr.rep
  simp only [argsRep] at e3
  subst e3
  have e1 := vrep_str hv1
  have e2 := vrep_int hv2
  subst e1 e2
  obtain ⟨m, hm⟩ : ∃ m : Nat, n = (m : Int) := ⟨Int.toNat n, (Int.toNat_of_nonneg hb.1).symm⟩
  subst hm
  have hm2 : (m : Int) ≤ 1000000000 := hb.2.1
  have hlen : s.size * m ≤ 140737488355328 := by
    have h1 : s.size * m ≤ 1000 * 1000000000 := Nat.mul_le_mul hb.2.2 (by omega)
    omega
  have hcall := Any.strings_Repeat layRepeat layRepeat_extra s m w (by omega) hlen
  rw [fRepeat] at hcall
  exact goes_near Try.func22 (by kernel_rfl) (by kernel_rfl) (by intro a ha; simp [mkArgs, mkA] at ha; rcases ha with rfl | rfl <;> exact ⟨_, rfl⟩) rfl (fun _ _ => mk_str _ _ _) hcall
end Go.Proofs.Ytcopoofbicgjbaa
