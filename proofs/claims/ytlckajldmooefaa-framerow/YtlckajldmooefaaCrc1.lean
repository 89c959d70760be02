import Derived.Test.YtlckajldmooefaaTab
import Derived.IntWalk
set_option maxRecDepth 10000
set_option pp.deepTerms.threshold 3
namespace Go.Proofs.Ytlckajldmooefaa
open Go.Tm Go.IntWalk

def rnd (c : Int) : Int := if Tm.bits .and .u32 c 1 = 1 then Tm.bits .xor .u32 (c.fdiv 2) 2197175160 else c.fdiv 2
def rnds : Nat → Int → Int
  | 0, c => c
  | n + 1, c => rnd (rnds n c)
def table : List Int := (List.range 256).map fun (i : Nat) => rnds 8 (i : Int)
theorem table_len : table.length = 256 := by simp [table]
theorem table_next {i : Nat} (h : i < 256) : (table.take i ++ List.replicate (256 - i) 0).set i (rnds 8 i) = table.take (i + 1) ++ List.replicate (256 - (i + 1)) 0 := by
  have hl := table_len
  have e : 256 - i = (256 - (i + 1)) + 1 := by omega
  have e2 : table.take (i + 1) = table.take i ++ [rnds 8 (i : Int)] := by
    rw [List.take_add_one]
    simp [table, h]
  rw [e2, e, List.replicate_succ, List.set_append_right _ _ (by simp; omega)]
  simp [List.length_take, hl, Nat.min_eq_left (Nat.le_of_lt h)]

def made : Con := fun
  | [] => some ⟨.obj (.arr 256 (.int .u32)) table, []⟩
  | _ => none

theorem made_ex (Γ : Cons) (args : List Arg) (out : Out) (h : made args = some out) : args.length ≤ 30 ∧ Ex tab Γ (Try.f40.body.getD .skip) (EndsF tab Try.f40.results.toList args out) (ini args) := by
  unfold made at h
  split at h
  case h_2 => cases h
  injection h with h
  subst h
  refine ⟨by simp, ?_⟩
  simp only [Try.f40, Option.getD_some]
  simp (decide := true)
  intro _
  refine ex_loop (fun n st => ∃ (i q : Nat), n = 256 - i ∧ i ≤ 256 ∧ st 7 = .val (.int .i64) (i : Int) ∧ st 1 = .obj q (.arr 256 (.int .u32)) (table.take i ++ List.replicate (256 - i) 0)) 256 ⟨0, _, rfl, by omega, by simp, by simp; rfl⟩ ?_
  rintro n st ⟨i, q, rfl, hi, h7, h1⟩
  simp (decide := true) [h7, h1]
  refine br_dec (fun hlt => ?_) (fun hge => ?_)
  · refine ex_loop (fun n st => ∃ (k : Nat), n = 8 - k ∧ k ≤ 8 ∧ st 12 = .val (.int .i64) (k : Int) ∧ st 3 = .val (.int .u32) (rnds k (i : Int)) ∧ st 2 = .val (.int .i64) (i : Int) ∧ st 7 = .val (.int .i64) (i : Int) ∧ ∃ q, st 1 = .obj q (.arr 256 (.int .u32)) (table.take i ++ List.replicate (256 - i) 0)) 8 ⟨0, rfl, by omega, by simp, ?_, ?_, ?_, ?_⟩ ?_
    all_goals simp [h7, h1]
    · rw [u32_in _ (by omega)]; rfl
    rintro n st k rfl hk h12 h3 h2 h7 q h1
    simp (decide := true) [h7, h1, h2, h3, h12]
    refine br_dec (fun hlt => ?_) (fun hge => ?_)
    · have hk1 : IntKind.i64.wrap ((k : Int) + 1) = ((k + 1 : Nat) : Int) := by rw [i64_in _ (by omega)]; rfl
      refine br_intro (fun hb => ⟨8 - (k + 1), by omega, k + 1, rfl, by omega, hk1, ?_⟩) (fun hb => ⟨8 - (k + 1), by omega, k + 1, rfl, by omega, hk1, ?_⟩)
      · have hb' : Tm.bits .and .u32 (rnds k (i : Int)) 1 = 1 := by simpa using hb
        simp only [rnds, rnd, if_pos hb']
        try rfl
      · have hb' : ¬ Tm.bits .and .u32 (rnds k (i : Int)) 1 = 1 := by simpa using hb
        simp only [rnds, rnd, if_neg hb']
        try rfl
    · have hi1 : IntKind.i64.wrap ((i : Int) + 1) = ((i + 1 : Nat) : Int) := by rw [i64_in _ (by omega)]; rfl
      have hk8 : k = 8 := by omega
      subst hk8
      refine ⟨by omega, by simp [table_len]; omega, 256 - (i + 1), by omega, i + 1, rfl, by omega, hi1, table_next (by omega)⟩
  · have hi : i = 256 := by omega
    subst hi
    simp only [Nat.sub_self, List.replicate_zero, List.append_nil]
    exact List.take_of_length_le (by rw [table_len]; omega)
theorem made_ok : ConOK Try.prog 40 made := con_ok tab_ok (Γ := cons []) consOK_nil (by kernel_rfl) Try.func40 (by kernel_rfl) (made_ex _)
end Go.Proofs.Ytlckajldmooefaa
