/- slices.Delete of one entry, walked on the machine. -/
import Derived.Test.YtodkmhamaahjmaaGreatDoorDirMem
import Derived.Test.YtodkmhamaahjmaaGreatDoorTab
import Derived.WalkKit
import Derived.Shelf.RegionOpenPlain
set_option maxRecDepth 100000
set_option linter.unusedSimpArgs false
set_option linter.unusedVariables false
set_option pp.deepTerms.threshold 20
namespace Go.Proofs.YtodkmhamaahjmaaGreatDoor
open Go.Tm Go.RowKit
theorem entLk : lk tab 84 = some (.prod .str (.prod (.int .i64) .unit), 24) := by rfl
theorem entSz (w : World) : (sizeOf 84).run Tryz.prog w = .ok 2 w := tm_sizeOf (t := 84) (u := .prod .str (.prod (.int .i64) .unit)) tab_ok (by rfl) w
set_option maxHeartbeats 4000000 in
theorem del_run (b off n p c i : Nat) (cs : List Value) (w : World) (hp : n = p + 1) (hi : i < n) (hnc : n ≤ c) (hc : c ≤ maxLen) (hm : Mem w ⟨b, off, none⟩ (c * 2) cs) (hl : cs.length = n * 2) (h1 : ∀ v ∈ cs, v.oneCell' = true) :
    Calls Tryz.prog 95 #[.slice (some ⟨b, off, none⟩) n c, .int .i64 (i : Int), .int .i64 ((i : Int) + 1)] w fun e w' =>
      e = .returned (.slice (some ⟨b, off, none⟩) p c) ∧ Mem w' ⟨b, off, none⟩ (c * 2) (cs.take (i * 2) ++ cs.drop (i * 2 + 2)) ∧ But w (some ⟨b, off, none⟩) w' := by
  have hc63 : c ≤ 9223372036854775807 := hc
  have hmd : Mem w.drew ⟨b, off, none⟩ (c * 2) cs := hm.move rfl
  have z23 := Tryz.underlying79
  have u23 := run_underlying Tryz.underlying79
  have hsz := entSz
  have hb1 : ¬ ((i : Int) = (i : Int) + 1) := by omega
  have hmc := hmd.cut (i * 2)
  obtain ⟨new, hnew⟩ : ∃ new, new = cs.drop (i * 2 + 2) := ⟨_, rfl⟩
  have hnl : new.length = (n - (i + 1)) * 2 := by rw [hnew, List.length_drop, hl]; omega
  have hn1 : ∀ v ∈ new, v.oneCell' = true := fun v hv => h1 v (by rw [hnew] at hv; exact List.mem_of_mem_drop hv)
  have hic : i ≤ c := by omega
  have htn : ((i : Int) + 1).toNat = i + 1 := by omega
  have hfc : ∀ A cc, (i + 1 < c → A = (⟨b, off + (i + 1) * 2, none⟩ : Addr)) → (Builtin.firstCells 2 (n - (i + 1)) (.slice (some A) (n - (i + 1)) cc)).run Tryz.prog w.drew = .ok new.toArray w.drew := fun A cc hA =>
    run_firstCells_some _ _ _ _ _ _ _ hnl (fun j v hv => by
      have hj : j < new.length := by
        rcases Nat.lt_or_ge j new.length with h | h
        · exact h
        · rw [List.getElem?_eq_none h] at hv; cases hv
      rw [hA (by omega)]
      rw [hnew, List.getElem?_drop] at hv
      have := hmd.lies _ v hv
      simp only [Addr.add_lit] at this ⊢
      rw [← this]
      congr 2
      omega)
  have hap : ∀ A cc, (i + 1 < c → A = (⟨b, off + (i + 1) * 2, none⟩ : Addr)) → ∃ w', (Builtin.append_ #[79, 79] 79 #[.slice (some ⟨b, off, none⟩) i c, .slice (some A) (n - (i + 1)) cc]).run Tryz.prog w.drew = .ok (.slice (some ⟨b, off, none⟩) p c) w' ∧ Mem w' ⟨b, off, none⟩ (c * 2) (cs.take (i * 2) ++ new) ∧ But w.drew (some ⟨b, off, none⟩) w' := fun A cc hA =>
    by
    have := tm_room (w := w.drew) (ty2 := 79) tab_ok (u := .prod .str (.prod (.int .i64) .unit)) (bytes := 24) z23 (by rfl) z23 (.inr ⟨_, rfl⟩) (by rw [List.length_take, hl]; show _ = i * 2; omega) hmc (by simp [Builtin.lenOf]) (hfc A cc hA) hnl hn1 (by omega)
    rwa [show i + (n - (i + 1)) = p by omega] at this
  have mixed : Tryz.prog.follows .mixedOrders = true := by kernel_rfl
  have hle : (i : Int) + 1 ≤ (n : Int) := by omega
  have h0 : (0 : Int) ≤ (i : Int) + 1 := by omega
  have hin : i ≤ n := by omega
  have hA0 : ∃ A : Addr, (if c = i + 1 then some (⟨b, off, none⟩ : Addr) else some ⟨b, off + (i + 1) * 2, none⟩) = some A ∧ (i + 1 < c → A = (⟨b, off + (i + 1) * 2, none⟩ : Addr)) := by
    split
    · exact ⟨_, rfl, fun h => by omega⟩
    · exact ⟨_, rfl, fun _ => rfl⟩
  obtain ⟨A, hA, hA2⟩ := hA0
  obtain ⟨W1, ha1, ha2, ha3⟩ := hap A (c - (i + 1)) hA2
  have hW1 : (cs.take (i * 2) ++ new).length = p * 2 := by rw [List.length_append, List.length_take, hl, hnl]; omega
  obtain ⟨W2, hb2, hb3, hb4⟩ := tm_clear (P := Tryz.prog) tab_ok (t := 79) (ty2 := 0) (u := .prod .str (.prod (.int .i64) .unit)) z23 (by rfl) (by decide) ha2 (p * 2) (L := n - p) (c := c - p) (by omega) (by show p * 2 + (n - p) * 2 ≤ c * 2; omega)
  have hAp : ((⟨b, off, none⟩ : Addr).add (p * 2)) = ⟨b, off + p * 2, none⟩ := Addr.add_lit _ _ _
  rw [hAp] at hb2
  have hpc : p ≤ c := by omega
  have hpc2 : ¬ (c = p) := by omega
  have hpn : p ≤ n := by omega
  clear hp hfc hap
  go_enter Tryz.func95, Tryz.ntmps95
  go_wp2_with fail
  go_region_law_o ((rw [if_pos (wanted_plain rfl)]); refine wp_app2 _ _ 79 79 rfl _ _ (by simp [Act.eval, Act.put]) (by simp [Act.eval, Act.put, hA]) _ _ ha1 ?_)
  go_wp2_with (at_builtin; refine wpList_plain rfl fun _ hK => wp_clear1 _ 79 rfl _ rfl _ _ hb2 (hK _ _ ?_))
  go_ret
  refine ⟨rfl, ?_, ?_⟩
  · have := hb3.cut (p * 2)
    unfold ovr at this
    rw [List.append_assoc, List.take_left' (by rw [List.length_take, hW1]; omega), List.take_of_length_le (by omega)] at this
    rw [← hnew]
    exact this
  · exact ⟨hb4.os.trans ha3.os, hb4.tape.trans ha3.tape, hb4.output.trans ha3.output, Nat.le_trans ha3.size hb4.size, fun x hx hy => (hb4.block x (Nat.lt_of_lt_of_le hx ha3.size) hy).trans (ha3.block x hx hy)⟩
end Go.Proofs.YtodkmhamaahjmaaGreatDoor
