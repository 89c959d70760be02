/- disk: there, last, Write: on the machine. -/
import Derived.Test.YtcopoofbicgjbaaDisk1
set_option maxRecDepth 100000
set_option maxHeartbeats 4000000
set_option linter.unusedSimpArgs false
set_option linter.unusedVariables false
set_option pp.deepTerms.threshold 20
namespace Go.Proofs.Ytcopoofbicgjbaa
open Go.Tm Go.IntWalk Go.RowKit
theorem there_calls (d : Dk) (hd : okD d) (i : Int) {w : World} {b cL cW : Nat} {AL AW : Option Addr} (hb : w.heap[b]? = some (.cells #[.slice AL d.1.length cL, .slice AW d.2.1.length cW, .int .i64 d.2.2.1, .bool d.2.2.2.1] 54)) :
    Calls Try.prog 27 #[.pointer (some ⟨b, 0, none⟩), .int .i64 i] w fun e w' => e = .returned (.bool (isK d i)) ∧ w' = w := by
  have mixed : Try.prog.follows .mixedOrders = true := by kernel_rfl
  obtain ⟨last, wait, arm, down, ⟨⟩⟩ := d
  simp only at hb
  obtain ⟨x0, x1, x2, x3, y0, y1, y2, y3, x4⟩ := box4 hb
  cases down with
  | true =>
    go_enter Try.func27, Try.ntmps27
    go_wp2_with fail
    go_ret
    exact ⟨rfl, rfl⟩
  | false =>
    by_cases hi : (0 : Int) ≤ i
    · go_enter Try.func27, Try.ntmps27
      go_wp2_with fail
      go_ret
      refine ⟨?_, rfl⟩
      rw [isK, show decide ((0 : Int) ≤ i) = true from decide_eq_true hi]
      rfl
    · go_enter Try.func27, Try.ntmps27
      go_wp2_with fail
      go_ret
      refine ⟨?_, rfl⟩
      rw [isK, show decide ((0 : Int) ≤ i) = false from decide_eq_false (by omega)]
      rfl
theorem mem_set {w : World} {b off n : Nat} {cs : List Value} (h : Mem w ⟨b, off, none⟩ n cs) (o : Nat) (v : Value) (ho : o ≤ cs.length) (hn : o < n) (hv : v.oneCell' = true) : Mem (w.setCell ⟨b, off + o, none⟩ v) ⟨b, off, none⟩ n (ovr cs o [v]) := by
  obtain ⟨w', r, m, _⟩ := h.store (P := Try.prog) o v ho hn hv
  obtain ⟨c1, c2⟩ := h.cell o hn
  obtain ⟨old, hold⟩ := Option.isSome_iff_exists.1 c1
  rw [Addr.add_lit, run_store _ _ _ _ _ hv, hold] at r
  simp [c2] at r
  rw [r]; exact m
theorem but_set {w w1 : World} {b o : Nat} {off : Nat} (h : But w (some ⟨b, off, none⟩) w1) (v : Value) : But w (some ⟨b, off, none⟩) (w1.setCell ⟨b, o, none⟩ v) :=
  ⟨h.os, h.tape, h.output, by rw [World.size_setCell]; exact h.size, fun x hx hy => (RowKit.Below.heap_setCell _ _ _ _ (show x ≠ b from fun e => hy _ rfl e.symm)).trans (h.block x hx hy)⟩
theorem putK_calls (d : Dk) (p : Pt) {w : World} {b c : Nat} {ad : Addr} {cs : List Value} {vW : Value} (hb : w.heap[b]? = some (.cells #[.slice (some ad) d.1.length c, vW, .int .i64 d.2.2.1, .bool d.2.2.2.1] 54))
    (hm : Mem w ad c cs) (hl : cs = d.1.map Value.string) (hc : d.1.length ≤ c) (hc2 : c ≤ maxLen) (hne : ad.block ≠ b) :
    Calls Try.prog 25 #[.pointer (some ⟨b, 0, none⟩), .agg #[.int .i64 p.1, .string p.2.1]] w fun e w' => e = .returned (.tuple #[]) ∧ Mem w' ad c ((putK d.1 p).map Value.string) ∧ But w (some ad) w' := by
  have mixed : Try.prog.follows .mixedOrders = true := by kernel_rfl
  obtain ⟨last, wait, arm, down, ⟨⟩⟩ := d
  obtain ⟨at', s, ⟨⟩⟩ := p
  obtain ⟨ab, ao, sp⟩ := ad
  obtain rfl : sp = none := hm.out.1
  simp only at hb hl hc hne ⊢
  obtain ⟨x0, x1, x2, x3, y0, y1, y2, y3, x4⟩ := box4 hb
  have hab : ab < w.heap.size := hm.block_lt
  have hbox : But w (some ⟨ab, ao, none⟩) (w.alloc (.cells #[.int .i64 at', .string s] 56)) := but_alloc _ _ _
  by_cases h1 : (0 : Int) ≤ at'
  · by_cases h2 : at' < (last.length : Int)
    · obtain ⟨k, rfl⟩ : ∃ k : Nat, at' = (k : Int) := ⟨at'.toNat, by omega⟩
      have hk : k < last.length := by omega
      have hcl : cs.length = last.length := by rw [hl, List.length_map]
      have hc63 : c ≤ 9223372036854775807 := hc2
      obtain ⟨z0, z1⟩ := hm.cell k (by omega)
      obtain ⟨old, z0⟩ := Option.isSome_iff_exists.1 z0
      go_enter Try.func25, Try.ntmps25
      go_wp2_with fail
      go_region_law_o fail
      all_goals go_wp2_with fail
      all_goals go_region_law_o fail
      all_goals go_wp2_with fail
      all_goals
        go_end0
        refine ⟨rfl, ?_, ?_⟩
        · have m1 := mem_set hm k (.string s) (by omega) (by omega) rfl
          have e1 : ovr cs k [Value.string s] = (putK last ((k : Int), s, ())).map Value.string := by
            rw [putK, if_pos ⟨by omega, by omega⟩, hl]
            unfold ovr
            rw [List.map_set, List.set_eq_take_append_cons_drop, if_pos (by rw [List.length_map]; omega), List.append_assoc]
            rfl
          rw [e1] at m1
          exact m1.move ((but_alloc _ _ none).block ab (by simp only [World.size_setCell]; exact hab) (fun _ h => by cases h))
        · exact ((but_set (But.refl w _) (.string s)).trans (but_alloc _ _ _)).trans ((but_drew _ _).trans (but_drew _ _))
    · go_enter Try.func25, Try.ntmps25
      go_wp2_with fail
      go_region_law_o fail
      all_goals go_wp2_with fail
      all_goals
        go_end0
        refine ⟨rfl, ?_, hbox.trans (but_drew _ _)⟩
        rw [putK, if_neg (fun h => by omega), ← hl]
        exact hm.move ((but_alloc _ _ none).block ab hab (fun _ h => by cases h))
  · obtain ⟨k, rfl⟩ : ∃ k : Nat, at' = Int.negSucc k := by
      cases at' with
      | ofNat k => exact absurd (Int.natCast_nonneg k) h1
      | negSucc k => exact ⟨k, rfl⟩
    go_enter Try.func25, Try.ntmps25
    go_wp2_with fail
    first | go_region_law_o fail | fail
    all_goals go_wp2_with fail
    all_goals
      go_end0
      refine ⟨rfl, ?_, hbox.trans (but_drew _ _)⟩
      rw [putK, if_neg (fun h => by omega), ← hl]
      exact hm.move ((but_alloc _ _ none).block ab hab (fun _ h => by cases h))
theorem putN_calls (out : List ByteArray) (arm : Int) (down : Bool) (p : Pt) (h0 : out.length = 0) {w : World} {b c : Nat} {vW : Value} (hb : w.heap[b]? = some (.cells #[.slice none 0 c, vW, .int .i64 arm, .bool down] 54)) :
    Calls Try.prog 25 #[.pointer (some ⟨b, 0, none⟩), .agg #[.int .i64 p.1, .string p.2.1]] w fun e w' => e = .returned (.tuple #[]) ∧ But w none w' := by
  have mixed : Try.prog.follows .mixedOrders = true := by kernel_rfl
  obtain ⟨at', s, ⟨⟩⟩ := p
  simp only
  obtain ⟨x0, x1, x2, x3, y0, y1, y2, y3, x4⟩ := box4 hb
  have hbox : But w none (w.alloc (.cells #[.int .i64 at', .string s] 56)) := but_alloc _ _ _
  by_cases h1 : (0 : Int) ≤ at'
  · have h2 : ¬ at' < (0 : Int) := by omega
    go_enter Try.func25, Try.ntmps25
    go_wp2_with fail
    go_region_law_o fail
    all_goals go_wp2_with fail
    all_goals
      go_end0
      exact ⟨rfl, hbox.trans (but_drew _ _)⟩
  · obtain ⟨k, rfl⟩ : ∃ k : Nat, at' = Int.negSucc k := by
      cases at' with
      | ofNat k => exact absurd (Int.natCast_nonneg k) h1
      | negSucc k => exact ⟨k, rfl⟩
    go_enter Try.func25, Try.ntmps25
    go_wp2_with fail
    first | go_region_law_o fail | fail
    all_goals go_wp2_with fail
    all_goals
      go_end0
      exact ⟨rfl, hbox.trans (but_drew _ _)⟩
theorem reps_str {w : World} {R : Nat → Prop} : ∀ {xs : List ByteArray} {cs : List Value}, repList (rep w R .str) xs cs → cs = xs.map Value.string
  | [], _, h => h
  | x :: xs, _, ⟨c1, c2, e, h1, h2⟩ => by
    have h1 : c1 = [.string x] := h1
    have h2 := reps_str h2
    rw [e, h1, h2]; rfl
theorem strs_rep {w : World} {R : Nat → Prop} : ∀ (xs : List ByteArray), repList (rep w R .str) xs (xs.map Value.string)
  | [] => rfl
  | x :: xs => ⟨[.string x], xs.map Value.string, rfl, rfl, strs_rep xs⟩
theorem putF_calls (out : List ByteArray) (n : Nat) (arm : Int) (down : Bool) (p : Pt) (hn : n = out.length) {w0 w : World} {b c : Nat} {AL : Option Addr} {cs : List Value} {vW : Value} (hb : w.heap[b]? = some (.cells #[.slice AL n c, vW, .int .i64 arm, .bool down] 54))
    (h : FreshP w0 w .str out AL c cs) (hne : ∀ ad, AL = some ad → ad.block ≠ b) :
    Calls Try.prog 25 #[.pointer (some ⟨b, 0, none⟩), .agg #[.int .i64 p.1, .string p.2.1]] w fun e w' => e = .returned (.tuple #[]) ∧ FreshP w0 w' .str (putK out p) AL c ((putK out p).map Value.string) ∧ But w AL w' := by
  subst hn
  obtain ⟨h2, h3, h4, h5, h6, h7⟩ := h
  obtain rfl := reps_str (h6 w (fun _ => True))
  rcases h7 with ⟨rfl, rfl⟩ | ⟨ad, rfl, hm, hg⟩
  · obtain rfl : out = [] := List.eq_nil_of_length_eq_zero (by omega)
    refine (putN_calls [] arm down p rfl hb).mono ?_
    rintro e w' ⟨rfl, hb'⟩
    have e0 : putK [] p = [] := by
      unfold putK
      rw [if_neg (fun h => by simp at h; omega)]
    rw [e0]
    exact ⟨rfl, ⟨h2, h3, h4, h5, h6, .inl ⟨rfl, rfl⟩⟩, hb'⟩
  · have hm : Mem w ad c (out.map Value.string) := by
      have := hm
      rwa [show c * Ty.str.sz = c from Nat.mul_one c] at this
    refine (putK_calls (out, [], arm, down, ()) p (ad := ad) (c := c) hb hm rfl h2 h3 (hne ad rfl)).mono ?_
    rintro e w' ⟨rfl, hm', hb'⟩
    refine ⟨rfl, ⟨by rw [putK_len]; exact h2, h3, by rw [List.length_map, putK_len]; exact (Nat.mul_one _).symm, fun v hv => ?_, fun w R => strs_rep _, .inr ⟨ad, rfl, by rw [show c * Ty.str.sz = c from Nat.mul_one c]; exact hm', hg⟩⟩, hb'⟩
    obtain ⟨s, _, rfl⟩ := List.mem_map.1 hv
    rfl
end Go.Proofs.Ytcopoofbicgjbaa
