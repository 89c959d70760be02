/- ops: what is put is taken. -/
import Derived.Test.YtmcemcdjfodchaaOps7
set_option maxRecDepth 10000
set_option maxHeartbeats 4000000
set_option linter.unusedSimpArgs false
set_option linter.unusedVariables false
namespace Go.Proofs.Ytmcemcdjfodchaa
open Go.Tm Go.IntWalk
structure ValidS (s : Step) : Prop where mk ::
  kind : 1 ≤ s.1 ∧ s.1 ≤ 20
  v : 0 ≤ s.2.1 ∧ s.2.1 ≤ 1
  id : 0 ≤ s.2.2.1 ∧ s.2.2.1 ≤ 255
  id0 : s.1 = 8 ∨ s.1 = 9 ∨ s.1 = 10 ∨ s.1 = 13 ∨ s.1 = 14 ∨ s.1 = 16 ∨ s.2.2.1 = 0
  mode : 0 ≤ s.2.2.2.1 ∧ s.2.2.2.1 ≤ 255
  mode0 : s.1 = 1 ∨ s.1 = 7 ∨ s.2.2.2.1 = 0
  off : 0 ≤ s.2.2.2.2.1 ∧ s.2.2.2.2.1 ≤ 65535
  off1 : s.1 = 16 ∨ s.1 = 19 → s.2.2.2.2.1 ≤ 255
  off0 : s.1 = 5 ∨ s.1 = 6 ∨ s.1 = 17 ∨ s.1 = 16 ∨ s.1 = 19 ∨ s.2.2.2.2.1 = 0
  path : s.2.2.2.2.2.1.size ≤ 255
  path0 : s.1 ≤ 10 ∨ s.2.2.2.2.2.1 = no
  to : s.2.2.2.2.2.2.1.size ≤ 255
  to0 : s.1 = 2 ∨ s.1 = 4 ∨ s.2.2.2.2.2.2.1 = no
  text : s.2.2.2.2.2.2.2.1.size ≤ 255
  text0 : s.1 = 5 ∨ s.2.2.2.2.2.2.2.1 = no
  keep : s.2.2.2.2.2.2.2.2.1.length ≤ 40
  keep0 : s.1 = 20 ∨ s.2.2.2.2.2.2.2.2.1 = []
theorem ValidS.sz {s : Step} (h : ValidS s) : okSz s := ⟨Nat.le_trans h.path (by decide), Nat.le_trans h.to (by decide), Nat.le_trans h.text (by decide), Nat.le_trans h.keep (by decide)⟩
def txtB (s : ByteArray) : List Int := (s.size : Int) :: bytesOf s
/-- The bytes of a step behind its kind. -/
def putT (s : Step) : List Int :=
  s.2.1 :: ((if s.1 ≤ 10 then txtB s.2.2.2.2.2.1 else []) ++
    (if s.1 = 1 ∨ s.1 = 7 then [s.2.2.2.1]
    else if s.1 = 2 ∨ s.1 = 4 then txtB s.2.2.2.2.2.2.1
    else if s.1 = 5 then bytesN 2 s.2.2.2.2.1 ++ txtB s.2.2.2.2.2.2.2.1
    else if s.1 = 6 ∨ s.1 = 17 then bytesN 2 s.2.2.2.2.1
    else if s.1 = 8 ∨ s.1 = 9 ∨ s.1 = 10 ∨ s.1 = 13 ∨ s.1 = 14 then [s.2.2.1]
    else if s.1 = 16 then [s.2.2.1, s.2.2.2.2.1]
    else if s.1 = 19 then [s.2.2.2.2.1]
    else if s.1 = 20 then (s.2.2.2.2.2.2.2.2.1.length : Int) :: s.2.2.2.2.2.2.2.2.1.map bitI
    else []))
theorem putS_1 {b : List Int} {x : Int} (h0 : 0 ≤ x) (h1 : x ≤ 255) (l : List Int) : putS b 1 (x :: l) = putS (b ++ [x]) 1 l := by
  have e : bytesN 1 x = [x] := by
    obtain ⟨u, rfl⟩ := Int.eq_ofNat_of_zero_le h0
    rw [bytesN_nat, leB_succ]
    simp only [leB, ints, List.range_zero, List.map_nil, List.nil_append, List.map_cons]
    rw [show u / 256 ^ 0 % 256 = u by omega]
  unfold putS
  rw [if_neg (by decide), if_neg (by decide), List.flatMap_cons, show (1 : Int).toNat = 1 from rfl, e, List.append_assoc]
theorem putS_0 {b : List Int} : putS b 1 [] = b := by
  unfold putS
  rw [if_neg (by decide)]
  simp
theorem putS_2 {b : List Int} {x : Int} : putS b 2 [x] = b ++ bytesN 2 x := by
  unfold putS
  rw [if_neg (by decide)]
  simp
theorem textS_1 {b : List Int} {s : ByteArray} (h : s.size ≤ 255) : textS b s = b ++ txtB s := textS_small h b
theorem keepB_eq : ∀ (l : List Bool) (b : List Int), keepB b l = b ++ l.map bitI
  | [], b => by simp [keepB]
  | x :: l, b => by
    have hx : 0 ≤ bitI x ∧ bitI x ≤ 255 := by unfold bitI; split <;> decide
    rw [keepB, putS_1 hx.1 hx.2, putS_0, keepB_eq l]
    simp
theorem put_eq {s : Step} (h : ValidS s) : putO s = s.1 :: putT s := by
  obtain ⟨k, v, id, mo, off, path, to, txt, keep, un⟩ := s
  obtain ⟨kind, hv, hid, id0, hmo, mode0, hof, off1, off0, hpa, path0, hto, to0, htx, text0, hke, keep0⟩ := h
  simp only at kind hv hid id0 hmo mode0 hof off1 off0 hpa path0 hto to0 htx text0 hke keep0
  have hv1 : v ≤ 255 := by omega
  have hk : k = 1 ∨ k = 2 ∨ k = 3 ∨ k = 4 ∨ k = 5 ∨ k = 6 ∨ k = 7 ∨ k = 8 ∨ k = 9 ∨ k = 10 ∨ k = 11 ∨ k = 12 ∨ k = 13 ∨ k = 14 ∨ k = 15 ∨ k = 16 ∨ k = 17 ∨ k = 18 ∨ k = 19 ∨ k = 20 := by omega
  clear id0 mode0 off0 path0 to0 text0 keep0
  have kl : (keep.length : Int) ≤ 255 := by omega
  rcases hk with rfl | rfl | rfl | rfl | rfl | rfl | rfl | rfl | rfl | rfl | rfl | rfl | rfl | rfl | rfl | rfl | rfl | rfl | rfl | rfl
  all_goals
    try simp at off1
    simp [putO, putT, putS_1, putS_0, putS_2, textS_1, keepB_eq, *]
end Go.Proofs.Ytmcemcdjfodchaa
