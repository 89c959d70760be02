/- Bodies that grow and are cut, in plain terms. -/
import Derived.Test.YthhjlbpmpffapaaGreatDoorPEdit
import Derived.Test.YthhjlbpmpffapaaGreatDoorLibRepeat
set_option maxRecDepth 10000
set_option linter.unusedSimpArgs false
set_option linter.unusedVariables false
namespace Go.Proofs.YthhjlbpmpffapaaGreatDoor
open Go.Tm Go.IntWalk
theorem bl_rep0 : ∀ n : Nat, bl (repB ⟨#[0]⟩ n) = List.replicate n 0
  | 0 => rfl
  | n + 1 => by
    rw [List.replicate_succ, ← bl_rep0 n]
    rfl
theorem back_bytes (s : ByteArray) : (bytesOf s).map (fun n => UInt8.ofNat n.toNat) = bl s := by
  have := congrArg bl (strOf_bytesOf s)
  rwa [bl_strOf] at this
theorem bl_longB (s : ByteArray) (n : Nat) : bl (longB s n) = (bl s).take n ++ List.replicate (n - s.size) 0 := by
  unfold longB over
  rw [bl_strOf, Int.toNat_natCast, List.take_zero, List.nil_append, List.map_append, List.map_take, back_bytes, List.drop_replicate, List.map_replicate, List.length_take, bytesOf_len]
  congr 1
  rw [show n - (0 + min n s.size) = n - s.size by omega]
  rfl
/-- A body of so many bytes at least. -/
def grownB (s : ByteArray) (n : Nat) : ByteArray := s ++ repB ⟨#[0]⟩ (n - s.size)
theorem bl_grown (s : ByteArray) (n : Nat) : bl (grownB s n) = bl s ++ List.replicate (n - s.size) 0 := by
  unfold grownB
  rw [bl_append, bl_rep0]
theorem grown_size (s : ByteArray) (n : Nat) : (grownB s n).size = max s.size n := by
  rw [bl_size, bl_grown, List.length_append, List.length_replicate, ← bl_size]; omega
theorem cut_long (s : ByteArray) (n : Nat) : (grownB s n).extract 0 n = longB s n := by
  apply bl_inj
  rw [bl_extract, bl_longB, bl_grown, List.drop_zero, Nat.sub_zero, List.take_append, ← bl_size]
  congr 1
  rw [List.take_of_length_le (by rw [List.length_replicate]; exact Nat.le_refl _)]
theorem write_long (s x : ByteArray) (off : Nat) : (grownB s (off + x.size)).extract 0 off ++ x ++ (grownB s (off + x.size)).extract (off + x.size) (grownB s (off + x.size)).size = writeB s off x := by
  have hN : writeN s off x = ((max s.size (off + x.size) : Nat) : Int) := by unfold writeN; split <;> omega
  apply bl_inj
  have hL : bl (longB s ((max s.size (off + x.size) : Nat) : Int)) = bl (grownB s (off + x.size)) := by
    rw [bl_longB, bl_grown, List.take_of_length_le (by rw [← bl_size]; omega)]
    congr 2
    omega
  have hLn : (bytesOf (longB s ((max s.size (off + x.size) : Nat) : Int))).length = max s.size (off + x.size) := by rw [bytesOf_len, longB_size]; omega
  unfold writeB over
  rw [hN, hLn, Int.toNat_natCast, List.take_of_length_le (l := bytesOf x) (by rw [bytesOf_len]; omega), bl_strOf, List.map_append, List.map_append, List.map_take, List.map_drop, back_bytes, back_bytes, hL, bl_append, bl_append, bl_extract, bl_extract, List.drop_zero, Nat.sub_zero, bytesOf_len]
  congr 1
  rw [List.take_of_length_le]
  rw [List.length_drop, ← bl_size]
  exact Nat.le_refl _
end Go.Proofs.YthhjlbpmpffapaaGreatDoor
