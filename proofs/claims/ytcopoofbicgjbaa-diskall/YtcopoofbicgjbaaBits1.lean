/- bits: numbers and texts as bytes, walked. -/
import Derived.Test.YtcopoofbicgjbaaTab
import Derived.Test.YtcopoofbicgjbaaPBits
set_option maxRecDepth 10000
set_option linter.unusedSimpArgs false
set_option linter.unusedVariables false
set_option pp.deepTerms.threshold 16
namespace Go.Proofs.Ytcopoofbicgjbaa
open Go.Tm Go.IntWalk

abbrev room : Nat := 140737488355328

def byteN (x : Int) (k : Nat) : Int := IntKind.u8.wrap (x.fdiv (2 ^ (8 * k)))
def bytesN (n : Nat) (x : Int) : List Int := (List.range n).map (byteN x)
theorem bytesN_succ (n : Nat) (x : Int) : bytesN (n + 1) x = bytesN n x ++ [byteN x n] := by simp [bytesN, List.range_succ]
theorem bytesN_len (n : Nat) (x : Int) : (bytesN n x).length = n := by simp [bytesN]
def putS (b : List Int) (n : Int) (l : List Int) : List Int := if n < 1 ∨ 4 < n then b else b ++ l.flatMap (bytesN n.toNat)

def orN (b : List Int) : Nat → Int
  | 0 => 0
  | k + 1 => Tm.bits .or .i64 (orN b k) (IntKind.i64.wrap (IntKind.i64.wrap (b.getD k 0) * 2 ^ (8 * k)))
def takeS (b : List Int) (n : Int) : Int × Bool := if (n < 1 ∨ 4 < n) ∨ (b.length : Int) < n then (0, false) else (orN b n.toNat, true)

def textS (b : List Int) (s : ByteArray) : List Int := if 255 < s.size then b else b ++ IntKind.u8.wrap (s.size : Int) :: bytesOf s

def takeTextS (b : List Int) : ByteArray × Int × Bool :=
  if b.length = 0 ∨ (b.length : Int) ≤ IntKind.i64.wrap (b.getD 0 0) then (⟨#[]⟩, 0, false) else
  (strOf ((b.drop 1).take (b.getD 0 0).toNat), 1 + b.getD 0 0, true)
end Go.Proofs.Ytcopoofbicgjbaa
