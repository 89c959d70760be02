/- Disks, in plain terms. -/
import Derived.Test.YtcopoofbicgjbaaPBase
import Derived.Test.YtcopoofbicgjbaaPStr
set_option maxRecDepth 10000
set_option linter.unusedSimpArgs false
set_option linter.unusedVariables false
namespace Go.Proofs.Ytcopoofbicgjbaa
open Go.Tm Go.IntWalk
abbrev PutT : Ty := .prod (.int .i64) (.prod .str .unit)
abbrev Pt : Type := Int × ByteArray × Unit
abbrev DkT : Ty := .prod (.slice .str) (.prod (.slice PutT) (.prod (.int .i64) (.prod .bool .unit)))
abbrev Dk : Type := List ByteArray × List Pt × Int × Bool × Unit
def nought64 : ByteArray := ⟨(List.replicate 64 (0 : UInt8)).toArray⟩
/-- Is there such a block, and power? -/
def isK (d : Dk) (i : Int) : Bool := !d.2.2.2.1 && decide (0 ≤ i) && decide (i < (d.1.length : Int))
def dfltP : Pt := (0, no, ())
/-- What of the first of some writes was written last to a block. -/
def lastN (l : List Pt) (i : Int) : Nat → Option ByteArray
  | 0 => none
  | k + 1 => if (l.getD k dfltP).1 == i then some (l.getD k dfltP).2.1 else lastN l i k
def lastW (l : List Pt) (i : Int) : Option ByteArray := lastN l i l.length
theorem lastN_prefix (l m : List Pt) (i : Int) : ∀ k, k ≤ l.length → lastN (l ++ m) i k = lastN l i k
  | 0, _ => rfl
  | k + 1, h => by
    have e : (l ++ m).getD k dfltP = l.getD k dfltP := by
      rw [List.getD_eq_getElem?_getD, List.getD_eq_getElem?_getD, List.getElem?_append_left (by omega)]
    rw [lastN, lastN, e, lastN_prefix l m i k (by omega)]
theorem lastW_more (l : List Pt) (p : Pt) (i : Int) : lastW (l ++ [p]) i = if p.1 == i then some p.2.1 else lastW l i := by
  have e : (l ++ [p]).getD l.length dfltP = p := by
    rw [List.getD_eq_getElem?_getD, List.getElem?_append_right (Nat.le_refl _), Nat.sub_self]; rfl
  rw [lastW, List.length_append, List.length_singleton, lastN, e, lastN_prefix l [p] i l.length (Nat.le_refl _)]
  rfl
def readK (d : Dk) (i : Int) : ByteArray × Bool := if isK d i = true then ((lastW d.2.1 i).getD (d.1.getD i.toNat no), true) else (no, false)
def armK (d : Dk) : Int × Bool := if 0 < d.2.2.1 then (d.2.2.1 - 1, decide (d.2.2.1 - 1 = 0)) else (d.2.2.1, d.2.2.2.1)
def writeK (d : Dk) (i : Int) (b : ByteArray) : Dk × Bool :=
  if isK d i = true ∧ b.size = 64 then ((d.1, d.2.1 ++ [(i, b, ())], (armK d).1, (armK d).2, ()), !(armK d).2) else (d, false)
def putK (out : List ByteArray) (p : Pt) : List ByteArray := if 0 ≤ p.1 ∧ p.1 < (out.length : Int) then out.set p.1.toNat p.2.1 else out
/-- Some writes last. -/
def lastsK (keep : Nat → Bool) : Nat → List Pt → List ByteArray → List ByteArray
  | _, [], out => out
  | k, p :: r, out => lastsK keep (k + 1) r (if keep k = true then putK out p else out)
theorem putK_len (out : List ByteArray) (p : Pt) : (putK out p).length = out.length := by
  unfold putK; split
  · rw [List.length_set]
  · rfl
theorem lastsK_len (keep : Nat → Bool) : ∀ (l : List Pt) (k : Nat) (out : List ByteArray), (lastsK keep k l out).length = out.length
  | [], _, _ => rfl
  | p :: r, k, out => by
    rw [lastsK, lastsK_len keep r]
    split
    · exact putK_len _ _
    · rfl
theorem lastsK_append (keep : Nat → Bool) : ∀ (l m : List Pt) (k : Nat) (out : List ByteArray), lastsK keep k (l ++ m) out = lastsK keep (k + l.length) m (lastsK keep k l out)
  | [], m, k, out => rfl
  | p :: r, m, k, out => by
    rw [List.cons_append, lastsK, lastsK_append keep r, lastsK, List.length_cons]
    congr 1
    omega
def keepL (keep : List Bool) (k : Nat) : Bool := keep.getD k false
def flushK (d : Dk) : Dk × Bool := if d.2.2.2.1 = true then (d, false) else ((lastsK (fun _ => true) 0 d.2.1 d.1, [], d.2.2.1, d.2.2.2.1, ()), true)
def crashK (d : Dk) (keep : List Bool) : Dk := (lastsK (keepL keep) 0 d.2.1 d.1, [], 0, false, ())
def newK (n : Int) : Dk := if n < 1 ∨ 770 < n then ([], [], 0, false, ()) else (List.replicate n.toNat nought64, [], 0, false, ())
/-- Of no great size. -/
def okD (d : Dk) : Prop := d.1.length ≤ 1000 ∧ d.2.1.length ≤ 1000 ∧ -1000 ≤ d.2.2.1 ∧ d.2.2.1 ≤ 1000
instance (d : Dk) : Decidable (okD d) := inferInstanceAs (Decidable (_ ∧ _ ∧ _ ∧ _))
end Go.Proofs.Ytcopoofbicgjbaa
