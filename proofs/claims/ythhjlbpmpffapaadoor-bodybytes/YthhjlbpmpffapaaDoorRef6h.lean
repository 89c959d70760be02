/- The reference's looks at bodies, walked. -/
import Derived.Test.YthhjlbpmpffapaaDoorRef6e
set_option maxRecDepth 100000
set_option maxHeartbeats 1000000
set_option linter.unusedSimpArgs false
set_option linter.unusedVariables false
set_option pp.deepTerms.threshold 30
namespace Go.Proofs.YthhjlbpmpffapaaDoor
open Go.Tm Go.IntWalk
abbrev StatT : Ty := .prod (.int .i64) (.prod (.int .i64) (.prod (.int .i64) (.prod (.int .i64) (.prod (.int .i64) .unit))))
def readT (t : List Node) (p : ByteArray) (own : Bool) : ByteArray × Int := if (fileT t p own).2 ≠ 0 then (no, (fileT t p own).2) else (bodyT t (fileT t p own).1, 0)
def statT (t : List Node) (p : ByteArray) (own : Bool) : (Int × Int × Int × Int × Int × Unit) × Int :=
  if (findT t p own).2 ≠ 0 then ((0, 0, 0, 0, 0, ()), (findT t p own).2) else
  (((findT t p own).1, kindT t (findT t p own).1, (nodeT t (findT t p own).1).2.1, linksT t (findT t p own).1, ((bodyT t (findT t p own).1).size : Int), ()), 0)
def listT (t : List Node) (p : ByteArray) (own : Bool) : List Ent × Int :=
  if (findT t p own).2 ≠ 0 then ([], (findT t p own).2) else if kindT t (findT t p own).1 ≠ 2 then ([], 5) else (namesT t (findT t p own).1, 0)
end Go.Proofs.YthhjlbpmpffapaaDoor
