/- The reference's changes of bodies, walked. -/
import Derived.Test.YthhjlbpmpffapaaDoorRef6d
import Derived.Test.YthhjlbpmpffapaaDoorPEdit
set_option maxRecDepth 100000
set_option maxHeartbeats 1000000
set_option linter.unusedSimpArgs false
set_option linter.unusedVariables false
set_option pp.deepTerms.threshold 30
namespace Go.Proofs.YthhjlbpmpffapaaDoor
open Go.Tm Go.IntWalk
end Go.Proofs.YthhjlbpmpffapaaDoor
