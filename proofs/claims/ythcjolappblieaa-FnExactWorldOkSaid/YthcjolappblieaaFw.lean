/- Is nobody at work; is a buffer being drained: both packages. -/
import Derived.Test.YthcjolappblieaaFb
import Derived.Test.YthcjolappblieaaMw
namespace Go.Proofs.Ythcjolappblieaa.Aw
open Go Go.RowKit
set_option linter.unusedVariables false
set_option linter.unusedSimpArgs false
set_option maxRecDepth 100000
set_option maxHeartbeats 1000000
end Go.Proofs.Ythcjolappblieaa.Aw
