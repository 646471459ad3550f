/- The document's examples hold. -/
import Derived.Test.YtbclepldghjacaaGreatA4
set_option linter.unusedVariables false
set_option linter.unusedSimpArgs false
namespace Go.Ab
open Go.Proofs
set_option maxRecDepth 100000
set_option maxHeartbeats 1000000
theorem awake_spec:CallsF Tryz.prog 6 [] (.bool true):=callsF_boolW good (ov:=ovL) ovL_ok 40 (by kernel_rfl)
end Go.Ab
