/- For any seed and any script, of bulk at most 1048576 together, the law DrawSources answers true and leaves its arguments as they were. -/
import Derived.Test.YtfdmfihifjlidaaSrcWalk
import Derived.Test.YtfdmfihifjlidaaFrame
import Derived.Test.YtfdmfihifjlidaaBulk
import Derived.Deep.CondSized
import Derived.JoinedCond
namespace Go.Proofs.Ytfdmfihifjlidaa.drawSources
open Go.ChangeShapes Go.WideShapes Go.ChangeAt Go.RowKit
open Go.Tp
set_option linter.unusedVariables false
set_option maxRecDepth 100000
theorem sources (st : Int) (script : List OpT) (vv : Value) (none : Bool) (w : World) (hrd : Rd.SliceOf opE w vv script) (hw : ∀ o ∈ script, o.1.length ≤ 1048576) :
    Calls Try.prog 4 #[.int .u64 st, vv, .bool none] w fun e w' => e = .returned (.bool true) ∧ Below w.heap.size w w' := by
  cases none
  · exact run_live st script vv w hrd hw
  · exact run_nil st script vv w hrd hw
end Go.Proofs.Ytfdmfihifjlidaa.drawSources
