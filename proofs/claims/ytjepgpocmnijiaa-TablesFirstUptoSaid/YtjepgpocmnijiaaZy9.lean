/- The walks of the document's Out and of Ordered. -/
import Derived.Test.YtjepgpocmnijiaaZy8
section

namespace Go.Proofs.Ytjepgpocmnijiaa
open Go.RowKit Go.Mp Go.Ck
set_option linter.unusedVariables false
set_option maxRecDepth 100000
set_option maxHeartbeats 4000000
end Go.Proofs.Ytjepgpocmnijiaa
end
