/- The walk of the program's Same: targets, and the whole. -/
import Derived.Test.YtjepgpocmnijiaaZy25
section

namespace Go.Proofs.Ytjepgpocmnijiaa
open Go.RowKit Go.Mp Go.Ck
set_option linter.unusedVariables false
set_option maxRecDepth 100000
set_option maxHeartbeats 8000000
end Go.Proofs.Ytjepgpocmnijiaa
end
