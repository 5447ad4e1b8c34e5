/- The walk of the document's Depths. -/
import Derived.Test.YtjepgpocmnijiaaZy13
section

namespace Go.Ck
set_option linter.unusedVariables false
/-- Each split is the first of its name. -/
def Uniq (l : List Res) : Prop := ∀ (i : Nat) (r : Res), l[i]? = some r → r.kind = 2 → tgtsOf l r.name = r.tgts
end Go.Ck
namespace Go.Proofs.Ytjepgpocmnijiaa
open Go.RowKit Go.Mp Go.Ck
set_option linter.unusedVariables false
set_option maxRecDepth 100000
set_option maxHeartbeats 4000000
end Go.Proofs.Ytjepgpocmnijiaa
end
