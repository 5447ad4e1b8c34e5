/- The walk of the document's Folded: a host, folded byte by byte into a list that grows. -/
import Derived.Test.YtjepgpocmnijiaaZy20
section

namespace Go.Proofs.Ytjepgpocmnijiaa
open Go.ChangeShapes Go.WideShapes Go.ChangeAt Go.RowKit
open Go.Pa
set_option linter.unusedVariables false
set_option maxRecDepth 100000

end Go.Proofs.Ytjepgpocmnijiaa
end
