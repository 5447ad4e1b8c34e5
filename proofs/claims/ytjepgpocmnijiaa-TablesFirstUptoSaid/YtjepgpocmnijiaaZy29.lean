/- The walk of copied. -/
import Derived.Test.YtjepgpocmnijiaaZy28
section

namespace Go.Proofs.Ytjepgpocmnijiaa
open Go.RowKit Go.Mp Go.Ck
set_option linter.unusedVariables false
set_option maxRecDepth 100000
set_option maxHeartbeats 4000000
/-- A resource as it lies, with its lists' values. -/
def Rw.rv (x : Rw) : RV := ⟨x.r, .slice x.eo x.r.eps.length x.ec, .slice x.ta x.r.tgts.length x.tc, .slice x.ra x.r.rules.length x.rc⟩
theorem set1 {w : World} {b T i : Nat} {cs ds : Array Value} {v : Value} (h : w.heap[b]? = some (.cells cs T (0, 0))) (e : cs.setIfInBounds i v = ds) : (w.setCell ⟨b, i, none⟩ v).heap[b]? = some (.cells ds T (0, 0)) := by rw [← e]; exact box_set h
end Go.Proofs.Ytjepgpocmnijiaa
end
