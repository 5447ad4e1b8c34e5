/- The walk of the document's Same, and of Lists. -/
import Derived.Test.YtjepgpocmnijiaaZy13
section

namespace Go.Ck
open Go.RowKit
set_option linter.unusedVariables false
def eqF (x y : Nat) : Bool := FloatKind.f64.format.order x y == some .eq
def sameW (x y : Nat) : Bool := eqF x y || !(eqF x x || eqF y y)
def sameT (x y : Tgt) : Bool := seq x.service y.service && (seq x.split y.split && sameW x.weight y.weight)
def sameU (x y : Rul) : Bool := seq x.path y.path && (seq x.method y.method && (seq x.split y.split && (x.allow == y.allow)))
def allIx {α : Type} (p : α → α → Bool) (a b : List α) (i : Nat) : Bool := match a[i]?, b[i]? with
  | some x, some y => p x y
  | _, _ => true
def eqL {α : Type} (p : α → α → Bool) (a b : List α) : Bool := a.length == b.length && (List.range a.length).all (allIx p a b)
def sameR (a b : Res) : Bool := isK b.kind b.name a && (seq a.host b.host && (seq a.route b.route && ((a.del == b.del) && (eqL seq a.eps b.eps && (eqL sameT a.tgts b.tgts && eqL sameU a.rules b.rules)))))
end Go.Ck
namespace Go.Proofs.Ytjepgpocmnijiaa
open Go.RowKit Go.Mp Go.Ck
set_option linter.unusedVariables false
set_option maxRecDepth 100000
set_option maxHeartbeats 4000000
end Go.Proofs.Ytjepgpocmnijiaa
end
