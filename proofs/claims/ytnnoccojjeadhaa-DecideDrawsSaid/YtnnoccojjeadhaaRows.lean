/-
  No cell of these rows narrows 'for every input' (looked for: loops, veiled, ifaces, maps, wideKeys, modest, calm, conditions, laid).
  DERIVED. THE GIVEN ROWS OF THIS SEAT. 3 by the template 'for every input the law returns true; each argument reads behind the call as it read before'; 0 by the template 'total and deterministic' (their statements: YtnnoccojjeadhaaTotals.lean).
  GIVEN WITH THE SEED: the statements are not yours to turn. If you find one false, say at which input.
  Laid BY PROGRAM, IN A SANDBOX (cutbox-rows.mjs): the forced cells as the released guide's own fill.sh prints them over the translation 324c804624cd37af… (all of the seat's roots in one cut). By AI agents, Wed Nov 11 2026. No macro, syntax, notation, axiom, sorry.
-/
import Derived.Test.YtnnoccojjeadhaaChecked
import GoSem.Claim
import GoSem.ClaimJoined
import GoSem.ClaimMapViews
import Derived.JoinedTies
import Derived.KernelRfl
namespace Go.Proofs.Ytnnoccojjeadhaa
/- THE CELL 'sum', in the pinned program and in every row, IS THE sha256 OF THE DUMP (.gsa) THAT YtnnoccojjeadhaaProg.lean LOADS. Nothing in Lean hashes anything: it is a label: what it is worth is what the hold of that sum in a sandbox is worth. -/
noncomputable def Try.pinned : Pinned := { name := "ytnnoccojjeadhaa", sum := "324c804624cd37af5220491bbd650ead42ae4ffceba7e6033c3d8e35b5a981e3", checked := Try.checked }
namespace Rows
def none {H : Type} : Left H := { results := [], args := [] }

/-- 'turnpikelaw16.DecideSteps': WHATEVER THE INPUT: true; the input reads as it did. -/
def decideStepsSpec : ChangeSpec := { name := "decideSteps", fn := fun _ => fun
  | [d1, d2] => { results := [.lit (.bool true)], args := [d1, d2] }
  | _ => none }
def decideStepsRow : OpenClaim := { program := "ytnnoccojjeadhaa", sum := "324c804624cd37af5220491bbd650ead42ae4ffceba7e6033c3d8e35b5a981e3", func := "turnpike/turnpikelaw16.DecideSteps", spec := "decideSteps", unfollowed := true, recurses := true, apart := false }
def DecideStepsSaid : Prop := decideStepsRow.holds Try.pinned (OpenSpec.ofChange decideStepsSpec)

/-- ITS FALSE NEIGHBOUR: 'it returns false'. Refute it at one input. -/
def decideStepsWrong : ChangeSpec := { name := "decideSteps", fn := fun _ => fun
  | [d1, d2] => { results := [.lit (.bool false)], args := [d1, d2] }
  | _ => none }
def DecideStepsWrongFalsely : Prop := decideStepsRow.holds Try.pinned (OpenSpec.ofChange decideStepsWrong)

/-- 'turnpikelaw16.DecideDenied': WHATEVER THE INPUT: true; the input reads as it did. -/
def decideDeniedSpec : ChangeSpec := { name := "decideDenied", fn := fun _ => fun
  | [d1, d2, d3, d4, d5] => { results := [.lit (.bool true)], args := [d1, d2, d3, d4, d5] }
  | _ => none }
def decideDeniedRow : OpenClaim := { program := "ytnnoccojjeadhaa", sum := "324c804624cd37af5220491bbd650ead42ae4ffceba7e6033c3d8e35b5a981e3", func := "turnpike/turnpikelaw16.DecideDenied", spec := "decideDenied", unfollowed := true, recurses := true, apart := false }
def DecideDeniedSaid : Prop := decideDeniedRow.holds Try.pinned (OpenSpec.ofChange decideDeniedSpec)

/-- ITS FALSE NEIGHBOUR: 'it returns false'. Refute it at one input. -/
def decideDeniedWrong : ChangeSpec := { name := "decideDenied", fn := fun _ => fun
  | [d1, d2, d3, d4, d5] => { results := [.lit (.bool false)], args := [d1, d2, d3, d4, d5] }
  | _ => none }
def DecideDeniedWrongFalsely : Prop := decideDeniedRow.holds Try.pinned (OpenSpec.ofChange decideDeniedWrong)

/-- 'turnpikelaw16.DecideDraws': WHATEVER THE INPUT: true; the input reads as it did. -/
def decideDrawsSpec : ChangeSpec := { name := "decideDraws", fn := fun _ => fun
  | [d1, d2, d3, d4] => { results := [.lit (.bool true)], args := [d1, d2, d3, d4] }
  | _ => none }
def decideDrawsRow : OpenClaim := { program := "ytnnoccojjeadhaa", sum := "324c804624cd37af5220491bbd650ead42ae4ffceba7e6033c3d8e35b5a981e3", func := "turnpike/turnpikelaw16.DecideDraws", spec := "decideDraws", unfollowed := true, recurses := true, apart := false }
def DecideDrawsSaid : Prop := decideDrawsRow.holds Try.pinned (OpenSpec.ofChange decideDrawsSpec)

/-- ITS FALSE NEIGHBOUR: 'it returns false'. Refute it at one input. -/
def decideDrawsWrong : ChangeSpec := { name := "decideDraws", fn := fun _ => fun
  | [d1, d2, d3, d4] => { results := [.lit (.bool false)], args := [d1, d2, d3, d4] }
  | _ => none }
def DecideDrawsWrongFalsely : Prop := decideDrawsRow.holds Try.pinned (OpenSpec.ofChange decideDrawsWrong)

/- THE SECOND FORM. 'bulk': how many values and letters a reading holds, each counted each time it is reached (what is shared counts as often as it is met; a slice's spare places count too). A statement '..UptoSaid' is the law's where the arguments, and the package variables that the reading takes, are together of bulk at most 1048576: NARROWER than '..Said'. Prove '..Said' where nothing that the law and all that it calls make is longer than what came in: it says more and counts as full. Else prove '..UptoSaid'. A law counts once. -/
mutual
def uptoBulk {H : Type} : DataW H → Nat
  | .lit (.string bytes) => bytes.length + 1
  | .lit _ => 1
  | .nil => 1
  | .ptr d => uptoBulk d + 1
  | .slice elems spare => uptoBulkAll elems + uptoBulkAll spare + 1
  | .agg parts => uptoBulkAll parts + 1
  | .iface _ d => uptoBulk d + 1
  | .map entries => uptoBulkEntries entries + 1
  | .held _ => 1
def uptoBulkAll {H : Type} : List (DataW H) → Nat
  | [] => 0
  | d :: r => uptoBulk d + uptoBulkAll r
def uptoBulkEntries {H : Type} : List (Lit × DataW H) → Nat
  | [] => 0
  | x :: r => uptoBulkEntry x + uptoBulkEntries r
def uptoBulkEntry {H : Type} : Lit × DataW H → Nat
  | (.string bytes, d) => bytes.length + uptoBulk d + 1
  | (_, d) => uptoBulk d + 1
 end
def uptoSmall : (H : Type) → List (DataW H) → Bool := fun _ ds => decide (uptoBulkAll ds ≤ 1048576)
def OpenSpec.upto (s : _root_.Go.ChangeSpec) : _root_.Go.OpenSpec := { _root_.Go.OpenSpec.ofChange s with cond := some uptoSmall }

/-- 'turnpikelaw16.DecideSteps', WHERE WHAT IT READS IS OF BULK AT MOST 1048576: true; the input reads as it did. -/
def decideStepsUptoRow : OpenClaim := { program := "ytnnoccojjeadhaa", sum := "324c804624cd37af5220491bbd650ead42ae4ffceba7e6033c3d8e35b5a981e3", func := "turnpike/turnpikelaw16.DecideSteps", spec := "decideSteps", unfollowed := true, recurses := true, apart := false, narrowed := true }
def DecideStepsUptoSaid : Prop := decideStepsUptoRow.holds Try.pinned (OpenSpec.upto decideStepsSpec)

/-- 'turnpikelaw16.DecideDenied', WHERE WHAT IT READS IS OF BULK AT MOST 1048576: true; the input reads as it did. -/
def decideDeniedUptoRow : OpenClaim := { program := "ytnnoccojjeadhaa", sum := "324c804624cd37af5220491bbd650ead42ae4ffceba7e6033c3d8e35b5a981e3", func := "turnpike/turnpikelaw16.DecideDenied", spec := "decideDenied", unfollowed := true, recurses := true, apart := false, narrowed := true }
def DecideDeniedUptoSaid : Prop := decideDeniedUptoRow.holds Try.pinned (OpenSpec.upto decideDeniedSpec)

/-- 'turnpikelaw16.DecideDraws', WHERE WHAT IT READS IS OF BULK AT MOST 1048576: true; the input reads as it did. -/
def decideDrawsUptoRow : OpenClaim := { program := "ytnnoccojjeadhaa", sum := "324c804624cd37af5220491bbd650ead42ae4ffceba7e6033c3d8e35b5a981e3", func := "turnpike/turnpikelaw16.DecideDraws", spec := "decideDraws", unfollowed := true, recurses := true, apart := false, narrowed := true }
def DecideDrawsUptoSaid : Prop := decideDrawsUptoRow.holds Try.pinned (OpenSpec.upto decideDrawsSpec)

end Rows
end Go.Proofs.Ytnnoccojjeadhaa
