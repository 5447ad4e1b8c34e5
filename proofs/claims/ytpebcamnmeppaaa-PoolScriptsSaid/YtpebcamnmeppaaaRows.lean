/-
  No cell of these rows narrows 'for every input' (looked for: loops, veiled, ifaces, maps, wideKeys, modest, calm, conditions, laid).
  DERIVED. THE GIVEN ROWS OF THIS SEAT. 3 by the template 'for every input the law returns true; each argument reads behind the call as it read before'; 0 by the template 'total and deterministic' (their statements: YtpebcamnmeppaaaTotals.lean).
  GIVEN WITH THE SEED: the statements are not yours to turn. If you find one false, say at which input.
  Laid BY PROGRAM, IN A SANDBOX (cutbox-rows.mjs): the forced cells as the released guide's own fill.sh prints them over the translation d2034c1e0aafd5bc… (all of the seat's roots in one cut). By AI agents, Wed Nov 11 2026. No macro, syntax, notation, axiom, sorry.
-/
import Derived.Test.YtpebcamnmeppaaaChecked
import GoSem.Claim
import GoSem.ClaimJoined
import GoSem.ClaimMapViews
import Derived.JoinedTies
import Derived.KernelRfl
namespace Go.Proofs.Ytpebcamnmeppaaa
/- THE CELL 'sum', in the pinned program and in every row, IS THE sha256 OF THE DUMP (.gsa) THAT YtpebcamnmeppaaaProg.lean LOADS. Nothing in Lean hashes anything: it is a label: what it is worth is what the hold of that sum in a sandbox is worth. -/
noncomputable def Try.pinned : Pinned := { name := "ytpebcamnmeppaaa", sum := "d2034c1e0aafd5bcdb7f83f595b92d559983b94dc6dd545099c979415a2dc378", checked := Try.checked }
namespace Rows
def none {H : Type} : Left H := { results := [], args := [] }

/-- 'turnpikelaw26.PoolYoungest': WHATEVER THE INPUT: true; the input reads as it did. -/
def poolYoungestSpec : ChangeSpec := { name := "poolYoungest", fn := fun _ => fun
  | [d1, d2, d3] => { results := [.lit (.bool true)], args := [d1, d2, d3] }
  | _ => none }
def poolYoungestRow : OpenClaim := { program := "ytpebcamnmeppaaa", sum := "d2034c1e0aafd5bcdb7f83f595b92d559983b94dc6dd545099c979415a2dc378", func := "turnpike/turnpikelaw26.PoolYoungest", spec := "poolYoungest", recurses := true, apart := false }
def PoolYoungestSaid : Prop := poolYoungestRow.holds Try.pinned (OpenSpec.ofChange poolYoungestSpec)

/-- ITS FALSE NEIGHBOUR: 'it returns false'. Refute it at one input. -/
def poolYoungestWrong : ChangeSpec := { name := "poolYoungest", fn := fun _ => fun
  | [d1, d2, d3] => { results := [.lit (.bool false)], args := [d1, d2, d3] }
  | _ => none }
def PoolYoungestWrongFalsely : Prop := poolYoungestRow.holds Try.pinned (OpenSpec.ofChange poolYoungestWrong)

/-- 'turnpikelaw26.PoolBounds': WHATEVER THE INPUT: true; the input reads as it did. -/
def poolBoundsSpec : ChangeSpec := { name := "poolBounds", fn := fun _ => fun
  | [d1, d2, d3] => { results := [.lit (.bool true)], args := [d1, d2, d3] }
  | _ => none }
def poolBoundsRow : OpenClaim := { program := "ytpebcamnmeppaaa", sum := "d2034c1e0aafd5bcdb7f83f595b92d559983b94dc6dd545099c979415a2dc378", func := "turnpike/turnpikelaw26.PoolBounds", spec := "poolBounds", recurses := true, apart := false }
def PoolBoundsSaid : Prop := poolBoundsRow.holds Try.pinned (OpenSpec.ofChange poolBoundsSpec)

/-- ITS FALSE NEIGHBOUR: 'it returns false'. Refute it at one input. -/
def poolBoundsWrong : ChangeSpec := { name := "poolBounds", fn := fun _ => fun
  | [d1, d2, d3] => { results := [.lit (.bool false)], args := [d1, d2, d3] }
  | _ => none }
def PoolBoundsWrongFalsely : Prop := poolBoundsRow.holds Try.pinned (OpenSpec.ofChange poolBoundsWrong)

/-- 'turnpikelaw26.PoolScripts': WHATEVER THE INPUT: true; the input reads as it did. -/
def poolScriptsSpec : ChangeSpec := { name := "poolScripts", fn := fun _ => fun
  | [d1, d2, d3, d4, d5] => { results := [.lit (.bool true)], args := [d1, d2, d3, d4, d5] }
  | _ => none }
def poolScriptsRow : OpenClaim := { program := "ytpebcamnmeppaaa", sum := "d2034c1e0aafd5bcdb7f83f595b92d559983b94dc6dd545099c979415a2dc378", func := "turnpike/turnpikelaw26.PoolScripts", spec := "poolScripts", recurses := true, apart := false }
def PoolScriptsSaid : Prop := poolScriptsRow.holds Try.pinned (OpenSpec.ofChange poolScriptsSpec)

/-- ITS FALSE NEIGHBOUR: 'it returns false'. Refute it at one input. -/
def poolScriptsWrong : ChangeSpec := { name := "poolScripts", fn := fun _ => fun
  | [d1, d2, d3, d4, d5] => { results := [.lit (.bool false)], args := [d1, d2, d3, d4, d5] }
  | _ => none }
def PoolScriptsWrongFalsely : Prop := poolScriptsRow.holds Try.pinned (OpenSpec.ofChange poolScriptsWrong)

/- THE SECOND FORM. 'bulk': how many values and letters a reading holds, each counted each time it is reached (what is shared counts as often as it is met; a slice's spare places count too). A statement '..UptoSaid' is the law's where the arguments, and the package variables that the reading takes, are together of bulk at most 1048576: NARROWER than '..Said'. Prove '..Said' where nothing that the law and all that it calls make is longer than what came in: it says more and counts as full. Else prove '..UptoSaid'. A law counts once. -/
mutual
def uptoBulk {H : Type} : DataW H → Nat
  | .lit (.string bytes) => bytes.length + 1
  | .lit _ => 1
  | .nil => 1
  | .ptr d => uptoBulk d + 1
  | .slice elems spare => uptoBulkAll elems + uptoBulkAll spare + 1
  | .agg parts => uptoBulkAll parts + 1
  | .iface _ d => uptoBulk d + 1
  | .map entries => uptoBulkEntries entries + 1
  | .held _ => 1
def uptoBulkAll {H : Type} : List (DataW H) → Nat
  | [] => 0
  | d :: r => uptoBulk d + uptoBulkAll r
def uptoBulkEntries {H : Type} : List (Lit × DataW H) → Nat
  | [] => 0
  | x :: r => uptoBulkEntry x + uptoBulkEntries r
def uptoBulkEntry {H : Type} : Lit × DataW H → Nat
  | (.string bytes, d) => bytes.length + uptoBulk d + 1
  | (_, d) => uptoBulk d + 1
 end
def uptoSmall : (H : Type) → List (DataW H) → Bool := fun _ ds => decide (uptoBulkAll ds ≤ 1048576)
def OpenSpec.upto (s : _root_.Go.ChangeSpec) : _root_.Go.OpenSpec := { _root_.Go.OpenSpec.ofChange s with cond := some uptoSmall }

/-- 'turnpikelaw26.PoolYoungest', WHERE WHAT IT READS IS OF BULK AT MOST 1048576: true; the input reads as it did. -/
def poolYoungestUptoRow : OpenClaim := { program := "ytpebcamnmeppaaa", sum := "d2034c1e0aafd5bcdb7f83f595b92d559983b94dc6dd545099c979415a2dc378", func := "turnpike/turnpikelaw26.PoolYoungest", spec := "poolYoungest", recurses := true, apart := false, narrowed := true }
def PoolYoungestUptoSaid : Prop := poolYoungestUptoRow.holds Try.pinned (OpenSpec.upto poolYoungestSpec)

/-- 'turnpikelaw26.PoolBounds', WHERE WHAT IT READS IS OF BULK AT MOST 1048576: true; the input reads as it did. -/
def poolBoundsUptoRow : OpenClaim := { program := "ytpebcamnmeppaaa", sum := "d2034c1e0aafd5bcdb7f83f595b92d559983b94dc6dd545099c979415a2dc378", func := "turnpike/turnpikelaw26.PoolBounds", spec := "poolBounds", recurses := true, apart := false, narrowed := true }
def PoolBoundsUptoSaid : Prop := poolBoundsUptoRow.holds Try.pinned (OpenSpec.upto poolBoundsSpec)

/-- 'turnpikelaw26.PoolScripts', WHERE WHAT IT READS IS OF BULK AT MOST 1048576: true; the input reads as it did. -/
def poolScriptsUptoRow : OpenClaim := { program := "ytpebcamnmeppaaa", sum := "d2034c1e0aafd5bcdb7f83f595b92d559983b94dc6dd545099c979415a2dc378", func := "turnpike/turnpikelaw26.PoolScripts", spec := "poolScripts", recurses := true, apart := false, narrowed := true }
def PoolScriptsUptoSaid : Prop := poolScriptsUptoRow.holds Try.pinned (OpenSpec.upto poolScriptsSpec)

end Rows
end Go.Proofs.Ytpebcamnmeppaaa
