/-
  No cell of these rows narrows 'for every input' (looked for: loops, veiled, ifaces, maps, wideKeys, modest, calm, conditions, laid).
  DERIVED. THE GIVEN ROWS OF THIS SEAT. 8 by the template 'for every input the law returns true; each argument reads behind the call as it read before'; 0 by the template 'total and deterministic' (their statements: YtndbnomhhfhdfaaTotals.lean).
  GIVEN WITH THE SEED: the statements are not yours to turn. If you find one false, say at which input.
  Laid BY PROGRAM, IN A SANDBOX (cutbox-rows.mjs): the forced cells as the released guide's own fill.sh prints them over the translation af58d5e633cde277… (all of the seat's roots in one cut). By AI agents, Wed Nov 11 2026. No macro, syntax, notation, axiom, sorry.
-/
import Derived.Test.YtndbnomhhfhdfaaChecked
import GoSem.Claim
import GoSem.ClaimJoined
import GoSem.ClaimMapViews
import Derived.JoinedTies
import Derived.KernelRfl
namespace Go.Proofs.Ytndbnomhhfhdfaa
/- THE CELL 'sum', in the pinned program and in every row, IS THE sha256 OF THE DUMP (.gsa) THAT YtndbnomhhfhdfaaProg.lean LOADS. Nothing in Lean hashes anything: it is a label: what it is worth is what the hold of that sum in a sandbox is worth. -/
noncomputable def Try.pinned : Pinned := { name := "ytndbnomhhfhdfaa", sum := "af58d5e633cde2772641da9f825690b782e0f3c614f1b3815b7d3f67825f2d1b", checked := Try.checked }
namespace Rows
def none {H : Type} : Left H := { results := [], args := [] }

/-- 'turnpikelaw13.PathsPatterns': WHATEVER THE INPUT: true; the input reads as it did. -/
def pathsPatternsSpec : ChangeSpec := { name := "pathsPatterns", fn := fun _ => fun
  | [d] => { results := [.lit (.bool true)], args := [d] }
  | _ => none }
def pathsPatternsRow : OpenClaim := { program := "ytndbnomhhfhdfaa", sum := "af58d5e633cde2772641da9f825690b782e0f3c614f1b3815b7d3f67825f2d1b", func := "turnpike/turnpikelaw13.PathsPatterns", spec := "pathsPatterns", apart := false }
def PathsPatternsSaid : Prop := pathsPatternsRow.holds Try.pinned (OpenSpec.ofChange pathsPatternsSpec)

/-- ITS FALSE NEIGHBOUR: 'it returns false'. Refute it at one input. -/
def pathsPatternsWrong : ChangeSpec := { name := "pathsPatterns", fn := fun _ => fun
  | [d] => { results := [.lit (.bool false)], args := [d] }
  | _ => none }
def PathsPatternsWrongFalsely : Prop := pathsPatternsRow.holds Try.pinned (OpenSpec.ofChange pathsPatternsWrong)

/-- 'turnpikelaw13.PathsTakes': WHATEVER THE INPUT: true; the input reads as it did. -/
def pathsTakesSpec : ChangeSpec := { name := "pathsTakes", fn := fun _ => fun
  | [d1, d2] => { results := [.lit (.bool true)], args := [d1, d2] }
  | _ => none }
def pathsTakesRow : OpenClaim := { program := "ytndbnomhhfhdfaa", sum := "af58d5e633cde2772641da9f825690b782e0f3c614f1b3815b7d3f67825f2d1b", func := "turnpike/turnpikelaw13.PathsTakes", spec := "pathsTakes", apart := false }
def PathsTakesSaid : Prop := pathsTakesRow.holds Try.pinned (OpenSpec.ofChange pathsTakesSpec)

/-- ITS FALSE NEIGHBOUR: 'it returns false'. Refute it at one input. -/
def pathsTakesWrong : ChangeSpec := { name := "pathsTakes", fn := fun _ => fun
  | [d1, d2] => { results := [.lit (.bool false)], args := [d1, d2] }
  | _ => none }
def PathsTakesWrongFalsely : Prop := pathsTakesRow.holds Try.pinned (OpenSpec.ofChange pathsTakesWrong)

/-- 'turnpikelaw13.PathsBest': WHATEVER THE INPUT: true; the input reads as it did. -/
def pathsBestSpec : ChangeSpec := { name := "pathsBest", fn := fun _ => fun
  | [d1, d2] => { results := [.lit (.bool true)], args := [d1, d2] }
  | _ => none }
def pathsBestRow : OpenClaim := { program := "ytndbnomhhfhdfaa", sum := "af58d5e633cde2772641da9f825690b782e0f3c614f1b3815b7d3f67825f2d1b", func := "turnpike/turnpikelaw13.PathsBest", spec := "pathsBest", apart := false }
def PathsBestSaid : Prop := pathsBestRow.holds Try.pinned (OpenSpec.ofChange pathsBestSpec)

/-- ITS FALSE NEIGHBOUR: 'it returns false'. Refute it at one input. -/
def pathsBestWrong : ChangeSpec := { name := "pathsBest", fn := fun _ => fun
  | [d1, d2] => { results := [.lit (.bool false)], args := [d1, d2] }
  | _ => none }
def PathsBestWrongFalsely : Prop := pathsBestRow.holds Try.pinned (OpenSpec.ofChange pathsBestWrong)

/-- 'turnpikelaw13.PathsCovers': WHATEVER THE INPUT: true; the input reads as it did. -/
def pathsCoversSpec : ChangeSpec := { name := "pathsCovers", fn := fun _ => fun
  | [d1, d2] => { results := [.lit (.bool true)], args := [d1, d2] }
  | _ => none }
def pathsCoversRow : OpenClaim := { program := "ytndbnomhhfhdfaa", sum := "af58d5e633cde2772641da9f825690b782e0f3c614f1b3815b7d3f67825f2d1b", func := "turnpike/turnpikelaw13.PathsCovers", spec := "pathsCovers", apart := false }
def PathsCoversSaid : Prop := pathsCoversRow.holds Try.pinned (OpenSpec.ofChange pathsCoversSpec)

/-- ITS FALSE NEIGHBOUR: 'it returns false'. Refute it at one input. -/
def pathsCoversWrong : ChangeSpec := { name := "pathsCovers", fn := fun _ => fun
  | [d1, d2] => { results := [.lit (.bool false)], args := [d1, d2] }
  | _ => none }
def PathsCoversWrongFalsely : Prop := pathsCoversRow.holds Try.pinned (OpenSpec.ofChange pathsCoversWrong)

/-- 'turnpikelaw13.PathsOrder': WHATEVER THE INPUT: true; the input reads as it did. -/
def pathsOrderSpec : ChangeSpec := { name := "pathsOrder", fn := fun _ => fun
  | [d1, d2, d3] => { results := [.lit (.bool true)], args := [d1, d2, d3] }
  | _ => none }
def pathsOrderRow : OpenClaim := { program := "ytndbnomhhfhdfaa", sum := "af58d5e633cde2772641da9f825690b782e0f3c614f1b3815b7d3f67825f2d1b", func := "turnpike/turnpikelaw13.PathsOrder", spec := "pathsOrder", apart := false }
def PathsOrderSaid : Prop := pathsOrderRow.holds Try.pinned (OpenSpec.ofChange pathsOrderSpec)

/-- ITS FALSE NEIGHBOUR: 'it returns false'. Refute it at one input. -/
def pathsOrderWrong : ChangeSpec := { name := "pathsOrder", fn := fun _ => fun
  | [d1, d2, d3] => { results := [.lit (.bool false)], args := [d1, d2, d3] }
  | _ => none }
def PathsOrderWrongFalsely : Prop := pathsOrderRow.holds Try.pinned (OpenSpec.ofChange pathsOrderWrong)

/-- 'turnpikelaw13.PathsNarrow': WHATEVER THE INPUT: true; the input reads as it did. -/
def pathsNarrowSpec : ChangeSpec := { name := "pathsNarrow", fn := fun _ => fun
  | [d1, d2] => { results := [.lit (.bool true)], args := [d1, d2] }
  | _ => none }
def pathsNarrowRow : OpenClaim := { program := "ytndbnomhhfhdfaa", sum := "af58d5e633cde2772641da9f825690b782e0f3c614f1b3815b7d3f67825f2d1b", func := "turnpike/turnpikelaw13.PathsNarrow", spec := "pathsNarrow", apart := false }
def PathsNarrowSaid : Prop := pathsNarrowRow.holds Try.pinned (OpenSpec.ofChange pathsNarrowSpec)

/-- ITS FALSE NEIGHBOUR: 'it returns false'. Refute it at one input. -/
def pathsNarrowWrong : ChangeSpec := { name := "pathsNarrow", fn := fun _ => fun
  | [d1, d2] => { results := [.lit (.bool false)], args := [d1, d2] }
  | _ => none }
def PathsNarrowWrongFalsely : Prop := pathsNarrowRow.holds Try.pinned (OpenSpec.ofChange pathsNarrowWrong)

/-- 'turnpikelaw13.PathsChain': WHATEVER THE INPUT: true; the input reads as it did. -/
def pathsChainSpec : ChangeSpec := { name := "pathsChain", fn := fun _ => fun
  | [d1, d2, d3] => { results := [.lit (.bool true)], args := [d1, d2, d3] }
  | _ => none }
def pathsChainRow : OpenClaim := { program := "ytndbnomhhfhdfaa", sum := "af58d5e633cde2772641da9f825690b782e0f3c614f1b3815b7d3f67825f2d1b", func := "turnpike/turnpikelaw13.PathsChain", spec := "pathsChain", apart := false }
def PathsChainSaid : Prop := pathsChainRow.holds Try.pinned (OpenSpec.ofChange pathsChainSpec)

/-- ITS FALSE NEIGHBOUR: 'it returns false'. Refute it at one input. -/
def pathsChainWrong : ChangeSpec := { name := "pathsChain", fn := fun _ => fun
  | [d1, d2, d3] => { results := [.lit (.bool false)], args := [d1, d2, d3] }
  | _ => none }
def PathsChainWrongFalsely : Prop := pathsChainRow.holds Try.pinned (OpenSpec.ofChange pathsChainWrong)

/-- 'turnpikelaw13.PathsWithin': WHATEVER THE INPUT: true; the input reads as it did. -/
def pathsWithinSpec : ChangeSpec := { name := "pathsWithin", fn := fun _ => fun
  | [d1, d2, d3] => { results := [.lit (.bool true)], args := [d1, d2, d3] }
  | _ => none }
def pathsWithinRow : OpenClaim := { program := "ytndbnomhhfhdfaa", sum := "af58d5e633cde2772641da9f825690b782e0f3c614f1b3815b7d3f67825f2d1b", func := "turnpike/turnpikelaw13.PathsWithin", spec := "pathsWithin", apart := false }
def PathsWithinSaid : Prop := pathsWithinRow.holds Try.pinned (OpenSpec.ofChange pathsWithinSpec)

/-- ITS FALSE NEIGHBOUR: 'it returns false'. Refute it at one input. -/
def pathsWithinWrong : ChangeSpec := { name := "pathsWithin", fn := fun _ => fun
  | [d1, d2, d3] => { results := [.lit (.bool false)], args := [d1, d2, d3] }
  | _ => none }
def PathsWithinWrongFalsely : Prop := pathsWithinRow.holds Try.pinned (OpenSpec.ofChange pathsWithinWrong)

/- THE SECOND FORM. 'bulk': how many values and letters a reading holds, each counted each time it is reached (what is shared counts as often as it is met; a slice's spare places count too). A statement '..UptoSaid' is the law's where the arguments, and the package variables that the reading takes, are together of bulk at most 1048576: NARROWER than '..Said'. Prove '..Said' where nothing that the law and all that it calls make is longer than what came in: it says more and counts as full. Else prove '..UptoSaid'. A law counts once. -/
mutual
def uptoBulk {H : Type} : DataW H → Nat
  | .lit (.string bytes) => bytes.length + 1
  | .lit _ => 1
  | .nil => 1
  | .ptr d => uptoBulk d + 1
  | .slice elems spare => uptoBulkAll elems + uptoBulkAll spare + 1
  | .agg parts => uptoBulkAll parts + 1
  | .iface _ d => uptoBulk d + 1
  | .map entries => uptoBulkEntries entries + 1
  | .held _ => 1
def uptoBulkAll {H : Type} : List (DataW H) → Nat
  | [] => 0
  | d :: r => uptoBulk d + uptoBulkAll r
def uptoBulkEntries {H : Type} : List (Lit × DataW H) → Nat
  | [] => 0
  | x :: r => uptoBulkEntry x + uptoBulkEntries r
def uptoBulkEntry {H : Type} : Lit × DataW H → Nat
  | (.string bytes, d) => bytes.length + uptoBulk d + 1
  | (_, d) => uptoBulk d + 1
 end
def uptoSmall : (H : Type) → List (DataW H) → Bool := fun _ ds => decide (uptoBulkAll ds ≤ 1048576)
def OpenSpec.upto (s : _root_.Go.ChangeSpec) : _root_.Go.OpenSpec := { _root_.Go.OpenSpec.ofChange s with cond := some uptoSmall }

/-- 'turnpikelaw13.PathsPatterns', WHERE WHAT IT READS IS OF BULK AT MOST 1048576: true; the input reads as it did. -/
def pathsPatternsUptoRow : OpenClaim := { program := "ytndbnomhhfhdfaa", sum := "af58d5e633cde2772641da9f825690b782e0f3c614f1b3815b7d3f67825f2d1b", func := "turnpike/turnpikelaw13.PathsPatterns", spec := "pathsPatterns", apart := false, narrowed := true }
def PathsPatternsUptoSaid : Prop := pathsPatternsUptoRow.holds Try.pinned (OpenSpec.upto pathsPatternsSpec)

/-- 'turnpikelaw13.PathsTakes', WHERE WHAT IT READS IS OF BULK AT MOST 1048576: true; the input reads as it did. -/
def pathsTakesUptoRow : OpenClaim := { program := "ytndbnomhhfhdfaa", sum := "af58d5e633cde2772641da9f825690b782e0f3c614f1b3815b7d3f67825f2d1b", func := "turnpike/turnpikelaw13.PathsTakes", spec := "pathsTakes", apart := false, narrowed := true }
def PathsTakesUptoSaid : Prop := pathsTakesUptoRow.holds Try.pinned (OpenSpec.upto pathsTakesSpec)

/-- 'turnpikelaw13.PathsBest', WHERE WHAT IT READS IS OF BULK AT MOST 1048576: true; the input reads as it did. -/
def pathsBestUptoRow : OpenClaim := { program := "ytndbnomhhfhdfaa", sum := "af58d5e633cde2772641da9f825690b782e0f3c614f1b3815b7d3f67825f2d1b", func := "turnpike/turnpikelaw13.PathsBest", spec := "pathsBest", apart := false, narrowed := true }
def PathsBestUptoSaid : Prop := pathsBestUptoRow.holds Try.pinned (OpenSpec.upto pathsBestSpec)

/-- 'turnpikelaw13.PathsCovers', WHERE WHAT IT READS IS OF BULK AT MOST 1048576: true; the input reads as it did. -/
def pathsCoversUptoRow : OpenClaim := { program := "ytndbnomhhfhdfaa", sum := "af58d5e633cde2772641da9f825690b782e0f3c614f1b3815b7d3f67825f2d1b", func := "turnpike/turnpikelaw13.PathsCovers", spec := "pathsCovers", apart := false, narrowed := true }
def PathsCoversUptoSaid : Prop := pathsCoversUptoRow.holds Try.pinned (OpenSpec.upto pathsCoversSpec)

/-- 'turnpikelaw13.PathsOrder', WHERE WHAT IT READS IS OF BULK AT MOST 1048576: true; the input reads as it did. -/
def pathsOrderUptoRow : OpenClaim := { program := "ytndbnomhhfhdfaa", sum := "af58d5e633cde2772641da9f825690b782e0f3c614f1b3815b7d3f67825f2d1b", func := "turnpike/turnpikelaw13.PathsOrder", spec := "pathsOrder", apart := false, narrowed := true }
def PathsOrderUptoSaid : Prop := pathsOrderUptoRow.holds Try.pinned (OpenSpec.upto pathsOrderSpec)

/-- 'turnpikelaw13.PathsNarrow', WHERE WHAT IT READS IS OF BULK AT MOST 1048576: true; the input reads as it did. -/
def pathsNarrowUptoRow : OpenClaim := { program := "ytndbnomhhfhdfaa", sum := "af58d5e633cde2772641da9f825690b782e0f3c614f1b3815b7d3f67825f2d1b", func := "turnpike/turnpikelaw13.PathsNarrow", spec := "pathsNarrow", apart := false, narrowed := true }
def PathsNarrowUptoSaid : Prop := pathsNarrowUptoRow.holds Try.pinned (OpenSpec.upto pathsNarrowSpec)

/-- 'turnpikelaw13.PathsChain', WHERE WHAT IT READS IS OF BULK AT MOST 1048576: true; the input reads as it did. -/
def pathsChainUptoRow : OpenClaim := { program := "ytndbnomhhfhdfaa", sum := "af58d5e633cde2772641da9f825690b782e0f3c614f1b3815b7d3f67825f2d1b", func := "turnpike/turnpikelaw13.PathsChain", spec := "pathsChain", apart := false, narrowed := true }
def PathsChainUptoSaid : Prop := pathsChainUptoRow.holds Try.pinned (OpenSpec.upto pathsChainSpec)

/-- 'turnpikelaw13.PathsWithin', WHERE WHAT IT READS IS OF BULK AT MOST 1048576: true; the input reads as it did. -/
def pathsWithinUptoRow : OpenClaim := { program := "ytndbnomhhfhdfaa", sum := "af58d5e633cde2772641da9f825690b782e0f3c614f1b3815b7d3f67825f2d1b", func := "turnpike/turnpikelaw13.PathsWithin", spec := "pathsWithin", apart := false, narrowed := true }
def PathsWithinUptoSaid : Prop := pathsWithinUptoRow.holds Try.pinned (OpenSpec.upto pathsWithinSpec)

end Rows
end Go.Proofs.Ytndbnomhhfhdfaa
