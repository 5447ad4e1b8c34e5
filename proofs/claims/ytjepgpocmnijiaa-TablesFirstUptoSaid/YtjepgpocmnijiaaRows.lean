/-
  No cell of these rows narrows 'for every input' (looked for: loops, veiled, ifaces, maps, wideKeys, modest, calm, conditions, laid).
  DERIVED. THE GIVEN ROWS OF THIS SEAT. 15 by the template 'for every input the law returns true; each argument reads behind the call as it read before'; 0 by the template 'total and deterministic' (their statements: YtjepgpocmnijiaaTotals.lean).
  GIVEN WITH THE SEED: the statements are not yours to turn. If you find one false, say at which input.
  Laid BY PROGRAM, IN A SANDBOX (cutbox-rows.mjs): the forced cells as the released guide's own fill.sh prints them over the translation 93400824eff7df5e… (all of the seat's roots in one cut). By AI agents, Wed Nov 11 2026. No macro, syntax, notation, axiom, sorry.
-/
import Derived.Test.YtjepgpocmnijiaaChecked
import GoSem.Claim
import GoSem.ClaimJoined
import GoSem.ClaimMapViews
import Derived.JoinedTies
import Derived.KernelRfl
namespace Go.Proofs.Ytjepgpocmnijiaa
/- THE CELL 'sum', in the pinned program and in every row, IS THE sha256 OF THE DUMP (.gsa) THAT YtjepgpocmnijiaaProg.lean LOADS. Nothing in Lean hashes anything: it is a label: what it is worth is what the hold of that sum in a sandbox is worth. -/
noncomputable def Try.pinned : Pinned := { name := "ytjepgpocmnijiaa", sum := "93400824eff7df5e76e16cd9018fe6dbe3c03644211470026af460a888bb19a5", checked := Try.checked }
namespace Rows
def none {H : Type} : Left H := { results := [], args := [] }

/-- 'turnpikelaw14.CheckFaults': WHATEVER THE INPUT: true; the input reads as it did. -/
def checkFaultsSpec : ChangeSpec := { name := "checkFaults", fn := fun _ => fun
  | [d] => { results := [.lit (.bool true)], args := [d] }
  | _ => none }
def checkFaultsRow : OpenClaim := { program := "ytjepgpocmnijiaa", sum := "93400824eff7df5e76e16cd9018fe6dbe3c03644211470026af460a888bb19a5", func := "turnpike/turnpikelaw14.CheckFaults", spec := "checkFaults", inPlace := ["internal/bytealg.abigen_runtime_cmpstring"], unfollowed := true, recurses := true, plainKeys := false, apart := false }
def CheckFaultsSaid : Prop := checkFaultsRow.holds Try.pinned (OpenSpec.ofChange checkFaultsSpec)

/-- ITS FALSE NEIGHBOUR: 'it returns false'. Refute it at one input. -/
def checkFaultsWrong : ChangeSpec := { name := "checkFaults", fn := fun _ => fun
  | [d] => { results := [.lit (.bool false)], args := [d] }
  | _ => none }
def CheckFaultsWrongFalsely : Prop := checkFaultsRow.holds Try.pinned (OpenSpec.ofChange checkFaultsWrong)

/-- 'turnpikelaw14.CheckMerges': WHATEVER THE INPUT: true; the input reads as it did. -/
def checkMergesSpec : ChangeSpec := { name := "checkMerges", fn := fun _ => fun
  | [d1, d2] => { results := [.lit (.bool true)], args := [d1, d2] }
  | _ => none }
def checkMergesRow : OpenClaim := { program := "ytjepgpocmnijiaa", sum := "93400824eff7df5e76e16cd9018fe6dbe3c03644211470026af460a888bb19a5", func := "turnpike/turnpikelaw14.CheckMerges", spec := "checkMerges", inPlace := ["internal/bytealg.abigen_runtime_cmpstring"], unfollowed := true, recurses := true, plainKeys := false, apart := false }
def CheckMergesSaid : Prop := checkMergesRow.holds Try.pinned (OpenSpec.ofChange checkMergesSpec)

/-- ITS FALSE NEIGHBOUR: 'it returns false'. Refute it at one input. -/
def checkMergesWrong : ChangeSpec := { name := "checkMerges", fn := fun _ => fun
  | [d1, d2] => { results := [.lit (.bool false)], args := [d1, d2] }
  | _ => none }
def CheckMergesWrongFalsely : Prop := checkMergesRow.holds Try.pinned (OpenSpec.ofChange checkMergesWrong)

/-- 'turnpikelaw14.CheckDiffs': WHATEVER THE INPUT: true; the input reads as it did. -/
def checkDiffsSpec : ChangeSpec := { name := "checkDiffs", fn := fun _ => fun
  | [d1, d2] => { results := [.lit (.bool true)], args := [d1, d2] }
  | _ => none }
def checkDiffsRow : OpenClaim := { program := "ytjepgpocmnijiaa", sum := "93400824eff7df5e76e16cd9018fe6dbe3c03644211470026af460a888bb19a5", func := "turnpike/turnpikelaw14.CheckDiffs", spec := "checkDiffs", inPlace := ["internal/bytealg.abigen_runtime_cmpstring"], unfollowed := true, recurses := true, plainKeys := false, apart := false }
def CheckDiffsSaid : Prop := checkDiffsRow.holds Try.pinned (OpenSpec.ofChange checkDiffsSpec)

/-- ITS FALSE NEIGHBOUR: 'it returns false'. Refute it at one input. -/
def checkDiffsWrong : ChangeSpec := { name := "checkDiffs", fn := fun _ => fun
  | [d1, d2] => { results := [.lit (.bool false)], args := [d1, d2] }
  | _ => none }
def CheckDiffsWrongFalsely : Prop := checkDiffsRow.holds Try.pinned (OpenSpec.ofChange checkDiffsWrong)

/-- 'turnpikelaw14.CheckKeeps': WHATEVER THE INPUT: true; the input reads as it did. -/
def checkKeepsSpec : ChangeSpec := { name := "checkKeeps", fn := fun _ => fun
  | [d1, d2] => { results := [.lit (.bool true)], args := [d1, d2] }
  | _ => none }
def checkKeepsRow : OpenClaim := { program := "ytjepgpocmnijiaa", sum := "93400824eff7df5e76e16cd9018fe6dbe3c03644211470026af460a888bb19a5", func := "turnpike/turnpikelaw14.CheckKeeps", spec := "checkKeeps", inPlace := ["internal/bytealg.abigen_runtime_cmpstring"], unfollowed := true, recurses := true, plainKeys := false, apart := false }
def CheckKeepsSaid : Prop := checkKeepsRow.holds Try.pinned (OpenSpec.ofChange checkKeepsSpec)

/-- ITS FALSE NEIGHBOUR: 'it returns false'. Refute it at one input. -/
def checkKeepsWrong : ChangeSpec := { name := "checkKeeps", fn := fun _ => fun
  | [d1, d2] => { results := [.lit (.bool false)], args := [d1, d2] }
  | _ => none }
def CheckKeepsWrongFalsely : Prop := checkKeepsRow.holds Try.pinned (OpenSpec.ofChange checkKeepsWrong)

/-- 'turnpikelaw14.CheckStands': WHATEVER THE INPUT: true; the input reads as it did. -/
def checkStandsSpec : ChangeSpec := { name := "checkStands", fn := fun _ => fun
  | [d1, d2] => { results := [.lit (.bool true)], args := [d1, d2] }
  | _ => none }
def checkStandsRow : OpenClaim := { program := "ytjepgpocmnijiaa", sum := "93400824eff7df5e76e16cd9018fe6dbe3c03644211470026af460a888bb19a5", func := "turnpike/turnpikelaw14.CheckStands", spec := "checkStands", inPlace := ["internal/bytealg.abigen_runtime_cmpstring"], unfollowed := true, recurses := true, plainKeys := false, apart := false }
def CheckStandsSaid : Prop := checkStandsRow.holds Try.pinned (OpenSpec.ofChange checkStandsSpec)

/-- ITS FALSE NEIGHBOUR: 'it returns false'. Refute it at one input. -/
def checkStandsWrong : ChangeSpec := { name := "checkStands", fn := fun _ => fun
  | [d1, d2] => { results := [.lit (.bool false)], args := [d1, d2] }
  | _ => none }
def CheckStandsWrongFalsely : Prop := checkStandsRow.holds Try.pinned (OpenSpec.ofChange checkStandsWrong)

/-- 'turnpikelaw14.CheckBack': WHATEVER THE INPUT: true; the input reads as it did. -/
def checkBackSpec : ChangeSpec := { name := "checkBack", fn := fun _ => fun
  | [d1, d2] => { results := [.lit (.bool true)], args := [d1, d2] }
  | _ => none }
def checkBackRow : OpenClaim := { program := "ytjepgpocmnijiaa", sum := "93400824eff7df5e76e16cd9018fe6dbe3c03644211470026af460a888bb19a5", func := "turnpike/turnpikelaw14.CheckBack", spec := "checkBack", inPlace := ["internal/bytealg.abigen_runtime_cmpstring"], unfollowed := true, recurses := true, plainKeys := false, apart := false }
def CheckBackSaid : Prop := checkBackRow.holds Try.pinned (OpenSpec.ofChange checkBackSpec)

/-- ITS FALSE NEIGHBOUR: 'it returns false'. Refute it at one input. -/
def checkBackWrong : ChangeSpec := { name := "checkBack", fn := fun _ => fun
  | [d1, d2] => { results := [.lit (.bool false)], args := [d1, d2] }
  | _ => none }
def CheckBackWrongFalsely : Prop := checkBackRow.holds Try.pinned (OpenSpec.ofChange checkBackWrong)

/-- 'turnpikelaw14.CheckOwn': WHATEVER THE INPUT: true; the input reads as it did. -/
def checkOwnSpec : ChangeSpec := { name := "checkOwn", fn := fun _ => fun
  | [d1, d2] => { results := [.lit (.bool true)], args := [d1, d2] }
  | _ => none }
def checkOwnRow : OpenClaim := { program := "ytjepgpocmnijiaa", sum := "93400824eff7df5e76e16cd9018fe6dbe3c03644211470026af460a888bb19a5", func := "turnpike/turnpikelaw14.CheckOwn", spec := "checkOwn", inPlace := ["internal/bytealg.abigen_runtime_cmpstring"], unfollowed := true, recurses := true, plainKeys := false, apart := false }
def CheckOwnSaid : Prop := checkOwnRow.holds Try.pinned (OpenSpec.ofChange checkOwnSpec)

/-- ITS FALSE NEIGHBOUR: 'it returns false'. Refute it at one input. -/
def checkOwnWrong : ChangeSpec := { name := "checkOwn", fn := fun _ => fun
  | [d1, d2] => { results := [.lit (.bool false)], args := [d1, d2] }
  | _ => none }
def CheckOwnWrongFalsely : Prop := checkOwnRow.holds Try.pinned (OpenSpec.ofChange checkOwnWrong)

/-- 'turnpikelaw15.TablesFinds': WHATEVER THE INPUT: true; the input reads as it did. -/
def tablesFindsSpec : ChangeSpec := { name := "tablesFinds", fn := fun _ => fun
  | [d1, d2, d3] => { results := [.lit (.bool true)], args := [d1, d2, d3] }
  | _ => none }
def tablesFindsRow : OpenClaim := { program := "ytjepgpocmnijiaa", sum := "93400824eff7df5e76e16cd9018fe6dbe3c03644211470026af460a888bb19a5", func := "turnpike/turnpikelaw15.TablesFinds", spec := "tablesFinds", unfollowed := true, recurses := true, plainKeys := false, apart := false }
def TablesFindsSaid : Prop := tablesFindsRow.holds Try.pinned (OpenSpec.ofChange tablesFindsSpec)

/-- ITS FALSE NEIGHBOUR: 'it returns false'. Refute it at one input. -/
def tablesFindsWrong : ChangeSpec := { name := "tablesFinds", fn := fun _ => fun
  | [d1, d2, d3] => { results := [.lit (.bool false)], args := [d1, d2, d3] }
  | _ => none }
def TablesFindsWrongFalsely : Prop := tablesFindsRow.holds Try.pinned (OpenSpec.ofChange tablesFindsWrong)

/-- 'turnpikelaw15.TablesShares': WHATEVER THE INPUT: true; the input reads as it did. -/
def tablesSharesSpec : ChangeSpec := { name := "tablesShares", fn := fun _ => fun
  | [d1, d2, d3] => { results := [.lit (.bool true)], args := [d1, d2, d3] }
  | _ => none }
def tablesSharesRow : OpenClaim := { program := "ytjepgpocmnijiaa", sum := "93400824eff7df5e76e16cd9018fe6dbe3c03644211470026af460a888bb19a5", func := "turnpike/turnpikelaw15.TablesShares", spec := "tablesShares", inPlace := ["internal/bytealg.abigen_runtime_cmpstring", "math.Float64bits"], unfollowed := true, recurses := true, plainKeys := false, apart := false }
def TablesSharesSaid : Prop := tablesSharesRow.holds Try.pinned (OpenSpec.ofChange tablesSharesSpec)

/-- ITS FALSE NEIGHBOUR: 'it returns false'. Refute it at one input. -/
def tablesSharesWrong : ChangeSpec := { name := "tablesShares", fn := fun _ => fun
  | [d1, d2, d3] => { results := [.lit (.bool false)], args := [d1, d2, d3] }
  | _ => none }
def TablesSharesWrongFalsely : Prop := tablesSharesRow.holds Try.pinned (OpenSpec.ofChange tablesSharesWrong)

/-- 'turnpikelaw15.TablesSteps': WHATEVER THE INPUT: true; the input reads as it did. -/
def tablesStepsSpec : ChangeSpec := { name := "tablesSteps", fn := fun _ => fun
  | [d1, d2, d3] => { results := [.lit (.bool true)], args := [d1, d2, d3] }
  | _ => none }
def tablesStepsRow : OpenClaim := { program := "ytjepgpocmnijiaa", sum := "93400824eff7df5e76e16cd9018fe6dbe3c03644211470026af460a888bb19a5", func := "turnpike/turnpikelaw15.TablesSteps", spec := "tablesSteps", inPlace := ["internal/bytealg.abigen_runtime_cmpstring"], unfollowed := true, recurses := true, plainKeys := false, apart := false }
def TablesStepsSaid : Prop := tablesStepsRow.holds Try.pinned (OpenSpec.ofChange tablesStepsSpec)

/-- ITS FALSE NEIGHBOUR: 'it returns false'. Refute it at one input. -/
def tablesStepsWrong : ChangeSpec := { name := "tablesSteps", fn := fun _ => fun
  | [d1, d2, d3] => { results := [.lit (.bool false)], args := [d1, d2, d3] }
  | _ => none }
def TablesStepsWrongFalsely : Prop := tablesStepsRow.holds Try.pinned (OpenSpec.ofChange tablesStepsWrong)

/-- 'turnpikelaw15.TablesCompiles': WHATEVER THE INPUT: true; the input reads as it did. -/
def tablesCompilesSpec : ChangeSpec := { name := "tablesCompiles", fn := fun _ => fun
  | [d1, d2] => { results := [.lit (.bool true)], args := [d1, d2] }
  | _ => none }
def tablesCompilesRow : OpenClaim := { program := "ytjepgpocmnijiaa", sum := "93400824eff7df5e76e16cd9018fe6dbe3c03644211470026af460a888bb19a5", func := "turnpike/turnpikelaw15.TablesCompiles", spec := "tablesCompiles", inPlace := ["internal/bytealg.abigen_runtime_cmpstring", "math.Float64bits"], unfollowed := true, recurses := true, plainKeys := false, apart := false }
def TablesCompilesSaid : Prop := tablesCompilesRow.holds Try.pinned (OpenSpec.ofChange tablesCompilesSpec)

/-- ITS FALSE NEIGHBOUR: 'it returns false'. Refute it at one input. -/
def tablesCompilesWrong : ChangeSpec := { name := "tablesCompiles", fn := fun _ => fun
  | [d1, d2] => { results := [.lit (.bool false)], args := [d1, d2] }
  | _ => none }
def TablesCompilesWrongFalsely : Prop := tablesCompilesRow.holds Try.pinned (OpenSpec.ofChange tablesCompilesWrong)

/-- 'turnpikelaw15.TablesFirst': WHATEVER THE INPUT: true; the input reads as it did. -/
def tablesFirstSpec : ChangeSpec := { name := "tablesFirst", fn := fun _ => fun
  | [d1, d2] => { results := [.lit (.bool true)], args := [d1, d2] }
  | _ => none }
def tablesFirstRow : OpenClaim := { program := "ytjepgpocmnijiaa", sum := "93400824eff7df5e76e16cd9018fe6dbe3c03644211470026af460a888bb19a5", func := "turnpike/turnpikelaw15.TablesFirst", spec := "tablesFirst", inPlace := ["internal/bytealg.abigen_runtime_cmpstring"], unfollowed := true, recurses := true, plainKeys := false, apart := false }
def TablesFirstSaid : Prop := tablesFirstRow.holds Try.pinned (OpenSpec.ofChange tablesFirstSpec)

/-- ITS FALSE NEIGHBOUR: 'it returns false'. Refute it at one input. -/
def tablesFirstWrong : ChangeSpec := { name := "tablesFirst", fn := fun _ => fun
  | [d1, d2] => { results := [.lit (.bool false)], args := [d1, d2] }
  | _ => none }
def TablesFirstWrongFalsely : Prop := tablesFirstRow.holds Try.pinned (OpenSpec.ofChange tablesFirstWrong)

/-- 'turnpikelaw15.TablesOwn': WHATEVER THE INPUT: true; the input reads as it did. -/
def tablesOwnSpec : ChangeSpec := { name := "tablesOwn", fn := fun _ => fun
  | [d1, d2] => { results := [.lit (.bool true)], args := [d1, d2] }
  | _ => none }
def tablesOwnRow : OpenClaim := { program := "ytjepgpocmnijiaa", sum := "93400824eff7df5e76e16cd9018fe6dbe3c03644211470026af460a888bb19a5", func := "turnpike/turnpikelaw15.TablesOwn", spec := "tablesOwn", inPlace := ["internal/bytealg.abigen_runtime_cmpstring", "math.Float64bits"], unfollowed := true, recurses := true, plainKeys := false, apart := false }
def TablesOwnSaid : Prop := tablesOwnRow.holds Try.pinned (OpenSpec.ofChange tablesOwnSpec)

/-- ITS FALSE NEIGHBOUR: 'it returns false'. Refute it at one input. -/
def tablesOwnWrong : ChangeSpec := { name := "tablesOwn", fn := fun _ => fun
  | [d1, d2] => { results := [.lit (.bool false)], args := [d1, d2] }
  | _ => none }
def TablesOwnWrongFalsely : Prop := tablesOwnRow.holds Try.pinned (OpenSpec.ofChange tablesOwnWrong)

/-- 'turnpikelaw15.TablesLocal': WHATEVER THE INPUT: true; the input reads as it did. -/
def tablesLocalSpec : ChangeSpec := { name := "tablesLocal", fn := fun _ => fun
  | [d1, d2, d3] => { results := [.lit (.bool true)], args := [d1, d2, d3] }
  | _ => none }
def tablesLocalRow : OpenClaim := { program := "ytjepgpocmnijiaa", sum := "93400824eff7df5e76e16cd9018fe6dbe3c03644211470026af460a888bb19a5", func := "turnpike/turnpikelaw15.TablesLocal", spec := "tablesLocal", inPlace := ["internal/bytealg.abigen_runtime_cmpstring", "math.Float64bits"], unfollowed := true, recurses := true, plainKeys := false, apart := false }
def TablesLocalSaid : Prop := tablesLocalRow.holds Try.pinned (OpenSpec.ofChange tablesLocalSpec)

/-- ITS FALSE NEIGHBOUR: 'it returns false'. Refute it at one input. -/
def tablesLocalWrong : ChangeSpec := { name := "tablesLocal", fn := fun _ => fun
  | [d1, d2, d3] => { results := [.lit (.bool false)], args := [d1, d2, d3] }
  | _ => none }
def TablesLocalWrongFalsely : Prop := tablesLocalRow.holds Try.pinned (OpenSpec.ofChange tablesLocalWrong)

/-- 'turnpikelaw15.TablesThrough': WHATEVER THE INPUT: true; the input reads as it did. -/
def tablesThroughSpec : ChangeSpec := { name := "tablesThrough", fn := fun _ => fun
  | [d1, d2] => { results := [.lit (.bool true)], args := [d1, d2] }
  | _ => none }
def tablesThroughRow : OpenClaim := { program := "ytjepgpocmnijiaa", sum := "93400824eff7df5e76e16cd9018fe6dbe3c03644211470026af460a888bb19a5", func := "turnpike/turnpikelaw15.TablesThrough", spec := "tablesThrough", inPlace := ["internal/bytealg.abigen_runtime_cmpstring"], unfollowed := true, recurses := true, plainKeys := false, apart := false }
def TablesThroughSaid : Prop := tablesThroughRow.holds Try.pinned (OpenSpec.ofChange tablesThroughSpec)

/-- ITS FALSE NEIGHBOUR: 'it returns false'. Refute it at one input. -/
def tablesThroughWrong : ChangeSpec := { name := "tablesThrough", fn := fun _ => fun
  | [d1, d2] => { results := [.lit (.bool false)], args := [d1, d2] }
  | _ => none }
def TablesThroughWrongFalsely : Prop := tablesThroughRow.holds Try.pinned (OpenSpec.ofChange tablesThroughWrong)

/- THE SECOND FORM. 'bulk': how many values and letters a reading holds, each counted each time it is reached (what is shared counts as often as it is met; a slice's spare places count too). A statement '..UptoSaid' is the law's where the arguments, and the package variables that the reading takes, are together of bulk at most 1048576: NARROWER than '..Said'. Prove '..Said' where nothing that the law and all that it calls make is longer than what came in: it says more and counts as full. Else prove '..UptoSaid'. A law counts once. -/
mutual
def uptoBulk {H : Type} : DataW H → Nat
  | .lit (.string bytes) => bytes.length + 1
  | .lit _ => 1
  | .nil => 1
  | .ptr d => uptoBulk d + 1
  | .slice elems spare => uptoBulkAll elems + uptoBulkAll spare + 1
  | .agg parts => uptoBulkAll parts + 1
  | .iface _ d => uptoBulk d + 1
  | .map entries => uptoBulkEntries entries + 1
  | .held _ => 1
def uptoBulkAll {H : Type} : List (DataW H) → Nat
  | [] => 0
  | d :: r => uptoBulk d + uptoBulkAll r
def uptoBulkEntries {H : Type} : List (Lit × DataW H) → Nat
  | [] => 0
  | x :: r => uptoBulkEntry x + uptoBulkEntries r
def uptoBulkEntry {H : Type} : Lit × DataW H → Nat
  | (.string bytes, d) => bytes.length + uptoBulk d + 1
  | (_, d) => uptoBulk d + 1
 end
def uptoSmall : (H : Type) → List (DataW H) → Bool := fun _ ds => decide (uptoBulkAll ds ≤ 1048576)
def OpenSpec.upto (s : _root_.Go.ChangeSpec) : _root_.Go.OpenSpec := { _root_.Go.OpenSpec.ofChange s with cond := some uptoSmall }

/-- 'turnpikelaw14.CheckFaults', WHERE WHAT IT READS IS OF BULK AT MOST 1048576: true; the input reads as it did. -/
def checkFaultsUptoRow : OpenClaim := { program := "ytjepgpocmnijiaa", sum := "93400824eff7df5e76e16cd9018fe6dbe3c03644211470026af460a888bb19a5", func := "turnpike/turnpikelaw14.CheckFaults", spec := "checkFaults", inPlace := ["internal/bytealg.abigen_runtime_cmpstring"], unfollowed := true, recurses := true, plainKeys := false, apart := false, narrowed := true }
def CheckFaultsUptoSaid : Prop := checkFaultsUptoRow.holds Try.pinned (OpenSpec.upto checkFaultsSpec)

/-- 'turnpikelaw14.CheckMerges', WHERE WHAT IT READS IS OF BULK AT MOST 1048576: true; the input reads as it did. -/
def checkMergesUptoRow : OpenClaim := { program := "ytjepgpocmnijiaa", sum := "93400824eff7df5e76e16cd9018fe6dbe3c03644211470026af460a888bb19a5", func := "turnpike/turnpikelaw14.CheckMerges", spec := "checkMerges", inPlace := ["internal/bytealg.abigen_runtime_cmpstring"], unfollowed := true, recurses := true, plainKeys := false, apart := false, narrowed := true }
def CheckMergesUptoSaid : Prop := checkMergesUptoRow.holds Try.pinned (OpenSpec.upto checkMergesSpec)

/-- 'turnpikelaw14.CheckDiffs', WHERE WHAT IT READS IS OF BULK AT MOST 1048576: true; the input reads as it did. -/
def checkDiffsUptoRow : OpenClaim := { program := "ytjepgpocmnijiaa", sum := "93400824eff7df5e76e16cd9018fe6dbe3c03644211470026af460a888bb19a5", func := "turnpike/turnpikelaw14.CheckDiffs", spec := "checkDiffs", inPlace := ["internal/bytealg.abigen_runtime_cmpstring"], unfollowed := true, recurses := true, plainKeys := false, apart := false, narrowed := true }
def CheckDiffsUptoSaid : Prop := checkDiffsUptoRow.holds Try.pinned (OpenSpec.upto checkDiffsSpec)

/-- 'turnpikelaw14.CheckKeeps', WHERE WHAT IT READS IS OF BULK AT MOST 1048576: true; the input reads as it did. -/
def checkKeepsUptoRow : OpenClaim := { program := "ytjepgpocmnijiaa", sum := "93400824eff7df5e76e16cd9018fe6dbe3c03644211470026af460a888bb19a5", func := "turnpike/turnpikelaw14.CheckKeeps", spec := "checkKeeps", inPlace := ["internal/bytealg.abigen_runtime_cmpstring"], unfollowed := true, recurses := true, plainKeys := false, apart := false, narrowed := true }
def CheckKeepsUptoSaid : Prop := checkKeepsUptoRow.holds Try.pinned (OpenSpec.upto checkKeepsSpec)

/-- 'turnpikelaw14.CheckStands', WHERE WHAT IT READS IS OF BULK AT MOST 1048576: true; the input reads as it did. -/
def checkStandsUptoRow : OpenClaim := { program := "ytjepgpocmnijiaa", sum := "93400824eff7df5e76e16cd9018fe6dbe3c03644211470026af460a888bb19a5", func := "turnpike/turnpikelaw14.CheckStands", spec := "checkStands", inPlace := ["internal/bytealg.abigen_runtime_cmpstring"], unfollowed := true, recurses := true, plainKeys := false, apart := false, narrowed := true }
def CheckStandsUptoSaid : Prop := checkStandsUptoRow.holds Try.pinned (OpenSpec.upto checkStandsSpec)

/-- 'turnpikelaw14.CheckBack', WHERE WHAT IT READS IS OF BULK AT MOST 1048576: true; the input reads as it did. -/
def checkBackUptoRow : OpenClaim := { program := "ytjepgpocmnijiaa", sum := "93400824eff7df5e76e16cd9018fe6dbe3c03644211470026af460a888bb19a5", func := "turnpike/turnpikelaw14.CheckBack", spec := "checkBack", inPlace := ["internal/bytealg.abigen_runtime_cmpstring"], unfollowed := true, recurses := true, plainKeys := false, apart := false, narrowed := true }
def CheckBackUptoSaid : Prop := checkBackUptoRow.holds Try.pinned (OpenSpec.upto checkBackSpec)

/-- 'turnpikelaw14.CheckOwn', WHERE WHAT IT READS IS OF BULK AT MOST 1048576: true; the input reads as it did. -/
def checkOwnUptoRow : OpenClaim := { program := "ytjepgpocmnijiaa", sum := "93400824eff7df5e76e16cd9018fe6dbe3c03644211470026af460a888bb19a5", func := "turnpike/turnpikelaw14.CheckOwn", spec := "checkOwn", inPlace := ["internal/bytealg.abigen_runtime_cmpstring"], unfollowed := true, recurses := true, plainKeys := false, apart := false, narrowed := true }
def CheckOwnUptoSaid : Prop := checkOwnUptoRow.holds Try.pinned (OpenSpec.upto checkOwnSpec)

/-- 'turnpikelaw15.TablesFinds', WHERE WHAT IT READS IS OF BULK AT MOST 1048576: true; the input reads as it did. -/
def tablesFindsUptoRow : OpenClaim := { program := "ytjepgpocmnijiaa", sum := "93400824eff7df5e76e16cd9018fe6dbe3c03644211470026af460a888bb19a5", func := "turnpike/turnpikelaw15.TablesFinds", spec := "tablesFinds", unfollowed := true, recurses := true, plainKeys := false, apart := false, narrowed := true }
def TablesFindsUptoSaid : Prop := tablesFindsUptoRow.holds Try.pinned (OpenSpec.upto tablesFindsSpec)

/-- 'turnpikelaw15.TablesShares', WHERE WHAT IT READS IS OF BULK AT MOST 1048576: true; the input reads as it did. -/
def tablesSharesUptoRow : OpenClaim := { program := "ytjepgpocmnijiaa", sum := "93400824eff7df5e76e16cd9018fe6dbe3c03644211470026af460a888bb19a5", func := "turnpike/turnpikelaw15.TablesShares", spec := "tablesShares", inPlace := ["internal/bytealg.abigen_runtime_cmpstring", "math.Float64bits"], unfollowed := true, recurses := true, plainKeys := false, apart := false, narrowed := true }
def TablesSharesUptoSaid : Prop := tablesSharesUptoRow.holds Try.pinned (OpenSpec.upto tablesSharesSpec)

/-- 'turnpikelaw15.TablesSteps', WHERE WHAT IT READS IS OF BULK AT MOST 1048576: true; the input reads as it did. -/
def tablesStepsUptoRow : OpenClaim := { program := "ytjepgpocmnijiaa", sum := "93400824eff7df5e76e16cd9018fe6dbe3c03644211470026af460a888bb19a5", func := "turnpike/turnpikelaw15.TablesSteps", spec := "tablesSteps", inPlace := ["internal/bytealg.abigen_runtime_cmpstring"], unfollowed := true, recurses := true, plainKeys := false, apart := false, narrowed := true }
def TablesStepsUptoSaid : Prop := tablesStepsUptoRow.holds Try.pinned (OpenSpec.upto tablesStepsSpec)

/-- 'turnpikelaw15.TablesCompiles', WHERE WHAT IT READS IS OF BULK AT MOST 1048576: true; the input reads as it did. -/
def tablesCompilesUptoRow : OpenClaim := { program := "ytjepgpocmnijiaa", sum := "93400824eff7df5e76e16cd9018fe6dbe3c03644211470026af460a888bb19a5", func := "turnpike/turnpikelaw15.TablesCompiles", spec := "tablesCompiles", inPlace := ["internal/bytealg.abigen_runtime_cmpstring", "math.Float64bits"], unfollowed := true, recurses := true, plainKeys := false, apart := false, narrowed := true }
def TablesCompilesUptoSaid : Prop := tablesCompilesUptoRow.holds Try.pinned (OpenSpec.upto tablesCompilesSpec)

/-- 'turnpikelaw15.TablesFirst', WHERE WHAT IT READS IS OF BULK AT MOST 1048576: true; the input reads as it did. -/
def tablesFirstUptoRow : OpenClaim := { program := "ytjepgpocmnijiaa", sum := "93400824eff7df5e76e16cd9018fe6dbe3c03644211470026af460a888bb19a5", func := "turnpike/turnpikelaw15.TablesFirst", spec := "tablesFirst", inPlace := ["internal/bytealg.abigen_runtime_cmpstring"], unfollowed := true, recurses := true, plainKeys := false, apart := false, narrowed := true }
def TablesFirstUptoSaid : Prop := tablesFirstUptoRow.holds Try.pinned (OpenSpec.upto tablesFirstSpec)

/-- 'turnpikelaw15.TablesOwn', WHERE WHAT IT READS IS OF BULK AT MOST 1048576: true; the input reads as it did. -/
def tablesOwnUptoRow : OpenClaim := { program := "ytjepgpocmnijiaa", sum := "93400824eff7df5e76e16cd9018fe6dbe3c03644211470026af460a888bb19a5", func := "turnpike/turnpikelaw15.TablesOwn", spec := "tablesOwn", inPlace := ["internal/bytealg.abigen_runtime_cmpstring", "math.Float64bits"], unfollowed := true, recurses := true, plainKeys := false, apart := false, narrowed := true }
def TablesOwnUptoSaid : Prop := tablesOwnUptoRow.holds Try.pinned (OpenSpec.upto tablesOwnSpec)

/-- 'turnpikelaw15.TablesLocal', WHERE WHAT IT READS IS OF BULK AT MOST 1048576: true; the input reads as it did. -/
def tablesLocalUptoRow : OpenClaim := { program := "ytjepgpocmnijiaa", sum := "93400824eff7df5e76e16cd9018fe6dbe3c03644211470026af460a888bb19a5", func := "turnpike/turnpikelaw15.TablesLocal", spec := "tablesLocal", inPlace := ["internal/bytealg.abigen_runtime_cmpstring", "math.Float64bits"], unfollowed := true, recurses := true, plainKeys := false, apart := false, narrowed := true }
def TablesLocalUptoSaid : Prop := tablesLocalUptoRow.holds Try.pinned (OpenSpec.upto tablesLocalSpec)

/-- 'turnpikelaw15.TablesThrough', WHERE WHAT IT READS IS OF BULK AT MOST 1048576: true; the input reads as it did. -/
def tablesThroughUptoRow : OpenClaim := { program := "ytjepgpocmnijiaa", sum := "93400824eff7df5e76e16cd9018fe6dbe3c03644211470026af460a888bb19a5", func := "turnpike/turnpikelaw15.TablesThrough", spec := "tablesThrough", inPlace := ["internal/bytealg.abigen_runtime_cmpstring"], unfollowed := true, recurses := true, plainKeys := false, apart := false, narrowed := true }
def TablesThroughUptoSaid : Prop := tablesThroughUptoRow.holds Try.pinned (OpenSpec.upto tablesThroughSpec)

end Rows
end Go.Proofs.Ytjepgpocmnijiaa
