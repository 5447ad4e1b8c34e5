/-
  No cell of these rows narrows 'for every input' (looked for: loops, veiled, ifaces, maps, wideKeys, modest, calm, conditions, laid).
  DERIVED. THE GIVEN ROWS OF THIS SEAT. 7 by the template 'for every input the law returns true; each argument reads behind the call as it read before'; 0 by the template 'total and deterministic' (their statements: YtfdmfihifjlidaaTotals.lean).
  GIVEN WITH THE SEED: the statements are not yours to turn. If you find one false, say at which input.
  Laid BY PROGRAM, IN A SANDBOX (cutbox-rows.mjs): the forced cells as the released guide's own fill.sh prints them over the translation a1252a6ca6d1fd8f… (all of the seat's roots in one cut). By AI agents, Wed Nov 11 2026. No macro, syntax, notation, axiom, sorry.
-/
import Derived.Test.YtfdmfihifjlidaaChecked
import GoSem.Claim
import GoSem.ClaimJoined
import GoSem.ClaimMapViews
import Derived.JoinedTies
import Derived.KernelRfl
namespace Go.Proofs.Ytfdmfihifjlidaa
/- THE CELL 'sum', in the pinned program and in every row, IS THE sha256 OF THE DUMP (.gsa) THAT YtfdmfihifjlidaaProg.lean LOADS. Nothing in Lean hashes anything: it is a label: what it is worth is what the hold of that sum in a sandbox is worth. -/
noncomputable def Try.pinned : Pinned := { name := "ytfdmfihifjlidaa", sum := "a1252a6ca6d1fd8f0d930a794a537dea0be2a164e1181e5031285a0d5acd8c5c", checked := Try.checked }
namespace Rows
def none {H : Type} : Left H := { results := [], args := [] }

/-- 'turnpikelaw05.DrawNumbers': WHATEVER THE INPUT: true; the input reads as it did. -/
def drawNumbersSpec : ChangeSpec := { name := "drawNumbers", fn := fun _ => fun
  | [d1, d2] => { results := [.lit (.bool true)], args := [d1, d2] }
  | _ => none }
def drawNumbersRow : OpenClaim := { program := "ytfdmfihifjlidaa", sum := "a1252a6ca6d1fd8f0d930a794a537dea0be2a164e1181e5031285a0d5acd8c5c", func := "turnpike/turnpikelaw05.DrawNumbers", spec := "drawNumbers", inPlace := ["math.Float64bits"], apart := false }
def DrawNumbersSaid : Prop := drawNumbersRow.holds Try.pinned (OpenSpec.ofChange drawNumbersSpec)

/-- ITS FALSE NEIGHBOUR: 'it returns false'. Refute it at one input. -/
def drawNumbersWrong : ChangeSpec := { name := "drawNumbers", fn := fun _ => fun
  | [d1, d2] => { results := [.lit (.bool false)], args := [d1, d2] }
  | _ => none }
def DrawNumbersWrongFalsely : Prop := drawNumbersRow.holds Try.pinned (OpenSpec.ofChange drawNumbersWrong)

/-- 'turnpikelaw05.DrawSources': WHATEVER THE INPUT: true; the input reads as it did. -/
def drawSourcesSpec : ChangeSpec := { name := "drawSources", fn := fun _ => fun
  | [d1, d2, d3] => { results := [.lit (.bool true)], args := [d1, d2, d3] }
  | _ => none }
def drawSourcesRow : OpenClaim := { program := "ytfdmfihifjlidaa", sum := "a1252a6ca6d1fd8f0d930a794a537dea0be2a164e1181e5031285a0d5acd8c5c", func := "turnpike/turnpikelaw05.DrawSources", spec := "drawSources", apart := false }
def DrawSourcesSaid : Prop := drawSourcesRow.holds Try.pinned (OpenSpec.ofChange drawSourcesSpec)

/-- ITS FALSE NEIGHBOUR: 'it returns false'. Refute it at one input. -/
def drawSourcesWrong : ChangeSpec := { name := "drawSources", fn := fun _ => fun
  | [d1, d2, d3] => { results := [.lit (.bool false)], args := [d1, d2, d3] }
  | _ => none }
def DrawSourcesWrongFalsely : Prop := drawSourcesRow.holds Try.pinned (OpenSpec.ofChange drawSourcesWrong)

/-- 'turnpikelaw05.DrawWeights': WHATEVER THE INPUT: true; the input reads as it did. -/
def drawWeightsSpec : ChangeSpec := { name := "drawWeights", fn := fun _ => fun
  | [d1, d2, d3] => { results := [.lit (.bool true)], args := [d1, d2, d3] }
  | _ => none }
def drawWeightsRow : OpenClaim := { program := "ytfdmfihifjlidaa", sum := "a1252a6ca6d1fd8f0d930a794a537dea0be2a164e1181e5031285a0d5acd8c5c", func := "turnpike/turnpikelaw05.DrawWeights", spec := "drawWeights", inPlace := ["math.Float64bits", "math.Float64frombits"], apart := false }
def DrawWeightsSaid : Prop := drawWeightsRow.holds Try.pinned (OpenSpec.ofChange drawWeightsSpec)

/-- ITS FALSE NEIGHBOUR: 'it returns false'. Refute it at one input. -/
def drawWeightsWrong : ChangeSpec := { name := "drawWeights", fn := fun _ => fun
  | [d1, d2, d3] => { results := [.lit (.bool false)], args := [d1, d2, d3] }
  | _ => none }
def DrawWeightsWrongFalsely : Prop := drawWeightsRow.holds Try.pinned (OpenSpec.ofChange drawWeightsWrong)

/-- 'turnpikelaw05.DrawPlaces': WHATEVER THE INPUT: true; the input reads as it did. -/
def drawPlacesSpec : ChangeSpec := { name := "drawPlaces", fn := fun _ => fun
  | [d1, d2, d3] => { results := [.lit (.bool true)], args := [d1, d2, d3] }
  | _ => none }
def drawPlacesRow : OpenClaim := { program := "ytfdmfihifjlidaa", sum := "a1252a6ca6d1fd8f0d930a794a537dea0be2a164e1181e5031285a0d5acd8c5c", func := "turnpike/turnpikelaw05.DrawPlaces", spec := "drawPlaces", inPlace := ["math.Float64bits", "math.Float64frombits"], apart := false }
def DrawPlacesSaid : Prop := drawPlacesRow.holds Try.pinned (OpenSpec.ofChange drawPlacesSpec)

/-- ITS FALSE NEIGHBOUR: 'it returns false'. Refute it at one input. -/
def drawPlacesWrong : ChangeSpec := { name := "drawPlaces", fn := fun _ => fun
  | [d1, d2, d3] => { results := [.lit (.bool false)], args := [d1, d2, d3] }
  | _ => none }
def DrawPlacesWrongFalsely : Prop := drawPlacesRow.holds Try.pinned (OpenSpec.ofChange drawPlacesWrong)

/-- 'turnpikelaw05.DrawShares': WHATEVER THE INPUT: true; the input reads as it did. -/
def drawSharesSpec : ChangeSpec := { name := "drawShares", fn := fun _ => fun
  | [d1, d2] => { results := [.lit (.bool true)], args := [d1, d2] }
  | _ => none }
def drawSharesRow : OpenClaim := { program := "ytfdmfihifjlidaa", sum := "a1252a6ca6d1fd8f0d930a794a537dea0be2a164e1181e5031285a0d5acd8c5c", func := "turnpike/turnpikelaw05.DrawShares", spec := "drawShares", inPlace := ["math.Float64bits", "math.Float64frombits"], apart := false }
def DrawSharesSaid : Prop := drawSharesRow.holds Try.pinned (OpenSpec.ofChange drawSharesSpec)

/-- ITS FALSE NEIGHBOUR: 'it returns false'. Refute it at one input. -/
def drawSharesWrong : ChangeSpec := { name := "drawShares", fn := fun _ => fun
  | [d1, d2] => { results := [.lit (.bool false)], args := [d1, d2] }
  | _ => none }
def DrawSharesWrongFalsely : Prop := drawSharesRow.holds Try.pinned (OpenSpec.ofChange drawSharesWrong)

/-- 'turnpikelaw05.DrawUnits': WHATEVER THE INPUT: true; the input reads as it did. -/
def drawUnitsSpec : ChangeSpec := { name := "drawUnits", fn := fun _ => fun
  | [d1, d2, d3] => { results := [.lit (.bool true)], args := [d1, d2, d3] }
  | _ => none }
def drawUnitsRow : OpenClaim := { program := "ytfdmfihifjlidaa", sum := "a1252a6ca6d1fd8f0d930a794a537dea0be2a164e1181e5031285a0d5acd8c5c", func := "turnpike/turnpikelaw05.DrawUnits", spec := "drawUnits", inPlace := ["math.Float64bits", "math.Float64frombits"], apart := false }
def DrawUnitsSaid : Prop := drawUnitsRow.holds Try.pinned (OpenSpec.ofChange drawUnitsSpec)

/-- ITS FALSE NEIGHBOUR: 'it returns false'. Refute it at one input. -/
def drawUnitsWrong : ChangeSpec := { name := "drawUnits", fn := fun _ => fun
  | [d1, d2, d3] => { results := [.lit (.bool false)], args := [d1, d2, d3] }
  | _ => none }
def DrawUnitsWrongFalsely : Prop := drawUnitsRow.holds Try.pinned (OpenSpec.ofChange drawUnitsWrong)

/-- 'turnpikelaw05.DrawOwn': WHATEVER THE INPUT: true; the input reads as it did. -/
def drawOwnSpec : ChangeSpec := { name := "drawOwn", fn := fun _ => fun
  | [d1, d2] => { results := [.lit (.bool true)], args := [d1, d2] }
  | _ => none }
def drawOwnRow : OpenClaim := { program := "ytfdmfihifjlidaa", sum := "a1252a6ca6d1fd8f0d930a794a537dea0be2a164e1181e5031285a0d5acd8c5c", func := "turnpike/turnpikelaw05.DrawOwn", spec := "drawOwn", inPlace := ["math.Float64bits", "math.Float64frombits"], apart := false }
def DrawOwnSaid : Prop := drawOwnRow.holds Try.pinned (OpenSpec.ofChange drawOwnSpec)

/-- ITS FALSE NEIGHBOUR: 'it returns false'. Refute it at one input. -/
def drawOwnWrong : ChangeSpec := { name := "drawOwn", fn := fun _ => fun
  | [d1, d2] => { results := [.lit (.bool false)], args := [d1, d2] }
  | _ => none }
def DrawOwnWrongFalsely : Prop := drawOwnRow.holds Try.pinned (OpenSpec.ofChange drawOwnWrong)

/- THE SECOND FORM. 'bulk': how many values and letters a reading holds, each counted each time it is reached (what is shared counts as often as it is met; a slice's spare places count too). A statement '..UptoSaid' is the law's where the arguments, and the package variables that the reading takes, are together of bulk at most 1048576: NARROWER than '..Said'. Prove '..Said' where nothing that the law and all that it calls make is longer than what came in: it says more and counts as full. Else prove '..UptoSaid'. A law counts once. -/
mutual
def uptoBulk {H : Type} : DataW H → Nat
  | .lit (.string bytes) => bytes.length + 1
  | .lit _ => 1
  | .nil => 1
  | .ptr d => uptoBulk d + 1
  | .slice elems spare => uptoBulkAll elems + uptoBulkAll spare + 1
  | .agg parts => uptoBulkAll parts + 1
  | .iface _ d => uptoBulk d + 1
  | .map entries => uptoBulkEntries entries + 1
  | .held _ => 1
def uptoBulkAll {H : Type} : List (DataW H) → Nat
  | [] => 0
  | d :: r => uptoBulk d + uptoBulkAll r
def uptoBulkEntries {H : Type} : List (Lit × DataW H) → Nat
  | [] => 0
  | x :: r => uptoBulkEntry x + uptoBulkEntries r
def uptoBulkEntry {H : Type} : Lit × DataW H → Nat
  | (.string bytes, d) => bytes.length + uptoBulk d + 1
  | (_, d) => uptoBulk d + 1
 end
def uptoSmall : (H : Type) → List (DataW H) → Bool := fun _ ds => decide (uptoBulkAll ds ≤ 1048576)
def OpenSpec.upto (s : _root_.Go.ChangeSpec) : _root_.Go.OpenSpec := { _root_.Go.OpenSpec.ofChange s with cond := some uptoSmall }

/-- 'turnpikelaw05.DrawNumbers', WHERE WHAT IT READS IS OF BULK AT MOST 1048576: true; the input reads as it did. -/
def drawNumbersUptoRow : OpenClaim := { program := "ytfdmfihifjlidaa", sum := "a1252a6ca6d1fd8f0d930a794a537dea0be2a164e1181e5031285a0d5acd8c5c", func := "turnpike/turnpikelaw05.DrawNumbers", spec := "drawNumbers", inPlace := ["math.Float64bits"], apart := false, narrowed := true }
def DrawNumbersUptoSaid : Prop := drawNumbersUptoRow.holds Try.pinned (OpenSpec.upto drawNumbersSpec)

/-- 'turnpikelaw05.DrawSources', WHERE WHAT IT READS IS OF BULK AT MOST 1048576: true; the input reads as it did. -/
def drawSourcesUptoRow : OpenClaim := { program := "ytfdmfihifjlidaa", sum := "a1252a6ca6d1fd8f0d930a794a537dea0be2a164e1181e5031285a0d5acd8c5c", func := "turnpike/turnpikelaw05.DrawSources", spec := "drawSources", apart := false, narrowed := true }
def DrawSourcesUptoSaid : Prop := drawSourcesUptoRow.holds Try.pinned (OpenSpec.upto drawSourcesSpec)

/-- 'turnpikelaw05.DrawWeights', WHERE WHAT IT READS IS OF BULK AT MOST 1048576: true; the input reads as it did. -/
def drawWeightsUptoRow : OpenClaim := { program := "ytfdmfihifjlidaa", sum := "a1252a6ca6d1fd8f0d930a794a537dea0be2a164e1181e5031285a0d5acd8c5c", func := "turnpike/turnpikelaw05.DrawWeights", spec := "drawWeights", inPlace := ["math.Float64bits", "math.Float64frombits"], apart := false, narrowed := true }
def DrawWeightsUptoSaid : Prop := drawWeightsUptoRow.holds Try.pinned (OpenSpec.upto drawWeightsSpec)

/-- 'turnpikelaw05.DrawPlaces', WHERE WHAT IT READS IS OF BULK AT MOST 1048576: true; the input reads as it did. -/
def drawPlacesUptoRow : OpenClaim := { program := "ytfdmfihifjlidaa", sum := "a1252a6ca6d1fd8f0d930a794a537dea0be2a164e1181e5031285a0d5acd8c5c", func := "turnpike/turnpikelaw05.DrawPlaces", spec := "drawPlaces", inPlace := ["math.Float64bits", "math.Float64frombits"], apart := false, narrowed := true }
def DrawPlacesUptoSaid : Prop := drawPlacesUptoRow.holds Try.pinned (OpenSpec.upto drawPlacesSpec)

/-- 'turnpikelaw05.DrawShares', WHERE WHAT IT READS IS OF BULK AT MOST 1048576: true; the input reads as it did. -/
def drawSharesUptoRow : OpenClaim := { program := "ytfdmfihifjlidaa", sum := "a1252a6ca6d1fd8f0d930a794a537dea0be2a164e1181e5031285a0d5acd8c5c", func := "turnpike/turnpikelaw05.DrawShares", spec := "drawShares", inPlace := ["math.Float64bits", "math.Float64frombits"], apart := false, narrowed := true }
def DrawSharesUptoSaid : Prop := drawSharesUptoRow.holds Try.pinned (OpenSpec.upto drawSharesSpec)

/-- 'turnpikelaw05.DrawUnits', WHERE WHAT IT READS IS OF BULK AT MOST 1048576: true; the input reads as it did. -/
def drawUnitsUptoRow : OpenClaim := { program := "ytfdmfihifjlidaa", sum := "a1252a6ca6d1fd8f0d930a794a537dea0be2a164e1181e5031285a0d5acd8c5c", func := "turnpike/turnpikelaw05.DrawUnits", spec := "drawUnits", inPlace := ["math.Float64bits", "math.Float64frombits"], apart := false, narrowed := true }
def DrawUnitsUptoSaid : Prop := drawUnitsUptoRow.holds Try.pinned (OpenSpec.upto drawUnitsSpec)

/-- 'turnpikelaw05.DrawOwn', WHERE WHAT IT READS IS OF BULK AT MOST 1048576: true; the input reads as it did. -/
def drawOwnUptoRow : OpenClaim := { program := "ytfdmfihifjlidaa", sum := "a1252a6ca6d1fd8f0d930a794a537dea0be2a164e1181e5031285a0d5acd8c5c", func := "turnpike/turnpikelaw05.DrawOwn", spec := "drawOwn", inPlace := ["math.Float64bits", "math.Float64frombits"], apart := false, narrowed := true }
def DrawOwnUptoSaid : Prop := drawOwnUptoRow.holds Try.pinned (OpenSpec.upto drawOwnSpec)

end Rows
end Go.Proofs.Ytfdmfihifjlidaa
