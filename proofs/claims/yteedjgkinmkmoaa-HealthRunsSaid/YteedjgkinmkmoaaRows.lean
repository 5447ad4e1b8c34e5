/-
  No cell of these rows narrows 'for every input' (looked for: loops, veiled, ifaces, maps, wideKeys, modest, calm, conditions, laid).
  DERIVED. THE GIVEN ROWS OF THIS SEAT. 6 by the template 'for every input the law returns true; each argument reads behind the call as it read before'; 0 by the template 'total and deterministic' (their statements: YteedjgkinmkmoaaTotals.lean).
  GIVEN WITH THE SEED: the statements are not yours to turn. If you find one false, say at which input.
  Laid BY PROGRAM, IN A SANDBOX (cutbox-rows.mjs): the forced cells as the released guide's own fill.sh prints them over the translation efecdb43e6a33c4a… (all of the seat's roots in one cut). By AI agents, Wed Nov 11 2026. No macro, syntax, notation, axiom, sorry.
-/
import Derived.Test.YteedjgkinmkmoaaChecked
import GoSem.Claim
import GoSem.ClaimJoined
import GoSem.ClaimMapViews
import Derived.JoinedTies
import Derived.KernelRfl
namespace Go.Proofs.Yteedjgkinmkmoaa
/- THE CELL 'sum', in the pinned program and in every row, IS THE sha256 OF THE DUMP (.gsa) THAT YteedjgkinmkmoaaProg.lean LOADS. Nothing in Lean hashes anything: it is a label: what it is worth is what the hold of that sum in a sandbox is worth. -/
noncomputable def Try.pinned : Pinned := { name := "yteedjgkinmkmoaa", sum := "efecdb43e6a33c4a2691eea701bbcc6d2b7bdd3bea023c953ddb36af1b419ca1", checked := Try.checked }
namespace Rows
def none {H : Type} : Left H := { results := [], args := [] }

/-- 'turnpikelaw17.HealthRises': WHATEVER THE INPUT: true; the input reads as it did. -/
def healthRisesSpec : ChangeSpec := { name := "healthRises", fn := fun _ => fun
  | [d1, d2, d3] => { results := [.lit (.bool true)], args := [d1, d2, d3] }
  | _ => none }
def healthRisesRow : OpenClaim := { program := "yteedjgkinmkmoaa", sum := "efecdb43e6a33c4a2691eea701bbcc6d2b7bdd3bea023c953ddb36af1b419ca1", func := "turnpike/turnpikelaw17.HealthRises", spec := "healthRises", inPlace := ["math.Float64bits", "math.Float64frombits"], apart := false }
def HealthRisesSaid : Prop := healthRisesRow.holds Try.pinned (OpenSpec.ofChange healthRisesSpec)

/-- ITS FALSE NEIGHBOUR: 'it returns false'. Refute it at one input. -/
def healthRisesWrong : ChangeSpec := { name := "healthRises", fn := fun _ => fun
  | [d1, d2, d3] => { results := [.lit (.bool false)], args := [d1, d2, d3] }
  | _ => none }
def HealthRisesWrongFalsely : Prop := healthRisesRow.holds Try.pinned (OpenSpec.ofChange healthRisesWrong)

/-- 'turnpikelaw17.HealthTimes': WHATEVER THE INPUT: true; the input reads as it did. -/
def healthTimesSpec : ChangeSpec := { name := "healthTimes", fn := fun _ => fun
  | [d] => { results := [.lit (.bool true)], args := [d] }
  | _ => none }
def healthTimesRow : OpenClaim := { program := "yteedjgkinmkmoaa", sum := "efecdb43e6a33c4a2691eea701bbcc6d2b7bdd3bea023c953ddb36af1b419ca1", func := "turnpike/turnpikelaw17.HealthTimes", spec := "healthTimes", inPlace := ["math.Float64bits", "math.Float64frombits"], apart := false }
def HealthTimesSaid : Prop := healthTimesRow.holds Try.pinned (OpenSpec.ofChange healthTimesSpec)

/-- ITS FALSE NEIGHBOUR: 'it returns false'. Refute it at one input. -/
def healthTimesWrong : ChangeSpec := { name := "healthTimes", fn := fun _ => fun
  | [d] => { results := [.lit (.bool false)], args := [d] }
  | _ => none }
def HealthTimesWrongFalsely : Prop := healthTimesRow.holds Try.pinned (OpenSpec.ofChange healthTimesWrong)

/-- 'turnpikelaw17.HealthMeets': WHATEVER THE INPUT: true; the input reads as it did. -/
def healthMeetsSpec : ChangeSpec := { name := "healthMeets", fn := fun _ => fun
  | [d1, d2] => { results := [.lit (.bool true)], args := [d1, d2] }
  | _ => none }
def healthMeetsRow : OpenClaim := { program := "yteedjgkinmkmoaa", sum := "efecdb43e6a33c4a2691eea701bbcc6d2b7bdd3bea023c953ddb36af1b419ca1", func := "turnpike/turnpikelaw17.HealthMeets", spec := "healthMeets", inPlace := ["math.Float64bits", "math.Float64frombits"], apart := false }
def HealthMeetsSaid : Prop := healthMeetsRow.holds Try.pinned (OpenSpec.ofChange healthMeetsSpec)

/-- ITS FALSE NEIGHBOUR: 'it returns false'. Refute it at one input. -/
def healthMeetsWrong : ChangeSpec := { name := "healthMeets", fn := fun _ => fun
  | [d1, d2] => { results := [.lit (.bool false)], args := [d1, d2] }
  | _ => none }
def HealthMeetsWrongFalsely : Prop := healthMeetsRow.holds Try.pinned (OpenSpec.ofChange healthMeetsWrong)

/-- 'turnpikelaw17.HealthSlower': WHATEVER THE INPUT: true; the input reads as it did. -/
def healthSlowerSpec : ChangeSpec := { name := "healthSlower", fn := fun _ => fun
  | [d1, d2] => { results := [.lit (.bool true)], args := [d1, d2] }
  | _ => none }
def healthSlowerRow : OpenClaim := { program := "yteedjgkinmkmoaa", sum := "efecdb43e6a33c4a2691eea701bbcc6d2b7bdd3bea023c953ddb36af1b419ca1", func := "turnpike/turnpikelaw17.HealthSlower", spec := "healthSlower", inPlace := ["math.Float64bits", "math.Float64frombits"], apart := false }
def HealthSlowerSaid : Prop := healthSlowerRow.holds Try.pinned (OpenSpec.ofChange healthSlowerSpec)

/-- ITS FALSE NEIGHBOUR: 'it returns false'. Refute it at one input. -/
def healthSlowerWrong : ChangeSpec := { name := "healthSlower", fn := fun _ => fun
  | [d1, d2] => { results := [.lit (.bool false)], args := [d1, d2] }
  | _ => none }
def HealthSlowerWrongFalsely : Prop := healthSlowerRow.holds Try.pinned (OpenSpec.ofChange healthSlowerWrong)

/-- 'turnpikelaw17.HealthRuns': WHATEVER THE INPUT: true; the input reads as it did. -/
def healthRunsSpec : ChangeSpec := { name := "healthRuns", fn := fun _ => fun
  | [d] => { results := [.lit (.bool true)], args := [d] }
  | _ => none }
def healthRunsRow : OpenClaim := { program := "yteedjgkinmkmoaa", sum := "efecdb43e6a33c4a2691eea701bbcc6d2b7bdd3bea023c953ddb36af1b419ca1", func := "turnpike/turnpikelaw17.HealthRuns", spec := "healthRuns", inPlace := ["math.Float64bits", "math.Float64frombits"], apart := false }
def HealthRunsSaid : Prop := healthRunsRow.holds Try.pinned (OpenSpec.ofChange healthRunsSpec)

/-- ITS FALSE NEIGHBOUR: 'it returns false'. Refute it at one input. -/
def healthRunsWrong : ChangeSpec := { name := "healthRuns", fn := fun _ => fun
  | [d] => { results := [.lit (.bool false)], args := [d] }
  | _ => none }
def HealthRunsWrongFalsely : Prop := healthRunsRow.holds Try.pinned (OpenSpec.ofChange healthRunsWrong)

/-- 'turnpikelaw17.HealthApart': WHATEVER THE INPUT: true; the input reads as it did. -/
def healthApartSpec : ChangeSpec := { name := "healthApart", fn := fun _ => fun
  | [d1, d2] => { results := [.lit (.bool true)], args := [d1, d2] }
  | _ => none }
def healthApartRow : OpenClaim := { program := "yteedjgkinmkmoaa", sum := "efecdb43e6a33c4a2691eea701bbcc6d2b7bdd3bea023c953ddb36af1b419ca1", func := "turnpike/turnpikelaw17.HealthApart", spec := "healthApart", inPlace := ["math.Float64bits", "math.Float64frombits"], apart := false }
def HealthApartSaid : Prop := healthApartRow.holds Try.pinned (OpenSpec.ofChange healthApartSpec)

/-- ITS FALSE NEIGHBOUR: 'it returns false'. Refute it at one input. -/
def healthApartWrong : ChangeSpec := { name := "healthApart", fn := fun _ => fun
  | [d1, d2] => { results := [.lit (.bool false)], args := [d1, d2] }
  | _ => none }
def HealthApartWrongFalsely : Prop := healthApartRow.holds Try.pinned (OpenSpec.ofChange healthApartWrong)

/- THE SECOND FORM. 'bulk': how many values and letters a reading holds, each counted each time it is reached (what is shared counts as often as it is met; a slice's spare places count too). A statement '..UptoSaid' is the law's where the arguments, and the package variables that the reading takes, are together of bulk at most 1048576: NARROWER than '..Said'. Prove '..Said' where nothing that the law and all that it calls make is longer than what came in: it says more and counts as full. Else prove '..UptoSaid'. A law counts once. -/
mutual
def uptoBulk {H : Type} : DataW H → Nat
  | .lit (.string bytes) => bytes.length + 1
  | .lit _ => 1
  | .nil => 1
  | .ptr d => uptoBulk d + 1
  | .slice elems spare => uptoBulkAll elems + uptoBulkAll spare + 1
  | .agg parts => uptoBulkAll parts + 1
  | .iface _ d => uptoBulk d + 1
  | .map entries => uptoBulkEntries entries + 1
  | .held _ => 1
def uptoBulkAll {H : Type} : List (DataW H) → Nat
  | [] => 0
  | d :: r => uptoBulk d + uptoBulkAll r
def uptoBulkEntries {H : Type} : List (Lit × DataW H) → Nat
  | [] => 0
  | x :: r => uptoBulkEntry x + uptoBulkEntries r
def uptoBulkEntry {H : Type} : Lit × DataW H → Nat
  | (.string bytes, d) => bytes.length + uptoBulk d + 1
  | (_, d) => uptoBulk d + 1
 end
def uptoSmall : (H : Type) → List (DataW H) → Bool := fun _ ds => decide (uptoBulkAll ds ≤ 1048576)
def OpenSpec.upto (s : _root_.Go.ChangeSpec) : _root_.Go.OpenSpec := { _root_.Go.OpenSpec.ofChange s with cond := some uptoSmall }

/-- 'turnpikelaw17.HealthRises', WHERE WHAT IT READS IS OF BULK AT MOST 1048576: true; the input reads as it did. -/
def healthRisesUptoRow : OpenClaim := { program := "yteedjgkinmkmoaa", sum := "efecdb43e6a33c4a2691eea701bbcc6d2b7bdd3bea023c953ddb36af1b419ca1", func := "turnpike/turnpikelaw17.HealthRises", spec := "healthRises", inPlace := ["math.Float64bits", "math.Float64frombits"], apart := false, narrowed := true }
def HealthRisesUptoSaid : Prop := healthRisesUptoRow.holds Try.pinned (OpenSpec.upto healthRisesSpec)

/-- 'turnpikelaw17.HealthTimes', WHERE WHAT IT READS IS OF BULK AT MOST 1048576: true; the input reads as it did. -/
def healthTimesUptoRow : OpenClaim := { program := "yteedjgkinmkmoaa", sum := "efecdb43e6a33c4a2691eea701bbcc6d2b7bdd3bea023c953ddb36af1b419ca1", func := "turnpike/turnpikelaw17.HealthTimes", spec := "healthTimes", inPlace := ["math.Float64bits", "math.Float64frombits"], apart := false, narrowed := true }
def HealthTimesUptoSaid : Prop := healthTimesUptoRow.holds Try.pinned (OpenSpec.upto healthTimesSpec)

/-- 'turnpikelaw17.HealthMeets', WHERE WHAT IT READS IS OF BULK AT MOST 1048576: true; the input reads as it did. -/
def healthMeetsUptoRow : OpenClaim := { program := "yteedjgkinmkmoaa", sum := "efecdb43e6a33c4a2691eea701bbcc6d2b7bdd3bea023c953ddb36af1b419ca1", func := "turnpike/turnpikelaw17.HealthMeets", spec := "healthMeets", inPlace := ["math.Float64bits", "math.Float64frombits"], apart := false, narrowed := true }
def HealthMeetsUptoSaid : Prop := healthMeetsUptoRow.holds Try.pinned (OpenSpec.upto healthMeetsSpec)

/-- 'turnpikelaw17.HealthSlower', WHERE WHAT IT READS IS OF BULK AT MOST 1048576: true; the input reads as it did. -/
def healthSlowerUptoRow : OpenClaim := { program := "yteedjgkinmkmoaa", sum := "efecdb43e6a33c4a2691eea701bbcc6d2b7bdd3bea023c953ddb36af1b419ca1", func := "turnpike/turnpikelaw17.HealthSlower", spec := "healthSlower", inPlace := ["math.Float64bits", "math.Float64frombits"], apart := false, narrowed := true }
def HealthSlowerUptoSaid : Prop := healthSlowerUptoRow.holds Try.pinned (OpenSpec.upto healthSlowerSpec)

/-- 'turnpikelaw17.HealthRuns', WHERE WHAT IT READS IS OF BULK AT MOST 1048576: true; the input reads as it did. -/
def healthRunsUptoRow : OpenClaim := { program := "yteedjgkinmkmoaa", sum := "efecdb43e6a33c4a2691eea701bbcc6d2b7bdd3bea023c953ddb36af1b419ca1", func := "turnpike/turnpikelaw17.HealthRuns", spec := "healthRuns", inPlace := ["math.Float64bits", "math.Float64frombits"], apart := false, narrowed := true }
def HealthRunsUptoSaid : Prop := healthRunsUptoRow.holds Try.pinned (OpenSpec.upto healthRunsSpec)

/-- 'turnpikelaw17.HealthApart', WHERE WHAT IT READS IS OF BULK AT MOST 1048576: true; the input reads as it did. -/
def healthApartUptoRow : OpenClaim := { program := "yteedjgkinmkmoaa", sum := "efecdb43e6a33c4a2691eea701bbcc6d2b7bdd3bea023c953ddb36af1b419ca1", func := "turnpike/turnpikelaw17.HealthApart", spec := "healthApart", inPlace := ["math.Float64bits", "math.Float64frombits"], apart := false, narrowed := true }
def HealthApartUptoSaid : Prop := healthApartUptoRow.holds Try.pinned (OpenSpec.upto healthApartSpec)

end Rows
end Go.Proofs.Yteedjgkinmkmoaa
