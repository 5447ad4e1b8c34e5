/-
  No cell of these rows narrows 'for every input' (looked for: loops, veiled, ifaces, maps, wideKeys, modest, calm, conditions, laid).
  DERIVED. THE GIVEN ROWS OF THIS SEAT. 3 by the template 'for every input the law returns true; each argument reads behind the call as it read before'; 0 by the template 'total and deterministic' (their statements: YtmlcljbpobgdiaaTotals.lean).
  GIVEN WITH THE SEED: the statements are not yours to turn. If you find one false, say at which input.
  Laid BY PROGRAM, IN A SANDBOX (cutbox-rows.mjs): the forced cells as the released guide's own fill.sh prints them over the translation fac991f7fdd3221c… (all of the seat's roots in one cut). By AI agents, Wed Nov 11 2026. No macro, syntax, notation, axiom, sorry.
-/
import Derived.Test.YtmlcljbpobgdiaaChecked
import GoSem.Claim
import GoSem.ClaimJoined
import GoSem.ClaimMapViews
import Derived.JoinedTies
import Derived.KernelRfl
namespace Go.Proofs.Ytmlcljbpobgdiaa
/- THE CELL 'sum', in the pinned program and in every row, IS THE sha256 OF THE DUMP (.gsa) THAT YtmlcljbpobgdiaaProg.lean LOADS. Nothing in Lean hashes anything: it is a label: what it is worth is what the hold of that sum in a sandbox is worth. -/
noncomputable def Try.pinned : Pinned := { name := "ytmlcljbpobgdiaa", sum := "fac991f7fdd3221c8992c3cb2e32708773ca7f48446105ae5e955b94a4102b3a", checked := Try.checked }
namespace Rows
def none {H : Type} : Left H := { results := [], args := [] }

/-- 'turnpikelaw10.EmitJoins': WHATEVER THE INPUT: true; the input reads as it did. -/
def emitJoinsSpec : ChangeSpec := { name := "emitJoins", fn := fun _ => fun
  | [d1, d2, d3] => { results := [.lit (.bool true)], args := [d1, d2, d3] }
  | _ => none }
def emitJoinsRow : OpenClaim := { program := "ytmlcljbpobgdiaa", sum := "fac991f7fdd3221c8992c3cb2e32708773ca7f48446105ae5e955b94a4102b3a", func := "turnpike/turnpikelaw10.EmitJoins", spec := "emitJoins", inPlace := ["internal/abi.NoEscape", "internal/bytealg.MakeNoZero"], unfollowed := true, recurses := true, apart := false }
def EmitJoinsSaid : Prop := emitJoinsRow.holds Try.pinned (OpenSpec.ofChange emitJoinsSpec)

/-- ITS FALSE NEIGHBOUR: 'it returns false'. Refute it at one input. -/
def emitJoinsWrong : ChangeSpec := { name := "emitJoins", fn := fun _ => fun
  | [d1, d2, d3] => { results := [.lit (.bool false)], args := [d1, d2, d3] }
  | _ => none }
def EmitJoinsWrongFalsely : Prop := emitJoinsRow.holds Try.pinned (OpenSpec.ofChange emitJoinsWrong)

/-- 'turnpikelaw10.EmitBack': WHATEVER THE INPUT: true; the input reads as it did. -/
def emitBackSpec : ChangeSpec := { name := "emitBack", fn := fun _ => fun
  | [d] => { results := [.lit (.bool true)], args := [d] }
  | _ => none }
def emitBackRow : OpenClaim := { program := "ytmlcljbpobgdiaa", sum := "fac991f7fdd3221c8992c3cb2e32708773ca7f48446105ae5e955b94a4102b3a", func := "turnpike/turnpikelaw10.EmitBack", spec := "emitBack", inPlace := ["internal/bytealg.IndexByteString", "internal/bytealg.IndexString", "internal/abi.NoEscape", "internal/bytealg.MakeNoZero", "internal/bytealg.IndexByte", "internal/bytealg.Index"], unfollowed := true, recurses := true, named := ["internal/bytealg.MaxLen"], apart := false }
def EmitBackSaid : Prop := emitBackRow.holds Try.pinned (OpenSpec.ofChange emitBackSpec)

/-- ITS FALSE NEIGHBOUR: 'it returns false'. Refute it at one input. -/
def emitBackWrong : ChangeSpec := { name := "emitBack", fn := fun _ => fun
  | [d] => { results := [.lit (.bool false)], args := [d] }
  | _ => none }
def EmitBackWrongFalsely : Prop := emitBackRow.holds Try.pinned (OpenSpec.ofChange emitBackWrong)

/-- 'turnpikelaw10.EmitDocs': WHATEVER THE INPUT: true; the input reads as it did. -/
def emitDocsSpec : ChangeSpec := { name := "emitDocs", fn := fun _ => fun
  | [d] => { results := [.lit (.bool true)], args := [d] }
  | _ => none }
def emitDocsRow : OpenClaim := { program := "ytmlcljbpobgdiaa", sum := "fac991f7fdd3221c8992c3cb2e32708773ca7f48446105ae5e955b94a4102b3a", func := "turnpike/turnpikelaw10.EmitDocs", spec := "emitDocs", inPlace := ["internal/bytealg.IndexByteString", "internal/bytealg.IndexString", "internal/abi.NoEscape", "internal/bytealg.MakeNoZero", "internal/bytealg.IndexByte", "internal/bytealg.Index"], unfollowed := true, recurses := true, named := ["internal/bytealg.MaxLen"], apart := false }
def EmitDocsSaid : Prop := emitDocsRow.holds Try.pinned (OpenSpec.ofChange emitDocsSpec)

/-- ITS FALSE NEIGHBOUR: 'it returns false'. Refute it at one input. -/
def emitDocsWrong : ChangeSpec := { name := "emitDocs", fn := fun _ => fun
  | [d] => { results := [.lit (.bool false)], args := [d] }
  | _ => none }
def EmitDocsWrongFalsely : Prop := emitDocsRow.holds Try.pinned (OpenSpec.ofChange emitDocsWrong)

/- THE SECOND FORM. 'bulk': how many values and letters a reading holds, each counted each time it is reached (what is shared counts as often as it is met; a slice's spare places count too). A statement '..UptoSaid' is the law's where the arguments, and the package variables that the reading takes, are together of bulk at most 1048576: NARROWER than '..Said'. Prove '..Said' where nothing that the law and all that it calls make is longer than what came in: it says more and counts as full. Else prove '..UptoSaid'. A law counts once. -/
mutual
def uptoBulk {H : Type} : DataW H → Nat
  | .lit (.string bytes) => bytes.length + 1
  | .lit _ => 1
  | .nil => 1
  | .ptr d => uptoBulk d + 1
  | .slice elems spare => uptoBulkAll elems + uptoBulkAll spare + 1
  | .agg parts => uptoBulkAll parts + 1
  | .iface _ d => uptoBulk d + 1
  | .map entries => uptoBulkEntries entries + 1
  | .held _ => 1
def uptoBulkAll {H : Type} : List (DataW H) → Nat
  | [] => 0
  | d :: r => uptoBulk d + uptoBulkAll r
def uptoBulkEntries {H : Type} : List (Lit × DataW H) → Nat
  | [] => 0
  | x :: r => uptoBulkEntry x + uptoBulkEntries r
def uptoBulkEntry {H : Type} : Lit × DataW H → Nat
  | (.string bytes, d) => bytes.length + uptoBulk d + 1
  | (_, d) => uptoBulk d + 1
 end
def uptoSmall : (H : Type) → List (DataW H) → Bool := fun _ ds => decide (uptoBulkAll ds ≤ 1048576)
def OpenSpec.upto (s : _root_.Go.ChangeSpec) : _root_.Go.OpenSpec := { _root_.Go.OpenSpec.ofChange s with cond := some uptoSmall }

/-- 'turnpikelaw10.EmitJoins', WHERE WHAT IT READS IS OF BULK AT MOST 1048576: true; the input reads as it did. -/
def emitJoinsUptoRow : OpenClaim := { program := "ytmlcljbpobgdiaa", sum := "fac991f7fdd3221c8992c3cb2e32708773ca7f48446105ae5e955b94a4102b3a", func := "turnpike/turnpikelaw10.EmitJoins", spec := "emitJoins", inPlace := ["internal/abi.NoEscape", "internal/bytealg.MakeNoZero"], unfollowed := true, recurses := true, apart := false, narrowed := true }
def EmitJoinsUptoSaid : Prop := emitJoinsUptoRow.holds Try.pinned (OpenSpec.upto emitJoinsSpec)

/-- 'turnpikelaw10.EmitBack', WHERE WHAT IT READS IS OF BULK AT MOST 1048576: true; the input reads as it did. -/
def emitBackUptoRow : OpenClaim := { program := "ytmlcljbpobgdiaa", sum := "fac991f7fdd3221c8992c3cb2e32708773ca7f48446105ae5e955b94a4102b3a", func := "turnpike/turnpikelaw10.EmitBack", spec := "emitBack", inPlace := ["internal/bytealg.IndexByteString", "internal/bytealg.IndexString", "internal/abi.NoEscape", "internal/bytealg.MakeNoZero", "internal/bytealg.IndexByte", "internal/bytealg.Index"], unfollowed := true, recurses := true, named := ["internal/bytealg.MaxLen"], apart := false, narrowed := true }
def EmitBackUptoSaid : Prop := emitBackUptoRow.holds Try.pinned (OpenSpec.upto emitBackSpec)

/-- 'turnpikelaw10.EmitDocs', WHERE WHAT IT READS IS OF BULK AT MOST 1048576: true; the input reads as it did. -/
def emitDocsUptoRow : OpenClaim := { program := "ytmlcljbpobgdiaa", sum := "fac991f7fdd3221c8992c3cb2e32708773ca7f48446105ae5e955b94a4102b3a", func := "turnpike/turnpikelaw10.EmitDocs", spec := "emitDocs", inPlace := ["internal/bytealg.IndexByteString", "internal/bytealg.IndexString", "internal/abi.NoEscape", "internal/bytealg.MakeNoZero", "internal/bytealg.IndexByte", "internal/bytealg.Index"], unfollowed := true, recurses := true, named := ["internal/bytealg.MaxLen"], apart := false, narrowed := true }
def EmitDocsUptoSaid : Prop := emitDocsUptoRow.holds Try.pinned (OpenSpec.upto emitDocsSpec)

end Rows
end Go.Proofs.Ytmlcljbpobgdiaa
