/-
  No cell of these rows narrows 'for every input' (looked for: loops, veiled, ifaces, maps, wideKeys, modest, calm, conditions, laid).
  DERIVED. THE GIVEN ROWS OF THIS SEAT. 3 by the template 'for every input the law returns true; each argument reads behind the call as it read before'; 0 by the template 'total and deterministic' (their statements: YtabgckjokniooaaTotals.lean).
  GIVEN WITH THE SEED: the statements are not yours to turn. If you find one false, say at which input.
  Laid BY PROGRAM, IN A SANDBOX (cutbox-rows.mjs): the forced cells as the released guide's own fill.sh prints them over the translation 5ad6197c43fe2b38… (all of the seat's roots in one cut). By AI agents, Wed Nov 11 2026. No macro, syntax, notation, axiom, sorry.
-/
import Derived.Test.YtabgckjokniooaaChecked
import GoSem.Claim
import GoSem.ClaimJoined
import GoSem.ClaimMapViews
import Derived.JoinedTies
import Derived.KernelRfl
namespace Go.Proofs.Ytabgckjokniooaa
/- THE CELL 'sum', in the pinned program and in every row, IS THE sha256 OF THE DUMP (.gsa) THAT YtabgckjokniooaaProg.lean LOADS. Nothing in Lean hashes anything: it is a label: what it is worth is what the hold of that sum in a sandbox is worth. -/
noncomputable def Try.pinned : Pinned := { name := "ytabgckjokniooaa", sum := "5ad6197c43fe2b382fd4a5b4d4fce34f71fdfef2093ef56d94425570becfb795", checked := Try.checked }
namespace Rows
def none {H : Type} : Left H := { results := [], args := [] }

/-- 'turnpikelaw08.LinesAlone': WHATEVER THE INPUT: true; the input reads as it did. -/
def linesAloneSpec : ChangeSpec := { name := "linesAlone", fn := fun _ => fun
  | [d1, d2] => { results := [.lit (.bool true)], args := [d1, d2] }
  | _ => none }
def linesAloneRow : OpenClaim := { program := "ytabgckjokniooaa", sum := "5ad6197c43fe2b382fd4a5b4d4fce34f71fdfef2093ef56d94425570becfb795", func := "turnpike/turnpikelaw08.LinesAlone", spec := "linesAlone", inPlace := ["internal/bytealg.IndexByte", "internal/bytealg.Index", "internal/bytealg.IndexByteString", "internal/bytealg.IndexString"], unfollowed := true, recurses := true, named := ["internal/bytealg.MaxLen"], apart := false }
def LinesAloneSaid : Prop := linesAloneRow.holds Try.pinned (OpenSpec.ofChange linesAloneSpec)

/-- ITS FALSE NEIGHBOUR: 'it returns false'. Refute it at one input. -/
def linesAloneWrong : ChangeSpec := { name := "linesAlone", fn := fun _ => fun
  | [d1, d2] => { results := [.lit (.bool false)], args := [d1, d2] }
  | _ => none }
def LinesAloneWrongFalsely : Prop := linesAloneRow.holds Try.pinned (OpenSpec.ofChange linesAloneWrong)

/-- 'turnpikelaw08.LinesOwn': WHATEVER THE INPUT: true; the input reads as it did. -/
def linesOwnSpec : ChangeSpec := { name := "linesOwn", fn := fun _ => fun
  | [d] => { results := [.lit (.bool true)], args := [d] }
  | _ => none }
def linesOwnRow : OpenClaim := { program := "ytabgckjokniooaa", sum := "5ad6197c43fe2b382fd4a5b4d4fce34f71fdfef2093ef56d94425570becfb795", func := "turnpike/turnpikelaw08.LinesOwn", spec := "linesOwn", inPlace := ["internal/bytealg.IndexByte", "internal/bytealg.Index", "internal/bytealg.IndexByteString", "internal/bytealg.IndexString"], unfollowed := true, recurses := true, named := ["internal/bytealg.MaxLen"], apart := false }
def LinesOwnSaid : Prop := linesOwnRow.holds Try.pinned (OpenSpec.ofChange linesOwnSpec)

/-- ITS FALSE NEIGHBOUR: 'it returns false'. Refute it at one input. -/
def linesOwnWrong : ChangeSpec := { name := "linesOwn", fn := fun _ => fun
  | [d] => { results := [.lit (.bool false)], args := [d] }
  | _ => none }
def LinesOwnWrongFalsely : Prop := linesOwnRow.holds Try.pinned (OpenSpec.ofChange linesOwnWrong)

/-- 'turnpikelaw08.LinesQuoted': WHATEVER THE INPUT: true; the input reads as it did. -/
def linesQuotedSpec : ChangeSpec := { name := "linesQuoted", fn := fun _ => fun
  | [d1, d2] => { results := [.lit (.bool true)], args := [d1, d2] }
  | _ => none }
def linesQuotedRow : OpenClaim := { program := "ytabgckjokniooaa", sum := "5ad6197c43fe2b382fd4a5b4d4fce34f71fdfef2093ef56d94425570becfb795", func := "turnpike/turnpikelaw08.LinesQuoted", spec := "linesQuoted", inPlace := ["internal/bytealg.IndexByte", "internal/bytealg.Index", "internal/bytealg.IndexByteString", "internal/bytealg.IndexString"], unfollowed := true, recurses := true, named := ["internal/bytealg.MaxLen"], apart := false }
def LinesQuotedSaid : Prop := linesQuotedRow.holds Try.pinned (OpenSpec.ofChange linesQuotedSpec)

/-- ITS FALSE NEIGHBOUR: 'it returns false'. Refute it at one input. -/
def linesQuotedWrong : ChangeSpec := { name := "linesQuoted", fn := fun _ => fun
  | [d1, d2] => { results := [.lit (.bool false)], args := [d1, d2] }
  | _ => none }
def LinesQuotedWrongFalsely : Prop := linesQuotedRow.holds Try.pinned (OpenSpec.ofChange linesQuotedWrong)

/- THE SECOND FORM. 'bulk': how many values and letters a reading holds, each counted each time it is reached (what is shared counts as often as it is met; a slice's spare places count too). A statement '..UptoSaid' is the law's where the arguments, and the package variables that the reading takes, are together of bulk at most 1048576: NARROWER than '..Said'. Prove '..Said' where nothing that the law and all that it calls make is longer than what came in: it says more and counts as full. Else prove '..UptoSaid'. A law counts once. -/
mutual
def uptoBulk {H : Type} : DataW H → Nat
  | .lit (.string bytes) => bytes.length + 1
  | .lit _ => 1
  | .nil => 1
  | .ptr d => uptoBulk d + 1
  | .slice elems spare => uptoBulkAll elems + uptoBulkAll spare + 1
  | .agg parts => uptoBulkAll parts + 1
  | .iface _ d => uptoBulk d + 1
  | .map entries => uptoBulkEntries entries + 1
  | .held _ => 1
def uptoBulkAll {H : Type} : List (DataW H) → Nat
  | [] => 0
  | d :: r => uptoBulk d + uptoBulkAll r
def uptoBulkEntries {H : Type} : List (Lit × DataW H) → Nat
  | [] => 0
  | x :: r => uptoBulkEntry x + uptoBulkEntries r
def uptoBulkEntry {H : Type} : Lit × DataW H → Nat
  | (.string bytes, d) => bytes.length + uptoBulk d + 1
  | (_, d) => uptoBulk d + 1
 end
def uptoSmall : (H : Type) → List (DataW H) → Bool := fun _ ds => decide (uptoBulkAll ds ≤ 1048576)
def OpenSpec.upto (s : _root_.Go.ChangeSpec) : _root_.Go.OpenSpec := { _root_.Go.OpenSpec.ofChange s with cond := some uptoSmall }

/-- 'turnpikelaw08.LinesAlone', WHERE WHAT IT READS IS OF BULK AT MOST 1048576: true; the input reads as it did. -/
def linesAloneUptoRow : OpenClaim := { program := "ytabgckjokniooaa", sum := "5ad6197c43fe2b382fd4a5b4d4fce34f71fdfef2093ef56d94425570becfb795", func := "turnpike/turnpikelaw08.LinesAlone", spec := "linesAlone", inPlace := ["internal/bytealg.IndexByte", "internal/bytealg.Index", "internal/bytealg.IndexByteString", "internal/bytealg.IndexString"], unfollowed := true, recurses := true, named := ["internal/bytealg.MaxLen"], apart := false, narrowed := true }
def LinesAloneUptoSaid : Prop := linesAloneUptoRow.holds Try.pinned (OpenSpec.upto linesAloneSpec)

/-- 'turnpikelaw08.LinesOwn', WHERE WHAT IT READS IS OF BULK AT MOST 1048576: true; the input reads as it did. -/
def linesOwnUptoRow : OpenClaim := { program := "ytabgckjokniooaa", sum := "5ad6197c43fe2b382fd4a5b4d4fce34f71fdfef2093ef56d94425570becfb795", func := "turnpike/turnpikelaw08.LinesOwn", spec := "linesOwn", inPlace := ["internal/bytealg.IndexByte", "internal/bytealg.Index", "internal/bytealg.IndexByteString", "internal/bytealg.IndexString"], unfollowed := true, recurses := true, named := ["internal/bytealg.MaxLen"], apart := false, narrowed := true }
def LinesOwnUptoSaid : Prop := linesOwnUptoRow.holds Try.pinned (OpenSpec.upto linesOwnSpec)

/-- 'turnpikelaw08.LinesQuoted', WHERE WHAT IT READS IS OF BULK AT MOST 1048576: true; the input reads as it did. -/
def linesQuotedUptoRow : OpenClaim := { program := "ytabgckjokniooaa", sum := "5ad6197c43fe2b382fd4a5b4d4fce34f71fdfef2093ef56d94425570becfb795", func := "turnpike/turnpikelaw08.LinesQuoted", spec := "linesQuoted", inPlace := ["internal/bytealg.IndexByte", "internal/bytealg.Index", "internal/bytealg.IndexByteString", "internal/bytealg.IndexString"], unfollowed := true, recurses := true, named := ["internal/bytealg.MaxLen"], apart := false, narrowed := true }
def LinesQuotedUptoSaid : Prop := linesQuotedUptoRow.holds Try.pinned (OpenSpec.upto linesQuotedSpec)

end Rows
end Go.Proofs.Ytabgckjokniooaa
