/- The statement CheckDiffs in its bounded form: what makes one list of resources another is told as documents. Condition: the arguments together hold at most what the bounded form says. -/
import Derived.Test.YtjepgpocmnijiaaTl
import Derived.Test.YtjepgpocmnijiaaFrame
import Derived.Test.YtjepgpocmnijiaaOpenL
import Derived.Deep.CondSized
import Derived.JoinedCond
namespace Go.Proofs.Ytjepgpocmnijiaa.checkDiffs
open Go.ChangeShapes Go.WideShapes Go.ChangeAt Go.RowKit
open Go.Ck Go.Proofs.Ytjepgpocmnijiaa
open Go.Proofs.Ytjepgpocmnijiaa.rdBulk
set_option linter.unusedVariables false
set_option maxRecDepth 100000
theorem walk {H : Type} (enc : TypeId × Value → H) (W : World) (base : Nat) (args : Array Value) (ds : List (DataW H)) (p : List MemPlace)
    (hval0 : ∀ (j : Nat) t v, Try.f5.params[j]? = some t → args[j]? = some v → Value.okWide Try.prog W .any base t v)
    (hA : DataW.TrodAll enc Try.prog W 0 (fun _ => true) true Try.f5.params.toList args.toList ds p)
    (hsz : (DataW.weightsEach Try.prog Try.f5.params.toList ds).all (· ≤ reachBytes) = true) (hk : Rows.uptoSmall H ds = true) :
    Calls Try.prog 5 args W fun e w' => e = .returned (.bool true) ∧ Below W.heap.size W w' := by
  have hval : ∀ (j : Nat) t v, Try.f5.params[j]? = some t → args[j]? = some v → Value.okWide Try.prog W .any base t v := hval0
  have hkb : Rows.uptoBulkAll ds ≤ 1048576 := of_decide_eq_true hk
  rw [Try.params5] at hA hval hsz
  obtain ⟨v0, v1, d0, d1, p0, p1, rfl, rfl, rfl, h0, h1⟩ := trodAll_two hA
  have hk0 := bulks.part_le (d := d0) (l := [d0, d1]) (by simp)
  obtain ⟨l0, r0, hM0⟩ := open_res (hval 0 22 v0 rfl rfl) h0 hsz (j := 0) rfl rfl
  have hk1 := bulks.part_le (d := d1) (l := [d0, d1]) (by simp)
  obtain ⟨l1, r1, hM1⟩ := open_res (hval 1 22 v1 rfl rfl) h1 hsz (j := 1) rfl rfl
  exact diffs5 l0 l1 v0 v1 W r0 r1 (Nat.le_trans hM0 (Nat.le_trans hk0 hkb)) (Nat.le_trans hM1 (Nat.le_trans hk1 hkb))

theorem own : ownKnob Try.prog.godebug = none := by kernel_rfl

set_option maxRecDepth 100000 in
theorem lifted (os : Os) (started : os.Started) (H : Type) (enc : TypeId × Value → H) (F : Stop.Interp) :
    ReturnsInHanded {} Try.checked os 5 .any ((Rows.OpenSpec.upto Rows.checkDiffsSpec).pre6 enc Try.prog Try.f5 Rows.checkDiffsUptoRow.domain false) (((Rows.OpenSpec.upto Rows.checkDiffsSpec).at F).post enc Try.prog Try.f5 false true false false) := by
  refine returnsInHanded_of_cond_sized (C := Try.checked) (s := Rows.OpenSpec.upto Rows.checkDiffsSpec) (k := Rows.uptoSmall) rfl own started (by kernel_rfl) Try.func5
    (OpenSpec.witness (enc := enc) (C := Try.checked) (s := Rows.OpenSpec.upto Rows.checkDiffsSpec) (k := Rows.uptoSmall) rfl false ⟨#[], #[.slice none 0 0, .slice none 0 0], []⟩ 8 (by kernel_rfl) (by kernel_rfl) (by kernel_rfl)
      (x := ([.nil, .nil], [], [])) (by kernel_rfl) rfl (by kernel_rfl)) ?_
  intro W base args ds gs before hval hW _ hk hsz _
  obtain ⟨p, q, hA, hV, hpq, hfz, hnd⟩ := id hW
  obtain ⟨rfl, rfl⟩ := trodVars_none hV
  have e : ((Rows.OpenSpec.upto Rows.checkDiffsSpec).bare.plain.varTypes Try.checked.prog) = [] := rfl
  rw [e, List.append_nil, List.append_nil] at hsz
  rw [List.append_nil] at hk
  refine (walk enc W base args ds p hval hA hsz hk).mono ?_
  rintro e W' ⟨rfl, hb⟩
  refine ⟨_, rfl, law_post (s := Rows.checkDiffsSpec) Try.laidOut (by kernel_rfl) rfl Try.underlying4 rfl hW ?_ hb⟩
  intro ds' h
  have h2 : ds'.length = Try.f5.params.toList.length := h
  rw [Try.params5] at h2
  match ds', h2 with
  | [_, _], _ => rfl

theorem fact1 : (Rows.checkDiffsUptoRow.inPlace == Try.checked.prog.inPlace 5) = true := by kernel_rfl
theorem fact2 : (Rows.checkDiffsUptoRow.unfollowed == Try.checked.prog.unfollowed 5) = true := by kernel_rfl
theorem fact3 : (Rows.checkDiffsUptoRow.recurses == Try.checked.prog.recurses 5) = true := by kernel_rfl
theorem fact4 : (Rows.checkDiffsUptoRow.named == Try.checked.prog.varsNamed 5) = true := by kernel_rfl
theorem closed : joinedFacts Try.checked.prog 5 Try.f5 (Rows.OpenSpec.upto Rows.checkDiffsSpec).bare Rows.checkDiffsUptoRow = true := by
  unfold joinedFacts
  rw [fact1, fact2, fact3, fact4]
  kernel_rfl
/-- THE STATEMENT. -/
theorem proved : Rows.CheckDiffsUptoSaid :=
  OpenClaim.holds_of_cond 5 Try.f5 rfl rfl rfl rfl rfl rfl rfl ⟨rfl, rfl, rfl, rfl, rfl⟩ rfl rfl rfl rfl rfl (by kernel_rfl) Try.func5 closed
    (of_decide_eq_true (by kernel_rfl)) (by unfold Func.isWrapper; first | (rw [if_pos (by decide +kernel)]; kernel_rfl) | (rw [if_neg (by decide +kernel)]; exact ⟨rfl, rfl⟩))
    (fun os started H enc _ F => lifted os started H enc F)
end Go.Proofs.Ytjepgpocmnijiaa.checkDiffs
