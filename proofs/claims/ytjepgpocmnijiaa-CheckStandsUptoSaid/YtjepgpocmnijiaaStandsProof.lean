/- The statement CheckStands in its bounded form: in a configuration that may stand every split leads to services. Condition: the arguments together hold at most what the bounded form says. -/
import Derived.Test.YtjepgpocmnijiaaTh
import Derived.Test.YtjepgpocmnijiaaFrame
import Derived.Test.YtjepgpocmnijiaaOi
import Derived.Deep.CondSized
import Derived.JoinedCond
namespace Go.Proofs.Ytjepgpocmnijiaa.checkStands
open Go.ChangeShapes Go.WideShapes Go.ChangeAt Go.RowKit
open Go.Ck Go.Proofs.Ytjepgpocmnijiaa
open Go.Proofs.Ytjepgpocmnijiaa.rdBulk
set_option linter.unusedVariables false
set_option maxRecDepth 100000
theorem walk {H : Type} (enc : TypeId × Value → H) (W : World) (base : Nat) (args : Array Value) (ds : List (DataW H)) (p : List MemPlace)
    (hval0 : ∀ (j : Nat) t v, Try.f7.params[j]? = some t → args[j]? = some v → Value.okWide Try.prog W .any base t v)
    (hA : DataW.TrodAll enc Try.prog W 0 (fun _ => true) true Try.f7.params.toList args.toList ds p)
    (hsz : (DataW.weightsEach Try.prog Try.f7.params.toList ds).all (· ≤ reachBytes) = true) (hk : Rows.uptoSmall H ds = true) :
    Calls Try.prog 7 args W fun e w' => e = .returned (.bool true) ∧ Below W.heap.size W w' := by
  have hval : ∀ (j : Nat) t v, Try.f7.params[j]? = some t → args[j]? = some v → Value.okWide Try.prog W .any base t v := hval0
  have hkb : Rows.uptoBulkAll ds ≤ 1048576 := of_decide_eq_true hk
  rw [Try.params7] at hA hval hsz
  obtain ⟨v0, v1, d0, d1, p0, p1, rfl, rfl, rfl, h0, h1⟩ := trodAll_two hA
  have hk0 := bulks.part_le (d := d0) (l := [d0, d1]) (by simp)
  obtain ⟨l0, r0, hM0⟩ := open_res (hval 0 22 v0 rfl rfl) h0 hsz (j := 0) rfl rfl
  obtain ⟨l1, r1⟩ := open_ints (hval 1 54 v1 rfl rfl) h1 hsz (j := 1) rfl rfl
  exact stands7 l0 l1 v0 v1 W r0 r1 (Nat.le_trans hM0 (Nat.le_trans hk0 hkb))

theorem own : ownKnob Try.prog.godebug = none := by kernel_rfl

set_option maxRecDepth 100000 in
theorem lifted (os : Os) (started : os.Started) (H : Type) (enc : TypeId × Value → H) (F : Stop.Interp) :
    ReturnsInHanded {} Try.checked os 7 .any ((Rows.OpenSpec.upto Rows.checkStandsSpec).pre6 enc Try.prog Try.f7 Rows.checkStandsUptoRow.domain false) (((Rows.OpenSpec.upto Rows.checkStandsSpec).at F).post enc Try.prog Try.f7 false true false false) := by
  refine returnsInHanded_of_cond_sized (C := Try.checked) (s := Rows.OpenSpec.upto Rows.checkStandsSpec) (k := Rows.uptoSmall) rfl own started (by kernel_rfl) Try.func7
    (OpenSpec.witness (enc := enc) (C := Try.checked) (s := Rows.OpenSpec.upto Rows.checkStandsSpec) (k := Rows.uptoSmall) rfl false ⟨#[], #[.slice none 0 0, .slice none 0 0], []⟩ 8 (by kernel_rfl) (by kernel_rfl) (by kernel_rfl)
      (x := ([.nil, .nil], [], [])) (by kernel_rfl) rfl (by kernel_rfl)) ?_
  intro W base args ds gs before hval hW _ hk hsz _
  obtain ⟨p, q, hA, hV, hpq, hfz, hnd⟩ := id hW
  obtain ⟨rfl, rfl⟩ := trodVars_none hV
  have e : ((Rows.OpenSpec.upto Rows.checkStandsSpec).bare.plain.varTypes Try.checked.prog) = [] := rfl
  rw [e, List.append_nil, List.append_nil] at hsz
  rw [List.append_nil] at hk
  refine (walk enc W base args ds p hval hA hsz hk).mono ?_
  rintro e W' ⟨rfl, hb⟩
  refine ⟨_, rfl, law_post (s := Rows.checkStandsSpec) Try.laidOut (by kernel_rfl) rfl Try.underlying4 rfl hW ?_ hb⟩
  intro ds' h
  have h2 : ds'.length = Try.f7.params.toList.length := h
  rw [Try.params7] at h2
  match ds', h2 with
  | [_, _], _ => rfl

theorem fact1 : (Rows.checkStandsUptoRow.inPlace == Try.checked.prog.inPlace 7) = true := by kernel_rfl
theorem fact2 : (Rows.checkStandsUptoRow.unfollowed == Try.checked.prog.unfollowed 7) = true := by kernel_rfl
theorem fact3 : (Rows.checkStandsUptoRow.recurses == Try.checked.prog.recurses 7) = true := by kernel_rfl
theorem fact4 : (Rows.checkStandsUptoRow.named == Try.checked.prog.varsNamed 7) = true := by kernel_rfl
theorem closed : joinedFacts Try.checked.prog 7 Try.f7 (Rows.OpenSpec.upto Rows.checkStandsSpec).bare Rows.checkStandsUptoRow = true := by
  unfold joinedFacts
  rw [fact1, fact2, fact3, fact4]
  kernel_rfl
/-- THE STATEMENT. -/
theorem proved : Rows.CheckStandsUptoSaid :=
  OpenClaim.holds_of_cond 7 Try.f7 rfl rfl rfl rfl rfl rfl rfl ⟨rfl, rfl, rfl, rfl, rfl⟩ rfl rfl rfl rfl rfl (by kernel_rfl) Try.func7 closed
    (of_decide_eq_true (by kernel_rfl)) (by unfold Func.isWrapper; first | (rw [if_pos (by decide +kernel)]; kernel_rfl) | (rw [if_neg (by decide +kernel)]; exact ⟨rfl, rfl⟩))
    (fun os started H enc _ F => lifted os started H enc F)
end Go.Proofs.Ytjepgpocmnijiaa.checkStands
