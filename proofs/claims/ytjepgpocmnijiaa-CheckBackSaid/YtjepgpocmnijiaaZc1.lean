/- What makes one configuration another, merged into the one, makes the other, whenever the two configurations are in order and no longer than a configuration may be; for every two lists of resources. -/
import Derived.Test.YtjepgpocmnijiaaZb38
import Derived.Test.YtjepgpocmnijiaaZb40
import Derived.Test.YtjepgpocmnijiaaZc0
section

namespace Go.Proofs.Ytjepgpocmnijiaa.checkBack
open Go.ChangeShapes Go.WideShapes Go.ChangeAt Go.RowKit
open Go.Ck Go.Proofs.Ytjepgpocmnijiaa
open Go.Proofs.Ytjepgpocmnijiaa.rdBulk
set_option linter.unusedVariables false
set_option maxRecDepth 100000
theorem walk {H : Type} (enc : TypeId × Value → H) (W : World) (base : Nat) (args : Array Value) (ds : List (DataW H)) (p : List MemPlace)
    (hval0 : ∀ (j : Nat) t v, Try.f8.params[j]? = some t → args[j]? = some v → Value.okWide Try.prog W .any base t v)
    (hA : DataW.TrodAll enc Try.prog W 0 (fun _ => true) true Try.f8.params.toList args.toList ds p)
    (hsz : (DataW.weightsEach Try.prog Try.f8.params.toList ds).all (· ≤ reachBytes) = true) :
    Calls Try.prog 8 args W fun e w' => e = .returned (.bool true) ∧ Below W.heap.size W w' := by
  have hval : ∀ (j : Nat) t v, Try.f8.params[j]? = some t → args[j]? = some v → Value.okWide Try.prog W .any base t v := hval0
  rw [Try.params8] at hA hval hsz
  obtain ⟨v0, v1, d0, d1, p0, p1, rfl, rfl, rfl, h0, h1⟩ := trodAll_two hA
  obtain ⟨l0, r0, z0⟩ := open_resz (hval 0 22 v0 rfl rfl) h0 hsz (j := 0) rfl rfl
  obtain ⟨l1, r1, z1⟩ := open_resz (hval 1 22 v1 rfl rfl) h1 hsz (j := 1) rfl rfl
  exact back8 l0 l1 v0 v1 W r0 r1 z0 z1

theorem own : ownKnob Try.prog.godebug = none := by kernel_rfl

set_option maxRecDepth 100000 in
theorem lifted (os : Os) (started : os.Started) (H : Type) (enc : TypeId × Value → H) :
    ReturnsInHanded {} Try.checked os 8 .any (Rows.checkBackSpec.pre6 enc Try.prog Try.f8 Rows.checkBackRow.domain false) (Rows.checkBackSpec.post enc Try.prog Try.f8 false true false false) := by
  refine returnsInHanded_of_change_sized (C := Try.checked) own started (by kernel_rfl) Try.func8
    (ChangeSpec.witness6 (enc := enc) (C := Try.checked) false ⟨#[], #[.slice none 0 0, .slice none 0 0], []⟩ 8 (by kernel_rfl) (by kernel_rfl) (by kernel_rfl) (by kernel_rfl)) ?_
  intro W base args ds gs before hval hW _ hsz _
  obtain ⟨p, q, hA, hV, hpq, hfz, hnd⟩ := id hW
  refine (walk enc W base args ds p hval hA ?hz).mono ?_
  case hz =>
    obtain ⟨rfl, rfl⟩ := trodVars_none hV
    have e : (Rows.checkBackSpec.plain.varTypes Try.checked.prog) = [] := rfl
    rw [e, List.append_nil, List.append_nil] at hsz
    exact hsz
  rintro e W' ⟨rfl, hb⟩
  refine ⟨_, rfl, law_post Try.laidOut (by kernel_rfl) rfl Try.underlying4 rfl hW ?_ hb⟩
  intro ds' h
  have h2 : ds'.length = Try.f8.params.toList.length := h
  rw [Try.params8] at h2
  match ds', h2 with
  | [_, _], _ => rfl

theorem fact1 : (Rows.checkBackRow.inPlace == Try.checked.prog.inPlace 8) = true := by kernel_rfl
theorem fact2 : (Rows.checkBackRow.unfollowed == Try.checked.prog.unfollowed 8) = true := by kernel_rfl
theorem fact3 : (Rows.checkBackRow.recurses == Try.checked.prog.recurses 8) = true := by kernel_rfl
theorem fact4 : (Rows.checkBackRow.named == Try.checked.prog.varsNamed 8) = true := by kernel_rfl
theorem closed : joinedFacts Try.checked.prog 8 Try.f8 Rows.checkBackSpec Rows.checkBackRow = true := by
  unfold joinedFacts
  rw [fact1, fact2, fact3, fact4]
  kernel_rfl
/-- THE STATEMENT. -/
theorem proved : Rows.CheckBackSaid :=
  OpenClaim.holds_of_wide 8 Try.f8 rfl rfl rfl rfl rfl rfl rfl ⟨rfl, rfl, rfl, rfl, rfl⟩ rfl rfl rfl rfl rfl (by kernel_rfl) Try.func8 closed
    (of_decide_eq_true (by kernel_rfl)) (by unfold Func.isWrapper; first | (rw [if_pos (by decide +kernel)]; kernel_rfl) | (rw [if_neg (by decide +kernel)]; exact ⟨rfl, rfl⟩))
    (fun os started H enc _ => lifted os started H enc)
end Go.Proofs.Ytjepgpocmnijiaa.checkBack
end
