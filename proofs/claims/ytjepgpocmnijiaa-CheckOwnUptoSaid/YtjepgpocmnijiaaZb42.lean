/- What Merge and Diff answer is memory of its own, the lists within it too, whatever is written over it or appended to it; for all lists of resources up to the size that is said. -/
import Derived.Test.YtjepgpocmnijiaaZb39
import Derived.Test.YtjepgpocmnijiaaZb40
import Derived.Test.YtjepgpocmnijiaaZb41
import Derived.Deep.CondSized
import Derived.JoinedCond
section

namespace Go.Proofs.Ytjepgpocmnijiaa.checkOwn
open Go.ChangeShapes Go.WideShapes Go.ChangeAt Go.RowKit
open Go.Ck Go.Proofs.Ytjepgpocmnijiaa
open Go.Proofs.Ytjepgpocmnijiaa.rdBulk
set_option linter.unusedVariables false
set_option maxRecDepth 100000
theorem walk {H : Type} (enc : TypeId × Value → H) (W : World) (base : Nat) (args : Array Value) (ds : List (DataW H)) (p : List MemPlace)
    (hval0 : ∀ (j : Nat) t v, Try.f9.params[j]? = some t → args[j]? = some v → Value.okWide Try.prog W .any base t v)
    (hA : DataW.TrodAll enc Try.prog W 0 (fun _ => true) true Try.f9.params.toList args.toList ds p)
    (hsz : (DataW.weightsEach Try.prog Try.f9.params.toList ds).all (· ≤ reachBytes) = true) (hk : Rows.uptoSmall H ds = true) :
    Calls Try.prog 9 args W fun e w' => e = .returned (.bool true) ∧ Below W.heap.size W w' := by
  have hval : ∀ (j : Nat) t v, Try.f9.params[j]? = some t → args[j]? = some v → Value.okWide Try.prog W .any base t v := hval0
  have hkb : Rows.uptoBulkAll ds ≤ 1048576 := of_decide_eq_true hk
  rw [Try.params9] at hA hval hsz
  obtain ⟨v0, v1, d0, d1, p0, p1, rfl, rfl, rfl, h0, h1⟩ := trodAll_two hA
  have hk0 := bulks.part_le (d := d0) (l := [d0, d1]) (by simp)
  obtain ⟨l0, r0, hM0⟩ := open_res (hval 0 22 v0 rfl rfl) h0 hsz (j := 0) rfl rfl
  have hk1 := bulks.part_le (d := d1) (l := [d0, d1]) (by simp)
  obtain ⟨l1, r1, hM1⟩ := open_res (hval 1 22 v1 rfl rfl) h1 hsz (j := 1) rfl rfl
  exact own9 l0 l1 v0 v1 W r0 r1 (Nat.le_trans hM0 (Nat.le_trans hk0 hkb)) (Nat.le_trans hM1 (Nat.le_trans hk1 hkb))

theorem own : ownKnob Try.prog.godebug = none := by kernel_rfl

set_option maxRecDepth 100000 in
theorem lifted (os : Os) (started : os.Started) (H : Type) (enc : TypeId × Value → H) (F : Stop.Interp) :
    ReturnsInHanded {} Try.checked os 9 .any ((Rows.OpenSpec.upto Rows.checkOwnSpec).pre6 enc Try.prog Try.f9 Rows.checkOwnUptoRow.domain false) (((Rows.OpenSpec.upto Rows.checkOwnSpec).at F).post enc Try.prog Try.f9 false true false false) := by
  refine returnsInHanded_of_cond_sized (C := Try.checked) (s := Rows.OpenSpec.upto Rows.checkOwnSpec) (k := Rows.uptoSmall) rfl own started (by kernel_rfl) Try.func9
    (OpenSpec.witness (enc := enc) (C := Try.checked) (s := Rows.OpenSpec.upto Rows.checkOwnSpec) (k := Rows.uptoSmall) rfl false ⟨#[], #[.slice none 0 0, .slice none 0 0], []⟩ 8 (by kernel_rfl) (by kernel_rfl) (by kernel_rfl)
      (x := ([.nil, .nil], [], [])) (by kernel_rfl) rfl (by kernel_rfl)) ?_
  intro W base args ds gs before hval hW _ hk hsz _
  obtain ⟨p, q, hA, hV, hpq, hfz, hnd⟩ := id hW
  obtain ⟨rfl, rfl⟩ := trodVars_none hV
  have e : ((Rows.OpenSpec.upto Rows.checkOwnSpec).bare.plain.varTypes Try.checked.prog) = [] := rfl
  rw [e, List.append_nil, List.append_nil] at hsz
  rw [List.append_nil] at hk
  refine (walk enc W base args ds p hval hA hsz hk).mono ?_
  rintro e W' ⟨rfl, hb⟩
  refine ⟨_, rfl, law_post (s := Rows.checkOwnSpec) Try.laidOut (by kernel_rfl) rfl Try.underlying4 rfl hW ?_ hb⟩
  intro ds' h
  have h2 : ds'.length = Try.f9.params.toList.length := h
  rw [Try.params9] at h2
  match ds', h2 with
  | [_, _], _ => rfl

theorem fact1 : (Rows.checkOwnUptoRow.inPlace == Try.checked.prog.inPlace 9) = true := by kernel_rfl
theorem fact2 : (Rows.checkOwnUptoRow.unfollowed == Try.checked.prog.unfollowed 9) = true := by kernel_rfl
theorem fact3 : (Rows.checkOwnUptoRow.recurses == Try.checked.prog.recurses 9) = true := by kernel_rfl
theorem fact4 : (Rows.checkOwnUptoRow.named == Try.checked.prog.varsNamed 9) = true := by kernel_rfl
theorem closed : joinedFacts Try.checked.prog 9 Try.f9 (Rows.OpenSpec.upto Rows.checkOwnSpec).bare Rows.checkOwnUptoRow = true := by
  unfold joinedFacts
  rw [fact1, fact2, fact3, fact4]
  kernel_rfl
/-- THE STATEMENT. -/
theorem proved : Rows.CheckOwnUptoSaid :=
  OpenClaim.holds_of_cond 9 Try.f9 rfl rfl rfl rfl rfl rfl rfl ⟨rfl, rfl, rfl, rfl, rfl⟩ rfl rfl rfl rfl rfl (by kernel_rfl) Try.func9 closed
    (of_decide_eq_true (by kernel_rfl)) (by unfold Func.isWrapper; first | (rw [if_pos (by decide +kernel)]; kernel_rfl) | (rw [if_neg (by decide +kernel)]; exact ⟨rfl, rfl⟩))
    (fun os started H enc _ F => lifted os started H enc F)
end Go.Proofs.Ytjepgpocmnijiaa.checkOwn
end
