/- The statement TablesShares: what the shares of a split are, that they are ones own, and what steps are made of them, as the rule book tells; where what is read is of bulk at most 1048576. -/
import Derived.Test.YtjepgpocmnijiaaZs2
import Derived.Test.YtjepgpocmnijiaaZb40
import Derived.Deep.CondSized
import Derived.JoinedCond
section

namespace Go.Proofs.Ytjepgpocmnijiaa.tablesShares
open Go.ChangeShapes Go.WideShapes Go.ChangeAt Go.RowKit
open Go.Ck Go.Proofs.Ytjepgpocmnijiaa
open Go.Proofs.Ytjepgpocmnijiaa.rdBulk
set_option linter.unusedVariables false
set_option maxRecDepth 100000
theorem walk {H : Type} (enc : TypeId × Value → H) (W : World) (base : Nat) (args : Array Value) (ds : List (DataW H)) (p : List MemPlace)
    (hval0 : ∀ (j : Nat) t v, Try.f11.params[j]? = some t → args[j]? = some v → Value.okWide Try.prog W .any base t v)
    (hA : DataW.TrodAll enc Try.prog W 0 (fun _ => true) true Try.f11.params.toList args.toList ds p)
    (hsz : (DataW.weightsEach Try.prog Try.f11.params.toList ds).all (· ≤ reachBytes) = true) (hk : Rows.uptoSmall H ds = true) :
    Calls Try.prog 11 args W fun e w' => e = .returned (.bool true) ∧ Below W.heap.size W w' := by
  have hval : ∀ (j : Nat) t v, Try.f11.params[j]? = some t → args[j]? = some v → Value.okWide Try.prog W .any base t v := hval0
  have hkb : Rows.uptoBulkAll ds ≤ 1048576 := of_decide_eq_true hk
  rw [Try.params11] at hA hval hsz
  obtain ⟨v0, v1, v2, d0, d1, d2, p0, p1, p2, rfl, rfl, rfl, h0, h1, h2⟩ := trodAll_three hA
  have hk0 := bulks.part_le (d := d0) (l := [d0, d1, d2]) (by simp)
  obtain ⟨l0, r0, hM0⟩ := open_res (hval 0 22 v0 rfl rfl) h0 hsz (j := 0) rfl rfl
  obtain ⟨l1, rfl⟩ := okWide_string Try.underlying9 (hval 1 9 v1 rfl rfl)
  have hk2 := bulks.part_le (d := d2) (l := [d0, d1, d2]) (by simp)
  obtain ⟨l2, r2, hM2⟩ := open_shares (hval 2 67 v2 rfl rfl) h2 hsz (j := 2) rfl rfl
  exact shares11 l0 l1 l2 v0 v2 W r0 r2 (Nat.le_trans hM0 (Nat.le_trans hk0 hkb)) (Nat.le_trans hM2 (Nat.le_trans hk2 hkb))

theorem own : ownKnob Try.prog.godebug = none := by kernel_rfl

set_option maxRecDepth 100000 in
theorem lifted (os : Os) (started : os.Started) (H : Type) (enc : TypeId × Value → H) (F : Stop.Interp) :
    ReturnsInHanded {} Try.checked os 11 .any ((Rows.OpenSpec.upto Rows.tablesSharesSpec).pre6 enc Try.prog Try.f11 Rows.tablesSharesUptoRow.domain false) (((Rows.OpenSpec.upto Rows.tablesSharesSpec).at F).post enc Try.prog Try.f11 false true false false) := by
  refine returnsInHanded_of_cond_sized (C := Try.checked) (s := Rows.OpenSpec.upto Rows.tablesSharesSpec) (k := Rows.uptoSmall) rfl own started (by kernel_rfl) Try.func11
    (OpenSpec.witness (enc := enc) (C := Try.checked) (s := Rows.OpenSpec.upto Rows.tablesSharesSpec) (k := Rows.uptoSmall) rfl false ⟨#[], #[.slice none 0 0, .string ⟨#[]⟩, .slice none 0 0], []⟩ 8 (by kernel_rfl) (by kernel_rfl) (by kernel_rfl)
      (x := ([.nil, .lit (.string []), .nil], [], [])) (by kernel_rfl) rfl (by kernel_rfl)) ?_
  intro W base args ds gs before hval hW _ hk hsz _
  obtain ⟨p, q, hA, hV, hpq, hfz, hnd⟩ := id hW
  obtain ⟨rfl, rfl⟩ := trodVars_none hV
  have e : ((Rows.OpenSpec.upto Rows.tablesSharesSpec).bare.plain.varTypes Try.checked.prog) = [] := rfl
  rw [e, List.append_nil, List.append_nil] at hsz
  rw [List.append_nil] at hk
  refine (walk enc W base args ds p hval hA hsz hk).mono ?_
  rintro e W' ⟨rfl, hb⟩
  refine ⟨_, rfl, law_post (s := Rows.tablesSharesSpec) Try.laidOut (by kernel_rfl) rfl Try.underlying4 rfl hW ?_ hb⟩
  intro ds' h
  have h2 : ds'.length = Try.f11.params.toList.length := h
  rw [Try.params11] at h2
  match ds', h2 with
  | [_, _, _], _ => rfl

theorem fact1 : (Rows.tablesSharesUptoRow.inPlace == Try.checked.prog.inPlace 11) = true := by kernel_rfl
theorem fact2 : (Rows.tablesSharesUptoRow.unfollowed == Try.checked.prog.unfollowed 11) = true := by kernel_rfl
theorem fact3 : (Rows.tablesSharesUptoRow.recurses == Try.checked.prog.recurses 11) = true := by kernel_rfl
theorem fact4 : (Rows.tablesSharesUptoRow.named == Try.checked.prog.varsNamed 11) = true := by kernel_rfl
theorem closed : joinedFacts Try.checked.prog 11 Try.f11 (Rows.OpenSpec.upto Rows.tablesSharesSpec).bare Rows.tablesSharesUptoRow = true := by
  unfold joinedFacts
  rw [fact1, fact2, fact3, fact4]
  kernel_rfl
/-- THE STATEMENT. -/
theorem proved : Rows.TablesSharesUptoSaid :=
  OpenClaim.holds_of_cond 11 Try.f11 rfl rfl rfl rfl rfl rfl rfl ⟨rfl, rfl, rfl, rfl, rfl⟩ rfl rfl rfl rfl rfl (by kernel_rfl) Try.func11 closed
    (of_decide_eq_true (by kernel_rfl)) (by unfold Func.isWrapper; first | (rw [if_pos (by decide +kernel)]; kernel_rfl) | (rw [if_neg (by decide +kernel)]; exact ⟨rfl, rfl⟩))
    (fun os started H enc _ F => lifted os started H enc F)
end Go.Proofs.Ytjepgpocmnijiaa.tablesShares
end
