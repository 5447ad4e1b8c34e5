/- For any list of tokens the law TreeTokens answers true and leaves its argument as it was. No condition. -/
import Derived.Test.YtcnjmkjfgghgoaaZt36
import Derived.Test.YtcnjmkjfgghgoaaZt9
import Derived.HandedShaped
import Derived.Shelf.Vars
import Derived.Test.YtcnjmkjfgghgoaaZt35
section
/- What a law is handed: room behind a slice; the cell of a library's variable. -/
namespace Go.Proofs.Ytcnjmkjfgghgoaa
open Go.ChangeShapes Go.WideShapes Go.ChangeAt Go.RowKit
set_option linter.unusedVariables false
set_option maxRecDepth 100000
theorem okWide_cap {P : Program} {w : World} {base : Nat} {t e : TypeId} {ao : Option Addr} {n c : Nat} (ht : P.underlying t = some (.slice e)) (h : Value.okWide P w .any base t (.slice ao n c)) : n ≤ c ∧ (ao = none → c = 0) := by
  simp only [Value.okWide, ht, Cell.okWide] at h
  cases ao with
  | none =>
    cases n with
    | zero => cases c <;> simp_all [Cell.ok]
    | succ n => simp_all [Cell.ok]
  | some a => simp_all [Cell.ok]
theorem hm_of {W : World} (h : W.ShapedOpen Try.prog) : ∃ m, W.cell? ⟨0, 0, none⟩ = some (.int .i64 m) :=
  cell_of_shapedOpen_int (t := 3) (zero := #[.int .i64 0]) h (of_decide_eq_true (by kernel_rfl)) (by kernel_rfl) rfl (by kernel_rfl) (by kernel_rfl) Try.underlying3
theorem tokV_of {W : World} {kb base : Nat} {v : Value} {l : List Go.Tr.Tok} (h : TokS W kb v l) (hv : Value.okWide Try.prog W .any base 22 v) : TokV W kb v l := by
  obtain ⟨ao, cap, rfl, h2⟩ := id h
  exact ⟨h, _, _, rfl, (okWide_cap Try.underlying22 hv).1⟩
end Go.Proofs.Ytcnjmkjfgghgoaa
end

section
/- The law TreeTokens at its argument as it is handed in. -/
namespace Go.Proofs.Ytcnjmkjfgghgoaa.treeTokens
open Go.ChangeShapes Go.WideShapes Go.ChangeAt Go.RowKit
set_option maxRecDepth 100000
theorem walk {H : Type} (enc : TypeId × Value → H) (W : World) (base : Nat) (args : Array Value) (ds : List (DataW H)) (p : List MemPlace)
    (hval0 : ∀ (j : Nat) t v, Try.f5.params[j]? = some t → args[j]? = some v → Value.okWide Try.prog W .any base t v)
    (hA : DataW.TrodAll enc Try.prog W 0 (fun _ => true) true Try.f5.params.toList args.toList ds p) (hsh : W.ShapedOpen Try.prog)
    (hsz : (DataW.weightsEach Try.prog Try.f5.params.toList ds).all (· ≤ reachBytes) = true) :
    Calls Try.prog 5 args W fun e w' => e = .returned (.bool true) ∧ Below W.heap.size W w' := by
  have hval : ∀ (j : Nat) t v, Try.f5.params[j]? = some t → args[j]? = some v → Value.okWide Try.prog W .any base t v := hval0
  rw [Try.params5] at hA hval hsz
  obtain ⟨v0, d0, rfl, rfl, h0⟩ := trodAll_one hA
  obtain ⟨m, hm⟩ := hm_of hsh
  obtain ⟨kb, l, h1, h2, h3, _⟩ := open_toks (hval 0 22 v0 rfl rfl) h0 hsz (j := 0) rfl rfl
  exact tree_tokens (tokV_of h1 (hval 0 22 v0 rfl rfl)) h2 h3 hm
end Go.Proofs.Ytcnjmkjfgghgoaa.treeTokens
end

section

namespace Go.Proofs.Ytcnjmkjfgghgoaa.treeTokens
open Go.ChangeShapes Go.WideShapes Go.ChangeAt Go.RowKit

theorem own : ownKnob Try.prog.godebug = none := by kernel_rfl

set_option maxRecDepth 100000 in
theorem lifted (os : Os) (started : os.Started) (H : Type) (enc : TypeId × Value → H) :
    ReturnsInHanded {} Try.checked os 5 .any (Rows.treeTokensSpec.pre6 enc Try.prog Try.f5 Rows.treeTokensRow.domain false) (Rows.treeTokensSpec.post enc Try.prog Try.f5 false true false false) := by
  refine returnsInHanded_of_change_shaped (C := Try.checked) own started (by kernel_rfl) Try.func5
    (ChangeSpec.witness6 (enc := enc) (C := Try.checked) false ⟨#[], #[.slice none 0 0], []⟩ 8 (by kernel_rfl) (by kernel_rfl) (by kernel_rfl) (by kernel_rfl)) ?_
  intro W base args ds gs before hval hW _ hsz hsh _
  obtain ⟨p, q, hA, hV, hpq, hfz, hnd⟩ := id hW
  refine (walk enc W base args ds p hval hA hsh ?hz).mono ?_
  case hz =>
    obtain ⟨rfl, rfl⟩ := trodVars_none hV
    have e : (Rows.treeTokensSpec.plain.varTypes Try.checked.prog) = [] := rfl
    rw [e, List.append_nil, List.append_nil] at hsz
    exact hsz
  rintro e W' ⟨rfl, hb⟩
  refine ⟨_, rfl, law_post Try.laidOut (by kernel_rfl) rfl Try.underlying4 rfl hW ?_ hb⟩
  intro ds' h
  have h2 : ds'.length = Try.f5.params.toList.length := h
  rw [Try.params5] at h2
  match ds', h2 with
  | [_], _ => rfl

theorem over : Rows.treeTokensRow.holds Try.pinned (OpenSpec.ofChange Rows.treeTokensSpec) :=
  OpenClaim.holds_of_wide 5 Try.f5 rfl rfl rfl rfl rfl rfl rfl ⟨rfl, rfl, rfl, rfl, rfl⟩ rfl rfl rfl rfl rfl (by kernel_rfl) Try.func5 (by kernel_rfl)
    (of_decide_eq_true (by kernel_rfl)) (by unfold Func.isWrapper; first | (rw [if_pos (by decide +kernel)]; kernel_rfl) | (rw [if_neg (by decide +kernel)]; exact ⟨rfl, rfl⟩))
    (fun os started H enc _ => lifted os started H enc)

/-- THE STATEMENT. -/
theorem proved : Rows.TreeTokensSaid :=
  over
end Go.Proofs.Ytcnjmkjfgghgoaa.treeTokens
end
