/- For any list of nodes and any number the law TreeParts answers true and leaves its arguments as they were. No condition. -/
import Derived.Test.YtcnjmkjfgghgoaaZp0
section

namespace Go.Proofs.Ytcnjmkjfgghgoaa.treeParts
open Go.ChangeShapes Go.WideShapes Go.ChangeAt Go.RowKit

theorem own : ownKnob Try.prog.godebug = none := by kernel_rfl

set_option maxRecDepth 100000 in
theorem lifted (os : Os) (started : os.Started) (H : Type) (enc : TypeId × Value → H) :
    ReturnsInHanded {} Try.checked os 7 .any (Rows.treePartsSpec.pre6 enc Try.prog Try.f7 Rows.treePartsRow.domain false) (Rows.treePartsSpec.post enc Try.prog Try.f7 false true false false) := by
  refine returnsInHanded_of_change_shaped (C := Try.checked) own started (by kernel_rfl) Try.func7
    (ChangeSpec.witness6 (enc := enc) (C := Try.checked) false ⟨#[], #[.slice none 0 0 , .int .i64 0], []⟩ 8 (by kernel_rfl) (by kernel_rfl) (by kernel_rfl) (by kernel_rfl)) ?_
  intro W base args ds gs before hval hW _ hsz hsh _
  obtain ⟨p, q, hA, hV, hpq, hfz, hnd⟩ := id hW
  refine (walk enc W base args ds p hval hA hsh ?hz).mono ?_
  case hz =>
    obtain ⟨rfl, rfl⟩ := trodVars_none hV
    have e : (Rows.treePartsSpec.plain.varTypes Try.checked.prog) = [] := rfl
    rw [e, List.append_nil, List.append_nil] at hsz
    exact hsz
  rintro e W' ⟨rfl, hb⟩
  refine ⟨_, rfl, law_post Try.laidOut (by kernel_rfl) rfl Try.underlying4 rfl hW ?_ hb⟩
  intro ds' h
  have h2 : ds'.length = Try.f7.params.toList.length := h
  rw [Try.params7] at h2
  match ds', h2 with
  | [_, _], _ => rfl

theorem over : Rows.treePartsRow.holds Try.pinned (OpenSpec.ofChange Rows.treePartsSpec) :=
  OpenClaim.holds_of_wide 7 Try.f7 rfl rfl rfl rfl rfl rfl rfl ⟨rfl, rfl, rfl, rfl, rfl⟩ rfl rfl rfl rfl rfl (by kernel_rfl) Try.func7 (by kernel_rfl)
    (of_decide_eq_true (by kernel_rfl)) (by unfold Func.isWrapper; first | (rw [if_pos (by decide +kernel)]; kernel_rfl) | (rw [if_neg (by decide +kernel)]; exact ⟨rfl, rfl⟩))
    (fun os started H enc _ => lifted os started H enc)

/-- THE STATEMENT. -/
theorem proved : Rows.TreePartsSaid :=
  over
end Go.Proofs.Ytcnjmkjfgghgoaa.treeParts
end
