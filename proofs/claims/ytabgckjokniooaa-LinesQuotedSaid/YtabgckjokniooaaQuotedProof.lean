/- For any text and any number of blanks the law LinesQuoted answers true. No condition. -/
import Derived.Test.YtabgckjokniooaaQuotedOpen
namespace Go.Proofs.Ytabgckjokniooaa.linesQuoted
open Go.ChangeShapes Go.WideShapes Go.ChangeAt Go.RowKit

theorem own : ownKnob Try.prog.godebug = none := by kernel_rfl

set_option maxRecDepth 100000 in
theorem lifted (os : Os) (started : os.Started) (H : Type) (enc : TypeId × Value → H) :
    ReturnsInHanded {} Try.checked os 5 .any (Rows.linesQuotedSpec.pre6 enc Try.prog Try.f5 Rows.linesQuotedRow.domain false) (Rows.linesQuotedSpec.post enc Try.prog Try.f5 false true false false) := by
  refine returnsInHanded_of_change_shaped (C := Try.checked) own started (by kernel_rfl) Try.func5
    (ChangeSpec.witness6 (enc := enc) (C := Try.checked) false ⟨#[], #[.string ⟨#[]⟩ , .int .i64 0], []⟩ 8 (by kernel_rfl) (by kernel_rfl) (by kernel_rfl) (by kernel_rfl)) ?_
  intro W base args ds gs before hval hW _ hsz hsh _
  obtain ⟨p, q, hA, hV, hpq, hfz, hnd⟩ := id hW
  refine (walk enc W base args ds p hval hA hsh ?hz).mono ?_
  case hz =>
    obtain ⟨rfl, rfl⟩ := trodVars_none hV
    have e : (Rows.linesQuotedSpec.plain.varTypes Try.checked.prog) = [] := rfl
    rw [e, List.append_nil, List.append_nil] at hsz
    exact hsz
  rintro e W' ⟨rfl, hb⟩
  refine ⟨_, rfl, law_post Try.laidOut (by kernel_rfl) rfl Try.underlying4 rfl hW ?_ hb⟩
  intro ds' h
  have h2 : ds'.length = Try.f5.params.toList.length := h
  rw [Try.params5] at h2
  match ds', h2 with
  | [_, _], _ => rfl

theorem over : Rows.linesQuotedRow.holds Try.pinned (OpenSpec.ofChange Rows.linesQuotedSpec) :=
  OpenClaim.holds_of_wide 5 Try.f5 rfl rfl rfl rfl rfl rfl rfl ⟨rfl, rfl, rfl, rfl, rfl⟩ rfl rfl rfl rfl rfl (by kernel_rfl) Try.func5 (by kernel_rfl)
    (of_decide_eq_true (by kernel_rfl)) (by unfold Func.isWrapper; first | (rw [if_pos (by decide +kernel)]; kernel_rfl) | (rw [if_neg (by decide +kernel)]; exact ⟨rfl, rfl⟩))
    (fun os started H enc _ => lifted os started H enc)

/-- THE STATEMENT. -/
theorem proved : Rows.LinesQuotedSaid :=
  over
end Go.Proofs.Ytabgckjokniooaa.linesQuoted

