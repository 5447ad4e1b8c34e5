/- For any two texts of bulk at most 1048576 together, the law LinesAlone answers true and leaves its arguments as they were. -/
import Derived.Test.YtabgckjokniooaaAloneOpen
import Derived.Test.YtabgckjokniooaaFrame
import Derived.Test.YtabgckjokniooaaLcs
namespace Go.Proofs.Ytabgckjokniooaa.linesAlone
open Go.ChangeShapes Go.WideShapes Go.ChangeAt Go.RowKit

theorem own : ownKnob Try.prog.godebug = none := by kernel_rfl

set_option maxRecDepth 100000 in
theorem lifted (os : Os) (started : os.Started) (H : Type) (enc : TypeId × Value → H) (F : Stop.Interp) :
    ReturnsInHanded {} Try.checked os 3 .any ((Rows.OpenSpec.upto Rows.linesAloneSpec).pre6 enc Try.prog Try.f3 Rows.linesAloneUptoRow.domain false) (((Rows.OpenSpec.upto Rows.linesAloneSpec).at F).post enc Try.prog Try.f3 false true false false) := by
  refine cond_shaped (C := Try.checked) (s := Rows.OpenSpec.upto Rows.linesAloneSpec) (k := Rows.uptoSmall) rfl own started (by kernel_rfl) Try.func3
    (OpenSpec.witness (enc := enc) (C := Try.checked) (s := Rows.OpenSpec.upto Rows.linesAloneSpec) (k := Rows.uptoSmall) rfl false ⟨#[], #[.slice none 0 0, .slice none 0 0], []⟩ 8 (by kernel_rfl) (by kernel_rfl) (by kernel_rfl)
      (x := ([.nil, .nil], [], [])) (by kernel_rfl) rfl (by kernel_rfl)) ?_
  intro W base args ds gs before hsh hval hW hk hsz
  obtain ⟨p, q, hA, hV, hpq, hfz, hnd⟩ := id hW
  obtain ⟨rfl, rfl⟩ := trodVars_none hV
  have e : ((Rows.OpenSpec.upto Rows.linesAloneSpec).bare.plain.varTypes Try.checked.prog) = [] := rfl
  rw [e, List.append_nil, List.append_nil] at hsz
  rw [List.append_nil] at hk
  refine (walk enc W base args ds p hval hA hsh hsz hk).mono ?_
  rintro e W' ⟨rfl, hb⟩
  refine ⟨_, rfl, law_post (s := Rows.linesAloneSpec) Try.laidOut (by kernel_rfl) rfl Try.underlying4 rfl hW ?_ hb⟩
  intro ds' h
  have h2 : ds'.length = Try.f3.params.toList.length := h
  rw [Try.params3] at h2
  match ds', h2 with
  | [_, _], _ => rfl

/-- THE STATEMENT. -/
theorem proved : Rows.LinesAloneUptoSaid :=
  OpenClaim.holds_of_cond 3 Try.f3 rfl rfl rfl rfl rfl rfl rfl ⟨rfl, rfl, rfl, rfl, rfl⟩ rfl rfl rfl rfl rfl (by kernel_rfl) Try.func3 (by kernel_rfl)
    (of_decide_eq_true (by kernel_rfl)) (by unfold Func.isWrapper; first | (rw [if_pos (by decide +kernel)]; kernel_rfl) | (rw [if_neg (by decide +kernel)]; exact ⟨rfl, rfl⟩))
    (fun os started H enc _ F => lifted os started H enc F)
end Go.Proofs.Ytabgckjokniooaa.linesAlone
