/- A quoted text, read step by step. -/
import Derived.Test.YtabgckjokniooaaLa
namespace Go.Ln
open Go.RowKit
def qmap (a : List UInt8) (j : Nat) : Option (List UInt8 × Nat) → Option (List UInt8 × Nat)
  | none => none
  | some (t, k) => some (a ++ t, j + k)
theorem qmap_more (a : List UInt8) (j : Nat) (c : UInt8) (m : Nat) (o : Option (List UInt8 × Nat)) : qmap a j (more c m o) = qmap (a ++ [c]) (j + m) o := by
  rcases o with _ | ⟨t, k⟩
  · rfl
  · simp only [more, qmap, List.append_assoc, List.cons_append, List.nil_append]; congr 2; omega
section
variable {e : UInt8} {c d : UInt8} {r : List UInt8}
theorem q_nil (e : UInt8) : qread e [] = none := by unfold qread; rfl
theorem q_twin (h : c = e) (he : e = 39) : qread e (c :: 39 :: r) = more 39 2 (qread e r) := by
  subst h; subst he
  conv => lhs; unfold qread
  simp
theorem q_end1 (h : c = e) : qread e [c] = some ([], 1) := by
  conv => lhs; unfold qread
  simp [h]
theorem q_end2 (h : c = e) (h2 : ¬ (e = 39 ∧ d = 39)) : qread e (c :: d :: r) = some ([], 1) := by
  conv => lhs; unfold qread
  simp only [if_pos h, if_neg h2]
theorem q_char (h : ¬ c = e) (h2 : c ≠ 92 ∨ e = 39) : qread e (c :: r) = more c 1 (qread e r) := by
  cases r with
  | nil => conv => lhs; unfold qread
           simp only [if_neg h]; unfold qread; rfl
  | cons d r =>
    conv => lhs; unfold qread
    simp only [if_neg h, if_pos h2]
theorem q_last (h : ¬ c = e) : qread e [c] = none := by
  conv => lhs; unfold qread
  simp only [if_neg h]
theorem q_self (h : ¬ c = e) (h2 : ¬ (c ≠ 92 ∨ e = 39)) (hd : d = 34 ∨ d = 92) : qread e (c :: d :: r) = more d 2 (qread e r) := by
  conv => lhs; unfold qread
  simp only [if_neg h, if_neg h2, if_pos hd]
theorem q_n (h : ¬ c = e) (h2 : ¬ (c ≠ 92 ∨ e = 39)) : qread e (c :: 110 :: r) = more 10 2 (qread e r) := by
  conv => lhs; unfold qread
  simp only [if_neg h, if_neg h2, show ¬ ((110 : UInt8) = 34 ∨ (110 : UInt8) = 92) by decide, if_false, if_true]
theorem q_t (h : ¬ c = e) (h2 : ¬ (c ≠ 92 ∨ e = 39)) : qread e (c :: 116 :: r) = more 9 2 (qread e r) := by
  conv => lhs; unfold qread
  simp only [if_neg h, if_neg h2, show ¬ ((116 : UInt8) = 34 ∨ (116 : UInt8) = 92) by decide, show ¬ ((116 : UInt8) = 110) by decide, if_false, if_true]
theorem q_x (h : ¬ c = e) (h2 : ¬ (c ≠ 92 ∨ e = 39)) (a b : UInt8) : qread e (c :: 120 :: a :: b :: r) = match hexB a b with
    | none => none
    | some v => more v 4 (qread e r) := by
  conv => lhs; unfold qread
  simp only [if_neg h, if_neg h2, show ¬ ((120 : UInt8) = 34 ∨ (120 : UInt8) = 92) by decide, show ¬ ((120 : UInt8) = 110) by decide, show ¬ ((120 : UInt8) = 116) by decide, if_false, if_true]
  rcases hexB a b with _ | v <;> rfl
theorem q_x0 (h : ¬ c = e) (h2 : ¬ (c ≠ 92 ∨ e = 39)) : qread e [c, 120] = none := by
  conv => lhs; unfold qread
  simp only [if_neg h, if_neg h2, show ¬ ((120 : UInt8) = 34 ∨ (120 : UInt8) = 92) by decide, show ¬ ((120 : UInt8) = 110) by decide, show ¬ ((120 : UInt8) = 116) by decide, if_false, if_true]
theorem q_x1 (h : ¬ c = e) (h2 : ¬ (c ≠ 92 ∨ e = 39)) (a : UInt8) : qread e [c, 120, a] = none := by
  conv => lhs; unfold qread
  simp only [if_neg h, if_neg h2, show ¬ ((120 : UInt8) = 34 ∨ (120 : UInt8) = 92) by decide, show ¬ ((120 : UInt8) = 110) by decide, show ¬ ((120 : UInt8) = 116) by decide, if_false, if_true]
theorem q_bad (h : ¬ c = e) (h2 : ¬ (c ≠ 92 ∨ e = 39)) (h3 : ¬ (d = 34 ∨ d = 92)) (h4 : ¬ d = 110) (h5 : ¬ d = 116) (h6 : ¬ d = 120) : qread e (c :: d :: r) = none := by
  conv => lhs; unfold qread
  simp only [if_neg h, if_neg h2, if_neg h3, if_neg h4, if_neg h5, if_neg h6]
end
end Go.Ln
