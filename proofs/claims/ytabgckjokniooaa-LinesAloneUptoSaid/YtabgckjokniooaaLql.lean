/- How many bytes a quoted text takes. -/
import Derived.Test.YtabgckjokniooaaLq
namespace Go.Ln
open Go.RowKit
theorem more_some {c : UInt8} {m : Nat} {o : Option (List UInt8 × Nat)} {r : List UInt8 × Nat} (h : more c m o = some r) : ∃ t n, o = some (t, n) ∧ r = (c :: t, n + m) := by
  cases o with
  | none => cases h
  | some p => exact ⟨p.1, p.2, rfl, (Option.some.inj h).symm⟩
theorem q_le_aux (e : UInt8) (N : Nat) : ∀ l : List UInt8, l.length ≤ N → ∀ r, qread e l = some r → r.2 ≤ l.length := by
  induction N with
  | zero =>
    intro l hl r h
    cases l with
    | nil => rw [q_nil] at h; cases h
    | cons a b => simp at hl
  | succ N ih =>
    intro l hl r h
    unfold qread at h
    split at h
    · cases h
    · split at h
      · cases h; simp
      · cases h
    · rename_i c d l2
      simp only [List.length_cons] at hl ⊢
      split at h
      · split at h
        · obtain ⟨t, n, ho, rfl⟩ := more_some h
          have := ih l2 (by omega) _ ho
          simp only at this ⊢; omega
        · cases h; simp
      · split at h
        · obtain ⟨t, n, ho, rfl⟩ := more_some h
          have := ih (d :: l2) (by simp only [List.length_cons]; omega) _ ho
          simp only [List.length_cons] at this ⊢; omega
        · split at h
          · obtain ⟨t, n, ho, rfl⟩ := more_some h
            have := ih l2 (by omega) _ ho
            simp only at this ⊢; omega
          · split at h
            · obtain ⟨t, n, ho, rfl⟩ := more_some h
              have := ih l2 (by omega) _ ho
              simp only at this ⊢; omega
            · split at h
              · obtain ⟨t, n, ho, rfl⟩ := more_some h
                have := ih l2 (by omega) _ ho
                simp only at this ⊢; omega
              · split at h
                · split at h
                  · split at h
                    · cases h
                    · obtain ⟨t, n, ho, rfl⟩ := more_some h
                      rename_i hh xx r3 _ _ _
                      have := ih r3 (by simp only [List.length_cons] at hl; omega) _ ho
                      simp only [List.length_cons] at this ⊢; omega
                  · cases h
                · cases h
theorem q_le {e : UInt8} {l : List UInt8} {t : List UInt8} {k : Nat} (h : qread e l = some (t, k)) : k ≤ l.length := q_le_aux e l.length l (Nat.le_refl _) _ h
end Go.Ln
