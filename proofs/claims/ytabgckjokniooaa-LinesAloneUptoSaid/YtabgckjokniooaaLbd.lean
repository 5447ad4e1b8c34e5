/- Where a scan's lines and documents lie. No program in sight. -/
import Derived.Test.YtabgckjokniooaaLow
import Derived.Test.YtabgckjokniooaaLal
namespace Go.Proofs.Ytabgckjokniooaa
open Go.RowKit Go.Ln Go.Mp Go.Tr
set_option linter.unusedVariables false
def onLine (n : Int) (ts : List Tk) : Prop := ∀ t ∈ ts, t.line = n
theorem onLine_snoc {n : Int} {ts : List Tk} {t : Tk} (h : onLine n ts) (ht : t.line = n) : onLine n (ts ++ [t]) := by
  intro x hx
  rcases List.mem_append.1 hx with hx | hx
  · exact h x hx
  · rw [List.mem_singleton.1 hx]; exact ht
theorem scalar_line {l : List UInt8} {n : Int} {i : Nat} {out ts : List Tk} (ho : onLine n out) (h : scalar l n i out = .ok ts) : onLine n ts := by
  unfold scalar at h
  split at h
  · cases h; exact ho
  · split at h
    · split at h
      · cases h
      · dsimp only at h
        split at h <;> cases h
        exact onLine_snoc ho rfl
    · split at h <;> cases h
      exact onLine_snoc ho rfl
theorem keyed_line {l : List UInt8} {n : Int} {i : Nat} {out ts : List Tk} (ho : onLine n out) (h : keyed l n i out = .ok ts) : onLine n ts := by
  unfold keyed at h
  split at h
  · split at h
    · cases h
    · split at h
      · exact scalar_line (onLine_snoc ho rfl) h
      · exact scalar_line ho h
  · dsimp only at h
    split at h
    · exact scalar_line (onLine_snoc ho rfl) h
    · exact scalar_line ho h
theorem items_line {l : List UInt8} {n : Int} {ts : List Tk} : ∀ (f i : Nat) (out : List Tk), onLine n out → items l n f i out = .ok ts → onLine n ts := by
  intro f
  induction f with
  | zero => intro i out ho h; cases h; exact ho
  | succ f ih =>
    intro i out ho h
    unfold items at h
    split at h
    · cases h; exact ho
    · split at h
      · exact ih _ _ (onLine_snoc ho rfl) h
      · exact keyed_line ho h
theorem line_line {l : List UInt8} {n : Int} {ts : List Tk} (h : line l n = .ok ts) : onLine n ts := by
  unfold line at h
  split at h
  · cases h
  · split at h
    · cases h; intro t ht; rw [List.mem_singleton.1 ht]
    · exact items_line _ _ _ (fun t ht => by simp at ht) h
theorem scanL_in : ∀ (ls : List (List UInt8)) (d n : Nat), (∀ t ∈ (scanL d n ls).1, 0 ≤ t.line ∧ t.line ≤ ((n + ls.length : Nat) : Int)) ∧ ∀ f, (scanL d n ls).2 = some f → f.1 ≤ d + ls.length ∧ f.2.1 ≤ n + ls.length := by
  intro ls
  induction ls with
  | nil => intro d n; exact ⟨fun t ht => by simp [scanL] at ht, fun f h => by cases h⟩
  | cons l ls ih =>
    intro d n
    unfold scanL
    rw [List.length_cons]
    cases hl : line l (n + 1 : Nat) with
    | error e => exact ⟨fun t ht => by simp at ht, fun f h => by cases h; dsimp only; omega⟩
    | ok ts =>
      obtain ⟨h1, h2⟩ := ih (d + docsIn ts) (n + 1)
      have h3 := line_docs hl
      refine ⟨fun t ht => ?_, fun f h => ?_⟩
      · rcases List.mem_append.1 ht with ht | ht
        · have := line_line hl t ht
          omega
        · have := h1 t ht
          omega
      · have := h2 f h
        omega
theorem lines_count (text : List UInt8) : (linesOf [] text).length ≤ text.length + 1 := by
  have h := lines_sum text []
  have h2 : ∀ ls : List (List UInt8), 3 * ls.length ≤ (ls.map fun l => l.length + 3).sum := by
    intro ls
    induction ls with
    | nil => simp
    | cons l ls ih => simp only [List.length_cons, List.map_cons, List.sum_cons]; omega
  have := h2 (linesOf [] text)
  simp only [List.length_nil] at h
  omega
theorem sT_in {text : List UInt8} : ∀ t ∈ sTs text, 0 ≤ t.line ∧ t.line ≤ 65537 := by
  intro t ht
  unfold sTs at ht
  split at ht
  · unfold scan at ht
    split at ht
    · simp at ht
    · have := (scanL_in (linesOf [] text) 0 0).1 t ht
      have := lines_count text
      omega
  · simp at ht
theorem sF_in (text : List UInt8) : (sF text).1 ≤ 65537 ∧ (sF text).2.1 ≤ 65537 := by
  unfold sF
  split
  · exact ⟨by decide, by decide⟩
  · rename_i f h
    unfold scan at h
    split at h
    · cases h; exact ⟨by decide, by decide⟩
    · have := (scanL_in (linesOf [] text) 0 0).2 f h
      have := lines_count text
      omega
end Go.Proofs.Ytabgckjokniooaa
