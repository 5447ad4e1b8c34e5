/- What the two loops of the program's Diff make of its maps: no program in sight. -/
import Derived.Test.YtjepgpocmnijiaaTi
import Derived.Test.YtjepgpocmnijiaaTn
import Derived.Test.YtjepgpocmnijiaaTd
namespace Go.Proofs.Ytjepgpocmnijiaa
open Go.RowKit Go.Mp Go.Ck
set_option linter.unusedVariables false
/-- A key's resource is the same in both. -/
def eqK (g gn : Key → Option Rw) (k : Key) : Prop := ∃ o r, g k = some o ∧ gn k = some r ∧ sameR o.r r.r = true
structure Er (g gn gO gW : Key → Option Rw) (left : Key → Prop) : Prop where
  o1 : ∀ k, left k → gO k = g k
  w1 : ∀ k, left k → gW k = gn k
  o2 : ∀ k, ¬ left k → eqK g gn k → gO k = none ∧ gW k = none
  o3 : ∀ k, ¬ left k → ¬ eqK g gn k → gO k = g k ∧ gW k = gn k
theorem Er.zero (g gn : Key → Option Rw) {F : Key → Option Value} (hF : F = valR gn) : Er g gn g gn (fun k => F k ≠ none) :=
  ⟨fun _ _ => rfl, fun _ _ => rfl, fun k h ⟨o, r, _, h2, _⟩ => (h (by rw [hF]; unfold valR; rw [h2]; simp)).elim, fun _ _ _ => ⟨rfl, rfl⟩⟩
theorem Er.same {g gn gO gW : Key → Option Rw} {left : Key → Prop} (h : Er g gn gO gW left) {k : Key} (hk : left k) {o r : Rw} (ho : g k = some o) (hr : gn k = some r) (hs : sameR o.r r.r = true) : Er g gn (delK gO k) (delK gW k) (fun j => left j ∧ j ≠ k) := by
  have heq : eqK g gn k := ⟨o, r, ho, hr, hs⟩
  refine ⟨fun j hj => ?_, fun j hj => ?_, fun j hj he => ?_, fun j hj he => ?_⟩
  · unfold delK; rw [if_neg hj.2]; exact h.o1 j hj.1
  · unfold delK; rw [if_neg hj.2]; exact h.w1 j hj.1
  · unfold delK
    by_cases e : j = k
    · rw [if_pos e, if_pos e]; exact ⟨rfl, rfl⟩
    · rw [if_neg e, if_neg e]; exact h.o2 j (fun q => hj ⟨q, e⟩) he
  · have e : j ≠ k := fun e => he (e ▸ heq)
    unfold delK
    rw [if_neg e, if_neg e]; exact h.o3 j (fun q => hj ⟨q, e⟩) he
theorem Er.differ {g gn gO gW : Key → Option Rw} {left : Key → Prop} (h : Er g gn gO gW left) {k : Key} (hk : left k) (hn : ¬ eqK g gn k) : Er g gn gO gW (fun j => left j ∧ j ≠ k) := by
  refine ⟨fun j hj => h.o1 j hj.1, fun j hj => h.w1 j hj.1, fun j hj he => ?_, fun j hj he => ?_⟩
  · by_cases e : j = k
    · exact absurd (e ▸ he) hn
    · exact h.o2 j (fun q => hj ⟨q, e⟩) he
  · by_cases e : j = k
    · rw [e]; exact ⟨h.o1 k hk, h.w1 k hk⟩
    · exact h.o3 j (fun q => hj ⟨q, e⟩) he
/-- A resource to be deleted. -/
def delW (k : Key) : Rw := ⟨delR k, none, 0, none, 0, none, 0⟩
theorem delW_fine (w : World) (k : Key) (hk : -9223372036854775808 ≤ k.1 ∧ k.1 ≤ 9223372036854775807) (hn : k.2.size ≤ maxLen) : Fine w (delW k) :=
  ⟨⟨hk, hn, ⟨Nat.zero_le _, none, 0, rfl, Nat.zero_le _, .inl rfl⟩, ⟨Nat.zero_le _, none, 0, rfl, Nat.zero_le _, .inl rfl⟩, Nat.zero_le _, ⟨Nat.zero_le _, none, 0, rfl, Nat.zero_le _, .inl rfl⟩, Nat.zero_le _⟩, ⟨by simp [delW, delR], by simp [delW, delR], by simp [delW, delR]⟩⟩
/-- What is old and no longer there is to be deleted. -/
structure Pu (gO gW gV : Key → Option Rw) (left : Key → Prop) : Prop where
  l : ∀ k, left k → gV k = gW k
  y : ∀ k, ¬ left k → gO k ≠ none → gW k = none → gV k = some (delW k)
  n : ∀ k, ¬ left k → (gO k = none ∨ gW k ≠ none) → gV k = gW k
theorem Pu.zero (gO gW : Key → Option Rw) {F : Key → Option Value} (hF : F = valR gO) : Pu gO gW gW (fun k => F k ≠ none) :=
  ⟨fun _ _ => rfl, fun k h1 h2 _ => (h1 (by rw [hF]; unfold valR; intro q; exact h2 (Option.map_eq_none_iff.1 q))).elim, fun _ _ _ => rfl⟩
theorem Pu.put {gO gW gV : Key → Option Rw} {left : Key → Prop} (h : Pu gO gW gV left) {k : Key} (hk : left k) (hO : gO k ≠ none) (hW : gW k = none) : Pu gO gW (updK gV k (delW k)) (fun j => left j ∧ j ≠ k) := by
  refine ⟨fun j hj => ?_, fun j hj h1 h2 => ?_, fun j hj h1 => ?_⟩
  · unfold updK; rw [if_neg hj.2]; exact h.l j hj.1
  · unfold updK
    by_cases e : j = k
    · rw [if_pos e, e]
    · rw [if_neg e]; exact h.y j (fun q => hj ⟨q, e⟩) h1 h2
  · unfold updK
    by_cases e : j = k
    · subst e
      rcases h1 with h1 | h1
      · exact absurd h1 hO
      · exact absurd hW h1
    · rw [if_neg e]; exact h.n j (fun q => hj ⟨q, e⟩) h1
theorem Pu.stay {gO gW gV : Key → Option Rw} {left : Key → Prop} (h : Pu gO gW gV left) {k : Key} (hk : left k) (hW : gW k ≠ none) : Pu gO gW gV (fun j => left j ∧ j ≠ k) := by
  refine ⟨fun j hj => h.l j hj.1, fun j hj h1 h2 => ?_, fun j hj h1 => ?_⟩
  · by_cases e : j = k
    · subst e; exact absurd h2 hW
    · exact h.y j (fun q => hj ⟨q, e⟩) h1 h2
  · by_cases e : j = k
    · subst e; exact h.l _ hk
    · exact h.n j (fun q => hj ⟨q, e⟩) h1
/-- What is left over is the difference. -/
theorem diff_of {A B : List Res} {g gn gO gW gV : Key → Option Rw} (hA : ∀ k, (g k).map Rw.r = fnd A k) (hB : ∀ k, (gn k).map Rw.r = fnd B k) {l1 l2 : Key → Prop} (h1 : Er g gn gO gW l1) (h0 : ∀ k, ¬ l1 k) (h2 : Pu gO gW gV l2) (h3 : ∀ k, ¬ l2 k) (k : Key) : (gV k).map Rw.r = diffK A B k := by
  unfold diffK newK goneK
  rw [← hA k, ← hB k]
  by_cases he : eqK g gn k
  · obtain ⟨e1, e2⟩ := h1.o2 k (h0 k) he
    rw [h2.n k (h3 k) (.inl e1), e2]
    obtain ⟨o, r, ho, hr, hs⟩ := he
    rw [ho, hr]
    simp [hs]
  · obtain ⟨e1, e2⟩ := h1.o3 k (h0 k) he
    cases hr : gn k with
    | none =>
      rw [hr] at e2
      cases ho : g k with
      | none =>
        rw [ho] at e1
        rw [h2.n k (h3 k) (.inl e1), e2]; rfl
      | some o =>
        rw [ho] at e1
        rw [h2.y k (h3 k) (by rw [e1]; simp) e2]; rfl
    | some r =>
      rw [hr] at e2
      rw [h2.n k (h3 k) (.inr (by rw [e2]; simp)), e2]
      cases ho : g k with
      | none => rfl
      | some o =>
        have hs : sameR o.r r.r = false := by
          cases hs : sameR o.r r.r with
          | false => rfl
          | true => exact absurd ⟨o, r, ho, hr, hs⟩ he
        simp [hs]
theorem Er.el {g gn gO gW : Key → Option Rw} {left : Key → Prop} (h : Er g gn gO gW left) (k : Key) : (gO k = none ∨ gO k = g k) ∧ (gW k = none ∨ gW k = gn k) := by
  by_cases hl : left k
  · exact ⟨.inr (h.o1 k hl), .inr (h.w1 k hl)⟩
  · by_cases he : eqK g gn k
    · obtain ⟨a, b⟩ := h.o2 k hl he; exact ⟨.inl a, .inl b⟩
    · obtain ⟨a, b⟩ := h.o3 k hl he; exact ⟨.inr a, .inr b⟩
theorem Pu.el {gO gW gV : Key → Option Rw} {left : Key → Prop} (h : Pu gO gW gV left) (k : Key) : gV k = gW k ∨ gV k = some (delW k) ∧ gO k ≠ none := by
  by_cases hl : left k
  · exact .inl (h.l k hl)
  · by_cases h1 : gO k = none
    · exact .inl (h.n k hl (.inl h1))
    · by_cases h2 : gW k = none
      · exact .inr ⟨h.y k hl h1 h2, h1⟩
      · exact .inl (h.n k hl (.inr h2))
end Go.Proofs.Ytjepgpocmnijiaa
