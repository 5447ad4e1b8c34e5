/- How deep splits are: the document's rounds and a search that keeps what it found come to the same. No program in sight. -/
import Derived.Test.YtjepgpocmnijiaaCk
namespace Go.Ck
set_option linter.unusedVariables false
def depthG (l : List Res) (n : ByteArray) : Int := if known l 8 n = 0 then 9 else (known l 8 n : Int)
theorem stepE_ge {e : ByteArray → Nat} : ∀ (ts : List Tgt) (a : Nat), stepE e ts a ≠ 0 → a ≤ stepE e ts a
  | [], a, _ => Nat.le_refl _
  | t :: ts, a, h => by
    unfold stepE at h ⊢
    by_cases h1 : noS t.service = true
    · rw [if_pos h1] at h ⊢
      by_cases h2 : e t.split = 0
      · rw [if_pos h2] at h; exact absurd rfl h
      · rw [if_neg h2] at h ⊢
        have := stepE_ge ts _ h
        omega
    · rw [if_neg h1] at h ⊢
      exact stepE_ge ts a h
theorem stepE_kid {e : ByteArray → Nat} : ∀ (ts : List Tgt) (a : Nat), stepE e ts a ≠ 0 → ∀ t ∈ ts, noS t.service = true → e t.split ≠ 0 ∧ e t.split + 1 ≤ stepE e ts a
  | [], a, _, t, ht, _ => by cases ht
  | u :: ts, a, h, t, ht, hs => by
    unfold stepE at h ⊢
    by_cases h1 : noS u.service = true
    · rw [if_pos h1] at h ⊢
      by_cases h2 : e u.split = 0
      · rw [if_pos h2] at h; exact absurd rfl h
      · rw [if_neg h2] at h ⊢
        rcases List.mem_cons.1 ht with rfl | ht
        · exact ⟨h2, by have := stepE_ge ts _ h; omega⟩
        · exact stepE_kid ts _ h t ht hs
    · rw [if_neg h1] at h ⊢
      rcases List.mem_cons.1 ht with rfl | ht
      · exact absurd hs h1
      · exact stepE_kid ts a h t ht hs
theorem stepE_congr {e e' : ByteArray → Nat} : ∀ (ts : List Tgt) (a : Nat), (∀ t ∈ ts, noS t.service = true → e t.split = e' t.split) → stepE e ts a = stepE e' ts a
  | [], a, _ => rfl
  | t :: ts, a, h => by
    unfold stepE
    by_cases h1 : noS t.service = true
    · rw [if_pos h1, if_pos h1, h t (.head _) h1]
      by_cases h2 : e' t.split = 0
      · rw [if_pos h2, if_pos h2]
      · rw [if_neg h2, if_neg h2]
        exact stepE_congr ts _ (fun u hu => h u (.tail _ hu))
    · rw [if_neg h1, if_neg h1]
      exact stepE_congr ts a (fun u hu => h u (.tail _ hu))
theorem stepE_le {e : ByteArray → Nat} {r : Nat} (he : ∀ n, e n ≤ r) : ∀ (ts : List Tgt) (a : Nat), a ≤ r + 1 → stepE e ts a ≤ r + 1
  | [], a, h => h
  | t :: ts, a, h => by
    unfold stepE
    by_cases h1 : noS t.service = true
    · rw [if_pos h1]
      by_cases h2 : e t.split = 0
      · rw [if_pos h2]; omega
      · rw [if_neg h2]
        have := he t.split
        exact stepE_le he ts _ (by omega)
    · rw [if_neg h1]
      exact stepE_le he ts a h
theorem known_succ {l : List Res} {n : ByteArray} (h : has l 2 n = true) (r : Nat) : known l (r + 1) n = stepE (known l r) (tgtsOf l n) 1 := by
  rw [known, if_pos h]
theorem known_has {l : List Res} {n : ByteArray} {r : Nat} (h : known l r n ≠ 0) : has l 2 n = true := by
  cases r with
  | zero => exact absurd rfl h
  | succ r =>
    by_cases h1 : has l 2 n = true
    · exact h1
    · rw [known, if_neg h1] at h; exact absurd rfl h
theorem known_le (l : List Res) : ∀ (r : Nat) (n : ByteArray), known l r n ≤ r
  | 0, n => Nat.le_refl _
  | r + 1, n => by
    unfold known
    split
    · exact stepE_le (known_le l r) _ _ (by omega)
    · omega
theorem known_mono (l : List Res) : ∀ (r : Nat) (n : ByteArray), known l r n ≠ 0 → known l (r + 1) n = known l r n
  | 0, n, h => absurd rfl h
  | r + 1, n, h => by
    have hh := known_has h
    rw [known_succ hh (r + 1), known_succ hh r]
    rw [known_succ hh r] at h
    exact (stepE_congr _ _ (fun t ht hs => (known_mono l r t.split (stepE_kid _ _ h t ht hs).1).symm)).symm
theorem known_up (l : List Res) {r s : Nat} (hrs : r ≤ s) {n : ByteArray} (h : known l r n ≠ 0) : known l s n = known l r n := by
  induction s with
  | zero => rw [Nat.le_zero.1 hrs]
  | succ s ih =>
    rcases Nat.lt_or_eq_of_le hrs with h1 | h1
    · have h2 := ih (by omega)
      rw [known_mono l s n (by rw [h2]; exact h), h2]
    · rw [h1]
theorem known_by (l : List Res) : ∀ (r : Nat) (n : ByteArray), known l r n ≠ 0 → known l (known l r n) n = known l r n
  | 0, n, h => absurd rfl h
  | r + 1, n, h => by
    have hh := known_has h
    have h1 := known_succ hh r
    obtain ⟨m, hm⟩ : ∃ m, m + 1 = known l (r + 1) n := ⟨known l (r + 1) n - 1, by omega⟩
    rw [← hm, known_succ hh m, hm, h1]
    rw [h1] at h
    refine stepE_congr _ _ (fun t ht hs => ?_)
    obtain ⟨k1, k2⟩ := stepE_kid _ _ h t ht hs
    have h3 := known_by l r t.split k1
    have h4 := known_up l (r := known l r t.split) (s := m) (n := t.split) (by rw [h1] at hm; omega) (by rw [h3]; exact k1)
    rw [h4, h3]
theorem depth_bd (l : List Res) (n : ByteArray) : 1 ≤ depthG l n ∧ depthG l n ≤ 9 := by
  unfold depthG
  have := known_le l 8 n
  split <;> omega
/-- One step of a search. -/
def accF (l : List Res) (a : Int) (t : Tgt) : Int := if noS t.service = true then max a (depthG l t.split) else a
def accL (l : List Res) (ts : List Tgt) : Int := ts.foldl (accF l) 0
theorem accL_snoc (l : List Res) {ts : List Tgt} {i : Nat} {t : Tgt} (h : ts[i]? = some t) : accL l (ts.take (i + 1)) = accF l (accL l (ts.take i)) t := by
  unfold accL
  have hi := (List.getElem?_eq_some_iff.1 h).1
  rw [List.take_succ_eq_append_getElem hi, List.foldl_append, (List.getElem?_eq_some_iff.1 h).2]; rfl
theorem fold_ge (l : List Res) : ∀ (ts : List Tgt) (a : Int), a ≤ ts.foldl (accF l) a
  | [], a => Int.le_refl _
  | t :: ts, a => by
    have := fold_ge l ts (accF l a t)
    have h2 : a ≤ accF l a t := by unfold accF; split <;> omega
    simp only [List.foldl_cons]; omega
theorem fold_kid (l : List Res) : ∀ (ts : List Tgt) (a : Int) (t : Tgt), t ∈ ts → noS t.service = true → depthG l t.split ≤ ts.foldl (accF l) a
  | u :: ts, a, t, ht, hs => by
    simp only [List.foldl_cons]
    rcases List.mem_cons.1 ht with rfl | ht
    · have := fold_ge l ts (accF l a t)
      have h2 : depthG l t.split ≤ accF l a t := by unfold accF; rw [if_pos hs]; omega
      omega
    · exact fold_kid l ts _ t ht hs
theorem fold_le (l : List Res) : ∀ (ts : List Tgt) (a : Int), a ≤ 9 → ts.foldl (accF l) a ≤ 9
  | [], a, h => h
  | t :: ts, a, h => by
    simp only [List.foldl_cons]
    refine fold_le l ts _ ?_
    have := (depth_bd l t.split).2
    unfold accF
    split <;> omega
theorem accL_bd (l : List Res) (ts : List Tgt) : 0 ≤ accL l ts ∧ accL l ts ≤ 9 := ⟨fold_ge l ts 0, fold_le l ts 0 (by decide)⟩
theorem step_fold (l : List Res) : ∀ (ts : List Tgt) (a : Nat), 1 ≤ a → (∀ t ∈ ts, noS t.service = true → known l 7 t.split ≠ 0) → (stepE (known l 7) ts a : Int) = ts.foldl (accF l) ((a : Int) - 1) + 1
  | [], a, h1, _ => by simp only [stepE, List.foldl_nil]; omega
  | t :: ts, a, h1, h => by
    unfold stepE
    simp only [List.foldl_cons]
    by_cases hs : noS t.service = true
    · have h2 := h t (.head _) hs
      have h3 := known_mono l 7 t.split h2
      rw [if_pos hs, if_neg h2, step_fold l ts _ (by omega) (fun u hu => h u (.tail _ hu))]
      unfold accF depthG
      rw [if_pos hs, if_neg (by rw [h3]; exact h2), h3]
      congr 2
      omega
    · rw [if_neg hs, step_fold l ts a h1 (fun u hu => h u (.tail _ hu))]
      unfold accF
      rw [if_neg hs]
theorem depth_fix {l : List Res} {n : ByteArray} (h : has l 2 n = true) : min (accL l (tgtsOf l n) + 1) 9 = depthG l n := by
  have hk := known_succ h 7
  by_cases hall : ∀ t ∈ tgtsOf l n, noS t.service = true → known l 7 t.split ≠ 0
  · have h1 := step_fold l (tgtsOf l n) 1 (Nat.le_refl _) hall
    have h2 := known_le l 8 n
    rw [← hk] at h1
    have h3 : (known l 8 n : Int) = accL l (tgtsOf l n) + 1 := h1
    have h4 := (accL_bd l (tgtsOf l n)).1
    unfold depthG
    rw [if_neg (by omega)]
    omega
  · obtain ⟨t, ht⟩ := Classical.not_forall.1 hall
    obtain ⟨hm, ht⟩ := Classical.not_imp.1 ht
    obtain ⟨hs, ht⟩ := Classical.not_imp.1 ht
    have ht0 : known l 7 t.split = 0 := Classical.not_not.1 ht
    have h0 : known l 8 n = 0 := Classical.byContradiction fun q => by
      rw [hk] at q
      exact (stepE_kid _ _ q t hm hs).1 ht0
    have h8 : 8 ≤ depthG l t.split := by
      unfold depthG
      split
      · decide
      · rename_i q
        have h5 := known_by l 8 t.split q
        have h6 := known_le l 8 t.split
        have h7 : ¬ known l 8 t.split ≤ 7 := fun h7 => by
          have := known_up l h7 (n := t.split) (by rw [h5]; exact q)
          rw [h5, ht0] at this
          exact q this.symm
        omega
    have h9 := fold_kid l (tgtsOf l n) 0 t hm hs
    have h10 : depthG l n = 9 := by unfold depthG; rw [if_pos h0]
    have h11 : depthG l t.split ≤ accL l (tgtsOf l n) := h9
    rw [h10]
    omega
/-! ### ways -/
def Edge (l : List Res) (n k : ByteArray) : Prop := has l 2 n = true ∧ ∃ t ∈ tgtsOf l n, noS t.service = true ∧ t.split = k
inductive Reach (l : List Res) : ByteArray → ByteArray → Prop
  | one {n k : ByteArray} : Edge l n k → Reach l n k
  | step {n k m : ByteArray} : Reach l n k → Edge l k m → Reach l n m
theorem edge_down {l : List Res} {n k : ByteArray} (h : Edge l n k) (hn : depthG l n ≤ 8) : depthG l k < depthG l n := by
  obtain ⟨hh, t, ht, hs, rfl⟩ := h
  have h1 := fold_kid l (tgtsOf l n) 0 t ht hs
  have h2 : depthG l t.split ≤ accL l (tgtsOf l n) := h1
  have h3 := depth_fix hh
  omega
theorem reach_down {l : List Res} {n k : ByteArray} (h : Reach l n k) (hn : depthG l n ≤ 8) : depthG l k < depthG l n := by
  induction h with
  | one h => exact edge_down h hn
  | step _ h ih => have := edge_down h (by omega); omega
theorem ring_nine {l : List Res} {n : ByteArray} (h : Reach l n n) : depthG l n = 9 := by
  have := (depth_bd l n).2
  by_cases h8 : depthG l n ≤ 8
  · have := reach_down h h8; omega
  · omega
theorem ring_iff {l : List Res} {n : ByteArray} : (8 < depthG l n) ↔ known l 8 n = 0 := by
  unfold depthG
  have := known_le l 8 n
  split <;> omega
/-! ### what has been found -/
abbrev Fnd := ByteArray → Option Int
def GoodK (l : List Res) (K : Fnd) : Prop := ∀ x v, K x = some v → v = -1 ∨ v = depthG l x
def UnderK (l : List Res) (K : Fnd) (n : ByteArray) : Prop := ∀ x, K x = some (-1) → Reach l x n
def ExtK (K K' : Fnd) : Prop := (∀ x v, K x = some v → K' x = some v) ∧ (∀ x, K' x = some (-1) → K x = some (-1))
theorem ExtK.refl (K : Fnd) : ExtK K K := ⟨fun _ _ h => h, fun _ h => h⟩
theorem ExtK.trans {A B C : Fnd} (h : ExtK A B) (h' : ExtK B C) : ExtK A C := ⟨fun x v hx => h'.1 x v (h.1 x v hx), fun x hx => h.2 x (h'.2 x hx)⟩
def putK (K : Fnd) (n : ByteArray) (v : Int) : Fnd := fun x => if x = n then some v else K x
def cnt (U : List ByteArray) (K : Fnd) : Nat := (U.filter fun x => (K x).isNone).length
theorem cnt_le {U : List ByteArray} {K K' : Fnd} (h : ∀ x v, K x = some v → K' x = some v) : cnt U K' ≤ cnt U K := by
  unfold cnt
  induction U with
  | nil => exact Nat.le_refl _
  | cons x U ih =>
    simp only [List.filter_cons]
    cases hk : K x with
    | none =>
      simp only [Option.isNone_none, if_true, List.length_cons]
      split
      · simp only [List.length_cons]; omega
      · omega
    | some v =>
      rw [h x v hk]
      simpa using ih
theorem cnt_put {U : List ByteArray} {K : Fnd} {n : ByteArray} (hn : n ∈ U) (hk : K n = none) (v : Int) : cnt U (putK K n v) < cnt U K := by
  induction U with
  | nil => cases hn
  | cons x U ih =>
    have hle : cnt U (putK K n v) ≤ cnt U K := cnt_le (fun y u hy => by
      unfold putK
      split
      · rename_i e; rw [e, hk] at hy; cases hy
      · exact hy)
    unfold cnt at *
    simp only [List.filter_cons]
    by_cases hx : x = n
    · subst hx
      have h1 : (putK K x v x).isNone = false := by unfold putK; rw [if_pos rfl]; rfl
      rw [h1, hk]
      simp only [Option.isNone_none, if_true, List.length_cons, Bool.false_eq_true, if_false]
      omega
    · have h1 : putK K n v x = K x := by unfold putK; rw [if_neg hx]
      have hm : n ∈ U := (List.mem_cons.1 hn).resolve_left (fun e => hx e.symm)
      have := ih hm
      rw [h1]
      split
      · simp only [List.length_cons]; omega
      · omega
theorem good_put {l : List Res} {K : Fnd} (h : GoodK l K) {n : ByteArray} {v : Int} (hv : v = -1 ∨ v = depthG l n) : GoodK l (putK K n v) := fun x u hx => by
  unfold putK at hx
  split at hx
  · rename_i e; cases hx; rw [e]; exact hv
  · exact h x u hx
theorem under_put {l : List Res} {K : Fnd} {n k : ByteArray} (h : UnderK l K n) (he : Edge l n k) : UnderK l (putK K n (-1)) k := fun x hx => by
  unfold putK at hx
  split at hx
  · rename_i e; rw [e]; exact .one he
  · exact .step (h x hx) he
theorem UnderK.ext {l : List Res} {K K' : Fnd} {n : ByteArray} (h : UnderK l K n) (he : ExtK K K') : UnderK l K' n := fun x hx => h x (he.2 x hx)
theorem ext_done {l : List Res} {K K2 : Fnd} {n : ByteArray} (hk : K n = none) (h : ExtK (putK K n (-1)) K2) : ExtK K (putK K2 n (depthG l n)) := by
  refine ⟨fun x v hx => ?_, fun x hx => ?_⟩
  · have hne : x ≠ n := fun e => by rw [e, hk] at hx; cases hx
    unfold putK
    rw [if_neg hne]
    exact h.1 x v (by unfold putK; rw [if_neg hne]; exact hx)
  · unfold putK at hx
    split at hx
    · have h1 := (depth_bd l n).1
      have h2 := Option.some.inj hx
      omega
    · rename_i hne
      have := h.2 x hx
      unfold putK at this
      rw [if_neg hne] at this
      exact this
end Go.Ck
