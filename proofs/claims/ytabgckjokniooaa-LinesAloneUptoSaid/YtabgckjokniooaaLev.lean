/- Tokens told one by one, in plain words: no program in sight. -/
import Derived.Test.YtabgckjokniooaaLn
namespace Go.Ln
open Go.RowKit
set_option linter.unusedVariables false
abbrev Ev := Tk × (Nat × Nat × Int)
def zt : Tk := ⟨0, 0, 0, [], false⟩
def evs : Nat → Nat → List (List UInt8) → List Ev
  | _, _, [] => []
  | d, n, l :: ls => match line l (n + 1 : Nat) with
    | .error e => [(zt, (d, n + 1, e))]
    | .ok ts => ts.map (fun t => (t, (0, 0, 0))) ++ evs (d + docsIn ts) (n + 1) ls
def seqOf (text : List UInt8) : List Ev := if 65536 < text.length then [(zt, (0, 0, 3))] else evs 0 0 (linesOf [] text)
def tail (f : Option (Nat × Nat × Int)) : List Ev := match f with
  | none => []
  | some f => [(zt, f)]
theorem evs_scan : ∀ (ls : List (List UInt8)) (d n : Nat), evs d n ls = (scanL d n ls).1.map (fun t => (t, (0, 0, 0))) ++ tail (scanL d n ls).2 := by
  intro ls
  induction ls with
  | nil => intro d n; rfl
  | cons l ls ih =>
    intro d n
    unfold evs scanL
    cases line l (n + 1 : Nat) with
    | error e => rfl
    | ok ts => simp only [ih, List.map_append, List.append_assoc]
theorem seq_scan (text : List UInt8) : seqOf text = (scan text).1.map (fun t => (t, (0, 0, 0))) ++ tail (scan text).2 := by
  unfold seqOf scan
  split
  · rfl
  · exact evs_scan _ _ _
theorem ix_le (l : List UInt8) (h : 0 ≤ Lib.index l [10]) : (Lib.index l [10]).toNat < l.length := by
  induction l with
  | nil => simp [Lib.index] at h
  | cons b l ih =>
    unfold Lib.index at h ⊢
    by_cases e : ([10] : List UInt8).isPrefixOf (b :: l) = true
    · rw [if_pos e]; simp
    · rw [if_neg e] at h ⊢
      by_cases e2 : (Lib.index l [10] == -1) = true
      · rw [if_pos e2] at h; omega
      · rw [if_neg e2] at h ⊢
        have hg := Lib.index_ge l [10]
        have : Lib.index l [10] ≠ -1 := by simpa using e2
        have := ih (by omega)
        rw [List.length_cons]; omega
theorem lines_ix (r : List UInt8) : ∀ cur : List UInt8, linesOf cur r = if 0 ≤ Lib.index r [10] then (cur ++ r.take (Lib.index r [10]).toNat) :: linesOf [] (r.drop ((Lib.index r [10]).toNat + 1)) else if (cur ++ r).isEmpty then [] else [cur ++ r] := by
  induction r with
  | nil =>
    intro cur
    rw [if_neg (by simp [Lib.index])]
    unfold linesOf
    rw [List.append_nil]
  | cons b l ih =>
    intro cur
    rw [linesOf]
    by_cases hb : b = 10
    · subst hb
      have e : Lib.index (10 :: l) [10] = 0 := by unfold Lib.index; simp
      rw [if_pos rfl, e, if_pos (by omega)]; simp
    · rw [if_neg hb, ih]
      have e : ¬ ([10] : List UInt8).isPrefixOf (b :: l) = true := by
        simp only [List.isPrefixOf, Bool.and_true]
        intro h; exact hb (by simpa using (beq_iff_eq.1 h).symm)
      have hx : Lib.index (b :: l) [10] = if (Lib.index l [10] == -1) = true then -1 else Lib.index l [10] + 1 := by
        rw [Lib.index, if_neg e]
      have hg := Lib.index_ge l [10]
      by_cases e2 : Lib.index l [10] = -1
      · have hx2 : Lib.index (b :: l) [10] = -1 := by rw [hx, e2]; rfl
        rw [hx2, e2, if_neg (show ¬ (0 : Int) ≤ -1 by decide), if_neg (show ¬ (0 : Int) ≤ -1 by decide)]; simp
      · have hx2 : Lib.index (b :: l) [10] = Lib.index l [10] + 1 := by rw [hx, if_neg (by simpa using e2)]
        have : (Lib.index l [10] + 1).toNat = (Lib.index l [10]).toNat + 1 := by omega
        rw [hx2, if_pos (show 0 ≤ Lib.index l [10] by omega), if_pos (show 0 ≤ Lib.index l [10] + 1 by omega), this]; simp
/-- The first line, and what stands behind it. -/
def cutL (r : List UInt8) : List UInt8 × List UInt8 := if 0 ≤ Lib.index r [10] then (r.take (Lib.index r [10]).toNat, r.drop ((Lib.index r [10]).toNat + 1)) else (r, [])
theorem lines_cut {r : List UInt8} (h : r ≠ []) : linesOf [] r = (cutL r).1 :: linesOf [] (cutL r).2 := by
  rw [lines_ix]
  unfold cutL
  split
  · simp
  · rw [if_neg (by simpa using h)]; simp [linesOf]
theorem cut_len {r : List UInt8} (h : r ≠ []) : (cutL r).2.length < r.length := by
  have : 0 < r.length := List.length_pos_iff.2 h
  unfold cutL
  split
  · simp only [List.length_drop]; omega
  · simpa using this
theorem cut_fst (r : List UInt8) : (cutL r).1.length ≤ r.length := by
  unfold cutL
  split
  · simp only [List.length_take]; omega
  · exact Nat.le_refl _
theorem evs_bad {d n : Nat} {r : List UInt8} {e : Int} (h : r ≠ []) (hl : line (cutL r).1 (n + 1 : Nat) = .error e) : evs d n (linesOf [] r) = [(zt, (d, n + 1, e))] := by
  rw [lines_cut h]; unfold evs; rw [hl]
theorem evs_ok {d n : Nat} {r : List UInt8} {ts : List Tk} (h : r ≠ []) (hl : line (cutL r).1 (n + 1 : Nat) = .ok ts) : evs d n (linesOf [] r) = ts.map (fun t => (t, (0, 0, 0))) ++ evs (d + docsIn ts) (n + 1) (linesOf [] (cutL r).2) := by
  rw [lines_cut h]; conv => lhs; unfold evs
  rw [hl]
theorem docsIn_snoc (ts : List Tk) (t : Tk) : docsIn (ts ++ [t]) = docsIn ts + if t.kind = 1 then 1 else 0 := by
  unfold docsIn
  rw [List.filter_append, List.length_append]
  by_cases h : t.kind = 1 <;> simp [h]
/-- An event that tells a fault is the last one. -/
theorem seq_end {text : List UInt8} {pre : List Ev} {x : Ev} (hp : pre ++ [x] <+: seqOf text) (hx : x.2.2.2 ≠ 0) : (scan text).2 = some x.2 := by
  rw [seq_scan] at hp
  obtain ⟨s, hs⟩ := hp
  cases hf : (scan text).2 with
  | none =>
    rw [hf] at hs
    have hm : x ∈ (scan text).1.map (fun t => ((t, (0, 0, 0)) : Ev)) := by
      have : x ∈ (scan text).1.map (fun t => ((t, (0, 0, 0)) : Ev)) ++ tail none := by rw [← hs]; simp
      simpa [tail] using this
    obtain ⟨t, _, rfl⟩ := List.mem_map.1 hm
    exact absurd rfl hx
  | some f =>
    rw [hf] at hs
    have hm : x ∈ (scan text).1.map (fun t => ((t, (0, 0, 0)) : Ev)) ++ tail (some f) := by rw [← hs]; simp
    rcases List.mem_append.1 hm with h | h
    · obtain ⟨t, _, rfl⟩ := List.mem_map.1 h
      exact absurd rfl hx
    · have : x = (zt, f) := by simpa [tail] using h
      rw [this]
theorem err_ne {d n : Nat} {ls : List (List UInt8)} {f : Nat × Nat × Int} (h : (scanL d n ls).2 = some f) : f.2.2 ≠ 0 → True := fun _ => trivial
theorem seq_all {text : List UInt8} {ts : List Tk} (h : seqOf text = ts.map (fun t => (t, (0, 0, 0)))) (he : ∀ f, (scan text).2 = some f → f.2.2 ≠ 0) : (scan text).2 = none ∧ (scan text).1 = ts := by
  rw [seq_scan] at h
  cases hf : (scan text).2 with
  | some f =>
    rw [hf] at h
    have hm : (zt, f) ∈ ts.map (fun t => ((t, (0, 0, 0)) : Ev)) := by rw [← h]; simp [tail]
    obtain ⟨t, _, e⟩ := List.mem_map.1 hm
    have e2 : f = (0, 0, 0) := (congrArg Prod.snd e).symm
    exact absurd (by rw [e2]) (he f hf)
  | none =>
    rw [hf] at h
    refine ⟨rfl, ?_⟩
    have := congrArg (List.map Prod.fst) h
    simpa [tail, Function.comp_def] using this
theorem seq_all2 {text : List UInt8} (h : ∀ x ∈ seqOf text, x.2.2.2 = 0) (he : ∀ f, (scan text).2 = some f → f.2.2 ≠ 0) : (scan text).2 = none ∧ (scan text).1 = (seqOf text).map (·.1) := by
  have hs := seq_scan text
  cases hf : (scan text).2 with
  | some f =>
    rw [hf] at hs
    exact absurd (h (zt, f) (by rw [hs]; simp [tail])) (he f hf)
  | none =>
    rw [hf] at hs
    refine ⟨rfl, ?_⟩
    rw [hs]; simp [tail, Function.comp_def]
theorem sound_val (l : List UInt8) : sound l = 0 ∨ sound l = 80 ∨ sound l = 83 := by
  unfold sound
  split
  · exact .inr (.inl rfl)
  · split
    · exact .inr (.inr rfl)
    · exact .inl rfl
theorem scalar_err {l : List UInt8} {n : Int} {i : Nat} {out : List Tk} {e : Int} (h : scalar l n i out = .error e) : e = 82 ∨ e = 83 := by
  unfold scalar at h
  split at h
  · cases h
  · split at h
    · split at h
      · cases h; exact .inl rfl
      · dsimp only at h
        split at h <;> cases h
        exact .inl rfl
    · split at h <;> cases h
      exact .inr rfl
theorem keyed_err {l : List UInt8} {n : Int} {i : Nat} {out : List Tk} {e : Int} (h : keyed l n i out = .error e) : e = 82 ∨ e = 83 := by
  unfold keyed at h
  split at h
  · split at h
    · cases h; exact .inl rfl
    · split at h <;> exact scalar_err h
  · dsimp only at h
    split at h <;> exact scalar_err h
theorem items_err {l : List UInt8} {n : Int} {e : Int} : ∀ (f i : Nat) (out : List Tk), items l n f i out = .error e → e = 82 ∨ e = 83 := by
  intro f
  induction f with
  | zero => intro i out h; cases h
  | succ f ih =>
    intro i out h
    unfold items at h
    split at h
    · cases h
    · split at h
      · exact ih _ _ h
      · exact keyed_err h
theorem line_err {l : List UInt8} {n : Int} {e : Int} (h : line l n = .error e) : e = 80 ∨ e = 82 ∨ e = 83 := by
  unfold line at h
  split at h
  · rename_i hs
    cases h
    rcases sound_val l with h | h | h
    · exact absurd h hs
    · exact .inl h
    · exact .inr (.inr h)
  · split at h
    · cases h
    · exact .inr (items_err _ _ _ h)
theorem scanL_err : ∀ (ls : List (List UInt8)) (d n : Nat) (f : Nat × Nat × Int), (scanL d n ls).2 = some f → f.2.2 = 80 ∨ f.2.2 = 82 ∨ f.2.2 = 83 := by
  intro ls
  induction ls with
  | nil => intro d n f h; cases h
  | cons l ls ih =>
    intro d n f h
    unfold scanL at h
    cases hl : line l (n + 1 : Nat) with
    | error e => rw [hl] at h; cases h; exact line_err hl
    | ok ts => rw [hl] at h; exact ih _ _ f h
theorem scan_err {text : List UInt8} {f : Nat × Nat × Int} (h : (scan text).2 = some f) : f.2.2 ≠ 0 := by
  unfold scan at h
  split at h
  · cases h; decide
  · rcases scanL_err _ _ _ _ h with h | h | h <;> rw [h] <;> decide
theorem docsIn_app (a b : List Tk) : docsIn (a ++ b) = docsIn a + docsIn b := by unfold docsIn; rw [List.filter_append, List.length_append]
theorem scalar_docs {l : List UInt8} {n : Int} {i : Nat} {out ts : List Tk} (h : scalar l n i out = .ok ts) : docsIn ts = docsIn out := by
  unfold scalar at h
  split at h
  · cases h; rfl
  · split at h
    · split at h
      · cases h
      · dsimp only at h
        split at h <;> cases h
        rw [docsIn_snoc]; rfl
    · split at h <;> cases h
      rw [docsIn_snoc]; rfl
theorem keyed_docs {l : List UInt8} {n : Int} {i : Nat} {out ts : List Tk} (h : keyed l n i out = .ok ts) : docsIn ts = docsIn out := by
  unfold keyed at h
  split at h
  · split at h
    · cases h
    · split at h
      · rw [scalar_docs h, docsIn_snoc]; rfl
      · exact scalar_docs h
  · dsimp only at h
    split at h
    · rw [scalar_docs h, docsIn_snoc]; rfl
    · exact scalar_docs h
theorem items_docs {l : List UInt8} {n : Int} {ts : List Tk} : ∀ (f i : Nat) (out : List Tk), items l n f i out = .ok ts → docsIn ts = docsIn out := by
  intro f
  induction f with
  | zero => intro i out h; cases h; rfl
  | succ f ih =>
    intro i out h
    unfold items at h
    split at h
    · cases h; rfl
    · split at h
      · rw [ih _ _ h, docsIn_snoc]; rfl
      · exact keyed_docs h
theorem line_docs {l : List UInt8} {n : Int} {ts : List Tk} (h : line l n = .ok ts) : docsIn ts ≤ 1 := by
  unfold line at h
  split at h
  · cases h
  · split at h
    · cases h; exact Nat.le_refl 1
    · rw [items_docs _ _ _ h]; decide
theorem blanks_pos (l : List UInt8) (i : Nat) : i ≤ blanks l i := Nat.le_add_right _ _
theorem scalar_len {l : List UInt8} {n : Int} {i : Nat} {out ts : List Tk} (h : scalar l n i out = .ok ts) : ts.length ≤ out.length + 1 := by
  unfold scalar at h
  split at h
  · cases h; omega
  · split at h
    · split at h
      · cases h
      · dsimp only at h
        split at h <;> cases h
        simp
    · split at h <;> cases h
      simp
theorem keyed_len {l : List UInt8} {n : Int} {i : Nat} {out ts : List Tk} (h : keyed l n i out = .ok ts) : ts.length ≤ out.length + 2 := by
  unfold keyed at h
  split at h
  · split at h
    · cases h
    · split at h
      · have := scalar_len h; rw [List.length_append, List.length_singleton] at this; omega
      · have := scalar_len h; omega
  · dsimp only at h
    split at h
    · have := scalar_len h; rw [List.length_append, List.length_singleton] at this; omega
    · have := scalar_len h; omega
theorem items_len {l : List UInt8} {n : Int} {ts : List Tk} : ∀ (f i : Nat) (out : List Tk), items l n f i out = .ok ts → ts.length ≤ out.length + f + 2 := by
  intro f
  induction f with
  | zero => intro i out h; cases h; omega
  | succ f ih =>
    intro i out h
    unfold items at h
    split at h
    · cases h; omega
    · split at h
      · have := ih _ _ h; rw [List.length_append, List.length_singleton] at this; omega
      · have := keyed_len h; omega
theorem line_len {l : List UInt8} {n : Int} {ts : List Tk} (h : line l n = .ok ts) : ts.length ≤ l.length + 3 := by
  unfold line at h
  split at h
  · cases h
  · split at h
    · cases h; simp
    · have := items_len _ _ _ h; simp at this; omega
theorem evs_len : ∀ (ls : List (List UInt8)) (d n : Nat), (evs d n ls).length ≤ (ls.map fun l => l.length + 3).sum := by
  intro ls
  induction ls with
  | nil => intro d n; simp [evs]
  | cons l ls ih =>
    intro d n
    unfold evs
    cases hx : line l (n + 1 : Nat) with
    | error e => simp only [List.length_singleton, List.map_cons, List.sum_cons]; omega
    | ok ts =>
      have h1 := line_len hx
      have h2 := ih (d + docsIn ts) (n + 1)
      simp only [List.length_append, List.length_map, List.map_cons, List.sum_cons]
      omega
theorem lines_sum (r : List UInt8) : ∀ cur : List UInt8, ((linesOf cur r).map fun l => l.length + 3).sum ≤ 3 * (cur.length + r.length + 1) := by
  induction r with
  | nil =>
    intro cur
    unfold linesOf
    split
    · simp
    · simp; omega
  | cons c r ih =>
    intro cur
    unfold linesOf
    split
    · have := ih []
      simp only [List.map_cons, List.sum_cons, List.length_cons, List.length_nil] at this ⊢
      omega
    · have := ih (cur ++ [c])
      simp only [List.length_append, List.length_cons, List.length_nil] at this ⊢
      omega
theorem seq_len (text : List UInt8) : (seqOf text).length ≤ 200000 := by
  unfold seqOf
  split
  · simp
  · have h1 := evs_len (linesOf [] text) 0 0
    have h2 := lines_sum text []
    simp only [List.length_nil] at h2
    omega
end Go.Ln
