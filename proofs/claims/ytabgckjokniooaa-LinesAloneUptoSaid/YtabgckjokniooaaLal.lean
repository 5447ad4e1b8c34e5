/- Two texts, one behind the other: their tokens, in plain words. No program in sight. -/
import Derived.Test.YtabgckjokniooaaLev
namespace Go.Ln
open Go.RowKit
set_option linter.unusedVariables false
def Tk.down (k : Int) (t : Tk) : Tk := { t with line := t.line + k }
def mapE (k : Int) : Except Int (List Tk) → Except Int (List Tk)
  | .error e => .error e
  | .ok ts => .ok (ts.map (Tk.down k))
theorem down_snoc (k : Int) (out : List Tk) (t : Tk) : out.map (Tk.down k) ++ [t.down k] = (out ++ [t]).map (Tk.down k) := by simp
theorem scalar_down (l : List UInt8) (n k : Int) (i : Nat) (out : List Tk) : scalar l (n + k) i (out.map (Tk.down k)) = mapE k (scalar l n i out) := by
  unfold scalar
  by_cases h1 : over l i = true
  · rw [if_pos h1, if_pos h1]; rfl
  · rw [if_neg h1, if_neg h1]
    by_cases h2 : quoteAt l i = true
    · rw [if_pos h2, if_pos h2]
      cases qread ((l[i]?).getD 0) (l.drop (i + 1)) with
      | none => rfl
      | some r =>
        obtain ⟨t, k2⟩ := r
        dsimp only
        by_cases h3 : blanks l (i + 1 + k2) < l.length ∧ (blanks l (i + 1 + k2) = i + 1 + k2 ∨ l[blanks l (i + 1 + k2)]? ≠ some 35)
        · rw [if_pos h3, if_pos h3]; rfl
        · rw [if_neg h3, if_neg h3]; exact congrArg Except.ok (down_snoc k out ⟨4, n, i, t, true⟩)
    · rw [if_neg h2, if_neg h2]
      cases plain (l.drop i) with
      | none => rfl
      | some t => exact congrArg Except.ok (down_snoc k out ⟨4, n, i, t, false⟩)
theorem keyed_down (l : List UInt8) (n k : Int) (i : Nat) (out : List Tk) : keyed l (n + k) i (out.map (Tk.down k)) = mapE k (keyed l n i out) := by
  unfold keyed
  by_cases h2 : quoteAt l i = true
  · rw [if_pos h2, if_pos h2]
    cases qread ((l[i]?).getD 0) (l.drop (i + 1)) with
    | none => rfl
    | some r =>
      obtain ⟨t, k2⟩ := r
      dsimp only
      by_cases h3 : colon l (i + 1 + k2) = true
      · rw [if_pos h3, if_pos h3, show (⟨3, n + k, i, t, true⟩ : Tk) = Tk.down k ⟨3, n, i, t, true⟩ from rfl, down_snoc, scalar_down]
      · rw [if_neg h3, if_neg h3, scalar_down]
  · rw [if_neg h2, if_neg h2]
    dsimp only
    by_cases h3 : i < behind l i ∧ behind l i - i ≤ 64 ∧ colon l (behind l i) = true
    · rw [if_pos h3, if_pos h3, show (⟨3, n + k, i, (l.drop i).take (behind l i - i), false⟩ : Tk) = Tk.down k ⟨3, n, i, (l.drop i).take (behind l i - i), false⟩ from rfl, down_snoc, scalar_down]
    · rw [if_neg h3, if_neg h3, scalar_down]
theorem items_down (l : List UInt8) (n k : Int) : ∀ (f i : Nat) (out : List Tk), items l (n + k) f i (out.map (Tk.down k)) = mapE k (items l n f i out) := by
  intro f
  induction f with
  | zero => intro i out; rfl
  | succ f ih =>
    intro i out
    unfold items
    by_cases h1 : over l i = true
    · rw [if_pos h1, if_pos h1]; rfl
    · rw [if_neg h1, if_neg h1]
      by_cases h2 : itemAt l i = true
      · rw [if_pos h2, if_pos h2, show (⟨2, n + k, i, [], false⟩ : Tk) = Tk.down k ⟨2, n, i, [], false⟩ from rfl, down_snoc, ih]
      · rw [if_neg h2, if_neg h2, keyed_down]
theorem line_down (l : List UInt8) (n k : Int) : line l (n + k) = mapE k (line l n) := by
  unfold line
  by_cases h1 : sound l ≠ 0
  · rw [if_pos h1, if_pos h1]; rfl
  · rw [if_neg h1, if_neg h1]
    by_cases h2 : docAt l = true
    · rw [if_pos h2, if_pos h2]; rfl
    · rw [if_neg h2, if_neg h2]; exact items_down l n k _ _ []
theorem docs_down (k : Int) (ts : List Tk) : docsIn (ts.map (Tk.down k)) = docsIn ts := by
  unfold docsIn
  rw [List.filter_map, List.length_map]; rfl
def dropF (d0 n0 : Nat) (f : Nat × Nat × Int) : Nat × Nat × Int := (f.1 + d0, f.2.1 + n0, f.2.2)
theorem scanL_down (d0 n0 : Nat) : ∀ (ls : List (List UInt8)) (d n : Nat), scanL (d + d0) (n + n0) ls = ((scanL d n ls).1.map (Tk.down n0), (scanL d n ls).2.map (dropF d0 n0)) := by
  intro ls
  induction ls with
  | nil => intro d n; rfl
  | cons l ls ih =>
    intro d n
    unfold scanL
    rw [show ((n + n0 + 1 : Nat) : Int) = ((n + 1 : Nat) : Int) + (n0 : Int) by omega, line_down]
    cases line l (n + 1 : Nat) with
    | error e => simp only [mapE, List.map_nil, Option.map_some, dropF, Nat.add_right_comm n n0 1]
    | ok ts =>
      simp only [mapE, docs_down]
      rw [show d + d0 + docsIn ts = d + docsIn ts + d0 by omega, show n + n0 + 1 = n + 1 + n0 by omega, ih]
      simp
theorem scanL_app : ∀ (a b : List (List UInt8)) (d n : Nat), scanL d n (a ++ b) = match (scanL d n a).2 with
    | some f => ((scanL d n a).1, some f)
    | none => ((scanL d n a).1 ++ (scanL (d + docsIn (scanL d n a).1) (n + a.length) b).1, (scanL (d + docsIn (scanL d n a).1) (n + a.length) b).2) := by
  intro a
  induction a with
  | nil => intro b d n; simp [scanL, docsIn]
  | cons l a ih =>
    intro b d n
    rw [List.cons_append]
    have hs : ∀ ls, scanL d n (l :: ls) = match line l (n + 1 : Nat) with
      | .error e => ([], some (d, n + 1, e))
      | .ok ts => let r := scanL (d + docsIn ts) (n + 1) ls; (ts ++ r.1, r.2) := fun ls => rfl
    rw [hs, hs]
    cases line l (n + 1 : Nat) with
    | error e => rfl
    | ok ts =>
      dsimp only
      rw [ih]
      cases (scanL (d + docsIn ts) (n + 1) a).2 with
      | some f => rfl
      | none =>
        dsimp only
        rw [docsIn_app, show d + docsIn ts + docsIn (scanL (d + docsIn ts) (n + 1) a).1 = d + (docsIn ts + docsIn (scanL (d + docsIn ts) (n + 1) a).1) by omega, show n + 1 + a.length = n + (l :: a).length by rw [List.length_cons]; omega, List.append_assoc]
def splitAll (cur : List UInt8) : List UInt8 → List (List UInt8)
  | [] => [cur]
  | c :: r => if c = 10 then cur :: splitAll [] r else splitAll (cur ++ [c]) r
def countN (l : List UInt8) : Nat := (l.filter fun c => decide (c = 10)).length
theorem lines_mid (two one : List UInt8) : ∀ cur, linesOf cur (one ++ 10 :: two) = splitAll cur one ++ linesOf [] two := by
  induction one with
  | nil => intro cur; simp [linesOf, splitAll]
  | cons c r ih =>
    intro cur
    rw [List.cons_append]
    have h1 : ∀ s, linesOf cur (c :: s) = if c = 10 then cur :: linesOf [] s else linesOf (cur ++ [c]) s := fun s => rfl
    have h2 : splitAll cur (c :: r) = if c = 10 then cur :: splitAll [] r else splitAll (cur ++ [c]) r := rfl
    rw [h1, h2]
    by_cases h : c = 10
    · rw [if_pos h, if_pos h, ih]; rfl
    · rw [if_neg h, if_neg h, ih]
theorem split_len (one : List UInt8) : ∀ cur, (splitAll cur one).length = countN one + 1 := by
  induction one with
  | nil => intro cur; rfl
  | cons c r ih =>
    intro cur
    unfold splitAll countN
    rw [List.filter_cons]
    by_cases h : c = 10
    · rw [if_pos h, if_pos (by simpa using h), List.length_cons, List.length_cons, ih]; rfl
    · rw [if_neg h, if_neg (by simpa using h), ih]; rfl
theorem split_lines (one : List UInt8) : ∀ cur, ∃ e, (e = [] ∨ e = [[]]) ∧ splitAll cur one = linesOf cur one ++ e := by
  induction one with
  | nil =>
    intro cur
    unfold splitAll linesOf
    by_cases h : cur.isEmpty = true
    · rw [if_pos h]; exact ⟨[[]], .inr rfl, by rw [List.isEmpty_iff.1 h]; rfl⟩
    · rw [if_neg h]; exact ⟨[], .inl rfl, by simp⟩
  | cons c r ih =>
    intro cur
    unfold splitAll linesOf
    by_cases h : c = 10
    · rw [if_pos h, if_pos h]
      obtain ⟨e, h1, h2⟩ := ih []
      exact ⟨e, h1, by rw [h2]; rfl⟩
    · rw [if_neg h, if_neg h]
      exact ih _
theorem line_nil (n : Int) : line [] n = .ok [] := by rfl
theorem scanL_split (one : List UInt8) (d n : Nat) : scanL d n (splitAll [] one) = scanL d n (linesOf [] one) := by
  obtain ⟨e, h1, h2⟩ := split_lines one []
  rw [h2]
  rcases h1 with rfl | rfl
  · rw [List.append_nil]
  · rw [scanL_app]
    have hx : ∀ d n, scanL d n [[]] = ([], none) := fun d n => by unfold scanL; rw [line_nil]; rfl
    rw [hx]
    cases hf : (scanL d n (linesOf [] one)).2 with
    | some f => exact Prod.ext rfl hf.symm
    | none => exact Prod.ext (List.append_nil _) hf.symm
/-- The tokens of two texts, one behind the other. -/
theorem scan_alone {one two : List UInt8} (h : (one ++ 10 :: two).length ≤ 65536) : scan (one ++ 10 :: two) = match (scan one).2 with
    | some f => ((scan one).1, some f)
    | none => ((scan one).1 ++ (scan two).1.map (Tk.down (countN one + 1 : Nat)), (scan two).2.map (dropF (docsIn (scan one).1) (countN one + 1))) := by
  have hl := h
  rw [List.length_append, List.length_cons] at hl
  have h1 : scan one = scanL 0 0 (linesOf [] one) := by unfold scan; rw [if_neg (by omega)]
  have h2 : scan two = scanL 0 0 (linesOf [] two) := by unfold scan; rw [if_neg (by omega)]
  have h3 : scan (one ++ 10 :: two) = scanL 0 0 (splitAll [] one ++ linesOf [] two) := by unfold scan; rw [if_neg (by omega), lines_mid]
  rw [h3, scanL_app, scanL_split, ← h1, split_len, h2]
  cases (scan one).2 with
  | some f => rfl
  | none =>
    dsimp only
    rw [scanL_down]
end Go.Ln
