/- The sums of weights in plain words: what Cumulate comes to, element by element. -/
import Derived.Test.YtjepgpocmnijiaaFl2
namespace Go.Proofs.Ytjepgpocmnijiaa.Cum
open Fl

/-- The sum of the first k. -/
def sumTo (ws : List Nat) : Nat → Nat
  | 0 => 0
  | k + 1 => fadd (sumTo ws k) (ws.getD k 0)
/-- The running sums of the first k. -/
def sums (ws : List Nat) (k : Nat) : List Nat := (List.range k).map fun i => sumTo ws (i + 1)
/-- The place of the last of the first k that is above nought, or -1. -/
def lastTo (ws : List Nat) : Nat → Int
  | 0 => -1
  | k + 1 => if pos (ws.getD k 0) then (k : Int) else lastTo ws k
/-- The sums, from the last one on one. -/
def outs (ws : List Nat) : List Nat := (List.range ws.length).map fun (i : Nat) => if (i : Int) < lastTo ws ws.length then sumTo ws (i + 1) else 4607182418800017408
def good (ws : List Nat) : Bool := ws.all ge && decide (0 ≤ lastTo ws ws.length) && decide (sumTo ws ws.length < INF)

theorem sums_length (ws : List Nat) (k : Nat) : (sums ws k).length = k := by simp [sums]
theorem sums_succ (ws : List Nat) (k : Nat) : sums ws (k + 1) = sums ws k ++ [sumTo ws (k + 1)] := by simp [sums, List.range_succ]
theorem outs_length (ws : List Nat) : (outs ws).length = ws.length := by simp [outs]

theorem all_take {ws : List Nat} {k : Nat} (hk : k < ws.length) (h : (ws.take k).all ge = true) (hx : ge (ws.getD k 0) = true) : (ws.take (k + 1)).all ge = true := by
  rw [List.take_succ_eq_append_getElem hk, List.all_append, h]
  have : ws.getD k 0 = ws[k] := by simp [List.getD, hk]
  rw [this] at hx
  simp [hx]
theorem not_all {ws : List Nat} {k : Nat} (hk : k < ws.length) (hx : ge (ws.getD k 0) = false) : ws.all ge = false := by
  have : ws.getD k 0 = ws[k] := by simp [List.getD, hk]
  rw [this] at hx
  rw [Bool.eq_false_iff]
  intro h
  rw [List.all_eq_true] at h
  have := h ws[k] (List.getElem_mem hk)
  rw [hx] at this; cases this
theorem getD_lt {ws : List Nat} (hw : ∀ x ∈ ws, x < 18446744073709551616) (k : Nat) : ws.getD k 0 < 18446744073709551616 := by
  by_cases hk : k < ws.length
  · have : ws.getD k 0 = ws[k] := by simp [List.getD, hk]
    rw [this]; exact hw _ (List.getElem_mem hk)
  · have : ws.getD k 0 = 0 := by simp [List.getD, Nat.not_lt.1 hk]
    rw [this]; decide
theorem sumTo_le (ws : List Nat) (hw : ∀ x ∈ ws, x < 18446744073709551616) : ∀ k, k ≤ ws.length → (ws.take k).all ge = true → sumTo ws k ≤ INF
  | 0, _, _ => Nat.zero_le _
  | k + 1, hk, h => by
    have e := List.take_succ_eq_append_getElem (show k < ws.length by omega)
    rw [e, List.all_append, Bool.and_eq_true] at h
    have hx : ge (ws.getD k 0) = true := by
      have : ws.getD k 0 = ws[k] := by simp [List.getD, show k < ws.length by omega]
      rw [this]; simpa using h.2
    exact (add_ge _ _ (sumTo_le ws hw k (by omega) h.1) (getD_lt hw k) hx).2
theorem add_step (ws : List Nat) (hw : ∀ x ∈ ws, x < 18446744073709551616) (k : Nat) (hk : k < ws.length) (h : (ws.take k).all ge = true) (hx : ge (ws.getD k 0) = true) :
    dbl.add (sumTo ws k) (ws.getD k 0) = some (sumTo ws (k + 1)) :=
  (add_ge _ _ (sumTo_le ws hw k (by omega) h) (getD_lt hw k) hx).1
theorem lastTo_bd (ws : List Nat) : ∀ k, -1 ≤ lastTo ws k ∧ lastTo ws k < k
  | 0 => by simp [lastTo]
  | k + 1 => by
    have := lastTo_bd ws k
    unfold lastTo
    split <;> omega
/-- The sums while the last of them are turned into ones, up to the place j. -/
def mid (ws : List Nat) (j : Nat) : List Nat := (List.range ws.length).map fun (i : Nat) => if lastTo ws ws.length ≤ (i : Int) ∧ i < j then 4607182418800017408 else sumTo ws (i + 1)
theorem mid_start (ws : List Nat) (j : Nat) (h : (j : Int) = lastTo ws ws.length) : mid ws j = sums ws ws.length := by
  unfold mid sums
  refine List.map_congr_left fun i hi => ?_
  rw [if_neg (by omega)]
theorem mid_set (ws : List Nat) (j : Nat) (h : lastTo ws ws.length ≤ (j : Int)) (hj : j < ws.length) : (mid ws j).set j 4607182418800017408 = mid ws (j + 1) := by
  apply List.ext_getElem?
  intro i
  unfold mid
  by_cases hi : i < ws.length
  · rw [List.getElem?_set]
    by_cases e : j = i
    · subst e
      simp [hj, h]
    · rw [if_neg e]
      simp only [List.getElem?_map, List.getElem?_range hi, Option.map_some]
      congr 1
      by_cases c : lastTo ws ws.length ≤ (i : Int) ∧ i < j
      · rw [if_pos c, if_pos ⟨c.1, by omega⟩]
      · rw [if_neg c, if_neg (by omega)]
  · simp [Nat.not_lt.1 hi]
theorem mid_end (ws : List Nat) : mid ws ws.length = outs ws := by
  unfold mid outs
  refine List.map_congr_left fun i hi => ?_
  have := List.mem_range.1 hi
  by_cases c : (i : Int) < lastTo ws ws.length
  · rw [if_neg (by omega), if_pos c]
  · rw [if_pos ⟨by omega, this⟩, if_neg c]
theorem mid_length (ws : List Nat) (j : Nat) : (mid ws j).length = ws.length := by simp [mid]
end Go.Proofs.Ytjepgpocmnijiaa.Cum
