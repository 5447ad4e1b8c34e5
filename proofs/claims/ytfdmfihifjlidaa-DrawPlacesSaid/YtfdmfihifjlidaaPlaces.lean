/- What a word picks, in plain words: a weight above nought, the first whose sum is above the word's real. -/
import Derived.Test.YtfdmfihifjlidaaUnitsWalk
namespace Go.Proofs.Ytfdmfihifjlidaa.Places
open Fl Cum
open drawUnits (U U_fin U_one U_lt)

theorem gt_iff {x y : Nat} (hx : x ≤ INF) (hy : y < INF) : gt x y = true ↔ y < x := by
  show (dbl.order x y == some Ordering.gt) = true ↔ _
  rcases Nat.lt_or_ge x INF with hx' | hx'
  · rw [order_eq x y hx' hy]
    simp only [compare, compareOfLessAndEq]
    by_cases h : x < y
    · rw [if_pos h]; simp; omega
    · rw [if_neg h]
      by_cases h2 : x = y
      · rw [if_pos h2]; simp; omega
      · rw [if_neg h2]; simp; omega
  · obtain rfl : x = INF := Nat.le_antisymm hx hx'
    obtain ⟨r, m, e, _⟩ := read_V y hy
    have : dbl.order INF y = some Ordering.gt := by
      unfold Ieee.Format.order
      rw [readINF, e]; rfl
    rw [this]
    simp [hy]
theorem first_spec {l : List Nat} {x k : Nat} (h : first l x = some k) : k < l.length ∧ gt (l.getD k 0) x = true ∧ ∀ j, j < k → gt (l.getD j 0) x = false := by
  unfold first at h
  rw [List.findIdx?_eq_some_iff_getElem] at h
  obtain ⟨hk, h1, h2⟩ := h
  refine ⟨hk, by simpa [List.getD, hk] using h1, fun j hj => ?_⟩
  have := h2 j hj
  have hj2 : j < l.length := by omega
  simpa [List.getD, hj2] using this
theorem lastTo_pos (ws : List Nat) : ∀ k, 0 ≤ lastTo ws k → ∃ l : Nat, lastTo ws k = (l : Int) ∧ l < k ∧ pos (ws.getD l 0) = true
  | 0, h => by simp [lastTo] at h
  | k + 1, h => by
    unfold lastTo at h ⊢
    by_cases hp : pos (ws.getD k 0) = true
    · rw [if_pos hp]; exact ⟨k, rfl, by omega, hp⟩
    · rw [if_neg hp] at h ⊢
      obtain ⟨l, h1, h2, h3⟩ := lastTo_pos ws k h
      exact ⟨l, h1, by omega, h3⟩
theorem outs_getD {ws : List Nat} {i : Nat} (hi : i < ws.length) : (outs ws).getD i 0 = if (i : Int) < lastTo ws ws.length then sumTo ws (i + 1) else 4607182418800017408 := by
  unfold outs
  rw [List.getD_eq_getElem?_getD, List.getElem?_map, List.getElem?_range hi, Option.map_some, Option.getD_some]
/-- What the law asks of a pick. -/
structure Picked (ws : List Nat) (x i : Nat) : Prop where
  lt : i < ws.length
  pos : pos (ws.getD i 0) = true
  above : gt ((outs ws).getD i 0) x = true
  before : ∀ j, j < i → gt ((outs ws).getD j 0) x = false
theorem picked (ws : List Nat) (hw : ∀ x ∈ ws, x < 18446744073709551616) (hg : good ws = true) (a : Nat) (ha : a < 18446744073709551616) :
    ∃ i, first (outs ws) (U a) = some i ∧ Picked ws (U a) i := by
  unfold good at hg
  rw [Bool.and_eq_true, Bool.and_eq_true, decide_eq_true_iff, decide_eq_true_iff] at hg
  obtain ⟨⟨hall, hl0⟩, hsum⟩ := hg
  obtain ⟨l, hl, hlt, hlp⟩ := lastTo_pos ws ws.length hl0
  have hone : gt 4607182418800017408 (U a) = true := (gt_iff (by decide) (U_fin a ha)).2 (U_one a ha)
  have hlast : gt ((outs ws).getD l 0) (U a) = true := by
    rw [outs_getD hlt, hl, if_neg (by omega)]; exact hone
  have hol : l < (outs ws).length := by rw [outs_length]; exact hlt
  cases hf : first (outs ws) (U a) with
  | none =>
    exfalso
    unfold first at hf
    rw [List.findIdx?_eq_none_iff] at hf
    have := hf ((outs ws)[l]) (List.getElem_mem hol)
    have e : (outs ws).getD l 0 = (outs ws)[l] := by simp [List.getD, hol]
    rw [e] at hlast
    rw [hlast] at this
    simp at this
  | some i =>
    obtain ⟨h1, h2, h3⟩ := first_spec hf
    rw [outs_length] at h1
    refine ⟨i, rfl, h1, ?_, h2, h3⟩
    have hil : i ≤ l := by
      rcases Nat.lt_or_ge l i with h | h
      · have := h3 l h; rw [hlast] at this; cases this
      · exact h
    rcases Nat.eq_or_lt_of_le hil with rfl | hil
    · exact hlp
    · rw [outs_getD h1, hl, if_pos (by omega)] at h2
      have hge : ge (ws.getD i 0) = true := by
        have : ws.getD i 0 = ws[i] := by simp [List.getD, h1]
        rw [this]; exact List.all_eq_true.1 hall _ (List.getElem_mem h1)
      have htake : (ws.take i).all ge = true := List.all_eq_true.2 fun x hx => List.all_eq_true.1 hall x (List.mem_of_mem_take hx)
      cases hp : pos (ws.getD i 0) with
      | true => rfl
      | false =>
        exfalso
        have hz := fadd_zero (sumTo ws i) (ws.getD i 0) (sumTo_le ws hw i (by omega) htake) (getD_lt hw i) hge hp
        have e : sumTo ws (i + 1) = sumTo ws i := hz
        rw [e] at h2
        cases i with
        | zero =>
          have : sumTo ws 0 = 0 := rfl
          rw [this] at h2
          have := (gt_iff (by decide) (U_fin a ha)).1 h2
          omega
        | succ j =>
          have h4 := h3 j (by omega)
          rw [outs_getD (by omega), hl, if_pos (by omega), h2] at h4
          cases h4
theorem order (ws : List Nat) (a b : Nat) (ha : a < 18446744073709551616) (hb : b < 18446744073709551616) (hab : a / 2048 ≤ b / 2048) (hfin : ∀ i, i < ws.length → (outs ws).getD i 0 ≤ INF) {i j : Nat} (hi : Picked ws (U a) i) (hj : Picked ws (U b) j) : i ≤ j := by
  rcases Nat.lt_or_ge j i with h | h
  · exfalso
    have h1 := hi.before j h
    have h2 := hj.above
    have h3 := (gt_iff (hfin j hj.lt) (U_fin b hb)).1 h2
    have h4 : U a ≤ U b := by
      rcases Nat.lt_or_ge (U b) (U a) with h | h
      · have := (U_lt b a hb ha).1 h; omega
      · exact h
    have h5 := (gt_iff (hfin j hj.lt) (U_fin a ha)).2 (Nat.lt_of_le_of_lt h4 h3)
    rw [h5] at h1; cases h1
  · exact h
theorem outs_le (ws : List Nat) (hw : ∀ x ∈ ws, x < 18446744073709551616) (hg : good ws = true) (i : Nat) (hi : i < ws.length) : (outs ws).getD i 0 ≤ INF := by
  unfold good at hg
  rw [Bool.and_eq_true, Bool.and_eq_true] at hg
  have hall := hg.1.1
  rw [outs_getD hi]
  split
  · exact sumTo_le ws hw (i + 1) (by omega) (List.all_eq_true.2 fun x hx => List.all_eq_true.1 hall x (List.mem_of_mem_take hx))
  · decide
end Go.Proofs.Ytfdmfihifjlidaa.Places
