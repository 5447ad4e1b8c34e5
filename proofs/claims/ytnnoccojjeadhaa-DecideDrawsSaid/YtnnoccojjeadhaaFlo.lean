/- How three reals stand to each other, by their bits: what is above one is above what is not above that one. Of no program. -/
import Ieee.Arith
namespace Go.Flo
open Ieee
theorem signed_add (s : Bool) (m a d : Nat) : signed s m (a + d) = signed s m a * ((2 ^ d : Nat) : Int) := by
  unfold signed
  simp only [Nat.shiftLeft_eq, Nat.pow_add, ← Nat.mul_assoc]
  cases s
  · simp only [Bool.false_eq_true, if_false]; exact Int.natCast_mul _ _
  · simp only [if_true]; rw [Int.natCast_mul, Int.neg_mul]
theorem compare_scale (x y : Int) (d : Nat) : compare (x * ((2 ^ d : Nat) : Int)) (y * ((2 ^ d : Nat) : Int)) = compare x y := by
  have hp : (0 : Int) < ((2 ^ d : Nat) : Int) := by exact_mod_cast Nat.two_pow_pos d
  rcases Int.lt_trichotomy x y with h | h | h
  · rw [Int.compare_eq_lt.2 h, Int.compare_eq_lt.2 (Int.mul_lt_mul_of_pos_right h hp)]
  · subst h; simp
  · rw [Int.compare_eq_gt.2 h, Int.compare_eq_gt.2 (Int.mul_lt_mul_of_pos_right h hp)]
theorem order_num {s t : Bool} {m n : Nat} {i j B : Int} (hi : B ≤ i) (hj : B ≤ j) :
    Datum.order (.number s m i) (.number t n j) = some (compare (signed s m (i - B).toNat) (signed t n (j - B).toNat)) := by
  show some (compare (signed s m (i - min i j).toNat) (signed t n (j - min i j).toNat)) = _
  obtain ⟨d, hd⟩ : ∃ d : Nat, min i j = B + d := ⟨(min i j - B).toNat, by omega⟩
  have e1 : (i - B).toNat = (i - min i j).toNat + d := by omega
  have e2 : (j - B).toNat = (j - min i j).toNat + d := by omega
  rw [e1, e2, signed_add, signed_add, compare_scale]
theorem gt_of {c u v : Datum} (h1 : Datum.order c v = some .gt) (h2 : Datum.order u v = some .lt ∨ Datum.order u v = some .eq) : Datum.order c u = some .gt := by
  cases c with
  | nan _ _ => simp [Datum.order] at h1
  | infinity s =>
    cases v with
    | nan _ _ => simp [Datum.order] at h1
    | infinity t =>
      cases u with
      | nan _ _ => simp [Datum.order] at h2
      | infinity r => revert h1 h2; cases s <;> cases t <;> cases r <;> simp [Datum.order] <;> decide
      | number r n k => revert h1 h2; cases s <;> cases t <;> simp [Datum.order] <;> decide
    | number t n j =>
      cases u with
      | nan _ _ => simp [Datum.order] at h2
      | infinity r => revert h1 h2; cases s <;> cases r <;> simp [Datum.order] <;> decide
      | number r n' k => revert h1 h2; cases s <;> simp [Datum.order]
  | number s m i =>
    cases v with
    | nan _ _ => simp [Datum.order] at h1
    | infinity t =>
      cases u with
      | nan _ _ => simp [Datum.order] at h2
      | infinity r => revert h1 h2; cases t <;> cases r <;> simp [Datum.order] <;> decide
      | number r n k => revert h1 h2; cases t <;> simp [Datum.order]
    | number t n j =>
      cases u with
      | nan _ _ => simp [Datum.order] at h2
      | infinity r => revert h1 h2; cases r <;> simp [Datum.order]
      | number r n' k =>
        have hB1 : min (min i j) k ≤ i := by omega
        have hB2 : min (min i j) k ≤ j := by omega
        have hB3 : min (min i j) k ≤ k := by omega
        rw [order_num hB1 hB2] at h1
        rw [order_num hB3 hB2] at h2
        rw [order_num hB1 hB3]
        generalize signed s m (i - min (min i j) k).toNat = x at *
        generalize signed t n (j - min (min i j) k).toNat = y at *
        generalize signed r n' (k - min (min i j) k).toNat = z at *
        have h3 : y < x := Int.compare_eq_gt.1 (Option.some.inj h1)
        have h4 : z ≤ y := by
          rcases h2 with h | h
          · have := Int.compare_eq_lt.1 (Option.some.inj h); omega
          · have := Int.compare_eq_eq.1 (Option.some.inj h); omega
        rw [Int.compare_eq_gt.2 (by omega)]
end Go.Flo
