/- Plain facts on doubles, more: which words are nought or above, which are above, and the sums of such words. -/
import Derived.Test.YtjepgpocmnijiaaFl
namespace Go.Proofs.Ytjepgpocmnijiaa.Fl
open Ieee

def ge (x : Nat) : Bool := dbl.order x 0 == some .gt || dbl.order x 0 == some .eq
def pos (x : Nat) : Bool := dbl.order x 0 == some .gt
def fin (x : Nat) : Bool := match dbl.read x with | .number .. => true | _ => false
def lt0 (x : Nat) : Bool := dbl.order x 0 == some .lt
def fadd (x y : Nat) : Nat := (dbl.add x y).getD 0

theorem read0 : dbl.read 0 = .number false 0 (-1074) := by decide +kernel
theorem readINF : dbl.read INF = .infinity false := by decide +kernel
theorem readN0 : dbl.read 9223372036854775808 = .number true 0 (-1074) := by decide +kernel

/-- Beyond infinity and below the sign bit there are no numbers. -/
theorem read_nan (x : Nat) (h : INF < x) (h2 : x < 9223372036854775808) : ∃ s t, dbl.read x = .nan s t := by
  unfold Format.read
  unfold INF at h
  simp only [eb, ei, es, el]
  have k2 : x % 9223372036854775808 = x := by omega
  rw [k2, if_neg (by omega), if_neg (by omega), if_neg (by omega)]
  exact ⟨_, _, rfl⟩
/-- With the sign bit: a number whose magnitude is not nought, infinity, or no number. -/
theorem read_neg (x : Nat) (h : 9223372036854775808 < x) (h2 : x < 18446744073709551616) :
    (∃ m p, dbl.read x = .number true m p ∧ 0 < m ∧ -1074 ≤ p) ∨ dbl.read x = .infinity true ∨ ∃ s t, dbl.read x = .nan s t := by
  unfold Format.read
  simp only [eb, ei, es, el]
  have k1 : (x / 9223372036854775808 % 2 == 1) = true := by rw [beq_iff_eq]; omega
  rw [k1]
  generalize hr : x % 9223372036854775808 = r
  have : 0 < r := by omega
  split
  · exact .inl ⟨_, _, rfl, this, by omega⟩
  · split
    · exact .inl ⟨_, _, rfl, by omega, by omega⟩
    · split
      · exact .inr (.inl rfl)
      · exact .inr (.inr ⟨_, _, rfl⟩)

theorem order_num0 (m : Nat) (p : Int) (hm : 0 < m) (s : Bool) : Datum.order (.number s m p) (.number false 0 (-1074)) = some (if s then .lt else .gt) := by
  simp only [Datum.order]
  have h0 : signed false 0 ((-1074 : Int) - min p (-1074)).toNat = 0 := by simp [signed]
  rw [h0]
  have hp : 0 < m * 2 ^ (p - min p (-1074)).toNat := Nat.mul_pos hm (Nat.two_pow_pos _)
  generalize hg : m * 2 ^ (p - min p (-1074)).toNat = g at hp
  cases s with
  | true =>
    have : signed true m (p - min p (-1074)).toNat = -(g : Int) := by simp [signed, Nat.shiftLeft_eq, ← hg]
    rw [this]
    simp only [compare, compareOfLessAndEq, if_true]
    rw [if_pos (by omega)]
  | false =>
    have : signed false m (p - min p (-1074)).toNat = (g : Int) := by simp [signed, Nat.shiftLeft_eq, ← hg]
    rw [this]
    simp only [compare, compareOfLessAndEq, Bool.false_eq_true, if_false]
    rw [if_neg (by omega), if_neg (by omega)]

theorem order0 (x : Nat) (h : x < 18446744073709551616) :
    (x = 0 ∧ dbl.order x 0 = some .eq) ∨ (0 < x ∧ x ≤ INF ∧ dbl.order x 0 = some .gt) ∨ (x = 9223372036854775808 ∧ dbl.order x 0 = some .eq) ∨
    ((INF < x ∧ x ≠ 9223372036854775808) ∧ (dbl.order x 0 = some .lt ∨ dbl.order x 0 = none)) := by
  unfold Format.order
  rw [read0]
  rcases Nat.lt_trichotomy x 9223372036854775808 with h1 | h1 | h1
  · rcases Nat.lt_trichotomy x INF with h2 | h2 | h2
    · by_cases h0 : x = 0
      · subst h0; rw [read0]; exact .inl ⟨rfl, by decide +kernel⟩
      · obtain ⟨r, m, e, v, hm, hr, hc, hx⟩ := read_V x h2
        rw [e, order_num0 m _ (by rcases hc with hc | hc <;> omega) false]
        exact .inr (.inl ⟨by omega, by omega, rfl⟩)
    · subst h2; rw [readINF]; exact .inr (.inl ⟨by decide, Nat.le_refl _, rfl⟩)
    · obtain ⟨s, t, e⟩ := read_nan x h2 h1
      rw [e]; exact .inr (.inr (.inr ⟨⟨h2, by omega⟩, .inr rfl⟩))
  · subst h1; rw [readN0]; exact .inr (.inr (.inl ⟨rfl, by decide +kernel⟩))
  · refine .inr (.inr (.inr ⟨⟨by unfold INF; omega, by omega⟩, ?_⟩))
    rcases read_neg x h1 h with ⟨m, p, e, hm, _⟩ | e | ⟨s, t, e⟩
    · rw [e, order_num0 m p hm true]; exact .inl rfl
    · rw [e]; exact .inl rfl
    · rw [e]; exact .inr rfl

theorem ge_iff (x : Nat) (h : x < 18446744073709551616) : ge x = true ↔ (x ≤ INF ∨ x = 9223372036854775808) := by
  unfold ge
  rcases order0 x h with ⟨a, b⟩ | ⟨a, c, b⟩ | ⟨a, b⟩ | ⟨⟨a, c⟩, b | b⟩ <;> rw [b] <;> simp <;> first | omega | (unfold INF at *; omega)
theorem pos_iff (x : Nat) (h : x < 18446744073709551616) : pos x = true ↔ (0 < x ∧ x ≤ INF) := by
  unfold pos
  rcases order0 x h with ⟨a, b⟩ | ⟨a, c, b⟩ | ⟨a, b⟩ | ⟨⟨a, c⟩, b | b⟩ <;> rw [b] <;> simp <;> first | omega | (unfold INF at *; omega)

/-- A sum of what is nought or above is nought or above, and has an answer. -/
theorem add_ge (s x : Nat) (hs : s ≤ INF) (h : x < 18446744073709551616) (hx : ge x = true) : dbl.add s x = some (fadd s x) ∧ fadd s x ≤ INF := by
  have key : ∃ r, dbl.add s x = some r ∧ r ≤ INF := by
    rcases (ge_iff x h).1 hx with h1 | h1
    · rcases Nat.lt_or_ge s INF with h2 | h2
      · rcases Nat.lt_or_ge x INF with h3 | h3
        · exact ⟨_, add_eq s x h2 h3, D_le _ _⟩
        · obtain rfl : x = INF := Nat.le_antisymm h1 h3
          obtain ⟨r, m, e, _⟩ := read_V s h2
          refine ⟨INF, ?_, Nat.le_refl _⟩
          unfold Format.add
          rw [e, readINF]; simp only [Datum.sum, Option.map_some]; rfl
      · obtain rfl : s = INF := Nat.le_antisymm hs h2
        rcases Nat.lt_or_ge x INF with h3 | h3
        · obtain ⟨r, m, e, _⟩ := read_V x h3
          refine ⟨INF, ?_, Nat.le_refl _⟩
          unfold Format.add
          rw [e, readINF]; simp only [Datum.sum, Option.map_some]; rfl
        · obtain rfl : x = INF := Nat.le_antisymm h1 h3
          refine ⟨INF, ?_, Nat.le_refl _⟩
          unfold Format.add
          rw [readINF]; simp only [Datum.sum]; rfl
    · subst h1
      rcases Nat.lt_or_ge s INF with h2 | h2
      · refine ⟨s, ?_, hs⟩
        obtain ⟨r, m, e, v, _⟩ := read_V s h2
        have hv : (Datum.sum (.number false m ((r : Int) - 1074)) (.number true 0 (-1074))).map dbl.write = (Datum.sum (.number false m ((r : Int) - 1074)) (.number false 0 ((0 : Nat) - 1074))).map dbl.write := by
          simp only [Datum.sum, Option.map_some]
          have s1 : ∀ k, signed true 0 k = 0 := fun k => by simp [signed]
          have s2 : ∀ k, signed false 0 k = 0 := fun k => by simp [signed]
          simp [s1, s2]
        unfold Format.add
        rw [e, readN0, hv, sum_eq, Nat.zero_mul, Nat.add_zero, ← v, D_V s h2]
      · obtain rfl : s = INF := Nat.le_antisymm hs h2
        refine ⟨INF, ?_, Nat.le_refl _⟩
        unfold Format.add
        rw [readINF, readN0]; simp only [Datum.sum, Option.map_some]; rfl
  obtain ⟨r, e, hr⟩ := key
  unfold fadd
  rw [e]; exact ⟨rfl, hr⟩

/-- Nothing is added by a nought. -/
theorem fadd_zero (s x : Nat) (hs : s ≤ INF) (h : x < 18446744073709551616) (hx : ge x = true) (hp : pos x = false) : fadd s x = s := by
  have h0 : x = 0 ∨ x = 9223372036854775808 := by
    rcases (ge_iff x h).1 hx with h1 | h1
    · left
      have := (pos_iff x h)
      rw [hp] at this
      simp at this
      rcases Nat.eq_zero_or_pos x with h2 | h2
      · exact h2
      · have := this h2; omega
    · exact .inr h1
  rcases Nat.lt_or_ge s INF with h2 | h2
  · obtain ⟨r, m, e, v, _⟩ := read_V s h2
    rcases h0 with rfl | rfl
    · unfold fadd
      rw [add_eq s 0 h2 (by decide)]
      have : V 0 = 0 := by decide
      rw [this, Nat.add_zero, D_V s h2]; rfl
    · have hv : (Datum.sum (.number false m ((r : Int) - 1074)) (.number true 0 (-1074))).map dbl.write = (Datum.sum (.number false m ((r : Int) - 1074)) (.number false 0 ((0 : Nat) - 1074))).map dbl.write := by
        simp only [Datum.sum, Option.map_some]
        have s1 : ∀ k, signed true 0 k = 0 := fun k => by simp [signed]
        have s2 : ∀ k, signed false 0 k = 0 := fun k => by simp [signed]
        simp [s1, s2]
      unfold fadd Format.add
      rw [e, readN0, hv, sum_eq, Nat.zero_mul, Nat.add_zero, ← v, D_V s h2]; rfl
  · obtain rfl : s = INF := Nat.le_antisymm hs h2
    unfold fadd Format.add
    rcases h0 with rfl | rfl
    · rw [readINF, read0]; simp only [Datum.sum, Option.map_some]; decide +kernel
    · rw [readINF, readN0]; simp only [Datum.sum, Option.map_some]; decide +kernel
end Go.Proofs.Ytjepgpocmnijiaa.Fl
