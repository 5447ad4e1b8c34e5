/- Plain facts on doubles, still more: to write keeps the order; differences and quarters. -/
import Derived.Test.YteedjgkinmkmoaaFl
namespace Go.Tp.Fl
open Ieee

/-- A cut by a whole gap, rounded to the even one. -/
def ideal (n g : Nat) : Nat := n / g + ((g < 2 * (n % g) || (g == 2 * (n % g) && n / g % 2 == 1)) : Bool).toNat

theorem ideal_mono {n m g : Nat} (hg : 0 < g) (h : n ≤ m) : ideal n g ≤ ideal m g := by
  unfold ideal
  have hd : n / g ≤ m / g := Nat.div_le_div_right h
  have hb : ∀ b : Bool, b.toNat ≤ 1 := fun b => by cases b <;> decide
  rcases Nat.lt_or_ge (n / g) (m / g) with hlt | hge
  · have := hb (g < 2 * (n % g) || (g == 2 * (n % g) && n / g % 2 == 1))
    omega
  · have he : n / g = m / g := Nat.le_antisymm hd hge
    have hr : n % g ≤ m % g := by
      have h1 := Nat.div_add_mod n g
      have h2 := Nat.div_add_mod m g
      rw [he] at h1; omega
    rw [he]
    refine Nat.add_le_add_left ?_ _
    cases hc : (decide (g < 2 * (n % g)) || (g == 2 * (n % g) && m / g % 2 == 1)) with
    | false => exact Nat.zero_le _
    | true =>
      have : (decide (g < 2 * (m % g)) || (g == 2 * (m % g) && m / g % 2 == 1)) = true := by
        rw [Bool.or_eq_true, decide_eq_true_iff, Bool.and_eq_true, beq_iff_eq] at hc ⊢
        rcases hc with hc | ⟨hc, ho⟩
        · left; omega
        · rcases Nat.lt_or_ge g (2 * (m % g)) with h3 | h3
          · exact .inl h3
          · exact .inr ⟨by omega, ho⟩
      rw [this]
      exact Nat.le_refl _

theorem cut_ideal (n d : Nat) : Toward.even.cut false n d = ideal n (2 ^ d) := by
  unfold Toward.cut ideal
  simp only [Nat.shiftLeft_eq, Nat.one_mul]
  by_cases h : d ≤ n.log2 + 2
  · rw [Nat.min_eq_left h]
  · have hlt : n < 2 ^ (n.log2 + 1) := Nat.lt_log2_self
    have e : 2 ^ (n.log2 + 2) = 2 * 2 ^ (n.log2 + 1) := by rw [Nat.pow_succ]; omega
    have hle : 2 ^ (n.log2 + 2) ≤ 2 ^ d := Nat.pow_le_pow_right (by decide) (by omega)
    rw [Nat.min_eq_right (by omega)]
    generalize 2 ^ (n.log2 + 2) = G at *
    generalize 2 ^ (n.log2 + 1) = H at *
    generalize 2 ^ d = K at *
    have a1 : n / G = 0 := Nat.div_eq_of_lt (by omega)
    have a2 : n / K = 0 := Nat.div_eq_of_lt (by omega)
    have a3 : n % G = n := Nat.mod_eq_of_lt (by omega)
    have a4 : n % K = n := Nat.mod_eq_of_lt (by omega)
    rw [a1, a2, a3, a4]
    have b1 : decide (G < 2 * n) = false := by rw [decide_eq_false_iff_not]; omega
    have b2 : decide (K < 2 * n) = false := by rw [decide_eq_false_iff_not]; omega
    have b3 : (G == 2 * n) = false := by rw [beq_eq_false_iff_ne]; omega
    have b4 : (K == 2 * n) = false := by rw [beq_eq_false_iff_ne]; omega
    rw [b1, b2, b3, b4]

theorem ideal_mul (q g : Nat) (hg : 0 < g) : ideal (q * g) g = q := by
  unfold ideal
  rw [Nat.mul_div_cancel _ hg, Nat.mul_mod_left]
  have : ¬ g < 2 * 0 := by omega
  simp; omega

theorem min_mono {a b I : Nat} (h : a ≤ b) : min a I ≤ min b I := by omega
theorem rung_mono {x y X Y : Nat} (h : x + 1 ≤ y) (hX : X ≤ 9007199254740992) (hY : 4503599627370496 ≤ Y) : x * 4503599627370496 + X ≤ y * 4503599627370496 + Y := by omega
/-- To write, at one place, keeps the order. -/
theorem D_mono (n m : Nat) (p : Int) (h : n ≤ m) : D n p ≤ D m p := by
  by_cases hn : n = 0
  · subst hn; rw [D_zero]; exact Nat.zero_le _
  have hm : m ≠ 0 := by omega
  unfold D Format.nearest
  rw [if_neg hn, if_neg hm]
  simp only [el, ef]
  unfold Format.word
  simp only [Bool.false_eq_true, if_false, eb, ei]
  have hnl : 2 ^ n.log2 ≤ n := Nat.log2_self_le hn
  have hnh : n < 2 ^ (n.log2 + 1) := Nat.lt_log2_self
  have hml : 2 ^ m.log2 ≤ m := Nat.log2_self_le hm
  have hmh : m < 2 ^ (m.log2 + 1) := Nat.lt_log2_self
  have hL : n.log2 ≤ m.log2 := by
    rcases Nat.lt_or_ge m.log2 n.log2 with h1 | h1
    · have : 2 ^ (m.log2 + 1) ≤ 2 ^ n.log2 := Nat.pow_le_pow_right (by decide) h1
      omega
    · exact h1
  generalize n.log2 = A at *
  generalize m.log2 = B at *
  obtain ⟨la, hla⟩ : ∃ la, max (p + (A : Int) - ((52 : Nat) : Int)) (-1074) = la := ⟨_, rfl⟩
  obtain ⟨lb, hlb⟩ : ∃ lb, max (p + (B : Int) - ((52 : Nat) : Int)) (-1074) = lb := ⟨_, rfl⟩
  rw [hla, hlb, cut_ideal, cut_ideal, Nat.shiftLeft_eq, Nat.shiftLeft_eq]
  by_cases hab : la = lb
  · subst hab
    have h1 : n * 2 ^ (p - la).toNat ≤ m * 2 ^ (p - la).toNat := Nat.mul_le_mul_right _ h
    have h2 := ideal_mono (g := 2 ^ (la - p).toNat) (Nat.two_pow_pos _) h1
    exact min_mono (Nat.add_le_add_left h2 _)
  · have hlt : la < lb := by omega
    have hb1 : lb = p + B - 52 := by omega
    -- what n is cut to is at most two binades
    have c1 : ideal (n * 2 ^ (p - la).toNat) (2 ^ (la - p).toNat) ≤ 9007199254740992 := by
      have e53 : (9007199254740992 : Nat) = 2 ^ 53 := by decide
      by_cases hpl : la ≤ p
      · have z : (la - p).toNat = 0 := by omega
        rw [z, Nat.pow_zero]
        have i1 := ideal_mul (n * 2 ^ (p - la).toNat) 1 (by decide)
        rw [Nat.mul_one] at i1
        rw [i1, e53]
        have : A + 1 + (p - la).toNat ≤ 53 := by omega
        calc n * 2 ^ (p - la).toNat ≤ 2 ^ (A + 1) * 2 ^ (p - la).toNat := Nat.mul_le_mul_right _ (Nat.le_of_lt hnh)
          _ = 2 ^ (A + 1 + (p - la).toNat) := (Nat.pow_add _ _ _).symm
          _ ≤ 2 ^ 53 := Nat.pow_le_pow_right (by decide) this
      · have z : (p - la).toNat = 0 := by omega
        rw [z, Nat.pow_zero, Nat.mul_one]
        have i1 := ideal_mul 9007199254740992 (2 ^ (la - p).toNat) (Nat.two_pow_pos _)
        have i2 : n ≤ 9007199254740992 * 2 ^ (la - p).toNat := by
          rw [e53, ← Nat.pow_add]
          exact Nat.le_trans (Nat.le_of_lt hnh) (Nat.pow_le_pow_right (by decide) (by omega))
        have := ideal_mono (g := 2 ^ (la - p).toNat) (Nat.two_pow_pos _) i2
        rw [i1] at this; exact this
    have c2 : 4503599627370496 ≤ ideal (m * 2 ^ (p - lb).toNat) (2 ^ (lb - p).toNat) := by
      have e52 : (4503599627370496 : Nat) = 2 ^ 52 := by decide
      by_cases hpl : lb ≤ p
      · have z : (lb - p).toNat = 0 := by omega
        rw [z, Nat.pow_zero]
        have i1 := ideal_mul (m * 2 ^ (p - lb).toNat) 1 (by decide)
        rw [Nat.mul_one] at i1
        rw [i1, e52]
        have : 52 ≤ B + (p - lb).toNat := by omega
        calc 2 ^ 52 ≤ 2 ^ (B + (p - lb).toNat) := Nat.pow_le_pow_right (by decide) this
          _ = 2 ^ B * 2 ^ (p - lb).toNat := Nat.pow_add _ _ _
          _ ≤ m * 2 ^ (p - lb).toNat := Nat.mul_le_mul_right _ hml
      · have z : (p - lb).toNat = 0 := by omega
        rw [z, Nat.pow_zero, Nat.mul_one]
        have i1 := ideal_mul 4503599627370496 (2 ^ (lb - p).toNat) (Nat.two_pow_pos _)
        have i2 : 4503599627370496 * 2 ^ (lb - p).toNat ≤ m := by
          rw [e52, ← Nat.pow_add]
          exact Nat.le_trans (Nat.pow_le_pow_right (by decide) (by omega)) hml
        have := ideal_mono (g := 2 ^ (lb - p).toNat) (Nat.two_pow_pos _) i2
        rw [i1] at this; exact this
    have e1 : (la - -1074).toNat + 1 ≤ (lb - -1074).toNat := by clear c1 c2 hnl hnh hml hmh h; omega
    exact min_mono (rung_mono e1 c1 c2)
end Go.Tp.Fl
