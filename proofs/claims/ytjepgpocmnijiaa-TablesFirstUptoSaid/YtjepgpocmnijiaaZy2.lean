/- The sums of weights in plain words: what Cumulate comes to, element by element. -/
import Ieee.Arith
section
/- Plain facts on doubles: a number that has at most 53 binary digits is written exactly, and the sums, halves and quotients that the draws make of such numbers are exact. -/
namespace Go.Proofs.Ytjepgpocmnijiaa.Fl
set_option linter.unusedVariables false
open Ieee

theorem two_pow_ne (k : Nat) : 2 ^ k ≠ 0 := Nat.pos_iff_ne_zero.1 (Nat.two_pow_pos _)

theorem log2_mul_pow (m k : Nat) (h : m ≠ 0) : (m * 2 ^ k).log2 = m.log2 + k := by
  induction k with
  | zero => simp
  | succ k ih =>
    have hz : m * 2 ^ k ≠ 0 := Nat.mul_ne_zero h (two_pow_ne k)
    rw [Nat.pow_succ, ← Nat.mul_assoc, Nat.mul_comm (m * 2 ^ k) 2, Nat.log2_two_mul hz, ih]; omega

/-- A cut of a number that is scaled up by as much more is the same. -/
theorem cut_scale (n k d : Nat) (hn : n ≠ 0) : Toward.even.cut false (n * 2 ^ k) (d + k) = Toward.even.cut false n d := by
  unfold Toward.cut
  have hl : (n * 2 ^ k).log2 = n.log2 + k := log2_mul_pow n k hn
  have hm : min (d + k) ((n * 2 ^ k).log2 + 2) = min d (n.log2 + 2) + k := by rw [hl]; omega
  simp only [hm, Nat.shiftLeft_eq, Nat.one_mul]
  have hp : 0 < 2 ^ k := Nat.two_pow_pos k
  have e1 : n * 2 ^ k / 2 ^ (min d (n.log2 + 2) + k) = n / 2 ^ min d (n.log2 + 2) := by
    rw [Nat.pow_add, Nat.mul_div_mul_right _ _ hp]
  have e2 : n * 2 ^ k % 2 ^ (min d (n.log2 + 2) + k) = n % 2 ^ min d (n.log2 + 2) * 2 ^ k := by
    rw [Nat.pow_add, Nat.mul_mod_mul_right]
  rw [e1, e2, Nat.pow_add]
  generalize 2 ^ min d (n.log2 + 2) = g
  generalize 2 ^ k = q at hp ⊢
  have e3 : decide (g * q < 2 * (n % g * q)) = decide (g < 2 * (n % g)) := by
    rw [← Nat.mul_assoc, decide_eq_decide]; exact Nat.mul_lt_mul_right hp
  have e4 : (g * q == 2 * (n % g * q)) = (g == 2 * (n % g)) := by
    rw [← Nat.mul_assoc, Bool.eq_iff_iff]; simp [Nat.mul_left_inj (Nat.pos_iff_ne_zero.1 hp)]
  rw [e3, e4]

theorem cut_zero (n : Nat) : Toward.even.cut false n 0 = n := by
  unfold Toward.cut
  simp [Nat.shiftLeft_eq, Nat.mod_one]

/-- To write a number asks its value alone. -/
theorem nearest_scale (f : Format) (m k : Nat) (p : Int) (hm : m ≠ 0) : f.nearest false (m * 2 ^ k) (p - k) = f.nearest false m p := by
  unfold Format.nearest
  have hz : m * 2 ^ k ≠ 0 := Nat.mul_ne_zero hm (two_pow_ne k)
  rw [if_neg hz, if_neg hm]
  have hl := log2_mul_pow m k hm
  have hlast : max (p - k + ((m * 2 ^ k).log2 : Int) - f.fractionBits) f.leastPlace = max (p + (m.log2 : Int) - f.fractionBits) f.leastPlace := by
    rw [hl]; congr 1; push_cast; omega
  simp only [hlast]
  generalize max (p + (m.log2 : Int) - f.fractionBits) f.leastPlace = last
  have hk : Toward.even.cut false ((m * 2 ^ k) <<< (p - k - last).toNat) (last - (p - k)).toNat = Toward.even.cut false (m <<< (p - last).toNat) (last - p).toNat := by
    simp only [Nat.shiftLeft_eq]
    by_cases h1 : last + k ≤ p
    · have a1 : (last - (p - k)).toNat = 0 := by omega
      have a2 : (last - p).toNat = 0 := by omega
      have a3 : (p - last).toNat = k + (p - k - last).toNat := by omega
      rw [a1, a2, a3, Nat.pow_add, Nat.mul_assoc]
    · by_cases h2 : last ≤ p
      · have a1 : (p - k - last).toNat = 0 := by omega
        have a2 : (last - p).toNat = 0 := by omega
        obtain ⟨j, hj⟩ : ∃ j, (last - (p - k)).toNat = j := ⟨_, rfl⟩
        have a3 : k = (p - last).toNat + j := by omega
        rw [a1, a2, hj, a3, Nat.pow_add, ← Nat.mul_assoc]
        have := cut_scale (m * 2 ^ (p - last).toNat) j 0 (Nat.mul_ne_zero hm (two_pow_ne _))
        simpa using this
      · have a1 : (p - k - last).toNat = 0 := by omega
        have a2 : (p - last).toNat = 0 := by omega
        have a3 : (last - (p - k)).toNat = (last - p).toNat + k := by omega
        rw [a1, a2, a3]
        simpa using cut_scale m k (last - p).toNat hm
  rw [hk]

/-- Two numbers of one value are written alike. -/
theorem nearest_same (f : Format) (m n : Nat) (p q : Int) (b : Int) (hp : b ≤ p) (hq : b ≤ q) (h : m * 2 ^ (p - b).toNat = n * 2 ^ (q - b).toNat) : f.nearest false m p = f.nearest false n q := by
  by_cases hm : m = 0
  · subst hm
    have hn : n = 0 := by
      rcases Nat.mul_eq_zero.1 (by simpa using h.symm) with h | h
      · exact h
      · exact absurd h (two_pow_ne _)
    subst hn
    simp [Format.nearest]
  · have hn : n ≠ 0 := by
      rintro rfl
      rcases Nat.mul_eq_zero.1 (by simpa using h) with h | h
      · exact hm h
      · exact absurd h (two_pow_ne _)
    have e1 := nearest_scale f m (p - b).toNat p hm
    have e2 := nearest_scale f n (q - b).toNat q hn
    rw [← e1, ← e2, h]
    congr 1; omega

abbrev dbl : Format := Ieee.double
theorem eb : dbl.binade = 4503599627370496 := by decide
theorem ei : dbl.infRung = 9218868437227405312 := by decide
theorem es : dbl.signWeight = 9223372036854775808 := by decide
theorem el : dbl.leastPlace = -1074 := by decide
theorem ef : dbl.fractionBits = 52 := rfl

/-- What a word without a sign below infinity stands for. -/
theorem read_rung (r kept : Nat) (hr : r ≤ 2045) (hb : kept < 9007199254740992) (hc : 4503599627370496 ≤ kept ∨ r = 0) :
    dbl.read (r * 4503599627370496 + kept) = .number false kept ((r : Int) - 1074) := by
  unfold Format.read
  simp only [eb, ei, es, el]
  have k1 : ((r * 4503599627370496 + kept) / 9223372036854775808 % 2 == 1) = false := by rw [beq_eq_false_iff_ne]; omega
  have k2 : (r * 4503599627370496 + kept) % 9223372036854775808 = r * 4503599627370496 + kept := by omega
  rw [k1, k2]
  by_cases hs : r * 4503599627370496 + kept < 4503599627370496
  · rw [if_pos hs]
    obtain rfl : r = 0 := by omega
    simp
  · rw [if_neg hs, if_pos (by omega)]
    have q1 : (r * 4503599627370496 + kept) % 4503599627370496 = kept - 4503599627370496 ∨ kept < 4503599627370496 := by omega
    by_cases hk : kept < 4503599627370496
    · omega
    · have q1 : (r * 4503599627370496 + kept) % 4503599627370496 = kept - 4503599627370496 := by omega
      have q2 : (r * 4503599627370496 + kept) / 4503599627370496 - 1 = r := by omega
      rw [q1, q2]
      have : 4503599627370496 + (kept - 4503599627370496) = kept := by omega
      rw [this]
      congr 1

/-- How a number with at most 53 digits is written. -/
theorem nearest_small (n : Nat) (p : Int) (hn : n < 9007199254740992) (h0 : n ≠ 0) (h1 : -1074 ≤ p) (h2 : p ≤ 971) :
    ∃ r kept : Nat, dbl.nearest false n p = r * 4503599627370496 + kept ∧ r ≤ 2045 ∧ kept < 9007199254740992 ∧ (4503599627370496 ≤ kept ∨ r = 0) ∧ kept * 2 ^ r = n * 2 ^ (p + 1074).toNat := by
  have hL : n.log2 < 53 := (Nat.log2_lt h0).2 hn
  have hlo : 2 ^ n.log2 ≤ n := Nat.log2_self_le h0
  have hhi : n < 2 ^ (n.log2 + 1) := Nat.lt_log2_self
  unfold Format.nearest
  rw [if_neg h0]
  have ef' : ((dbl.fractionBits : Nat) : Int) = 52 := rfl
  simp only [el, ef']
  generalize n.log2 = L at *
  obtain ⟨last, hlast⟩ : ∃ last, max (p + (L : Int) - 52) (-1074) = last := ⟨_, rfl⟩
  rw [hlast]
  have a1 : (last - p).toNat = 0 := by omega
  rw [a1, cut_zero, Nat.shiftLeft_eq]
  obtain ⟨s, hs⟩ : ∃ s, (p - last).toNat = s := ⟨_, rfl⟩
  obtain ⟨r, hr⟩ : ∃ r : Nat, (last - -1074).toNat = r := ⟨_, rfl⟩
  rw [hs, hr]
  have hb : n * 2 ^ s < 9007199254740992 := by
    have : L + 1 + s ≤ 53 := by omega
    calc n * 2 ^ s < 2 ^ (L + 1) * 2 ^ s := Nat.mul_lt_mul_of_pos_right hhi (Nat.two_pow_pos _)
      _ = 2 ^ (L + 1 + s) := (Nat.pow_add _ _ _).symm
      _ ≤ 2 ^ 53 := Nat.pow_le_pow_right (by decide) this
  have hc : 4503599627370496 ≤ n * 2 ^ s ∨ r = 0 := by
    by_cases hl : last = -1074
    · right; omega
    · left
      have : L + s = 52 := by omega
      calc 4503599627370496 = 2 ^ 52 := by decide
        _ = 2 ^ (L + s) := by rw [this]
        _ = 2 ^ L * 2 ^ s := Nat.pow_add _ _ _
        _ ≤ n * 2 ^ s := Nat.mul_le_mul_right _ hlo
  have hr2 : r ≤ 2045 := by clear hb hc hlo hhi; omega
  refine ⟨r, n * 2 ^ s, ?_, hr2, hb, hc, ?_⟩
  · rw [eb, ei]
    unfold Format.word
    simp only [Bool.false_eq_true, if_false]
    clear hlo hhi hs hr a1 hlast h0 hn hc
    generalize n * 2 ^ s = kept at *
    exact Nat.min_eq_left (by omega)
  · rw [Nat.mul_assoc, ← Nat.pow_add]
    have : s + r = (p + 1074).toNat := by omega
    rw [this]


abbrev INF : Nat := 9218868437227405312

/-- Every word below infinity is a rung and a significand. -/
theorem parts (x : Nat) (h : x < INF) : ∃ r m : Nat, x = r * 4503599627370496 + m ∧ r ≤ 2045 ∧ m < 9007199254740992 ∧ (4503599627370496 ≤ m ∨ r = 0) := by
  unfold INF at h
  by_cases hs : x < 4503599627370496
  · exact ⟨0, x, by omega, by omega, by omega, .inr rfl⟩
  · exact ⟨x / 4503599627370496 - 1, x % 4503599627370496 + 4503599627370496, by omega, by omega, by omega, .inl (by omega)⟩

/-- The value of a word below infinity, in the least unit. -/
def V (x : Nat) : Nat := if x < 4503599627370496 then x else (x % 4503599627370496 + 4503599627370496) * 2 ^ (x / 4503599627370496 - 1)

theorem V_parts (r m : Nat) (hm : m < 9007199254740992) (hc : 4503599627370496 ≤ m ∨ r = 0) : V (r * 4503599627370496 + m) = m * 2 ^ r := by
  unfold V
  by_cases hs : r * 4503599627370496 + m < 4503599627370496
  · rw [if_pos hs]
    obtain rfl : r = 0 := by omega
    simp
  · rw [if_neg hs]
    have e1 : (r * 4503599627370496 + m) % 4503599627370496 + 4503599627370496 = m := by omega
    have e2 : (r * 4503599627370496 + m) / 4503599627370496 - 1 = r := by omega
    rw [e1, e2]

theorem read_V (x : Nat) (h : x < INF) : ∃ r m : Nat, dbl.read x = .number false m ((r : Int) - 1074) ∧ V x = m * 2 ^ r ∧ m < 9007199254740992 ∧ r ≤ 2045 ∧ (4503599627370496 ≤ m ∨ r = 0) ∧ x = r * 4503599627370496 + m := by
  obtain ⟨r, m, rfl, hr, hm, hc⟩ := parts x h
  exact ⟨r, m, read_rung r m hr hm hc, V_parts r m hm hc, hm, hr, hc, rfl⟩

theorem V_lt {x y : Nat} (hx : x < INF) (hy : y < INF) (h : x < y) : V x < V y := by
  obtain ⟨r, m, rfl, hr, hm, hc⟩ := parts x hx
  obtain ⟨q, n, rfl, hq, hn, hd⟩ := parts y hy
  rw [V_parts r m hm hc, V_parts q n hn hd]
  by_cases e : r = q
  · subst e
    exact Nat.mul_lt_mul_of_pos_right (by omega) (Nat.two_pow_pos _)
  · have hl : r + 1 ≤ q := by omega
    have h1 : 4503599627370496 ≤ n := by omega
    calc m * 2 ^ r < 9007199254740992 * 2 ^ r := Nat.mul_lt_mul_of_pos_right hm (Nat.two_pow_pos _)
      _ = 4503599627370496 * 2 ^ (r + 1) := by rw [Nat.pow_succ]; omega
      _ ≤ 4503599627370496 * 2 ^ q := Nat.mul_le_mul_left _ (Nat.pow_le_pow_right (by decide) hl)
      _ ≤ n * 2 ^ q := Nat.mul_le_mul_right _ h1

theorem V_lt_iff {x y : Nat} (hx : x < INF) (hy : y < INF) : V x < V y ↔ x < y := by
  refine ⟨fun h => ?_, V_lt hx hy⟩
  rcases Nat.lt_trichotomy x y with h1 | h1 | h1
  · exact h1
  · subst h1; omega
  · have := V_lt hy hx h1; omega

/-- The word whose value is n at the place p. -/
def D (n : Nat) (p : Int) : Nat := dbl.nearest false n p

theorem D_same (n m : Nat) (p q : Int) (hp : -1074 ≤ p) (hq : -1074 ≤ q) (h : n * 2 ^ (p + 1074).toNat = m * 2 ^ (q + 1074).toNat) : D n p = D m q :=
  nearest_same dbl n m p q (-1074) hp hq (by simpa using h)

theorem D_le (n : Nat) (p : Int) : D n p ≤ INF := by
  unfold D Format.nearest Format.word
  simp only [Bool.false_eq_true, if_false]
  split
  · exact Nat.zero_le _
  · rw [ei]; exact Nat.min_le_right _ _

theorem D_zero (p : Int) : D 0 p = 0 := by simp [D, Format.nearest, Format.word]

theorem D_lt (n : Nat) (p : Int) (hn : n < 9007199254740992) (h1 : -1074 ≤ p) (h2 : p ≤ 971) : D n p < INF ∧ V (D n p) = n * 2 ^ (p + 1074).toNat := by
  by_cases h0 : n = 0
  · subst h0; rw [D_zero]; exact ⟨by decide, by simp [V]⟩
  · obtain ⟨r, kept, e, hr, hb, hc, hv⟩ := nearest_small n p hn h0 h1 h2
    unfold D
    rw [e, V_parts r kept hb hc]
    exact ⟨by unfold INF; omega, hv⟩

/-- A word below infinity is the word of its value. -/
theorem D_V (x : Nat) (h : x < INF) : D (V x) (-1074) = x := by
  have h1 : D (V x) (-1074) ≤ INF := D_le _ _
  obtain ⟨r, m, rfl, hr, hm, hc⟩ := parts x h
  rw [V_parts r m hm hc]
  have e : D (m * 2 ^ r) (-1074) = D m ((r : Int) - 1074) := D_same _ _ _ _ (by omega) (by omega) (by simp)
  rw [e]
  by_cases h0 : m = 0
  · subst h0; rw [D_zero]; omega
  · obtain ⟨q, kept, e, hq, hb, hd, hv⟩ := nearest_small m ((r : Int) - 1074) hm h0 (by omega) (by omega)
    have eD : D m ((r : Int) - 1074) = q * 4503599627370496 + kept := e
    have hlt' : q * 4503599627370496 + kept < 9218868437227405312 := by clear h h1 hv eD e hd hc h0 hm; omega
    have hlt : D m ((r : Int) - 1074) < INF := eD ▸ hlt'
    have ev : V (D m ((r : Int) - 1074)) = V (r * 4503599627370496 + m) := by
      rw [eD, V_parts q kept hb hd, V_parts r m hm hc, hv]; simp
    rcases Nat.lt_trichotomy (D m ((r : Int) - 1074)) (r * 4503599627370496 + m) with h2 | h2 | h2
    · have := V_lt hlt h h2
      rw [ev] at this; exact absurd this (Nat.lt_irrefl _)
    · exact h2
    · have := V_lt h hlt h2
      rw [ev] at this; exact absurd this (Nat.lt_irrefl _)

/-! ### Sums -/
theorem sum_eq (m n r q : Nat) : (Datum.sum (.number false m ((r : Int) - 1074)) (.number false n ((q : Int) - 1074))).map dbl.write = some (D (m * 2 ^ r + n * 2 ^ q) (-1074)) := by
  simp only [Datum.sum, Option.map_some, Bool.and_self]
  have e1 : ((r : Int) - 1074 - min ((r : Int) - 1074) ((q : Int) - 1074)).toNat = r - min r q := by omega
  have e2 : ((q : Int) - 1074 - min ((r : Int) - 1074) ((q : Int) - 1074)).toNat = q - min r q := by omega
  have e3 : min ((r : Int) - 1074) ((q : Int) - 1074) = ((min r q : Nat) : Int) - 1074 := by omega
  rw [e1, e2, e3]
  have s1 : ∀ a k, signed false a k = ((a * 2 ^ k : Nat) : Int) := fun a k => by simp [signed, Nat.shiftLeft_eq]
  rw [s1, s1]
  have hAB : m * 2 ^ r + n * 2 ^ q = (m * 2 ^ (r - min r q) + n * 2 ^ (q - min r q)) * 2 ^ min r q := by
    rw [Nat.add_mul, Nat.mul_assoc, Nat.mul_assoc, ← Nat.pow_add, ← Nat.pow_add]
    congr 3 <;> omega
  rw [hAB]
  generalize m * 2 ^ (r - min r q) = A
  generalize n * 2 ^ (q - min r q) = B
  have hneg : (if ((A : Int) + (B : Int)) = 0 then false else decide ((A : Int) + (B : Int) < 0)) = false := by
    split
    · rfl
    · rw [decide_eq_false_iff_not]; omega
  rw [hneg]
  have habs : ((A : Int) + (B : Int)).natAbs = A + B := by omega
  rw [habs]
  generalize min r q = k
  congr 1
  show D (A + B) ((k : Int) - 1074) = _
  refine D_same _ _ _ _ (by omega) (by omega) ?_
  have e4 : ((k : Int) - 1074 + 1074).toNat = k := by omega
  have e5 : ((-1074 : Int) + 1074).toNat = 0 := by omega
  rw [e4, e5, Nat.pow_zero, Nat.mul_one]

theorem add_eq (x y : Nat) (hx : x < INF) (hy : y < INF) : dbl.add x y = some (D (V x + V y) (-1074)) := by
  obtain ⟨r, m, e1, v1, _⟩ := read_V x hx
  obtain ⟨q, n, e2, v2, _⟩ := read_V y hy
  unfold Format.add
  rw [e1, e2, v1, v2, sum_eq]

theorem order_eq (x y : Nat) (hx : x < INF) (hy : y < INF) : dbl.order x y = some (compare x y) := by
  obtain ⟨r, m, e1, v1, _⟩ := read_V x hx
  obtain ⟨q, n, e2, v2, _⟩ := read_V y hy
  unfold Format.order
  rw [e1, e2]
  simp only [Datum.order]
  congr 1
  have e1 : ((r : Int) - 1074 - min ((r : Int) - 1074) ((q : Int) - 1074)).toNat = r - min r q := by omega
  have e2 : ((q : Int) - 1074 - min ((r : Int) - 1074) ((q : Int) - 1074)).toNat = q - min r q := by omega
  rw [e1, e2]
  have s1 : ∀ a k, signed false a k = ((a * 2 ^ k : Nat) : Int) := fun a k => by simp [signed, Nat.shiftLeft_eq]
  rw [s1, s1]
  have hA : V x = m * 2 ^ (r - min r q) * 2 ^ min r q := by
    rw [v1, Nat.mul_assoc, ← Nat.pow_add]; congr 2; omega
  have hB : V y = n * 2 ^ (q - min r q) * 2 ^ min r q := by
    rw [v2, Nat.mul_assoc, ← Nat.pow_add]; congr 2; omega
  generalize m * 2 ^ (r - min r q) = A at *
  generalize n * 2 ^ (q - min r q) = B at *
  have hlt := V_lt_iff hx hy
  have hgt := V_lt_iff hy hx
  rw [hA, hB] at hlt hgt
  rw [Nat.mul_lt_mul_right (Nat.two_pow_pos _)] at hlt hgt
  have c1 : compare (A : Int) (B : Int) = if A < B then .lt else if B < A then .gt else .eq := by
    simp only [compare, compareOfLessAndEq]
    by_cases h : A < B
    · have : (A : Int) < B := by omega
      simp [h, this]
    · by_cases h2 : B < A
      · have h3 : ¬ (A : Int) < B := by omega
        have h4 : ¬ (A : Int) = B := by omega
        simp [h, h2, h3, h4]
      · have : A = B := by omega
        subst this; simp
  have c2 : compare x y = if x < y then .lt else if y < x then .gt else .eq := by
    simp only [compare, compareOfLessAndEq]
    by_cases h : x < y
    · simp [h]
    · by_cases h2 : y < x
      · have h4 : ¬ x = y := by omega
        simp [h, h2, h4]
      · have : x = y := by omega
        subst this; simp
  rw [c1, c2]
  simp only [hlt, hgt]

end Go.Proofs.Ytjepgpocmnijiaa.Fl
end

section
/- Plain facts on doubles, more: which words are nought or above, which are above, and the sums of such words. -/
namespace Go.Proofs.Ytjepgpocmnijiaa.Fl
open Ieee

def ge (x : Nat) : Bool := dbl.order x 0 == some .gt || dbl.order x 0 == some .eq
def pos (x : Nat) : Bool := dbl.order x 0 == some .gt
def fin (x : Nat) : Bool := match dbl.read x with | .number .. => true | _ => false
def fadd (x y : Nat) : Nat := (dbl.add x y).getD 0

theorem read0 : dbl.read 0 = .number false 0 (-1074) := by decide +kernel
theorem readINF : dbl.read INF = .infinity false := by decide +kernel
theorem readN0 : dbl.read 9223372036854775808 = .number true 0 (-1074) := by decide +kernel

/-- Beyond infinity and below the sign bit there are no numbers. -/
theorem read_nan (x : Nat) (h : INF < x) (h2 : x < 9223372036854775808) : ∃ s t, dbl.read x = .nan s t := by
  unfold Format.read
  unfold INF at h
  simp only [eb, ei, es, el]
  have k2 : x % 9223372036854775808 = x := by omega
  rw [k2, if_neg (by omega), if_neg (by omega), if_neg (by omega)]
  exact ⟨_, _, rfl⟩
/-- With the sign bit: a number whose magnitude is not nought, infinity, or no number. -/
theorem read_neg (x : Nat) (h : 9223372036854775808 < x) (h2 : x < 18446744073709551616) :
    (∃ m p, dbl.read x = .number true m p ∧ 0 < m ∧ -1074 ≤ p) ∨ dbl.read x = .infinity true ∨ ∃ s t, dbl.read x = .nan s t := by
  unfold Format.read
  simp only [eb, ei, es, el]
  have k1 : (x / 9223372036854775808 % 2 == 1) = true := by rw [beq_iff_eq]; omega
  rw [k1]
  generalize hr : x % 9223372036854775808 = r
  have : 0 < r := by omega
  split
  · exact .inl ⟨_, _, rfl, this, by omega⟩
  · split
    · exact .inl ⟨_, _, rfl, by omega, by omega⟩
    · split
      · exact .inr (.inl rfl)
      · exact .inr (.inr ⟨_, _, rfl⟩)

theorem order_num0 (m : Nat) (p : Int) (hm : 0 < m) (s : Bool) : Datum.order (.number s m p) (.number false 0 (-1074)) = some (if s then .lt else .gt) := by
  simp only [Datum.order]
  have h0 : signed false 0 ((-1074 : Int) - min p (-1074)).toNat = 0 := by simp [signed]
  rw [h0]
  have hp : 0 < m * 2 ^ (p - min p (-1074)).toNat := Nat.mul_pos hm (Nat.two_pow_pos _)
  generalize hg : m * 2 ^ (p - min p (-1074)).toNat = g at hp
  cases s with
  | true =>
    have : signed true m (p - min p (-1074)).toNat = -(g : Int) := by simp [signed, Nat.shiftLeft_eq, ← hg]
    rw [this]
    simp only [compare, compareOfLessAndEq, if_true]
    rw [if_pos (by omega)]
  | false =>
    have : signed false m (p - min p (-1074)).toNat = (g : Int) := by simp [signed, Nat.shiftLeft_eq, ← hg]
    rw [this]
    simp only [compare, compareOfLessAndEq, Bool.false_eq_true, if_false]
    rw [if_neg (by omega), if_neg (by omega)]

theorem order0 (x : Nat) (h : x < 18446744073709551616) :
    (x = 0 ∧ dbl.order x 0 = some .eq) ∨ (0 < x ∧ x ≤ INF ∧ dbl.order x 0 = some .gt) ∨ (x = 9223372036854775808 ∧ dbl.order x 0 = some .eq) ∨
    ((INF < x ∧ x ≠ 9223372036854775808) ∧ (dbl.order x 0 = some .lt ∨ dbl.order x 0 = none)) := by
  unfold Format.order
  rw [read0]
  rcases Nat.lt_trichotomy x 9223372036854775808 with h1 | h1 | h1
  · rcases Nat.lt_trichotomy x INF with h2 | h2 | h2
    · by_cases h0 : x = 0
      · subst h0; rw [read0]; exact .inl ⟨rfl, by decide +kernel⟩
      · obtain ⟨r, m, e, v, hm, hr, hc, hx⟩ := read_V x h2
        rw [e, order_num0 m _ (by rcases hc with hc | hc <;> omega) false]
        exact .inr (.inl ⟨by omega, by omega, rfl⟩)
    · subst h2; rw [readINF]; exact .inr (.inl ⟨by decide, Nat.le_refl _, rfl⟩)
    · obtain ⟨s, t, e⟩ := read_nan x h2 h1
      rw [e]; exact .inr (.inr (.inr ⟨⟨h2, by omega⟩, .inr rfl⟩))
  · subst h1; rw [readN0]; exact .inr (.inr (.inl ⟨rfl, by decide +kernel⟩))
  · refine .inr (.inr (.inr ⟨⟨by unfold INF; omega, by omega⟩, ?_⟩))
    rcases read_neg x h1 h with ⟨m, p, e, hm, _⟩ | e | ⟨s, t, e⟩
    · rw [e, order_num0 m p hm true]; exact .inl rfl
    · rw [e]; exact .inl rfl
    · rw [e]; exact .inr rfl

theorem ge_iff (x : Nat) (h : x < 18446744073709551616) : ge x = true ↔ (x ≤ INF ∨ x = 9223372036854775808) := by
  unfold ge
  rcases order0 x h with ⟨a, b⟩ | ⟨a, c, b⟩ | ⟨a, b⟩ | ⟨⟨a, c⟩, b | b⟩ <;> rw [b] <;> simp <;> first | omega | (unfold INF at *; omega)
theorem pos_iff (x : Nat) (h : x < 18446744073709551616) : pos x = true ↔ (0 < x ∧ x ≤ INF) := by
  unfold pos
  rcases order0 x h with ⟨a, b⟩ | ⟨a, c, b⟩ | ⟨a, b⟩ | ⟨⟨a, c⟩, b | b⟩ <;> rw [b] <;> simp <;> first | omega | (unfold INF at *; omega)

/-- A sum of what is nought or above is nought or above, and has an answer. -/
theorem add_ge (s x : Nat) (hs : s ≤ INF) (h : x < 18446744073709551616) (hx : ge x = true) : dbl.add s x = some (fadd s x) ∧ fadd s x ≤ INF := by
  have key : ∃ r, dbl.add s x = some r ∧ r ≤ INF := by
    rcases (ge_iff x h).1 hx with h1 | h1
    · rcases Nat.lt_or_ge s INF with h2 | h2
      · rcases Nat.lt_or_ge x INF with h3 | h3
        · exact ⟨_, add_eq s x h2 h3, D_le _ _⟩
        · obtain rfl : x = INF := Nat.le_antisymm h1 h3
          obtain ⟨r, m, e, _⟩ := read_V s h2
          refine ⟨INF, ?_, Nat.le_refl _⟩
          unfold Format.add
          rw [e, readINF]; simp only [Datum.sum, Option.map_some]; rfl
      · obtain rfl : s = INF := Nat.le_antisymm hs h2
        rcases Nat.lt_or_ge x INF with h3 | h3
        · obtain ⟨r, m, e, _⟩ := read_V x h3
          refine ⟨INF, ?_, Nat.le_refl _⟩
          unfold Format.add
          rw [e, readINF]; simp only [Datum.sum, Option.map_some]; rfl
        · obtain rfl : x = INF := Nat.le_antisymm h1 h3
          refine ⟨INF, ?_, Nat.le_refl _⟩
          unfold Format.add
          rw [readINF]; simp only [Datum.sum]; rfl
    · subst h1
      rcases Nat.lt_or_ge s INF with h2 | h2
      · refine ⟨s, ?_, hs⟩
        obtain ⟨r, m, e, v, _⟩ := read_V s h2
        have hv : (Datum.sum (.number false m ((r : Int) - 1074)) (.number true 0 (-1074))).map dbl.write = (Datum.sum (.number false m ((r : Int) - 1074)) (.number false 0 ((0 : Nat) - 1074))).map dbl.write := by
          simp only [Datum.sum, Option.map_some]
          have s1 : ∀ k, signed true 0 k = 0 := fun k => by simp [signed]
          have s2 : ∀ k, signed false 0 k = 0 := fun k => by simp [signed]
          simp [s1, s2]
        unfold Format.add
        rw [e, readN0, hv, sum_eq, Nat.zero_mul, Nat.add_zero, ← v, D_V s h2]
      · obtain rfl : s = INF := Nat.le_antisymm hs h2
        refine ⟨INF, ?_, Nat.le_refl _⟩
        unfold Format.add
        rw [readINF, readN0]; simp only [Datum.sum, Option.map_some]; rfl
  obtain ⟨r, e, hr⟩ := key
  unfold fadd
  rw [e]; exact ⟨rfl, hr⟩

/-- Nothing is added by a nought. -/
theorem fadd_zero (s x : Nat) (hs : s ≤ INF) (h : x < 18446744073709551616) (hx : ge x = true) (hp : pos x = false) : fadd s x = s := by
  have h0 : x = 0 ∨ x = 9223372036854775808 := by
    rcases (ge_iff x h).1 hx with h1 | h1
    · left
      have := (pos_iff x h)
      rw [hp] at this
      simp at this
      rcases Nat.eq_zero_or_pos x with h2 | h2
      · exact h2
      · have := this h2; omega
    · exact .inr h1
  rcases Nat.lt_or_ge s INF with h2 | h2
  · obtain ⟨r, m, e, v, _⟩ := read_V s h2
    rcases h0 with rfl | rfl
    · unfold fadd
      rw [add_eq s 0 h2 (by decide)]
      have : V 0 = 0 := by decide
      rw [this, Nat.add_zero, D_V s h2]; rfl
    · have hv : (Datum.sum (.number false m ((r : Int) - 1074)) (.number true 0 (-1074))).map dbl.write = (Datum.sum (.number false m ((r : Int) - 1074)) (.number false 0 ((0 : Nat) - 1074))).map dbl.write := by
        simp only [Datum.sum, Option.map_some]
        have s1 : ∀ k, signed true 0 k = 0 := fun k => by simp [signed]
        have s2 : ∀ k, signed false 0 k = 0 := fun k => by simp [signed]
        simp [s1, s2]
      unfold fadd Format.add
      rw [e, readN0, hv, sum_eq, Nat.zero_mul, Nat.add_zero, ← v, D_V s h2]; rfl
  · obtain rfl : s = INF := Nat.le_antisymm hs h2
    unfold fadd Format.add
    rcases h0 with rfl | rfl
    · rw [readINF, read0]; simp only [Datum.sum, Option.map_some]; decide +kernel
    · rw [readINF, readN0]; simp only [Datum.sum, Option.map_some]; decide +kernel
end Go.Proofs.Ytjepgpocmnijiaa.Fl
end

section

namespace Go.Proofs.Ytjepgpocmnijiaa.Cum
open Fl

/-- The sum of the first k. -/
def sumTo (ws : List Nat) : Nat → Nat
  | 0 => 0
  | k + 1 => fadd (sumTo ws k) (ws.getD k 0)
/-- The place of the last of the first k that is above nought, or -1. -/
def lastTo (ws : List Nat) : Nat → Int
  | 0 => -1
  | k + 1 => if pos (ws.getD k 0) then (k : Int) else lastTo ws k
theorem getD_lt {ws : List Nat} (hw : ∀ x ∈ ws, x < 18446744073709551616) (k : Nat) : ws.getD k 0 < 18446744073709551616 := by
  by_cases hk : k < ws.length
  · have : ws.getD k 0 = ws[k] := by simp [List.getD, hk]
    rw [this]; exact hw _ (List.getElem_mem hk)
  · have : ws.getD k 0 = 0 := by simp [List.getD, Nat.not_lt.1 hk]
    rw [this]; decide
theorem sumTo_le (ws : List Nat) (hw : ∀ x ∈ ws, x < 18446744073709551616) : ∀ k, k ≤ ws.length → (ws.take k).all ge = true → sumTo ws k ≤ INF
  | 0, _, _ => Nat.zero_le _
  | k + 1, hk, h => by
    have e := List.take_succ_eq_append_getElem (show k < ws.length by omega)
    rw [e, List.all_append, Bool.and_eq_true] at h
    have hx : ge (ws.getD k 0) = true := by
      have : ws.getD k 0 = ws[k] := by simp [List.getD, show k < ws.length by omega]
      rw [this]; simpa using h.2
    exact (add_ge _ _ (sumTo_le ws hw k (by omega) h.1) (getD_lt hw k) hx).2
theorem add_step (ws : List Nat) (hw : ∀ x ∈ ws, x < 18446744073709551616) (k : Nat) (hk : k < ws.length) (h : (ws.take k).all ge = true) (hx : ge (ws.getD k 0) = true) :
    dbl.add (sumTo ws k) (ws.getD k 0) = some (sumTo ws (k + 1)) :=
  (add_ge _ _ (sumTo_le ws hw k (by omega) h) (getD_lt hw k) hx).1
/-- The sums while the last of them are turned into ones, up to the place j. -/
def mid (ws : List Nat) (j : Nat) : List Nat := (List.range ws.length).map fun (i : Nat) => if lastTo ws ws.length ≤ (i : Int) ∧ i < j then 4607182418800017408 else sumTo ws (i + 1)
end Go.Proofs.Ytjepgpocmnijiaa.Cum
end
