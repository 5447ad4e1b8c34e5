/- Plain facts on doubles: a step of a quarter from one number towards another lies between the two. -/
import Derived.Test.YteedjgkinmkmoaaFl3
namespace Go.Tp.Fl
open Ieee

theorem V_bound {x : Nat} (h : x < INF) {q : Nat} (hq : q = 2045) : V x < 2 ^ 53 * 2 ^ q := by
  obtain ⟨r, m, rfl, hr, hm, hc⟩ := parts x h
  rw [V_parts r m hm hc]
  obtain ⟨k, hk⟩ : ∃ k, q = r + k := ⟨q - r, by omega⟩
  rw [hk, Nat.pow_add, ← Nat.mul_assoc]
  have e53 : (2 : Nat) ^ 53 = 9007199254740992 := by decide
  rw [e53]
  calc m * 2 ^ r < 9007199254740992 * 2 ^ r := Nat.mul_lt_mul_of_pos_right hm (Nat.two_pow_pos _)
    _ ≤ 9007199254740992 * 2 ^ r * 2 ^ k := Nat.le_mul_of_pos_right _ (Nat.two_pow_pos _)

/-- A power of two is written exactly. -/
theorem pow_rep (L : Nat) (h : L ≤ 2097) : D (2 ^ L) (-1074) < INF ∧ V (D (2 ^ L) (-1074)) = 2 ^ L := by
  by_cases hL : L ≤ 2045
  · have e : D (2 ^ L) (-1074) = D 1 ((L : Int) - 1074) := D_same _ _ _ _ (by omega) (by omega) (by
      have a1 : ((-1074 : Int) + 1074).toNat = 0 := by omega
      have a2 : ((L : Int) - 1074 + 1074).toNat = L := by omega
      rw [a1, a2, Nat.pow_zero, Nat.mul_one, Nat.one_mul])
    have h2 := D_lt 1 ((L : Int) - 1074) (by decide) (by omega) (by omega)
    have a2 : ((L : Int) - 1074 + 1074).toNat = L := by omega
    rw [a2, Nat.one_mul] at h2
    rw [e]; exact h2
  · obtain ⟨q, hq⟩ : ∃ q, q = 2045 := ⟨_, rfl⟩
    obtain ⟨j, rfl⟩ : ∃ j, L = j + q := ⟨L - q, by omega⟩
    have a2 : ((971 : Int) + 1074).toNat = q := by omega
    have e : D (2 ^ (j + q)) (-1074) = D (2 ^ j) 971 := D_same _ _ _ _ (by omega) (by omega) (by
      have a1 : ((-1074 : Int) + 1074).toNat = 0 := by omega
      rw [a1, a2, Nat.pow_zero, Nat.mul_one, Nat.pow_add])
    have hj : 2 ^ j < 9007199254740992 := by
      have e53 : (9007199254740992 : Nat) = 2 ^ 53 := by decide
      rw [e53]; exact Nat.pow_lt_pow_right (by decide) (by omega)
    have h2 := D_lt (2 ^ j) 971 hj (by omega) (by omega)
    rw [a2, ← Nat.pow_add] at h2
    rw [e]; exact h2

theorem D_V_mono {N : Nat} {x : Nat} (hx : x < INF) (h : N ≤ V x) : D N (-1074) ≤ x := by
  have := D_mono N (V x) (-1074) h
  rw [D_V x hx] at this; exact this
theorem D_V_mono' {N : Nat} {x : Nat} (hx : x < INF) (h : V x ≤ N) : x ≤ D N (-1074) := by
  have := D_mono (V x) N (-1074) h
  rw [D_V x hx] at this; exact this
theorem V_mono {x y : Nat} (hx : x < INF) (hy : y < INF) (h : x ≤ y) : V x ≤ V y := by
  rcases Nat.eq_or_lt_of_le h with rfl | h
  · exact Nat.le_refl _
  · exact Nat.le_of_lt (V_lt hx hy h)
theorem V_mono_iff {x y : Nat} (hx : x < INF) (hy : y < INF) : V x ≤ V y ↔ x ≤ y := by
  have := V_lt_iff hy hx
  omega

/-- A quarter of a difference, written, is at most the difference. -/
theorem quarter_le (δ t : Nat) (ht : t < INF) (h : δ ≤ V t) : D (V (D δ (-1074))) (-1076) < INF ∧ V (D (V (D δ (-1074))) (-1076)) ≤ δ := by
  by_cases h0 : δ = 0
  · subst h0
    rw [D_zero]
    have : V 0 = 0 := by decide
    rw [this, D_zero]
    exact ⟨by decide, by decide⟩
  have hd : D δ (-1074) ≤ t := D_V_mono ht h
  have hdI : D δ (-1074) < INF := Nat.lt_of_le_of_lt hd ht
  have hlo : 2 ^ δ.log2 ≤ δ := Nat.log2_self_le h0
  have hhi : δ < 2 ^ (δ.log2 + 1) := Nat.lt_log2_self
  have hL : δ.log2 ≤ 2097 := by
    obtain ⟨q, hq⟩ : ∃ q, q = 2045 := ⟨_, rfl⟩
    have h1 := V_bound ht hq
    rw [← Nat.pow_add] at h1
    have h2 : δ < 2 ^ (53 + q) := Nat.lt_of_le_of_lt h h1
    have := (Nat.log2_lt h0).2 h2
    omega
  generalize δ.log2 = L at *
  have hV : V (D δ (-1074)) ≤ 2 ^ (L + 2) := by
    by_cases hL2 : L + 1 ≤ 2097
    · obtain ⟨q1, q2⟩ := pow_rep (L + 1) hL2
      have h3 := D_mono δ (2 ^ (L + 1)) (-1074) (Nat.le_of_lt hhi)
      have h4 := V_mono hdI q1 h3
      rw [q2] at h4
      exact Nat.le_trans h4 (Nat.pow_le_pow_right (by decide) (by omega))
    · obtain ⟨q, hq⟩ : ∃ q, q = 2045 := ⟨_, rfl⟩
      have h1 := V_bound ht hq
      have h2 := V_mono hdI ht hd
      rw [← Nat.pow_add] at h1
      exact Nat.le_trans h2 (Nat.le_trans (Nat.le_of_lt h1) (Nat.pow_le_pow_right (by decide) (by omega)))
  obtain ⟨q1, q2⟩ := pow_rep L hL
  have h5 := D_mono _ _ (-1076) hV
  have e : D (2 ^ (L + 2)) (-1076) = D (2 ^ L) (-1074) := by
    refine nearest_same dbl _ _ _ _ (-1076) (by omega) (by omega) ?_
    have a1 : ((-1076 : Int) - -1076).toNat = 0 := by omega
    have a2 : ((-1074 : Int) - -1076).toNat = 2 := by omega
    rw [a1, a2, Nat.pow_zero, Nat.mul_one, Nat.pow_add]
  rw [e] at h5
  have h6 : D (V (D δ (-1074))) (-1076) < INF := Nat.lt_of_le_of_lt h5 q1
  refine ⟨h6, ?_⟩
  have h7 := V_mono h6 q1 h5
  rw [q2] at h7
  omega
/-- The words with a sign. -/
abbrev SG : Nat := 9223372036854775808
theorem read_sg {x : Nat} (h : x < INF) : ∃ r m : Nat, dbl.read (SG + x) = .number true m ((r : Int) - 1074) ∧ V x = m * 2 ^ r ∧ m < 9007199254740992 ∧ r ≤ 2045 := by
  obtain ⟨r, m, rfl, hr, hm, hc⟩ := parts x h
  refine ⟨r, m, ?_, V_parts r m hm hc, hm, hr⟩
  have h0 := read_rung r m hr hm hc
  unfold Format.read at h0 ⊢
  simp only [eb, ei, es, el] at h0 ⊢
  have hx : r * 4503599627370496 + m < 9218868437227405312 := h
  have k1 : ((9223372036854775808 + (r * 4503599627370496 + m)) / 9223372036854775808 % 2 == 1) = true := by rw [beq_iff_eq]; omega
  have k2 : (9223372036854775808 + (r * 4503599627370496 + m)) % 9223372036854775808 = r * 4503599627370496 + m := by omega
  have k3 : (r * 4503599627370496 + m) % 9223372036854775808 = r * 4503599627370496 + m := by omega
  rw [k1, k2]
  rw [k3] at h0
  by_cases hs : r * 4503599627370496 + m < 4503599627370496
  · rw [if_pos hs] at h0 ⊢
    simp only [Datum.number.injEq] at h0 ⊢
    exact ⟨trivial, h0.2⟩
  · rw [if_neg hs] at h0 ⊢
    rw [if_pos hx] at h0 ⊢
    simp only [Datum.number.injEq] at h0 ⊢
    exact ⟨trivial, h0.2⟩

theorem nearest_neg (n : Nat) (p : Int) : dbl.nearest true n p = SG + D n p := by
  unfold D Format.nearest
  have hc : ∀ a b, Toward.even.cut true a b = Toward.even.cut false a b := fun a b => rfl
  split
  · simp [Format.word, es]
  · simp only [hc, Format.word, es, Bool.false_eq_true, if_true, if_false]

/-- A sum of a number and one of the other sign. -/
theorem sum_opp (m n r q : Nat) : (Datum.sum (.number false m ((r : Int) - 1074)) (.number true n ((q : Int) - 1074))).map dbl.write =
    some (if n * 2 ^ q ≤ m * 2 ^ r then D (m * 2 ^ r - n * 2 ^ q) (-1074) else SG + D (n * 2 ^ q - m * 2 ^ r) (-1074)) := by
  simp only [Datum.sum, Option.map_some, Bool.and_true]
  have e1 : ((r : Int) - 1074 - min ((r : Int) - 1074) ((q : Int) - 1074)).toNat = r - min r q := by omega
  have e2 : ((q : Int) - 1074 - min ((r : Int) - 1074) ((q : Int) - 1074)).toNat = q - min r q := by omega
  have e3 : min ((r : Int) - 1074) ((q : Int) - 1074) = ((min r q : Nat) : Int) - 1074 := by omega
  rw [e1, e2, e3]
  have s1 : ∀ a k, signed false a k = ((a * 2 ^ k : Nat) : Int) := fun a k => by simp [signed, Nat.shiftLeft_eq]
  have s2 : ∀ a k, signed true a k = -((a * 2 ^ k : Nat) : Int) := fun a k => by simp [signed, Nat.shiftLeft_eq]
  rw [s1, s2]
  have hA : m * 2 ^ r = m * 2 ^ (r - min r q) * 2 ^ min r q := by rw [Nat.mul_assoc, ← Nat.pow_add]; congr 2; omega
  have hB : n * 2 ^ q = n * 2 ^ (q - min r q) * 2 ^ min r q := by rw [Nat.mul_assoc, ← Nat.pow_add]; congr 2; omega
  rw [hA, hB]
  generalize m * 2 ^ (r - min r q) = A
  generalize n * 2 ^ (q - min r q) = B
  generalize min r q = k
  have hle : (B * 2 ^ k ≤ A * 2 ^ k) ↔ B ≤ A := Nat.mul_le_mul_right_iff (Nat.two_pow_pos k)
  have e4 : ((k : Int) - 1074 + 1074).toNat = k := by omega
  have e5 : ((-1074 : Int) + 1074).toNat = 0 := by omega
  have hsame : ∀ C, D C ((k : Int) - 1074) = D (C * 2 ^ k) (-1074) := fun C => D_same _ _ _ _ (by omega) (by omega) (by rw [e4, e5, Nat.pow_zero, Nat.mul_one])
  by_cases h : B ≤ A
  · rw [if_pos (hle.2 h), ← Nat.sub_mul, ← hsame]
    have hneg : (if ((A : Int) + -(B : Int)) = 0 then false else decide ((A : Int) + -(B : Int) < 0)) = false := by
      split
      · rfl
      · rw [decide_eq_false_iff_not]; omega
    rw [hneg]
    have habs : ((A : Int) + -(B : Int)).natAbs = A - B := by omega
    rw [habs]; rfl
  · rw [if_neg (fun h2 => h (hle.1 h2)), ← Nat.sub_mul, ← hsame]
    have hneg : (if ((A : Int) + -(B : Int)) = 0 then false else decide ((A : Int) + -(B : Int) < 0)) = true := by
      rw [if_neg (by omega), decide_eq_true_iff]; omega
    rw [hneg]
    have habs : ((A : Int) + -(B : Int)).natAbs = B - A := by omega
    rw [habs]
    exact congrArg some (nearest_neg _ _)

theorem sub_eq (t k : Nat) (ht : t < INF) (hk : k < INF) : dbl.sub t k = some (if V k ≤ V t then D (V t - V k) (-1074) else SG + D (V k - V t) (-1074)) := by
  obtain ⟨r, m, e1, v1, _⟩ := read_V t ht
  obtain ⟨q, n, e2, v2, _⟩ := read_V k hk
  unfold Format.sub
  rw [e1, e2, v1, v2]
  exact sum_opp m n r q
theorem add_sg (k e : Nat) (hk : k < INF) (he : e < INF) (h : V e ≤ V k) : dbl.add k (SG + e) = some (D (V k - V e) (-1074)) := by
  obtain ⟨r, m, e1, v1, _⟩ := read_V k hk
  obtain ⟨q, n, e2, v2, _⟩ := read_sg he
  unfold Format.add
  rw [e1, e2, sum_opp, ← v1, ← v2, if_pos h]

theorem read4 : dbl.read 4616189618054758400 = .number false 4503599627370496 (-50) := by decide +kernel
theorem quot4_mag (m r : Nat) (hm : m < 9007199254740992) : ∃ k, 54 + (4503599627370496 : Nat).log2 - m.log2 = k + 52 ∧
    2 * (m <<< (k + 52) / 4503599627370496) + (m <<< (k + 52) % 4503599627370496 != 0).toNat = 2 * (m * 2 ^ k) ∧
    D (2 * (m * 2 ^ k)) ((r : Int) - 1074 - -50 - ((k + 52 : Nat) : Int) - 1) = D (m * 2 ^ r) (-1076) := by
  have hlg : (4503599627370496 : Nat).log2 = 52 := by decide +kernel
  have hL : m.log2 ≤ 52 := by
    by_cases h0 : m = 0
    · subst h0; decide
    · have := (Nat.log2_lt h0).2 (show m < 2 ^ 53 by simpa using hm); omega
  rw [hlg]
  refine ⟨54 - m.log2, by omega, ?_, ?_⟩
  · generalize 54 - m.log2 = k
    rw [Nat.shiftLeft_eq, Nat.pow_add, ← Nat.mul_assoc]
    have q1 : m * 2 ^ k * 2 ^ 52 / 4503599627370496 = m * 2 ^ k := Nat.mul_div_cancel _ (by decide)
    have q2 : (m * 2 ^ k * 2 ^ 52 % 4503599627370496 != 0) = false := by
      have : m * 2 ^ k * 2 ^ 52 % 4503599627370496 = 0 := Nat.mul_mod_left _ _
      rw [this]; rfl
    rw [q1, q2]
    exact Nat.add_zero _
  · generalize 54 - m.log2 = k
    refine nearest_same dbl _ _ _ _ (-1076 - (k : Int) - 1) (by omega) (by omega) ?_
    have a1 : ((r : Int) - 1074 - -50 - ((k + 52 : Nat) : Int) - 1 - (-1076 - (k : Int) - 1)).toNat = r := by omega
    have a2 : ((-1076 : Int) - (-1076 - (k : Int) - 1)).toNat = k + 1 := by omega
    rw [a1, a2, Nat.pow_succ]
    generalize 2 ^ k = x
    generalize 2 ^ r = y
    rw [Nat.mul_comm 2, Nat.mul_assoc, Nat.mul_assoc, Nat.mul_assoc]
    congr 1
    rw [Nat.mul_comm y, Nat.mul_assoc]
theorem quot4 (s : Bool) (m r : Nat) (hm : m < 9007199254740992) : (Datum.quotient 54 (.number s m ((r : Int) - 1074)) (.number false 4503599627370496 (-50))).map dbl.write = some (if s then SG + D (m * 2 ^ r) (-1076) else D (m * 2 ^ r) (-1076)) := by
  obtain ⟨k, h1, h2, h3⟩ := quot4_mag m r hm
  have e : Datum.quotient 54 (.number s m ((r : Int) - 1074)) (.number false 4503599627370496 (-50)) = some (.number s (2 * (m * 2 ^ k)) ((r : Int) - 1074 - -50 - ((k + 52 : Nat) : Int) - 1)) := by
    have hx : (s ^^ false) = s := by cases s <;> rfl
    unfold Datum.quotient
    dsimp only
    rw [if_neg (show ¬ (4503599627370496 : Nat) = 0 by decide), h1, h2, hx]
  rw [e, Option.map_some]
  have hw : ∀ b a p, dbl.write (.number b a p) = dbl.nearest b a p := fun _ _ _ => rfl
  rw [hw]
  cases s with
  | false =>
    rw [if_neg (by decide)]
    exact congrArg some h3
  | true =>
    rw [if_pos rfl, nearest_neg, h3]
theorem div4 (x : Nat) (h : x < INF) : dbl.div x 4616189618054758400 = some (D (V x) (-1076)) := by
  obtain ⟨r, m, e1, v1, hm, _⟩ := read_V x h
  unfold Format.div
  rw [e1, read4, v1]
  have h := quot4 false m r hm
  rw [if_neg (by decide)] at h
  exact h
theorem div4_sg (x : Nat) (h : x < INF) : dbl.div (SG + x) 4616189618054758400 = some (SG + D (V x) (-1076)) := by
  obtain ⟨r, m, e1, v1, hm, _⟩ := read_sg h
  unfold Format.div
  rw [e1, read4, v1]
  have h := quot4 true m r hm
  rw [if_pos rfl] at h
  exact h

/-- A step of a quarter from k towards t. -/
theorem step_between (t k : Nat) (ht : t < INF) (hk : k < INF) : ∃ d e r, dbl.sub t k = some d ∧ dbl.div d 4616189618054758400 = some e ∧ dbl.add k e = some r ∧ min k t ≤ r ∧ r ≤ max k t := by
  have hsub := sub_eq t k ht hk
  by_cases h : V k ≤ V t
  · rw [if_pos h] at hsub
    have hkt := (V_mono_iff hk ht).1 h
    obtain ⟨q1, q2⟩ := quarter_le (V t - V k) t ht (by omega)
    have hd : D (V t - V k) (-1074) < INF := Nat.lt_of_le_of_lt (D_V_mono ht (by omega)) ht
    refine ⟨_, _, _, hsub, div4 _ hd, add_eq _ _ hk q1, ?_, ?_⟩
    · rw [Nat.min_eq_left hkt]
      exact D_V_mono' hk (by omega)
    · rw [Nat.max_eq_right hkt]
      exact D_V_mono ht (by omega)
  · rw [if_neg h] at hsub
    have hkt : t ≤ k := by
      rcases Nat.lt_or_ge t k with h2 | h2
      · omega
      · exact absurd (V_mono hk ht h2) h
    obtain ⟨q1, q2⟩ := quarter_le (V k - V t) k hk (by omega)
    have hd : D (V k - V t) (-1074) < INF := Nat.lt_of_le_of_lt (D_V_mono hk (by omega)) hk
    refine ⟨_, _, _, hsub, div4_sg _ hd, add_sg _ _ hk q1 (by omega), ?_, ?_⟩
    · rw [Nat.min_eq_right hkt]
      exact D_V_mono' ht (by omega)
    · rw [Nat.max_eq_left hkt]
      exact D_V_mono hk (by omega)
end Go.Tp.Fl
