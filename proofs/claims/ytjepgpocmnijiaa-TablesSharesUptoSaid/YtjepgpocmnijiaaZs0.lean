/- The document's add. -/
import Derived.Test.YtjepgpocmnijiaaZb2
import Derived.Test.YtjepgpocmnijiaaZb21
import Derived.Test.YtjepgpocmnijiaaZb24
import Derived.Test.YtjepgpocmnijiaaZb12
import Derived.Test.YtjepgpocmnijiaaZb15
import Derived.Test.YtjepgpocmnijiaaZb11
import Derived.Test.YtjepgpocmnijiaaZb19
import Derived.Laws.EntriesVeiled
import Derived.Test.YtjepgpocmnijiaaZb33
import Derived.Test.YtjepgpocmnijiaaZb22
section
/- Doubles: what is written of more is no less; so sums and products of what is bounded are bounded, and have an answer. -/
namespace Go.Proofs.Ytjepgpocmnijiaa.Fl
set_option linter.unusedVariables false
open Ieee
/-- n / 2^d, to the nearest, between two to the even one. -/
def rnd (n d : Nat) : Nat := n / 2 ^ d + (decide (2 ^ d < 2 * (n % 2 ^ d)) || (2 ^ d == 2 * (n % 2 ^ d) && n / 2 ^ d % 2 == 1)).toNat
theorem rnd_small {n d : Nat} (h : 2 * n < 2 ^ d) : rnd n d = 0 := by
  unfold rnd
  have h1 : n < 2 ^ d := by omega
  rw [Nat.div_eq_of_lt h1, Nat.mod_eq_of_lt h1]
  have h2 : decide (2 ^ d < 2 * n) = false := decide_eq_false (by omega)
  have h3 : (2 ^ d == 2 * n) = false := beq_eq_false_iff_ne.2 (by omega)
  rw [h2, h3]; rfl
theorem cut_rnd (n d : Nat) : Toward.even.cut false n d = rnd n d := by
  by_cases h : d ≤ n.log2 + 2
  · unfold Toward.cut rnd
    simp only [Nat.min_eq_left h, Nat.shiftLeft_eq, Nat.one_mul]
  · have h1 : n < 2 ^ (n.log2 + 1) := Nat.lt_log2_self
    have h2 : 2 * n < 2 ^ (n.log2 + 2) := by rw [Nat.pow_succ]; omega
    have h3 : 2 ^ (n.log2 + 2) ≤ 2 ^ d := Nat.pow_le_pow_right (by decide) (by omega)
    rw [rnd_small (by omega)]
    have h4 := rnd_small h2
    unfold Toward.cut
    simp only [Nat.min_eq_right (show n.log2 + 2 ≤ d by omega), Nat.shiftLeft_eq, Nat.one_mul]
    exact h4
theorem rnd_mul (k d : Nat) : rnd (k * 2 ^ d) d = k := by
  unfold rnd
  have hp := Nat.two_pow_pos d
  rw [Nat.mul_div_cancel _ hp, Nat.mul_mod_left]
  have h2 : decide (2 ^ d < 2 * 0) = false := decide_eq_false (by omega)
  have h3 : (2 ^ d == 2 * 0) = false := beq_eq_false_iff_ne.2 (by omega)
  rw [h2, h3]; rfl
theorem rnd_mono {n m : Nat} (d : Nat) (h : n ≤ m) : rnd n d ≤ rnd m d := by
  unfold rnd
  have hp := Nat.two_pow_pos d
  have e1 := Nat.div_add_mod n (2 ^ d)
  have e2 := Nat.div_add_mod m (2 ^ d)
  have hq : n / 2 ^ d ≤ m / 2 ^ d := Nat.div_le_div_right h
  generalize hg : 2 ^ d = g at *
  generalize n / g = a at *
  generalize m / g = b at *
  generalize n % g = r at *
  generalize m % g = s at *
  have t1 : ∀ x : Bool, x.toNat ≤ 1 := fun x => by cases x <;> decide
  rcases Nat.lt_or_eq_of_le hq with h1 | h1
  · have := t1 (decide (g < 2 * r) || (g == 2 * r && a % 2 == 1))
    omega
  · subst h1
    have hrs : r ≤ s := by omega
    cases hx : (decide (g < 2 * r) || (g == 2 * r && a % 2 == 1)) with
    | false => simp
    | true =>
      have hy : (decide (g < 2 * s) || (g == 2 * s && a % 2 == 1)) = true := by
        simp only [Bool.or_eq_true, decide_eq_true_eq, Bool.and_eq_true, beq_iff_eq] at hx ⊢
        omega
      rw [hy]
      exact Nat.le_refl _
theorem D_form (n c : Nat) (h0 : n ≠ 0) : D n (-1074 - (c : Int)) = min ((max (n.log2 - 52) c - c) * 4503599627370496 + rnd n (max (n.log2 - 52) c)) INF := by
  unfold D Format.nearest Format.word
  rw [if_neg h0]
  simp only [Bool.false_eq_true, if_false, ef, el, eb, ei, cut_rnd]
  have e1 : (-1074 - (c : Int) - max (-1074 - (c : Int) + (n.log2 : Int) - ((52 : Nat) : Int)) (-1074)).toNat = 0 := by omega
  have e2 : (max (-1074 - (c : Int) + (n.log2 : Int) - ((52 : Nat) : Int)) (-1074) - (-1074 - (c : Int))).toNat = max (n.log2 - 52) c := by omega
  have e3 : (max (-1074 - (c : Int) + (n.log2 : Int) - ((52 : Nat) : Int)) (-1074) - (-1074)).toNat = max (n.log2 - 52) c - c := by omega
  rw [e1, e2, e3]
  simp only [Nat.shiftLeft_zero]
theorem p53 (x : Nat) : 2 ^ (x + 53) = 9007199254740992 * 2 ^ x := by
  rw [Nat.pow_add, Nat.mul_comm]
theorem p52 (x : Nat) : 2 ^ (x + 52) = 4503599627370496 * 2 ^ x := by
  rw [Nat.pow_add, Nat.mul_comm]
theorem rung_key {n m x y : Nat} (h0 : n ≠ 0) (h1 : m ≠ 0) (hlt : x + 1 ≤ y) (hny : y + 52 = m.log2) (hnx : n.log2 ≤ x + 52) : rnd n x ≤ 9007199254740992 ∧ 4503599627370496 ≤ rnd m y := by
  have a1 : n ≤ 9007199254740992 * 2 ^ x := by
    have q1 : n < 2 ^ (n.log2 + 1) := Nat.lt_log2_self
    have q2 : 2 ^ (n.log2 + 1) ≤ 2 ^ (x + 53) := Nat.pow_le_pow_right (by decide) (by omega)
    rw [p53] at q2
    exact Nat.le_trans (Nat.le_of_lt q1) q2
  have a2 : 4503599627370496 * 2 ^ y ≤ m := by
    have q1 := Nat.log2_self_le h1
    rw [← hny, p52] at q1
    exact q1
  have b1 := rnd_mono x a1
  have b2 := rnd_mono y a2
  rw [rnd_mul] at b1 b2
  exact ⟨b1, b2⟩
theorem rung_le {x y c a b : Nat} (hlt : x + 1 ≤ y) (hc : c ≤ x) (b1 : a ≤ 9007199254740992) (b2 : 4503599627370496 ≤ b) : (x - c) * 4503599627370496 + a ≤ (y - c) * 4503599627370496 + b := by
  omega
theorem D_mono0 {n m : Nat} (c : Nat) (h : n ≤ m) : D n (-1074 - (c : Int)) ≤ D m (-1074 - (c : Int)) := by
  by_cases h0 : n = 0
  · subst h0; rw [D_zero]; exact Nat.zero_le _
  have h1 : m ≠ 0 := by omega
  rw [D_form n c h0, D_form m c h1]
  have hl : n.log2 ≤ m.log2 := by
    rw [Nat.le_log2 h1]
    exact Nat.le_trans (Nat.log2_self_le h0) h
  obtain ⟨x, hx⟩ : ∃ x, x = max (n.log2 - 52) c := ⟨_, rfl⟩
  obtain ⟨y, hy⟩ : ∃ y, y = max (m.log2 - 52) c := ⟨_, rfl⟩
  rw [← hx, ← hy]
  have key : (x - c) * 4503599627370496 + rnd n x ≤ (y - c) * 4503599627370496 + rnd m y := by
    by_cases hxy : x = y
    · subst hxy
      have := rnd_mono x h
      omega
    · have hlt : x + 1 ≤ y := by omega
      obtain ⟨b1, b2⟩ := rung_key h0 h1 hlt (by omega) (by omega)
      exact rung_le hlt (by omega) b1 b2
  exact Nat.le_min.2 ⟨Nat.le_trans (Nat.min_le_left _ _) key, Nat.min_le_right _ _⟩
theorem D_at (n : Nat) (p : Int) (c : Nat) (hp : -1074 - (c : Int) ≤ p) : D n p = D (n * 2 ^ (p + 1074 + c).toNat) (-1074 - (c : Int)) :=
  nearest_same dbl _ _ _ _ (-1074 - (c : Int)) hp (Int.le_refl _) (by
    have e1 : (p - (-1074 - (c : Int))).toNat = (p + 1074 + c).toNat := by omega
    have e2 : (-1074 - (c : Int) - (-1074 - (c : Int))).toNat = 0 := by omega
    rw [e1, e2, Nat.pow_zero, Nat.mul_one])
/-- What is written of more is no less. -/
theorem D_mono {n m : Nat} {p q : Int} (c : Nat) (hp : -1074 - (c : Int) ≤ p) (hq : -1074 - (c : Int) ≤ q) (h : n * 2 ^ (p + 1074 + c).toNat ≤ m * 2 ^ (q + 1074 + c).toNat) : D n p ≤ D m q := by
  rw [D_at n p c hp, D_at m q c hq]
  exact D_mono0 c h
theorem V_le {x y : Nat} (hy : y < INF) (h : x ≤ y) : V x ≤ V y := by
  rcases Nat.lt_or_eq_of_le h with h1 | h1
  · exact Nat.le_of_lt (V_lt (by omega) hy h1)
  · rw [h1]; exact Nat.le_refl _
def fmul (x y : Nat) : Nat := (dbl.mul x y).getD 0
def fdiv (x y : Nat) : Nat := (dbl.div x y).getD 0
/-- A sum of what is at most j units and what is at most one. -/
theorem fadd_bd {a b j k : Nat} (ha : a ≤ D j k) (hb : b ≤ D 1 k) (hj : j + 1 < 9007199254740992) (hk : k ≤ 900) : dbl.add a b = some (fadd a b) ∧ fadd a b ≤ D (j + 1) k := by
  obtain ⟨l1, v1⟩ := D_lt j (k : Int) (by omega) (by omega) (by omega)
  obtain ⟨l2, v2⟩ := D_lt 1 (k : Int) (by omega) (by omega) (by omega)
  have h1 := V_le l1 ha
  have h2 := V_le l2 hb
  rw [v1] at h1
  rw [v2] at h2
  have e := add_eq a b (by omega) (by omega)
  unfold fadd
  rw [e]
  refine ⟨rfl, ?_⟩
  show D (V a + V b) (-1074) ≤ D (j + 1) k
  refine D_mono 0 (by omega) (by omega) ?_
  have e1 : ((-1074 : Int) + 1074 + ((0 : Nat) : Int)).toNat = 0 := by omega
  have e2 : ((k : Int) + 1074 + ((0 : Nat) : Int)).toNat = ((k : Int) + 1074).toNat := by omega
  rw [e1, e2, Nat.pow_zero, Nat.mul_one, Nat.add_mul]
  omega
theorem mul_eq (x y : Nat) (hx : x < INF) (hy : y < INF) : dbl.mul x y = some (D (V x * V y) (-2148)) := by
  obtain ⟨r, m, e1, v1, _⟩ := read_V x hx
  obtain ⟨q, n, e2, v2, _⟩ := read_V y hy
  unfold Format.mul
  rw [e1, e2, v1, v2]
  simp only [Datum.product, Option.map_some, Bool.false_xor]
  congr 1
  show D (m * n) ((r : Int) - 1074 + ((q : Int) - 1074)) = _
  refine nearest_same dbl _ _ _ _ (-2148) (by omega) (Int.le_refl _) ?_
  have a1 : ((r : Int) - 1074 + ((q : Int) - 1074) - (-2148)).toNat = r + q := by omega
  have a2 : ((-2148 : Int) - (-2148)).toNat = 0 := by omega
  rw [a1, a2, Nat.pow_zero, Nat.mul_one, Nat.pow_add]
  generalize 2 ^ r = A
  generalize 2 ^ q = B
  rw [Nat.mul_assoc, Nat.mul_assoc, Nat.mul_left_comm n A B]
/-- What is at most one times a number is at most that number. -/
theorem fmul_le {w u : Nat} (hw : w ≤ D 1 0) (hu : u < INF) : dbl.mul w u = some (fmul w u) ∧ fmul w u ≤ u := by
  obtain ⟨l1, v1⟩ := D_lt 1 0 (by omega) (by omega) (by omega)
  have h1 := V_le l1 hw
  rw [v1] at h1
  have e := mul_eq w u (by omega) hu
  unfold fmul
  rw [e]
  refine ⟨rfl, ?_⟩
  show D (V w * V u) (-2148) ≤ u
  have h2 : D (V w * V u) (-2148) ≤ D (V u) (-1074) := by
    refine D_mono 1074 (by omega) (by omega) ?_
    have e1 : ((-2148 : Int) + 1074 + ((1074 : Nat) : Int)).toNat = 0 := by omega
    have e2 : ((-1074 : Int) + 1074 + ((1074 : Nat) : Int)).toNat = 1074 := by omega
    have e3 : ((0 : Int) + 1074).toNat = 1074 := by omega
    rw [e3] at h1
    rw [e1, e2, Nat.pow_zero, Nat.mul_one, Nat.mul_comm]
    exact Nat.mul_le_mul_left _ (by omega)
  rwa [D_V u hu] at h2
def NEG0 : Nat := 9223372036854775808
theorem mul_neg0 {u : Nat} (hu : u < INF) : dbl.mul NEG0 u = some NEG0 := by
  obtain ⟨q, n, e2, v2, _⟩ := read_V u hu
  have e1 : dbl.read NEG0 = .number true 0 (-1074) := readN0
  unfold Format.mul
  rw [e1, e2]
  simp only [Datum.product, Option.map_some, Nat.zero_mul, Bool.true_xor, Bool.not_false]
  congr 1
/-- A hundred. -/
def HUN : Nat := 4636737291354636288
theorem readHUN : dbl.read HUN = .number false 7036874417766400 (-46) := by decide +kernel
theorem hun_D : HUN = D 7036874417766400 (-46) := by decide +kernel
theorem hun_log : Nat.log2 7036874417766400 = 52 := by decide +kernel
theorem quo_le {m more K : Nat} (h : m * 2 ^ more ≤ 7036874417766400 * 2 ^ K) : 2 * (m * 2 ^ more / 7036874417766400) + (m * 2 ^ more % 7036874417766400 != 0).toNat ≤ 2 ^ (K + 1) := by
  rw [Nat.pow_succ]
  generalize m * 2 ^ more = d at *
  generalize 2 ^ K = q at *
  cases hr : (d % 7036874417766400 != 0) with
  | false => simp only [Bool.toNat_false]; omega
  | true =>
    have : d % 7036874417766400 ≠ 0 := by simpa using hr
    simp only [Bool.toNat_true]
    omega
theorem fdiv_le {x : Nat} (hx : x ≤ HUN) : dbl.div x HUN = some (fdiv x HUN) ∧ fdiv x HUN ≤ D 1 0 := by
  have hxi : x < INF := Nat.lt_of_le_of_lt hx (by decide)
  obtain ⟨r, m, e1, v1, hm, hr, hc, hxe⟩ := read_V x hxi
  obtain ⟨l2, v2⟩ := D_lt 7036874417766400 (-46) (by omega) (by omega) (by omega)
  rw [← hun_D] at l2 v2
  have hv := V_le l2 hx
  rw [v1, v2] at hv
  obtain ⟨E, hE⟩ : ∃ E : Nat, E = 1028 := ⟨_, rfl⟩
  have e3 : ((-46 : Int) + 1074).toNat = E := by omega
  rw [e3] at hv
  have e : dbl.div x HUN = some (D (2 * (m * 2 ^ (54 + 52 - m.log2) / 7036874417766400) + (m * 2 ^ (54 + 52 - m.log2) % 7036874417766400 != 0).toNat) ((r : Int) - 1074 - (-46) - ((54 + 52 - m.log2 : Nat) : Int) - 1)) := by
    unfold Format.div
    rw [e1, readHUN]
    simp only [Datum.quotient, hun_log, ef, Nat.shiftLeft_eq]
    rfl
  unfold fdiv
  rw [e]
  refine ⟨rfl, ?_⟩
  show D _ _ ≤ D 1 0
  obtain ⟨more, hmo⟩ : ∃ more, more = 54 + 52 - m.log2 := ⟨_, rfl⟩
  rw [← hmo]
  by_cases hm0 : m = 0
  · subst hm0
    rw [Nat.zero_mul]
    show D 0 _ ≤ _
    rw [D_zero]; exact Nat.zero_le _
  have hlog : m.log2 ≤ 52 := by
    have : m.log2 < 53 := (Nat.log2_lt hm0).2 hm
    omega
  have hr2 : r ≤ E := by
    rcases hc with hc | hc
    · by_cases hq : r ≤ E
      · exact hq
      · have a1 : 2 * 2 ^ E ≤ 2 ^ r := by
          obtain ⟨q, rfl⟩ : ∃ q, r = q + 1 := ⟨r - 1, by omega⟩
          have q1 : 2 ^ (q + 1) = 2 * 2 ^ q := by rw [Nat.pow_succ, Nat.mul_comm]
          rw [q1]
          exact Nat.mul_le_mul_left _ (Nat.pow_le_pow_right (by decide) (by omega))
        have a3 : 4503599627370496 * 2 ^ r ≤ m * 2 ^ r := Nat.mul_le_mul_right _ hc
        have a4 : 0 < 2 ^ E := Nat.two_pow_pos _
        generalize 2 ^ E = g at *
        generalize 2 ^ r = u at *
        generalize m * u = t at *
        omega
    · omega
  have hK : m * 2 ^ more ≤ 7036874417766400 * 2 ^ (E + more - r) := by
    have a1 : m * 2 ^ r * 2 ^ more ≤ 7036874417766400 * 2 ^ E * 2 ^ more := Nat.mul_le_mul_right _ hv
    have a2 : 7036874417766400 * 2 ^ E * 2 ^ more = 7036874417766400 * 2 ^ (E + more - r) * 2 ^ r := by
      generalize 7036874417766400 = Q
      rw [Nat.mul_assoc, Nat.mul_assoc, ← Nat.pow_add, ← Nat.pow_add]
      rw [show E + more - r + r = E + more by omega]
    have a3 : m * 2 ^ r * 2 ^ more = m * 2 ^ more * 2 ^ r := by rw [Nat.mul_right_comm]
    rw [a2, a3] at a1
    generalize m * 2 ^ more = A at a1 ⊢
    generalize 7036874417766400 * 2 ^ (E + more - r) = B at a1 ⊢
    exact Nat.le_of_mul_le_mul_right a1 (Nat.two_pow_pos _)
  have hq := quo_le hK
  refine D_mono 200 (by omega) (by omega) ?_
  obtain ⟨E2, hE2⟩ : ∃ E2 : Nat, E2 = 1274 := ⟨_, rfl⟩
  have e4 : ((0 : Int) + 1074 + ((200 : Nat) : Int)).toNat = E2 := by omega
  have e5 : ((r : Int) - 1074 - (-46) - ((more : Nat) : Int) - 1 + 1074 + ((200 : Nat) : Int)).toNat = r + 245 - more := by omega
  rw [e4, e5, Nat.one_mul]
  refine Nat.le_trans (Nat.mul_le_mul_right _ hq) ?_
  rw [← Nat.pow_add]
  exact Nat.pow_le_pow_right (by decide) (by omega)
theorem div_neg0 : dbl.div NEG0 HUN = some NEG0 := by decide +kernel
theorem D_up {j j' k : Nat} (h : j ≤ j') : D j k ≤ D j' k := D_mono 0 (by omega) (by omega) (Nat.mul_le_mul_right _ h)
theorem D_unit (k e : Nat) : D (2 ^ e) k = D 1 ((k + e : Nat) : Int) := D_same _ _ _ _ (by omega) (by omega) (by
  have e1 : ((k : Int) + 1074).toNat = k + 1074 := by omega
  have e2 : (((k + e : Nat) : Int) + 1074).toNat = e + (k + 1074) := by omega
  rw [e1, e2, Nat.one_mul, ← Nat.pow_add])
end Go.Proofs.Ytjepgpocmnijiaa.Fl
end

section
/- The shares of splits, in plain words: what they are, that they are bounded, and that two ways of reckoning them come to the same. -/
namespace Go.Ck
open Go.Proofs.Ytjepgpocmnijiaa.Fl
set_option linter.unusedVariables false
structure Shr where
  service : ByteArray
  upto : Nat
/-- A service's share is grown, or begun. -/
def addS : List Shr → ByteArray → Nat → List Shr
  | [], s, x => [⟨s, fadd 0 x⟩]
  | y :: l, s, x => if y.service = s then ⟨y.service, fadd y.upto x⟩ :: l else y :: addS l s x
def addL (w : Nat) (l : List Shr) (sub : List Shr) : List Shr := sub.foldl (fun l s => addS l s.service (fmul w s.upto)) l
def tgtS (e : ByteArray → List Shr) (l : List Shr) (t : Tgt) : List Shr :=
  if noS t.service = true then addL (fdiv t.weight HUN) l (e t.split) else addS l t.service (fdiv t.weight HUN)
def shStep (e : ByteArray → List Shr) (ts : List Tgt) : List Shr := ts.foldl (tgtS e) []
/-- The shares of a split, behind so many rounds. -/
def shR (l : List Res) : Nat → ByteArray → List Shr
  | 0, _ => []
  | r + 1, n => if has l 2 n = true then shStep (shR l r) (tgtsOf l n) else []
def shOf (l : List Res) (n : ByteArray) : List Shr := shR l 8 n
theorem fold_congr {e e' : ByteArray → List Shr} : ∀ (ts : List Tgt) (a : List Shr), (∀ t ∈ ts, noS t.service = true → e t.split = e' t.split) → ts.foldl (tgtS e) a = ts.foldl (tgtS e') a
  | [], a, _ => rfl
  | t :: ts, a, h => by
    have h1 : tgtS e a t = tgtS e' a t := by
      unfold tgtS
      by_cases hs : noS t.service = true
      · rw [if_pos hs, if_pos hs, h t (.head _) hs]
      · rw [if_neg hs, if_neg hs]
    simp only [List.foldl_cons, h1]
    exact fold_congr ts _ (fun u hu => h u (.tail _ hu))
theorem shR_succ {l : List Res} {n : ByteArray} (h : has l 2 n = true) (r : Nat) : shR l (r + 1) n = shStep (shR l r) (tgtsOf l n) := by rw [shR, if_pos h]
theorem shR_mono (l : List Res) : ∀ (r : Nat) (n : ByteArray), known l r n ≠ 0 → shR l (r + 1) n = shR l r n
  | 0, n, h => absurd rfl h
  | r + 1, n, h => by
    have hh := known_has h
    rw [shR_succ hh (r + 1), shR_succ hh r]
    rw [known_succ hh r] at h
    exact fold_congr _ _ (fun t ht hs => shR_mono l r t.split (stepE_kid _ _ h t ht hs).1)
/-- A split's shares come of its targets'. -/
theorem shOf_eq {l : List Res} {n : ByteArray} (h : known l 8 n ≠ 0) : shOf l n = shStep (shOf l) (tgtsOf l n) := by
  have hh := known_has h
  unfold shOf
  rw [shR_succ hh 7]
  rw [known_succ hh 7] at h
  exact fold_congr _ _ (fun t ht hs => (shR_mono l 7 t.split (stepE_kid _ _ h t ht hs).1).symm)
theorem step_snoc {e : ByteArray → List Shr} {ts : List Tgt} {i : Nat} {t : Tgt} (h : ts[i]? = some t) : shStep e (ts.take (i + 1)) = tgtS e (shStep e (ts.take i)) t := by
  unfold shStep
  have hi := (List.getElem?_eq_some_iff.1 h).1
  rw [List.take_succ_eq_append_getElem hi, List.foldl_append, (List.getElem?_eq_some_iff.1 h).2]; rfl
theorem addL_snoc {w : Nat} {l sub : List Shr} {i : Nat} {s : Shr} (h : sub[i]? = some s) : addL w l (sub.take (i + 1)) = addS (addL w l (sub.take i)) s.service (fmul w s.upto) := by
  unfold addL
  have hi := (List.getElem?_eq_some_iff.1 h).1
  rw [List.take_succ_eq_append_getElem hi, List.foldl_append, (List.getElem?_eq_some_iff.1 h).2]; rfl
/-! ### what services are named -/
theorem addS_mem {l : List Shr} {s : ByteArray} {x : Nat} {y : Shr} : y ∈ addS l s x → y.service = s ∨ ∃ z ∈ l, z.service = y.service := by
  induction l with
  | nil => intro h; exact .inl (by rw [List.mem_singleton.1 h])
  | cons z l ih =>
    intro h
    unfold addS at h
    split at h
    · rcases List.mem_cons.1 h with rfl | h
      · exact .inr ⟨z, .head _, rfl⟩
      · exact .inr ⟨y, .tail _ h, rfl⟩
    · rcases List.mem_cons.1 h with rfl | h
      · exact .inr ⟨y, .head _, rfl⟩
      · rcases ih h with h | ⟨u, hu, e⟩
        · exact .inl h
        · exact .inr ⟨u, .tail _ hu, e⟩
/-- Shares whose services are apart. -/
def Apart (l : List Shr) : Prop := l.Pairwise fun a b => a.service ≠ b.service
theorem addS_apart {l : List Shr} (h : Apart l) (s : ByteArray) (x : Nat) : Apart (addS l s x) := by
  induction l with
  | nil => exact List.pairwise_singleton _ _
  | cons z l ih =>
    obtain ⟨h1, h2⟩ := List.pairwise_cons.1 h
    unfold addS
    split
    · exact List.pairwise_cons.2 ⟨fun b hb => h1 b hb, h2⟩
    · rename_i hz
      refine List.pairwise_cons.2 ⟨fun b hb => ?_, ih h2⟩
      rcases addS_mem hb with e | ⟨u, hu, e⟩
      · rw [e]; exact hz
      · rw [← e]; exact h1 u hu
theorem addL_apart (w : Nat) : ∀ (sub l : List Shr), Apart l → Apart (addL w l sub)
  | [], l, h => h
  | s :: sub, l, h => addL_apart w sub _ (addS_apart h _ _)
theorem tgtS_apart {e : ByteArray → List Shr} {l : List Shr} (h : Apart l) (t : Tgt) : Apart (tgtS e l t) := by
  unfold tgtS
  split
  · exact addL_apart _ _ _ h
  · exact addS_apart h _ _
theorem step_apart (e : ByteArray → List Shr) : ∀ (ts : List Tgt) (a : List Shr), Apart a → Apart (ts.foldl (tgtS e) a)
  | [], a, h => h
  | t :: ts, a, h => step_apart e ts _ (tgtS_apart h t)
theorem shR_apart (l : List Res) (r : Nat) (n : ByteArray) : Apart (shR l r n) := by
  cases r with
  | zero => exact List.Pairwise.nil
  | succ r =>
    unfold shR
    split
    · exact step_apart _ _ _ List.Pairwise.nil
    · exact List.Pairwise.nil
/-- Do all shares name services that there are? -/
def Named (l : List Res) (a : List Shr) : Prop := ∀ s ∈ a, has l 1 s.service = true
theorem addS_named {l : List Res} {a : List Shr} (h : Named l a) {s : ByteArray} (hs : has l 1 s = true) (x : Nat) : Named l (addS a s x) := fun y hy => by
  rcases addS_mem hy with e | ⟨u, hu, e⟩
  · rw [e]; exact hs
  · rw [← e]; exact h u hu
theorem addL_named {l : List Res} (w : Nat) : ∀ (sub a : List Shr), Named l a → Named l sub → Named l (addL w a sub)
  | [], a, h, _ => h
  | s :: sub, a, h, h' => addL_named w sub _ (addS_named h (h' s (.head _)) _) (fun u hu => h' u (.tail _ hu))
theorem tgtS_named {l : List Res} {e : ByteArray → List Shr} {a : List Shr} (h : Named l a) {t : Tgt} (ht : badT l t = false) (he : noS t.service = true → Named l (e t.split)) : Named l (tgtS e a t) := by
  unfold badT at ht
  unfold tgtS
  by_cases hs : noS t.service = true
  · rw [if_pos hs]; exact addL_named _ _ _ h (he hs)
  · rw [if_neg hs]
    rw [if_neg hs] at ht
    exact addS_named h (by simpa using ht) _
theorem step_named {l : List Res} {e : ByteArray → List Shr} : ∀ (ts : List Tgt) (a : List Shr), Named l a → (∀ t ∈ ts, badT l t = false) → (∀ n, Named l (e n)) → Named l (ts.foldl (tgtS e) a)
  | [], a, h, _, _ => h
  | t :: ts, a, h, ht, he => step_named ts _ (tgtS_named h (ht t (.head _)) (fun _ => he _)) (fun u hu => ht u (.tail _ hu)) he
theorem services_len {l : List Res} {a : List Shr} (h : Named l a) (ha : Apart a) : a.length ≤ l.length := by
  have hnd : (a.map (·.service)).Nodup := List.pairwise_map.2 ha
  have := nodup_len (L := a.map (·.service)) (M := l.map (·.name)) hnd (fun k hk => by
    obtain ⟨s, hs, rfl⟩ := List.mem_map.1 hk
    obtain ⟨r, hr, _, hn⟩ := has_iff.1 (h s hs)
    exact List.mem_map.2 ⟨r, hr, hn⟩)
  simpa using this
/-! ### how great shares are -/
/-- A part of a share: not above a unit, or the lesser nought. -/
def Unit (k x : Nat) : Prop := x ≤ D 1 k ∨ x = NEG0
theorem ge_neg0 : ge NEG0 = true := (ge_iff NEG0 (by decide)).2 (.inr rfl)
theorem pos_neg0 : pos NEG0 = false := by
  rw [← Bool.not_eq_true, pos_iff NEG0 (by decide)]
  intro h
  exact absurd h.2 (by decide)
theorem fadd_ok {a x j k : Nat} (ha : a ≤ D j k) (hx : Unit k x) (hj : j + 1 < 9007199254740992) (hk : k ≤ 900) : dbl.add a x = some (fadd a x) ∧ fadd a x ≤ D (j + 1) k := by
  rcases hx with h | rfl
  · exact fadd_bd ha h hj hk
  · have hi : a ≤ INF := Nat.le_trans ha (D_le _ _)
    have h2 := fadd_zero a NEG0 hi (by decide) ge_neg0 pos_neg0
    exact ⟨(add_ge a NEG0 hi (by decide) ge_neg0).1, by rw [h2]; exact Nat.le_trans ha (D_up (by omega))⟩
theorem D_fin {k : Nat} (hk : k ≤ 900) : D 1 k < INF := (D_lt 1 (k : Int) (by omega) (by omega) (by omega)).1
theorem fmul_ok {w u k : Nat} (hw : Unit 0 w) (hu : u ≤ D 1 k) (hk : k ≤ 900) : dbl.mul w u = some (fmul w u) ∧ Unit k (fmul w u) := by
  have hi : u < INF := Nat.lt_of_le_of_lt hu (D_fin hk)
  rcases hw with h | rfl
  · obtain ⟨h1, h2⟩ := fmul_le h hi
    exact ⟨h1, .inl (Nat.le_trans h2 hu)⟩
  · have h := mul_neg0 hi
    have e : fmul NEG0 u = NEG0 := by unfold fmul; rw [h]; rfl
    rw [e]
    exact ⟨h, .inr rfl⟩
theorem leF_hun {x : Nat} (h : leF x 4636737291354636288 = true) (hx : x ≤ INF) : x ≤ HUN := by
  rcases Nat.lt_or_eq_of_le hx with h1 | h1
  · have e := order_eq x 4636737291354636288 h1 (by decide)
    unfold leF at h
    have e' : Go.FloatKind.f64.format.order x 4636737291354636288 = some (compare x 4636737291354636288) := e
    rw [e'] at h
    rcases Nat.lt_trichotomy x 4636737291354636288 with q | q | q
    · exact Nat.le_of_lt q
    · exact Nat.le_of_eq q
    · rw [Nat.compare_eq_gt.2 q] at h; cases h
  · subst h1
    have : leF INF 4636737291354636288 = false := by decide +kernel
    rw [this] at h; cases h
theorem fdiv_ok {x : Nat} (h : wOk x = true) (hx : x < 18446744073709551616) : dbl.div x HUN = some (fdiv x HUN) ∧ Unit 0 (fdiv x HUN) := by
  unfold wOk at h
  rw [Bool.and_eq_true] at h
  have hg : ge x = true := h.1
  rcases (ge_iff x hx).1 hg with q | q
  · obtain ⟨h1, h2⟩ := fdiv_le (leF_hun h.2 q)
    exact ⟨h1, .inl h2⟩
  · subst q
    have e : fdiv NEG0 HUN = NEG0 := by unfold fdiv; rw [div_neg0]; rfl
    exact ⟨by rw [show (9223372036854775808 : Nat) = NEG0 from rfl, e]; exact div_neg0, .inr e⟩
theorem Unit.up {k k' x : Nat} (h : Unit k x) (hk : k ≤ k') : Unit k' x := by
  rcases h with h | h
  · refine .inl (Nat.le_trans h (D_mono 0 (by omega) (by omega) ?_))
    exact Nat.mul_le_mul_left _ (Nat.pow_le_pow_right (by decide) (by omega))
  · exact .inr h
/-- Shares that are so many units at most. -/
def Bd (k : Nat) (f : ByteArray → Nat) (a : List Shr) : Prop := ∀ s ∈ a, s.upto ≤ D (f s.service) k
theorem addS_bd {k : Nat} {f : ByteArray → Nat} {s : ByteArray} {x : Nat} (hx : Unit k x) (hk : k ≤ 900) (hf : f s + 1 < 9007199254740992) : ∀ {a : List Shr}, Bd k f a → Bd k (fun n => if n = s then f n + 1 else f n) (addS a s x)
  | [], _, y, hy => by
    rw [List.mem_singleton.1 hy]
    show fadd 0 x ≤ D (if s = s then f s + 1 else f s) k
    rw [if_pos rfl]
    exact Nat.le_trans (fadd_ok (j := 0) (Nat.zero_le _) hx (by omega) hk).2 (D_up (by omega))
  | z :: a, h, y, hy => by
    have up : ∀ u : Shr, u.upto ≤ D (f u.service) k → u.upto ≤ D (if u.service = s then f u.service + 1 else f u.service) k := fun u hu => by
      split
      · exact Nat.le_trans hu (D_up (by omega))
      · exact hu
    unfold addS at hy
    split at hy
    · rename_i hz
      rcases List.mem_cons.1 hy with rfl | hy
      · show fadd z.upto x ≤ D (if z.service = s then f z.service + 1 else f z.service) k
        rw [if_pos hz]
        exact (fadd_ok (h z (.head _)) hx (by rw [hz]; exact hf) hk).2
      · exact up y (h y (.tail _ hy))
    · rcases List.mem_cons.1 hy with rfl | hy
      · exact up y (h y (.head _))
      · exact addS_bd hx hk hf (fun u hu => h u (.tail _ hu)) y hy
theorem Bd.up {k : Nat} {f g : ByteArray → Nat} {a : List Shr} (h : Bd k f a) (hfg : ∀ n, f n ≤ g n) : Bd k g a := fun s hs => Nat.le_trans (h s hs) (D_up (hfg _))
/-- Behind the first shares of a part. -/
structure SubB (k j i w : Nat) (a sub : List Shr) (f : ByteArray → Nat) : Prop where
  bd : Bd k f (addL w a (sub.take i))
  le : ∀ n, f n ≤ j + 1
  rest : ∀ m s, i ≤ m → sub[m]? = some s → f s.service ≤ j
theorem SubB.zero {k j w : Nat} {a sub : List Shr} (h : Bd k (fun _ => j) a) : SubB k j 0 w a sub (fun _ => j) := ⟨by rw [List.take_zero]; exact h, fun _ => Nat.le_succ _, fun _ _ _ _ => Nat.le_refl _⟩
theorem SubB.succ {k j i w : Nat} {a sub : List Shr} {f : ByteArray → Nat} (h : SubB k j i w a sub f) (hap : Apart sub) {s : Shr} (hs : sub[i]? = some s) (hx : Unit k (fmul w s.upto)) (hk : k ≤ 900) (hj : j + 1 < 9007199254740992) : SubB k j (i + 1) w a sub (fun n => if n = s.service then f n + 1 else f n) := by
  have h0 := h.rest i s (Nat.le_refl _) hs
  refine ⟨?_, fun n => ?_, fun m u hm hu => ?_⟩
  · rw [addL_snoc hs]
    exact addS_bd hx hk (by omega) h.bd
  · split
    · rename_i e; rw [e]; omega
    · exact h.le n
  · have hne : u.service ≠ s.service := fun e => by
      obtain ⟨h1, e1⟩ := List.getElem?_eq_some_iff.1 hs
      obtain ⟨h2, e2⟩ := List.getElem?_eq_some_iff.1 hu
      have := List.pairwise_iff_getElem.1 hap i m h1 h2 (by omega)
      rw [e1, e2] at this
      exact this e.symm
    show (if u.service = s.service then f u.service + 1 else f u.service) ≤ j
    rw [if_neg hne]
    exact h.rest m u (by omega) hu
/-- A sum that is made has an answer. -/
theorem SubB.add {k j i w : Nat} {a sub : List Shr} {f : ByteArray → Nat} (h : SubB k j i w a sub f) {s y : Shr} (hs : sub[i]? = some s) (hx : Unit k (fmul w s.upto)) (hk : k ≤ 900) (hj : j + 1 < 9007199254740992) (hy : y ∈ addL w a (sub.take i)) (he : y.service = s.service) : dbl.add y.upto (fmul w s.upto) = some (fadd y.upto (fmul w s.upto)) := by
  have h0 := h.rest i s (Nat.le_refl _) hs
  exact (fadd_ok (h.bd y hy) hx (by rw [he]; omega) hk).1
theorem addL_bd {k j w : Nat} {a sub : List Shr} (h : Bd k (fun _ => j) a) (hap : Apart sub) (hx : ∀ s ∈ sub, Unit k (fmul w s.upto)) (hk : k ≤ 900) (hj : j + 1 < 9007199254740992) : Bd k (fun _ => j + 1) (addL w a sub) := by
  have key : ∀ i, i ≤ sub.length → ∃ f, SubB k j i w a sub f := by
    intro i
    induction i with
    | zero => exact fun _ => ⟨_, SubB.zero h⟩
    | succ i ih =>
      intro hi
      obtain ⟨f, hf⟩ := ih (by omega)
      have hs : sub[i]? = some sub[i] := List.getElem?_eq_getElem (by omega)
      exact ⟨_, hf.succ hap hs (hx _ (List.mem_of_getElem? hs)) hk hj⟩
  obtain ⟨f, hf⟩ := key sub.length (Nat.le_refl _)
  have := hf.bd
  rw [List.take_length] at this
  exact this.up hf.le
/-- A configuration without a fault, as far as shares go. -/
structure Cfg (l : List Res) : Prop where
  n : l.length ≤ 64
  out : outI l < 0
  dang : ∀ j, j < l.length → dangIx l j = false
  heavy : ∀ j, j < l.length → heavyIx l j = false
  ring : ∀ j, j < l.length → ringIx l j = false
  w : ∀ r ∈ l, ∀ t ∈ r.tgts, t.weight < 18446744073709551616
  t : ∀ r ∈ l, r.tgts.length ≤ 1048576
theorem at_mem {l : List Res} {r : Res} (h : r ∈ l) : ∃ j, j < l.length ∧ l[j]? = some r := by
  obtain ⟨j, hj⟩ := List.mem_iff_getElem?.1 h
  exact ⟨j, (List.getElem?_eq_some_iff.1 hj).1, hj⟩
theorem find_split {l : List Res} {n : ByteArray} (h : has l 2 n = true) : ∃ r, l.find? (isK 2 n) = some r ∧ r ∈ l ∧ r.kind = 2 ∧ r.name = n ∧ tgtsOf l n = r.tgts := by
  cases hf : l.find? (isK 2 n) with
  | none =>
    obtain ⟨r, hr, hk, hn⟩ := has_iff.1 h
    have := List.find?_eq_none.1 hf r hr
    unfold isK at this
    rw [hk, hn] at this
    simp [seq_iff] at this
  | some r =>
    have h1 := List.find?_some hf
    unfold isK at h1
    rw [Bool.and_eq_true, beq_iff_eq, seq_iff] at h1
    exact ⟨r, rfl, List.mem_of_find?_eq_some hf, h1.1, h1.2, by unfold tgtsOf; rw [hf]⟩
theorem upI_neg {n : Nat} {p : Nat → Bool} (h : ¬ 0 ≤ upI (firstN n p)) : ∀ j, j < n → p j = false := by
  rcases firstN_cases n p with ⟨_, h1⟩ | ⟨i, hi, e, h1, h2⟩
  · exact h1
  · rw [e] at h
    unfold upI at h
    split at h <;> omega
theorem Cfg.tgt {l : List Res} (h : Cfg l) {r : Res} (hr : r ∈ l) (hk : r.kind = 2) : ∀ t ∈ r.tgts, badT l t = false := fun t ht => by
  obtain ⟨j, hj, hx⟩ := at_mem hr
  have h1 := h.dang j hj
  rw [dangIx_at hx, decide_eq_false_iff_not] at h1
  unfold dangI at h1
  rw [if_pos hk] at h1
  obtain ⟨i, hi⟩ := List.mem_iff_getElem?.1 ht
  have := upI_neg h1 i (List.getElem?_eq_some_iff.1 hi).1
  rwa [badTx_at hi] at this
theorem Cfg.rul {l : List Res} (h : Cfg l) {r : Res} (hr : r ∈ l) (hk : r.kind = 3) : ∀ t ∈ r.rules, has l 2 t.split = true := fun t ht => by
  obtain ⟨j, hj, hx⟩ := at_mem hr
  have h1 := h.dang j hj
  rw [dangIx_at hx, decide_eq_false_iff_not] at h1
  unfold dangI at h1
  rw [if_neg (by omega), if_pos hk] at h1
  obtain ⟨i, hi⟩ := List.mem_iff_getElem?.1 ht
  have := upI_neg h1 i (List.getElem?_eq_some_iff.1 hi).1
  rw [badRx_at hi] at this
  simpa using this
theorem Cfg.wok {l : List Res} (h : Cfg l) {r : Res} (hr : r ∈ l) (hk : r.kind = 2) : ∀ t ∈ r.tgts, wOk t.weight = true := fun t ht => by
  obtain ⟨j, hj, hx⟩ := at_mem hr
  have h1 := h.heavy j hj
  rw [heavyIx_at hx, hk] at h1
  unfold Ck.heavy at h1
  simp only [beq_self_eq_true, Bool.true_and, Bool.not_eq_false', Bool.and_eq_true, List.all_eq_true] at h1
  exact h1.1 _ (List.mem_map.2 ⟨t, ht, rfl⟩)
theorem Cfg.known {l : List Res} (h : Cfg l) {n : ByteArray} (hn : has l 2 n = true) : known l 8 n ≠ 0 := by
  obtain ⟨r, _, hr, hk, he, _⟩ := find_split hn
  obtain ⟨j, hj, hx⟩ := at_mem hr
  have h1 := h.ring j hj
  rw [ringIx_at hx, hk, he] at h1
  simpa using h1
/-- What of a split's targets holds. -/
theorem Cfg.of {l : List Res} (h : Cfg l) {n : ByteArray} (hn : has l 2 n = true) : (∀ t ∈ tgtsOf l n, badT l t = false ∧ wOk t.weight = true ∧ t.weight < 18446744073709551616) ∧ (tgtsOf l n).length ≤ 1048576 := by
  obtain ⟨r, _, hr, hk, he, ht⟩ := find_split hn
  rw [ht]
  exact ⟨fun t h1 => ⟨h.tgt hr hk t h1, h.wok hr hk t h1, h.w r hr t h1⟩, h.t r hr⟩
theorem shR_named {l : List Res} (h : Cfg l) : ∀ (r : Nat) (n : ByteArray), Named l (shR l r n)
  | 0, _ => fun s hs => by cases hs
  | r + 1, n => by
    unfold shR
    split
    · rename_i hn
      exact step_named _ _ (fun s hs => by cases hs) (fun t ht => ((h.of hn).1 t ht).1) (shR_named h r)
    · exact fun s hs => by cases hs
theorem tgtS_bd {k j : Nat} {e : ByteArray → List Shr} {a : List Shr} {t : Tgt} (h : Bd k (fun _ => j) a) (hw : wOk t.weight = true) (hx : t.weight < 18446744073709551616) (he : noS t.service = true → Apart (e t.split) ∧ ∀ s ∈ e t.split, s.upto ≤ D 1 k) (hk : k ≤ 900) (hj : j + 1 < 9007199254740992) : Bd k (fun _ => j + 1) (tgtS e a t) := by
  obtain ⟨_, hu⟩ := fdiv_ok hw hx
  unfold tgtS
  by_cases hs : noS t.service = true
  · rw [if_pos hs]
    obtain ⟨h1, h2⟩ := he hs
    exact addL_bd h h1 (fun s hs => (fmul_ok hu (h2 s hs) hk).2) hk hj
  · rw [if_neg hs]
    refine (addS_bd (hu.up (Nat.zero_le _)) hk hj h).up (fun n => ?_)
    split <;> omega
theorem step_bd {k : Nat} {e : ByteArray → List Shr} (hk : k ≤ 900) : ∀ (ts : List Tgt) (j : Nat) (a : List Shr), Bd k (fun _ => j) a → (∀ t ∈ ts, wOk t.weight = true ∧ t.weight < 18446744073709551616 ∧ (noS t.service = true → Apart (e t.split) ∧ ∀ s ∈ e t.split, s.upto ≤ D 1 k)) → j + ts.length < 9007199254740992 → Bd k (fun _ => j + ts.length) (ts.foldl (tgtS e) a)
  | [], j, a, h, _, _ => h
  | t :: ts, j, a, h, ht, hj => by
    obtain ⟨h1, h2, h3⟩ := ht t (.head _)
    simp only [List.length_cons] at hj
    have := step_bd hk ts (j + 1) _ (tgtS_bd h h1 h2 h3 hk (by omega)) (fun u hu => ht u (.tail _ hu)) (by omega)
    simp only [List.foldl_cons, List.length_cons]
    exact this.up (fun _ => by omega)
theorem shR_bd {l : List Res} (h : Cfg l) : ∀ (r : Nat), r ≤ 8 → ∀ (n : ByteArray), ∀ s ∈ shR l r n, s.upto ≤ D 1 ((20 * r : Nat) : Int)
  | 0, _, _, s, hs => by cases hs
  | r + 1, hr, n, s, hs => by
    unfold shR at hs
    split at hs
    · rename_i hn
      obtain ⟨h1, h2⟩ := h.of hn
      have h3 := step_bd (k := 20 * r) (e := shR l r) (by omega) (tgtsOf l n) 0 [] (fun s hs => by cases hs) (fun t ht => ⟨(h1 t ht).2.1, (h1 t ht).2.2, fun _ => ⟨shR_apart l r _, shR_bd h r (by omega) _⟩⟩) (by omega)
      have h4 := h3 s hs
      have h5 : D (0 + (tgtsOf l n).length) ((20 * r : Nat) : Int) ≤ D (2 ^ 20) ((20 * r : Nat) : Int) := D_up (by omega)
      have h6 := D_unit (20 * r) 20
      rw [h6] at h5
      rw [show 20 * (r + 1) = 20 * r + 20 by omega]
      exact Nat.le_trans h4 h5
    · cases hs
theorem shOf_bd {l : List Res} (h : Cfg l) (n : ByteArray) : ∀ s ∈ shOf l n, s.upto ≤ D 1 ((160 : Nat) : Int) := shR_bd h 8 (Nat.le_refl _) n
theorem shOf_apart (l : List Res) (n : ByteArray) : Apart (shOf l n) := shR_apart l 8 n
theorem shOf_named {l : List Res} (h : Cfg l) (n : ByteArray) : Named l (shOf l n) := shR_named h 8 n
theorem shOf_len {l : List Res} (h : Cfg l) (n : ByteArray) : (shOf l n).length ≤ 64 := Nat.le_trans (services_len (shOf_named h n) (shOf_apart l n)) h.n
/-- Behind the first targets: bounded, few, and apart. -/
theorem step_take {l : List Res} (h : Cfg l) {n : ByteArray} (hn : has l 2 n = true) (i : Nat) (hi : i ≤ (tgtsOf l n).length) : Bd 160 (fun _ => i) (shStep (shOf l) ((tgtsOf l n).take i)) ∧ Apart (shStep (shOf l) ((tgtsOf l n).take i)) ∧ (shStep (shOf l) ((tgtsOf l n).take i)).length ≤ 64 := by
  obtain ⟨h1, h2⟩ := h.of hn
  have hm : ∀ t ∈ (tgtsOf l n).take i, t ∈ tgtsOf l n := fun t ht => List.mem_of_mem_take ht
  have h3 := step_bd (k := 160) (e := shOf l) (by omega) ((tgtsOf l n).take i) 0 [] (fun s hs => by cases hs) (fun t ht => ⟨(h1 t (hm t ht)).2.1, (h1 t (hm t ht)).2.2, fun _ => ⟨shOf_apart l _, shOf_bd h _⟩⟩) (by rw [List.length_take]; omega)
  have ha : Apart (shStep (shOf l) ((tgtsOf l n).take i)) := step_apart _ _ _ List.Pairwise.nil
  have hN : Named l (shStep (shOf l) ((tgtsOf l n).take i)) := step_named _ _ (fun s hs => by cases hs) (fun t ht => (h1 t (hm t ht)).1) (shOf_named h)
  refine ⟨h3.up (fun _ => by rw [List.length_take]; omega), ha, Nat.le_trans (services_len hN ha) h.n⟩
/-! ### steps -/
def ONE : Nat := 4607182418800017408
def stF (a : List Shr × Nat) (s : Shr) : List Shr × Nat := if pos s.upto = true then (a.1 ++ [⟨s.service, fadd a.2 s.upto⟩], fadd a.2 s.upto) else a
def stL (l : List Shr) : List Shr × Nat := l.foldl stF ([], 0)
def lastOne (l : List Shr) : List Shr := match l[l.length - 1]? with
  | some s => l.set (l.length - 1) ⟨s.service, ONE⟩
  | none => l
def stepsS (l : List Shr) : List Shr := lastOne (stL l).1
theorem stL_snoc {l : List Shr} {i : Nat} {s : Shr} (h : l[i]? = some s) : stL (l.take (i + 1)) = stF (stL (l.take i)) s := by
  unfold stL
  have hi := (List.getElem?_eq_some_iff.1 h).1
  rw [List.take_succ_eq_append_getElem hi, List.foldl_append, (List.getElem?_eq_some_iff.1 h).2]; rfl
theorem stF_len (a : List Shr × Nat) (s : Shr) : (stF a s).1.length ≤ a.1.length + 1 := by
  unfold stF; split
  · simp
  · exact Nat.le_succ _
theorem stL_len (l : List Shr) (i : Nat) : (stL (l.take i)).1.length ≤ i := by
  induction i with
  | zero => simp [stL]
  | succ i ih =>
    by_cases hi : i < l.length
    · rw [stL_snoc (List.getElem?_eq_getElem hi)]
      exact Nat.le_trans (stF_len _ _) (by omega)
    · rw [List.take_of_length_le (by omega)]
      rw [List.take_of_length_le (by omega)] at ih
      omega
theorem pos_ge {x : Nat} (h : pos x = true) : ge x = true := by
  unfold ge
  unfold pos at h
  rw [h]; rfl
theorem stF_sum {a : List Shr × Nat} {s : Shr} (ha : a.2 ≤ INF) (hs : s.upto < 18446744073709551616) : (stF a s).2 ≤ INF ∧ (pos s.upto = true → dbl.add a.2 s.upto = some (fadd a.2 s.upto)) := by
  unfold stF
  split
  · rename_i hp
    obtain ⟨h1, h2⟩ := add_ge a.2 s.upto ha hs (pos_ge hp)
    exact ⟨h2, fun _ => h1⟩
  · rename_i hp
    exact ⟨ha, fun q => absurd q hp⟩
theorem stL_sum {l : List Shr} (hl : ∀ s ∈ l, s.upto < 18446744073709551616) (i : Nat) : (stL (l.take i)).2 ≤ INF := by
  induction i with
  | zero => rw [List.take_zero]; exact Nat.zero_le _
  | succ i ih =>
    by_cases hi : i < l.length
    · have hx : l[i]? = some l[i] := List.getElem?_eq_getElem hi
      rw [stL_snoc hx]
      exact (stF_sum ih (hl _ (List.mem_of_getElem? hx))).1
    · rw [List.take_of_length_le (by omega)]
      rwa [List.take_of_length_le (by omega)] at ih
theorem lastOne_at {l : List Shr} {s : Shr} (h : l[l.length - 1]? = some s) : lastOne l = l.set (l.length - 1) ⟨s.service, ONE⟩ := by unfold lastOne; rw [h]
theorem lastOne_nil : lastOne [] = [] := rfl
theorem lastOne_snoc (l : List Shr) (s : Shr) : lastOne (l ++ [s]) = l ++ [⟨s.service, ONE⟩] := by
  have h : (l ++ [s])[(l ++ [s]).length - 1]? = some s := by simp
  rw [lastOne_at h]
  simp
/-- The place of the last of the first k that is above nought, or -1. -/
def lastP (l : List Shr) : Nat → Int
  | 0 => -1
  | k + 1 => match l[k]? with
    | some s => if pos s.upto = true then (k : Int) else lastP l k
    | none => lastP l k
theorem lastP_at {l : List Shr} {k : Nat} {s : Shr} (h : l[k]? = some s) : lastP l (k + 1) = if pos s.upto = true then (k : Int) else lastP l k := by
  simp only [lastP]; rw [h]
theorem lastP_bd (l : List Shr) : ∀ k, -1 ≤ lastP l k ∧ lastP l k < k
  | 0 => by simp [lastP]
  | k + 1 => by
    have := lastP_bd l k
    unfold lastP
    split
    · split <;> omega
    · omega
theorem lastP_up (l : List Shr) {i : Nat} : ∀ {k : Nat}, i ≤ k → lastP l i ≤ lastP l k
  | 0, h => by rw [Nat.le_zero.1 h]; exact Int.le_refl _
  | k + 1, h => by
    rcases Nat.lt_or_eq_of_le h with h1 | h1
    · have := lastP_up l (i := i) (k := k) (by omega)
      have hb := lastP_bd l k
      cases hk : l[k]? with
      | none =>
        have e : lastP l (k + 1) = lastP l k := by simp only [lastP]; rw [hk]
        rw [e]; exact this
      | some s =>
        rw [lastP_at hk]
        split <;> omega
    · rw [h1]; exact Int.le_refl _
/-- What the document's loop has put out, behind the first i. -/
def refSt (l : List Shr) (i : Nat) : List Shr := if lastP l l.length < i then lastOne (stL (l.take i)).1 else (stL (l.take i)).1
theorem refSt_zero (l : List Shr) : refSt l 0 = [] := by
  unfold refSt
  rw [List.take_zero]
  split <;> rfl
theorem refSt_skip {l : List Shr} {i : Nat} {s : Shr} (h : l[i]? = some s) (hp : pos s.upto = false) : refSt l (i + 1) = refSt l i ∧ (stL (l.take (i + 1))).2 = (stL (l.take i)).2 := by
  have hi := (List.getElem?_eq_some_iff.1 h).1
  have e : stL (l.take (i + 1)) = stL (l.take i) := by
    rw [stL_snoc h]; unfold stF; rw [hp]; rfl
  have hne : lastP l l.length ≠ i := fun q => by
    have key : ∀ k, i < k → k ≤ l.length → lastP l k ≠ i := by
      intro k
      induction k with
      | zero => intro h; omega
      | succ k ih =>
        intro h1 h2
        have hk : l[k]? = some l[k] := List.getElem?_eq_getElem (by omega)
        rw [lastP_at hk]
        split
        · rename_i hq
          intro q'
          have : k = i := by omega
          subst this
          rw [hk] at h
          cases h
          rw [hp] at hq; cases hq
        · by_cases hik : i < k
          · exact ih hik (by omega)
          · have : k = i := by omega
            subst this
            have := lastP_bd l k
            omega
    exact key l.length hi (Nat.le_refl _) q
  refine ⟨?_, by rw [e]⟩
  unfold refSt
  rw [e]
  by_cases h1 : lastP l l.length < i
  · rw [if_pos h1, if_pos (by omega)]
  · rw [if_neg h1, if_neg (by omega)]
theorem refSt_put {l : List Shr} {i : Nat} {s : Shr} (h : l[i]? = some s) (hp : pos s.upto = true) : refSt l (i + 1) = refSt l i ++ [⟨s.service, if (i : Int) = lastP l l.length then ONE else (stL (l.take (i + 1))).2⟩] ∧ (stL (l.take (i + 1))).2 = fadd (stL (l.take i)).2 s.upto := by
  have hi := (List.getElem?_eq_some_iff.1 h).1
  have e : stL (l.take (i + 1)) = ((stL (l.take i)).1 ++ [⟨s.service, fadd (stL (l.take i)).2 s.upto⟩], fadd (stL (l.take i)).2 s.upto) := by
    rw [stL_snoc h]; unfold stF; rw [if_pos hp]
  have hge : (i : Int) ≤ lastP l l.length := by
    have h1 := lastP_up l (i := i + 1) (k := l.length) hi
    rw [lastP_at h, if_pos hp] at h1
    exact h1
  refine ⟨?_, by rw [e]⟩
  unfold refSt
  rw [if_neg (show ¬ lastP l l.length < (i : Int) by omega), e]
  by_cases h1 : (i : Int) = lastP l l.length
  · rw [if_pos (by omega), if_pos h1, lastOne_snoc]
  · rw [if_neg (by omega), if_neg h1]
theorem refSt_all (l : List Shr) : refSt l l.length = stepsS l := by
  unfold refSt stepsS
  have := (lastP_bd l l.length).2
  rw [if_pos this, List.take_length]
end Go.Ck
end

section
/- Shares in memory, and how one is grown: the program's add and the document's. -/
namespace Go.Ck
open Go.RowKit Go.Mp
set_option linter.unusedVariables false
def shrE : Rd.Elem Shr := (Rd.pair Rd.str (Rd.pair Rd.float Rd.none)).map fun t => (t.service, t.upto, ())
def shrC : Rd.Enc shrE := ⟨fun t => [.string t.service, .float .f64 t.upto], fun t => t.service.size ≤ maxLen ∧ t.upto < 18446744073709551616, fun _ => rfl, by decide, fun x u hu => by
    simp only [List.mem_cons, List.not_mem_nil, or_false] at hu; rcases hu with rfl | rfl <;> rfl, fun h => by
    obtain ⟨⟨c0, s0⟩, ⟨c1, s1⟩, _⟩ := h
    refine ⟨fun j u hu => ?_, s0, s1⟩
    match j, hu with
    | 0, hu => simp only [List.getElem?_cons_zero, Option.some.injEq] at hu; rw [← hu]; exact c0
    | 1, hu => simp only [List.getElem?_cons_succ, List.getElem?_cons_zero, Option.some.injEq] at hu; rw [← hu]; exact c1
    | j + 2, hu => simp at hu, fun h hc => ⟨⟨hc 0 _ rfl, h.1⟩, ⟨hc 1 _ rfl, h.2⟩, trivial⟩⟩
def flat (a : List Shr) : List Value := a.flatMap shrC.enc
theorem flat_snoc (a : List Shr) (y : Shr) : flat (a ++ [y]) = flat a ++ [.string y.service, .float .f64 y.upto] := by
  unfold flat; rw [List.flatMap_append]; rfl
theorem flat_set : ∀ {a : List Shr} {i : Nat} {y : Shr} (u : Nat), a[i]? = some y → flat (a.set i ⟨y.service, u⟩) = (flat a).set (i * 2 + 1) (.float .f64 u)
  | [], i, y, u, h => by cases h
  | z :: a, 0, y, u, h => by
    simp only [List.getElem?_cons_zero, Option.some.injEq] at h
    subst h; rfl
  | z :: a, i + 1, y, u, h => by
    have e1 : flat ((z :: a).set (i + 1) ⟨y.service, u⟩) = .string z.service :: .float .f64 z.upto :: flat (a.set i ⟨y.service, u⟩) := rfl
    have e2 : flat (z :: a) = .string z.service :: .float .f64 z.upto :: flat a := rfl
    rw [e1, e2, flat_set u (by simpa using h), show (i + 1) * 2 + 1 = (i * 2 + 1) + 1 + 1 by omega]
    rfl
theorem flat_at {a : List Shr} {i : Nat} {y : Shr} (h : a[i]? = some y) : (flat a)[i * 2]? = some (.string y.service) ∧ (flat a)[i * 2 + 1]? = some (.float .f64 y.upto) := by
  have h0 := Rd.flat_at shrC.len h 0 (by decide)
  have h1 := Rd.flat_at shrC.len h 1 (by decide)
  exact ⟨h0, h1⟩
def OkS (a : List Shr) : Prop := ∀ s ∈ a, s.service.size ≤ maxLen ∧ s.upto < 18446744073709551616
/-- Shares in memory of one's own. -/
structure OwnS (w : World) (B : Nat) (v : Value) (a : List Shr) : Prop where
  row : w.ownsRow B 73 2 v a.length (flat a)
  ok : OkS a
abbrev ShS (w : World) (v : Value) (a : List Shr) : Prop := Rd.SliceOf shrE w v a
theorem OwnS.reads {w : World} {B : Nat} {v : Value} {a : List Shr} (h : OwnS w B v a) (hl : a.length ≤ 140737488351232) : ShS w v a := Rd.own_slice shrC h.row h.ok hl
theorem ShS.ok {w : World} {v : Value} {a : List Shr} (h : ShS w v a) : OkS a := Rd.slice_ok shrC h
theorem shr_at {w wr : World} {ao : Option Addr} {n cap : Nat} {xs : List Shr} (h : ShS w (.slice ao n cap) xs) (hb : Below w.heap.size w wr) {i : Nat} {x : Shr} (hx : xs[i]? = some x) :
    ∃ b off, ao = some ⟨b, off, none⟩ ∧ b < w.heap.size ∧ wr.cell? ⟨b, off + i * 2, none⟩ = some (.string x.service) ∧ wr.cell? ⟨b, off + i * 2 + 1, none⟩ = some (.float .f64 x.upto) ∧ x.service.size ≤ maxLen ∧ x.upto < 18446744073709551616 := by
  obtain ⟨b, off, e, hbw, ⟨c0, s0⟩, ⟨c1, s1⟩, _⟩ := at_i h hb hx
  exact ⟨b, off, e, hbw, c0, c1, s0, s1⟩
def isSx (a : List Shr) (s : ByteArray) (m : Nat) : Bool := match a[m]? with
  | some y => y.service.toList == s.toList
  | none => false
theorem isSx_at {a : List Shr} {s : ByteArray} {m : Nat} {y : Shr} (h : a[m]? = some y) : isSx a s m = (y.service.toList == s.toList) := by unfold isSx; rw [h]
def ixS (a : List Shr) (s : ByteArray) : Int := firstN a.length (isSx a s)
theorem addS_none : ∀ {a : List Shr} {s : ByteArray} {x : Nat}, (∀ j, j < a.length → isSx a s j = false) → addS a s x = a ++ [⟨s, Go.Proofs.Ytjepgpocmnijiaa.Fl.fadd 0 x⟩]
  | [], s, x, _ => rfl
  | y :: a, s, x, h => by
    have h0 : seq y.service s = false := h 0 (Nat.zero_lt_succ _)
    have h1 : ¬ y.service = s := seq_not.1 h0
    unfold addS
    rw [if_neg h1, addS_none (a := a) (fun j hj => h (j + 1) (Nat.succ_lt_succ hj))]; rfl
theorem addS_some : ∀ {a : List Shr} {s : ByteArray} {x i : Nat} {y : Shr}, (∀ j, j < i → isSx a s j = false) → a[i]? = some y → isSx a s i = true → addS a s x = a.set i ⟨y.service, Go.Proofs.Ytjepgpocmnijiaa.Fl.fadd y.upto x⟩
  | [], s, x, i, y, _, h, _ => by cases h
  | z :: a, s, x, 0, y, _, h, hy => by
    simp only [List.getElem?_cons_zero, Option.some.injEq] at h
    subst h
    have h1 : z.service = s := seq_iff.1 hy
    unfold addS
    rw [if_pos h1]; rfl
  | z :: a, s, x, i + 1, y, hno, h, hy => by
    have h0 : seq z.service s = false := hno 0 (Nat.zero_lt_succ _)
    unfold addS
    rw [if_neg (seq_not.1 h0), addS_some (a := a) (fun j hj => hno (j + 1) (Nat.succ_lt_succ hj)) (by simpa using h) hy]; rfl
end Go.Ck
namespace Go.Proofs.Ytjepgpocmnijiaa
open Go.RowKit Go.Mp Go.Ck Fl
set_option linter.unusedVariables false
set_option maxRecDepth 100000
set_option maxHeartbeats 4000000
theorem wp_append_lit {P : Program} {w : World} {ops : Array Oper} {rest : List Oper} {o : Oper} {act : Act} {Q : Exit → Act → World → Prop} (hgd : o.guard = .none) (s x : Operand) (t : TypeId)
    (ho : o.op = .call { callee := .builtin .append, args := #[s, x], argTypes := #[t, t] }) (base : Nat) (e : TypeId) (i : TypeInfo) (z : Value) (size bytes : Nat) (ht : P.underlying t = some (.slice e)) (hi : P.info? e = some i) (hz : i.zero = some z)
    (hsize : i.size = size) (hby : i.bytes = bytes) (hzs : z.cells.size = size) (hsz : 0 < size) (v : Value) (n : Nat) (xs : List Value) (hs : act.eval s = v) (hown : w.ownsRow base e size v n xs)
    (a : Addr) (m c : Nat) (news : List Value) (hxv : act.eval x = .slice (some a) m c) (hl : news.length = m * size) (hnews : ∀ j u, news[j]? = some u → w.cell? (a.add j) = some u) (h1 : ∀ u ∈ news, u.oneCell' = true)
    (h63 : n + m ≤ maxLen) (hbytes : (n + m) * bytes ≤ 140737488355328) (hbase : base ≤ w.heap.size)
    (h : ∀ v' w', w'.ownsRow base e size v' (n + m) (xs ++ news) → w.grownBy w' v.ownBlock → (∀ g, v'.ownBlock = some g → v.ownBlock = some g ∨ w.heap.size ≤ g) → wpList P ops Q rest (act.put o.dst v') w') : wpList P ops Q (o :: rest) act w :=
  wpList_plain hgd fun _ hK => by
    obtain ⟨v', w', hr, h2, h3, h4, h5⟩ := run_append_own_at (P := P) w base t o.type e i z size bytes ht hi hz hsize hby hzs hsz v n xs hown a m c news hl hnews h1 h63 hbytes hbase
    unfold Oper.wp execOp
    simp only [ho, resolve, invoke, builtin, Sem.run_bind, Sem.run_pure, Result.andThen_ok, List.map_toArray, List.map_cons, List.map_nil, hs, hxv, hr]
    refine hK _ _ (h v' w' h2 h3 (fun g hg => ?_))
    rcases h5 with q | q
    · exact .inl (by rw [← q]; exact hg)
    · rw [q] at hg; cases hg; exact .inr (Nat.le_refl _)
theorem run_add {a b c : Nat} (h : dbl.add a b = some c) : ∀ w, (binOp .add 55 (.float .f64 a) (.float .f64 b)).run Try.prog w = .ok (.float .f64 c) w := fun w => run_float_arith w .add 55 .f64 _ _ _ h
theorem run_mul {a b c : Nat} (h : dbl.mul a b = some c) : ∀ w, (binOp .mul 55 (.float .f64 a) (.float .f64 b)).run Try.prog w = .ok (.float .f64 c) w := fun w => run_float_arith w .mul 55 .f64 _ _ _ h
theorem run_div {a b c : Nat} (h : dbl.div a b = some c) : ∀ w, (binOp .quo 55 (.float .f64 a) (.float .f64 b)).run Try.prog w = .ok (.float .f64 c) w := fun w => run_float_arith w .quo 55 .f64 _ _ _ h
theorem info73 : (Try.prog.info? 73).map (fun i => (i.zero, i.size, i.bytes)) = some (some (.agg #[.string ⟨#[]⟩, .float .f64 0]), 2, 24) := by kernel_rfl
theorem is153 (y : Shr) (s : ByteArray) (xb : Nat) (w : World) (hxb : xb < w.heap.size) (c0 : w.cell? ⟨xb, 0, none⟩ = some (.string s)) :
    Calls Try.prog 153 #[.agg #[.string y.service, .float .f64 y.upto], .pointer (some ⟨xb, 0, none⟩)] w fun e w' => e = .returned (.bool (y.service.toList == s.toList)) ∧ Below w.heap.size w w' := by
  have hb1 := alloc_below w (.cells #[.string y.service, .float .f64 y.upto] 73)
  have k0 := (hb1.cell (p := ⟨xb, 0, none⟩) hxb).trans c0
  obtain ⟨b, hb⟩ : ∃ b, (y.service.toList == s.toList) = b := ⟨_, rfl⟩
  rw [hb]
  replace hb1 := Lib.hid hb1
  replace hxb := Lib.hid hxb
  clear c0
  cases b with
  | true =>
    go_enter Try.func153, Try.ntmps153
    go_wp2
    go_ret
    exact ⟨rfl, hb1.out⟩
  | false =>
    go_enter Try.func153, Try.ntmps153
    go_wp2
    go_ret
    exact ⟨rfl, hb1.out⟩
theorem idx152 (a : List Shr) (s : ByteArray) (xb : Nat) (v : Value) (w : World) (hrs : ShS w v a) (hxb : xb < w.heap.size) (c0 : w.cell? ⟨xb, 0, none⟩ = some (.string s)) :
    Calls Try.prog 152 #[v, .func (.func 153) #[] #[.pointer (some ⟨xb, 0, none⟩)]] w fun e w' => e = .returned (.int .i64 (ixS a s)) ∧ Below w.heap.size w w' := by
  obtain ⟨ao, cap, rfl⟩ := slice_shape hrs
  have hlen := hrs.1
  unfold ixS
  replace hrs := Lib.hid hrs
  replace hxb := Lib.hid hxb
  replace c0 := Lib.hid c0
  go_enter Try.func152, Try.ntmps152
  go_wp2
  go_loopg [8] (a.length + 1) (fun gg ic wr => ∃ i : Nat, gg = a.length - i + 1 ∧ i ≤ a.length ∧ ic = .int .i64 i ∧ Hid (∀ j, j < i → isSx a s j = false) ∧ Hid (Below w.heap.size w wr))
  case atStart => exact ⟨0, rfl, Nat.zero_le _, rfl, Lib.hid (fun j hj => absurd hj (Nat.not_lt_zero j)), Lib.hid (Below.refl _ _)⟩
  case round =>
    obtain ⟨i, rfl, hi, rfl, hno, hbw⟩ := hrel
    by_cases hlt : i < a.length
    · obtain ⟨y, hy⟩ : ∃ y, a[i]? = some y := ⟨_, List.getElem?_eq_getElem hlt⟩
      obtain ⟨b, off, rfl, _, e0, e1, s0, _⟩ := shr_at hrs.out hbw.out hy
      have hk0 : (i : Int) < (a.length : Int) := nn_lt hlt
      have hwk := Lib.hid (nn_succ2 hlt hlen)
      have hix := isSx_at (s := s) hy
      have hC := is153 y s xb wr (Nat.lt_of_lt_of_le hxb.out hbw.out.size) ((hbw.out.cell (p := ⟨xb, 0, none⟩) hxb.out).trans c0.out)
      generalize (y.service.toList == s.toList) = cv at *
      replace hC := Lib.hid hC
      replace hy := Lib.hid hy
      cases cv with
      | true =>
        have hf := firstN_at hno.out hlt hix
        replace hix := Lib.hid hix
        replace hf := Lib.hid hf
        replace hno := Lib.hid hno
        go_wp2_with (first | (go_at_call 153; (with_reducible refine hC.out.mono ?_); rintro e w2 ⟨rfl, hb2⟩; replace hb2 := Lib.hid hb2) | fail)
        go_ret
        exact ⟨ret_i hf.out.symm, seq_below hbw.out hb2.out⟩
      | false =>
        have hno2 := no_upto hno.out hix
        replace hix := Lib.hid hix
        replace hno := Lib.hid hno
        replace hno2 := Lib.hid hno2
        go_wp2_with (first | (go_at_call 153; (with_reducible refine hC.out.mono ?_); rintro e w2 ⟨rfl, hb2⟩; replace hb2 := Lib.hid hb2) | fail)
        go_roundg (a.length - (i + 1) + 1)
        case rel => exact ⟨i + 1, rfl, hlt, by first | rw [hwk.out] | go_num, hno2, Lib.hid (seq_below hbw.out hb2.out)⟩
        case measure => exact nn_downS hlt
    · have hk0 : decide ((i : Int) < (a.length : Int)) = false := decide_eq_false (by omega)
      have hf := firstN_none (n := a.length) (fun j hj => hno.out j (by omega))
      replace hf := Lib.hid hf
      replace hno := Lib.hid hno
      go_wp2
      go_ret
      exact ⟨ret_i hf.out.symm, hbw.out⟩
/-- How a share that is grown lies. -/
def AddO (w : World) (B : Nat) (v : Value) (a' : List Shr) (e : Ending) (w' : World) : Prop := ∃ v', e = .returned v' ∧ OwnS w' B v' a' ∧ Tch (fun k => v.ownBlock = some k) w w' ∧ ∀ g, v'.ownBlock = some g → v.ownBlock = some g ∨ w.heap.size ≤ g
theorem _root_.Go.Ck.OwnS.tch {w w' : World} {B : Nat} {v : Value} {a : List Shr} {S : Nat → Prop} (h : OwnS w B v a) (t : Tch S w w') (hs : ∀ g, v.ownBlock = some g → ¬ S g) : OwnS w' B v a := ⟨ownsRow_tch h.row t hs, h.ok⟩
theorem oks_some {a : List Shr} (h : OkS a) {i : Nat} {y : Shr} (hy : a[i]? = some y) {u : Nat} (hu : u < 18446744073709551616) : OkS (a.set i ⟨y.service, u⟩) := fun z hz => by
  rcases List.mem_or_eq_of_mem_set hz with h1 | rfl
  · exact h z h1
  · exact ⟨(h y (List.mem_of_getElem? hy)).1, hu⟩
theorem oks_snoc {a : List Shr} (h : OkS a) {s : ByteArray} {u : Nat} (hs : s.size ≤ maxLen) (hu : u < 18446744073709551616) : OkS (a ++ [⟨s, u⟩]) := fun z hz => by
  rcases List.mem_append.1 hz with h1 | h1
  · exact h z h1
  · rw [List.mem_singleton.1 h1]; exact ⟨hs, hu⟩
theorem add133 (a : List Shr) (v : Value) (B : Nat) (w : World) (s : ByteArray) (x : Nat) (hO : OwnS w B v a) (hl : a.length ≤ 1048576) (hs : s.size ≤ maxLen) (hB : B ≤ w.heap.size)
    (hadd : ∀ y ∈ a, y.service = s → dbl.add y.upto x = some (fadd y.upto x) ∧ fadd y.upto x ≤ INF) (h0 : dbl.add 0 x = some (fadd 0 x) ∧ fadd 0 x ≤ INF) : Calls Try.prog 133 #[v, .string s, .float .f64 x] w (AddO w B v (addS a s x)) := by
  obtain ⟨i73, h73, h730, h731, h732⟩ := info_parts info73
  replace h73 := Lib.hid h73
  replace h730 := Lib.hid h730
  replace h731 := Lib.hid h731
  replace h732 := Lib.hid h732
  obtain ⟨ao, cap, rfl⟩ := ownsRow_shape hO.row
  have hr := hO.reads (by omega)
  have hba := alloc_below w (.cells #[.string s] 9)
  have hC := idx152 a s w.heap.size (.slice ao a.length cap) (w.alloc (.cells #[.string s] 9)) (hr.below hba) (by simp) ((cell_of_row _ _ 0 _ _ _ (heap_alloc_new w _)).trans rfl)
  obtain ⟨wa, hwa⟩ : ∃ wa, wa = w.alloc (.cells #[.string s] 9) := ⟨_, rfl⟩
  obtain ⟨sb, hsb⟩ : ∃ sb, sb = w.heap.size := ⟨_, rfl⟩
  have cs : wa.cell? ⟨sb, 0, none⟩ = some (.string s) := by rw [hwa, hsb]; exact (cell_of_row _ _ 0 _ _ _ (heap_alloc_new w _)).trans rfl
  have hsl : sb < wa.heap.size := by rw [hwa, hsb]; simp
  rw [← hwa] at hC hba
  rcases firstN_cases a.length (isSx a s) with ⟨e1, hno⟩ | ⟨i, hi, e1, hy1, hno⟩
  · have hA := addS_none (x := x) hno
    have e2 : ixS a s = -1 := e1
    rw [hA]
    rw [e2, hsb.symm] at hC
    replace hO := Lib.hid hO
    replace hs := Lib.hid hs
    replace hadd := Lib.hid hadd
    replace h0 := Lib.hid h0
    replace hr := Lib.hid hr
    replace hC := Lib.hid hC
    replace e1 := Lib.hid e1
    replace hno := Lib.hid hno
    replace e2 := Lib.hid e2
    replace hA := Lib.hid hA
    go_enter Try.func133, Try.ntmps133
    go_upto_region 2 with fail
    rw [← hwa, ← hsb]
    replace hwa := Lib.hid hwa
    replace hsb := Lib.hid hsb
    go_upto_region 3 with (first
      | (go_at_call 152; (with_reducible refine hC.out.mono ?_); rintro e wb ⟨rfl, hbb⟩; have cs2 := (hbb.cell (p := ⟨sb, 0, none⟩) hsl).trans cs; have hO2 := Lib.hid (hO.out.tch (Tch.of_below (S := No) (seq_below hba hbb)) (fun _ _ q => q)); have hbb2 := Lib.hid (seq_below hba hbb); clear hbb)
      | fail)
    have hrb := Lib.hid (hO2.out.row.alloc (.cells #[.string s, .float .f64 0] 73))
    have hnb := Lib.hid (new_cells wb [.string s, .float .f64 0] 73)
    have hBb := Lib.hid (show B ≤ (wb.alloc (.cells #[.string s, .float .f64 0] 73)).heap.size from Nat.le_trans (Nat.le_trans hB hbb2.out.size) (by simp))
    go_upto_region 5 with (first
      | (at_builtin; go_loud (refine wp_append_lit (by rfl) _ _ 67 (by rfl) B 73 i73 _ 2 24 Try.underlying67 h73.out h730.out h731.out h732.out rfl (by decide) _ a.length (flat a) (by rfl) hrb.out ⟨wb.heap.size, 0, none⟩ 1 _ [.string s, .float .f64 0] (by rfl) rfl hnb.out (by simp [Value.oneCell']) (by unfold maxLen; omega) (by omega) hBb.out ?_); intro v3 w3 hr3 hg3 hl3; obtain ⟨o3, c3, rfl⟩ := ownsRow_shape hr3)
      | fail)
    obtain ⟨g, hg, _, _, cz, fz⟩ := ownsRow_cell hr3 (j := a.length * 2 + 1) (u := .float .f64 0) (by
      rw [List.getElem?_append_right (by rw [(hO2.out.row).1]; omega), (hO2.out.row).1, show a.length * 2 + 1 - a.length * 2 = 1 by omega]; rfl)
    subst hg
    have hst := hr3.stored (a.length * 2 + 1) (.float .f64 (fadd 0 x))
    have hxs : (flat a ++ [Value.string s, Value.float .f64 0]).set (a.length * 2 + 1) (.float .f64 (fadd 0 x)) = flat (a ++ [⟨s, fadd 0 x⟩]) := by
      rw [flat_snoc, List.set_append_right _ _ (by rw [(hO2.out.row).1]; omega), (hO2.out.row).1, show a.length * 2 + 1 - a.length * 2 = 1 by omega]; rfl
    rw [hxs] at hst
    have hok : OkS (a ++ [⟨s, fadd 0 x⟩]) := oks_snoc hO2.out.ok hs.out (Nat.lt_of_le_of_lt h0.out.2 (by decide))
    have hw0 := run_add h0.out.1
    have ht3 : Tch (fun k => (Value.slice ao a.length cap).ownBlock = some k) w w3 := (Tch.of_below (S := fun k => (Value.slice ao a.length cap).ownBlock = some k) (seq_below hbb2.out (alloc_below wb (.cells #[.string s, .float .f64 0] 73)))).trans (Tch.grown (S := fun k => (Value.slice ao a.length cap).ownBlock = some k) hg3 (fun k q => .inl q)) (fun k q => .inl q)
    have hgo : (Value.slice ao a.length cap).ownBlock = some g ∨ w.heap.size ≤ g := (hl3 g rfl).imp id (fun q => by
      have := (seq_below hbb2.out (alloc_below wb (.cells #[.string s, .float .f64 0] 73))).size
      omega)
    have ht4 := Lib.hid (ht3.trans (Tch.setCell (S := fun k => k = g) w3 (p := ⟨g, a.length * 2 + 1, none⟩) rfl (.float .f64 (fadd 0 x))) (fun k q => by rw [q]; exact hgo))
    have hlt1 : (a.length : Int) < ((a.length + 1 : Nat) : Int) := by omega
    have hgE : Hid (∀ k, (Value.slice (some ⟨g, 0, none⟩) (a.length + 1) c3).ownBlock = some k → (Value.slice ao a.length cap).ownBlock = some k ∨ w.heap.size ≤ k) := Lib.hid (fun k q => by cases q; exact hgo)
    replace hst := Lib.hid hst
    replace hok := Lib.hid hok
    replace hxs := Lib.hid hxs
    replace hrb := Lib.hid hrb
    replace hnb := Lib.hid hnb
    replace hBb := Lib.hid hBb
    replace hr3 := Lib.hid hr3
    replace hg3 := Lib.hid hg3
    replace hl3 := Lib.hid hl3
    replace ht3 := Lib.hid ht3
    replace hgo := Lib.hid hgo
    replace hO2 := Lib.hid hO2
    replace hbb2 := Lib.hid hbb2
    go_wp2
    go_ret
    exact ⟨_, rfl, ⟨by rw [List.length_append]; exact hst.out.1, hok.out⟩, ht4.out, hgE.out⟩
  · obtain ⟨y, hy⟩ : ∃ y, a[i]? = some y := ⟨_, List.getElem?_eq_getElem hi⟩
    have hA := addS_some (x := x) hno hy hy1
    have e2 : ixS a s = (i : Int) := e1
    have hys : y.service = s := by rw [isSx_at hy] at hy1; exact seq_iff.1 hy1
    obtain ⟨hw1, hw2⟩ := hadd y (List.mem_of_getElem? hy) hys
    rw [hA]
    rw [e2, hsb.symm] at hC
    have hw0 := run_add hw1
    have hi0 : decide ((i : Int) < 0) = false := decide_eq_false (by omega)
    have hi1 : ¬ (i : Int) < 0 := by omega
    have hi2 : (i : Int) < (a.length : Int) := nn_lt hi
    have hi3 : (0 : Int) ≤ (i : Int) := by omega
    have hok : OkS (a.set i ⟨y.service, fadd y.upto x⟩) := oks_some hO.ok hy (Nat.lt_of_le_of_lt hw2 (by decide))
    obtain ⟨g, hg, _, _, _, _⟩ := ownsRow_cell hO.row (flat_at hy).2
    subst hg
    replace hO := Lib.hid hO
    replace hs := Lib.hid hs
    replace hadd := Lib.hid hadd
    replace h0 := Lib.hid h0
    replace hr := Lib.hid hr
    replace hC := Lib.hid hC
    replace e1 := Lib.hid e1
    replace hno := Lib.hid hno
    replace e2 := Lib.hid e2
    replace hA := Lib.hid hA
    replace hy1 := Lib.hid hy1
    replace hys := Lib.hid hys
    replace hw1 := Lib.hid hw1
    replace hw2 := Lib.hid hw2
    replace hok := Lib.hid hok
    go_enter Try.func133, Try.ntmps133
    go_upto_region 2 with fail
    rw [← hwa, ← hsb]
    replace hwa := Lib.hid hwa
    replace hsb := Lib.hid hsb
    go_upto_region 5 with (first
      | (go_at_call 152; (with_reducible refine hC.out.mono ?_); rintro e wb ⟨rfl, hbb⟩; have hO2 := Lib.hid (hO.out.tch (Tch.of_below (S := No) (seq_below hba hbb)) (fun _ _ q => q)); have hbb2 := Lib.hid (seq_below hba hbb); clear hbb)
      | fail)
    obtain ⟨g', hg', _, _, cz, fz⟩ := ownsRow_cell hO2.out.row (flat_at hy).2
    simp only [Option.some.injEq, Addr.mk.injEq, and_true] at hg'
    subst hg'
    have hst := hO2.out.row.stored (i * 2 + 1) (.float .f64 (fadd y.upto x))
    rw [← flat_set _ hy] at hst
    have ht4 := Lib.hid ((Tch.of_below (S := fun k => (Value.slice (some ⟨g, 0, none⟩) a.length cap).ownBlock = some k) hbb2.out).trans (Tch.setCell (S := fun k => k = g) wb (p := ⟨g, i * 2 + 1, none⟩) rfl (.float .f64 (fadd y.upto x))) (fun k q => by rw [q]; exact .inl rfl))
    replace hst := Lib.hid hst
    replace hO2 := Lib.hid hO2
    replace hbb2 := Lib.hid hbb2
    go_wp2
    go_ret
    exact ⟨_, rfl, ⟨by rw [List.length_set]; exact hst.out.1, hok.out⟩, ht4.out, fun k q => .inl q⟩
end Go.Proofs.Ytjepgpocmnijiaa
end

section
/- The program's search of all splits' shares, that keeps what it found. -/
namespace Go.Proofs.Ytjepgpocmnijiaa
open Go.RowKit Go.Mp Go.Ck Fl
set_option linter.unusedVariables false
set_option maxRecDepth 100000
set_option maxHeartbeats 4000000
/-- The memory of the search. -/
structure AS (W0 w : World) (l : List Res) (db tb fb mb kb : Nat) (T M : ByteArray → Option Value) : Prop where
  bel : Below W0.heap.size W0 w
  le : W0.heap.size ≤ kb
  cd : w.cell? ⟨db, 0, none⟩ = some (.map (some kb))
  ct : w.cell? ⟨tb, 0, none⟩ = some (.map (some mb))
  cf : w.cell? ⟨fb, 0, none⟩ = some (.func (.func 132) #[] #[.pointer (some ⟨db, 0, none⟩), .pointer (some ⟨tb, 0, none⟩), .pointer (some ⟨fb, 0, none⟩)])
  tg : MapS nameKey w mb T
  dn : MapS nameKey w kb M
  nm : mb ≠ kb
  nd : db ≠ kb
  nt : tb ≠ kb
  nf : fb ≠ kb
  lt : db < w.heap.size ∧ tb < w.heap.size ∧ fb < w.heap.size ∧ mb < w.heap.size ∧ kb < w.heap.size
  ok : ∀ n v, M n = some v → OwnS w W0.heap.size v (shOf l n)
theorem AS.tch {W0 w w' : World} {l : List Res} {db tb fb mb kb : Nat} {T M : ByteArray → Option Value} {S : Nat → Prop} (h : AS W0 w l db tb fb mb kb T M) (t : Tch S w w') (h0 : ∀ k, S k → W0.heap.size ≤ k ∧ k ≠ db ∧ k ≠ tb ∧ k ≠ fb ∧ k ≠ mb ∧ k ≠ kb) (h1 : ∀ k, S k → ∀ n v, M n = some v → v.ownBlock ≠ some k) : AS W0 w' l db tb fb mb kb T M :=
  ⟨Tch.below h.bel t h.bel.size (fun k q => (h0 k q).1), h.le, t.cell_some h.cd (fun q => (h0 _ q).2.1 rfl), t.cell_some h.ct (fun q => (h0 _ q).2.2.1 rfl), t.cell_some h.cf (fun q => (h0 _ q).2.2.2.1 rfl), h.tg.tch t (fun q => (h0 _ q).2.2.2.2.1 rfl), h.dn.tch t (fun q => (h0 _ q).2.2.2.2.2 rfl), h.nm, h.nd, h.nt, h.nf,
    ⟨Nat.lt_of_lt_of_le h.lt.1 t.size, Nat.lt_of_lt_of_le h.lt.2.1 t.size, Nat.lt_of_lt_of_le h.lt.2.2.1 t.size, Nat.lt_of_lt_of_le h.lt.2.2.2.1 t.size, Nat.lt_of_lt_of_le h.lt.2.2.2.2 t.size⟩,
    fun n v hv => (h.ok n v hv).tch t (fun g hg q => h1 g q n v hv hg)⟩
theorem AS.below {W0 w w' : World} {l : List Res} {db tb fb mb kb : Nat} {T M : ByteArray → Option Value} (h : AS W0 w l db tb fb mb kb T M) (hb : Below w.heap.size w w') : AS W0 w' l db tb fb mb kb T M := h.tch (Tch.of_below (S := fun _ => False) hb) (fun _ q => q.elim) (fun _ q => q.elim)
theorem own_map {w : World} {B kb : Nat} {v : Value} {a : List Shr} {M : ByteArray → Option Value} (h : OwnS w B v a) (hm : MapS nameKey w kb M) : v.ownBlock ≠ some kb := fun q => by
  obtain ⟨es, clock, h1, _⟩ := hm
  rcases h.row.2 with ⟨rfl, _⟩ | ⟨g, cap, cur, rfl, _, hg, _⟩
  · cases q
  · simp only [Value.ownBlock, Option.some.injEq] at q
    subst q
    rw [hg] at h1; cases h1
theorem AS.put {W0 w w' : World} {l : List Res} {db tb fb mb kb : Nat} {T M : ByteArray → Option Value} (h : AS W0 w l db tb fb mb kb T M) {n : ByteArray} {v : Value} (hm : MapS nameKey w' kb (upd M n v)) (t : w.mapTurned w' kb) (hv : OwnS w W0.heap.size v (shOf l n)) : AS W0 w' l db tb fb mb kb T (upd M n v) := by
  have tt : Tch (fun k => k = kb) w w' := Tch.turned t rfl
  refine ⟨Tch.below h.bel tt h.bel.size (fun _ q => by rw [q]; exact h.le), h.le, tt.cell_some h.cd h.nd, tt.cell_some h.ct h.nt, tt.cell_some h.cf h.nf, h.tg.tch tt h.nm, hm, h.nm, h.nd, h.nt, h.nf,
    ⟨Nat.lt_of_lt_of_le h.lt.1 tt.size, Nat.lt_of_lt_of_le h.lt.2.1 tt.size, Nat.lt_of_lt_of_le h.lt.2.2.1 tt.size, Nat.lt_of_lt_of_le h.lt.2.2.2.1 tt.size, Nat.lt_of_lt_of_le h.lt.2.2.2.2 tt.size⟩, fun m u hu => ?_⟩
  unfold upd at hu
  split at hu
  · rename_i e
    cases hu
    rw [e]
    exact hv.tch tt (fun g hg q => own_map hv h.dn (by rw [hg, q]))
  · exact (h.ok m u hu).tch tt (fun g hg q => own_map (h.ok m u hu) h.dn (by rw [hg, q]))
/-- The targets that the map of splits has. -/
def TgtV (W0 : World) (l : List Res) (T : ByteArray → Option Value) : Prop := ∀ n, has l 2 n = true → ∃ ta tc, T n = some (.slice ta (tgtsOf l n).length tc) ∧ Rd.SliceOf tgtE W0 (.slice ta (tgtsOf l n).length tc) (tgtsOf l n)
/-- How a split's shares are answered. -/
def AllO (W0 w : World) (l : List Res) (db tb fb mb kb : Nat) (T M : ByteArray → Option Value) (n : ByteArray) (e : Ending) (w' : World) : Prop :=
  ∃ M' v', e = .returned v' ∧ M' n = some v' ∧ AS W0 w' l db tb fb mb kb T M' ∧ (∀ x v, M x = some v → M' x = some v) ∧ (∀ x v, M' x = some v → M x = some v ∨ ∀ g, v.ownBlock = some g → w.heap.size ≤ g) ∧ Tch (fun k => k = kb) w w'
/-- What holds while a split's shares are put together. -/
structure IS (W0 w wr : World) (l : List Res) (db tb fb mb kb : Nat) (T M M2 : ByteArray → Option Value) (lv : Value) (a : List Shr) : Prop where
  st : AS W0 wr l db tb fb mb kb T M2
  lt : db < w.heap.size ∧ tb < w.heap.size ∧ fb < w.heap.size ∧ mb < w.heap.size ∧ kb < w.heap.size
  own : OwnS wr W0.heap.size lv a
  fresh : ∀ g, lv.ownBlock = some g → w.heap.size ≤ g
  apart : ∀ x v, M2 x = some v → ∀ g, lv.ownBlock = some g → v.ownBlock ≠ some g
  ext : ∀ x v, M x = some v → M2 x = some v
  new : ∀ x v, M2 x = some v → M x = some v ∨ ∀ g, v.ownBlock = some g → w.heap.size ≤ g
  tch : Tch (fun k => k = kb) w wr
theorem IS.below {W0 w wr wx : World} {l : List Res} {db tb fb mb kb : Nat} {T M M2 : ByteArray → Option Value} {lv : Value} {a : List Shr} (h : IS W0 w wr l db tb fb mb kb T M M2 lv a) (hb : Below wr.heap.size wr wx) : IS W0 w wx l db tb fb mb kb T M M2 lv a :=
  ⟨h.st.below hb, h.lt, h.own.tch (Tch.of_below (S := fun _ => False) hb) (fun _ _ q => q), h.fresh, h.apart, h.ext, h.new, h.tch.trans (Tch.of_below (S := fun _ => False) hb) (fun _ q => q.elim)⟩
theorem IS.add {W0 w wr wx : World} {l : List Res} {db tb fb mb kb : Nat} {T M M2 : ByteArray → Option Value} {lv v' : Value} {a a' : List Shr} (h : IS W0 w wr l db tb fb mb kb T M M2 lv a) (hO : OwnS wx W0.heap.size v' a') (ht : Tch (fun k => lv.ownBlock = some k) wr wx) (hg : ∀ g, v'.ownBlock = some g → lv.ownBlock = some g ∨ wr.heap.size ≤ g) : IS W0 w wx l db tb fb mb kb T M M2 v' a' := by
  have hsz := h.tch.size
  refine ⟨h.st.tch ht (fun k q => ⟨(h.own.row.lt k q).1, ?_⟩) (fun k q n v hv => h.apart n v hv k q), h.lt, hO, fun g q => ?_, fun x v hv g q => ?_, h.ext, h.new, h.tch.trans ht (fun k q => .inr (h.fresh k q))⟩
  · have h1 := h.fresh k q
    obtain ⟨l1, l2, l3, l4, l5⟩ := h.lt
    exact ⟨by omega, by omega, by omega, by omega, by omega⟩
  · rcases hg g q with h1 | h1
    · exact h.fresh g h1
    · omega
  · rcases hg g q with h1 | h1
    · exact h.apart x v hv g h1
    · intro q2
      have := ((h.st.ok x v hv).row.lt g q2).2
      omega
theorem IS.call {W0 w wr wx : World} {l : List Res} {db tb fb mb kb : Nat} {T M M2 M3 : ByteArray → Option Value} {lv : Value} {a : List Shr} (h : IS W0 w wr l db tb fb mb kb T M M2 lv a) (hA : AS W0 wx l db tb fb mb kb T M3) (he : ∀ x v, M2 x = some v → M3 x = some v) (hn : ∀ x v, M3 x = some v → M2 x = some v ∨ ∀ g, v.ownBlock = some g → wr.heap.size ≤ g) (ht : Tch (fun k => k = kb) wr wx) : IS W0 w wx l db tb fb mb kb T M M3 lv a := by
  have hsz := h.tch.size
  refine ⟨hA, h.lt, h.own.tch ht (fun g hg q => own_map h.own h.st.dn (by rw [hg, q])), h.fresh, fun x v hv g q => ?_, fun x v hv => he x v (h.ext x v hv), fun x v hv => ?_, h.tch.trans ht (fun k q => .inl q)⟩
  · rcases hn x v hv with h1 | h1
    · exact h.apart x v h1 g q
    · intro q2
      have h2 := h1 g q2
      have h3 := (h.own.row.lt g q).2
      omega
  · rcases hn x v hv with h1 | h1
    · exact h.new x v h1
    · exact .inr (fun g q => Nat.le_trans hsz (h1 g q))
theorem addS_len (l : List Shr) (s : ByteArray) (x : Nat) : (addS l s x).length ≤ l.length + 1 := by
  induction l with
  | nil => exact Nat.le_refl _
  | cons y l ih =>
    unfold addS
    split
    · simp
    · simp only [List.length_cons]; omega
theorem addL_len (w : Nat) : ∀ (sub l : List Shr), (addL w l sub).length ≤ l.length + sub.length
  | [], l => by simp [addL]
  | s :: sub, l => by
    have h1 := addL_len w sub (addS l s.service (fmul w s.upto))
    have h2 := addS_len l s.service (fmul w s.upto)
    have e : addL w l (s :: sub) = addL w (addS l s.service (fmul w s.upto)) sub := rfl
    rw [e]
    simp only [List.length_cons]; omega
theorem all132 {W0 : World} {l : List Res} {db tb fb mb kb : Nat} {T : ByteArray → Option Value} (hC : Cfg l) (hT : TgtV W0 l T) :
    ∀ (r : Nat) (n : ByteArray) (w : World) (M : ByteArray → Option Value), known l r n ≠ 0 → AS W0 w l db tb fb mb kb T M → Calls Try.prog 132 #[.string n, .pointer (some ⟨db, 0, none⟩), .pointer (some ⟨tb, 0, none⟩), .pointer (some ⟨fb, 0, none⟩)] w (AllO W0 w l db tb fb mb kb T M n) := by
  intro r
  induction r with
  | zero => intro n w M h; exact absurd rfl h
  | succ r ih =>
    intro n w M hk hA
    have cd := hA.cd
    have ct := hA.ct
    have cf := hA.cf
    have hlk := hA.dn.look (t := 143) (e := 67) Try.underlying143 (z := .slice none 0 0) (by kernel_rfl) true n
    cases hM : M n with
    | some v =>
      replace hlk : (Instr.lookup 143 (.map (some kb)) (.string n) true).run Try.prog w = .ok (.tuple #[v, .bool true]) w := by rw [hM] at hlk; exact hlk
      have hout : AllO W0 w l db tb fb mb kb T M n (.returned v) w := ⟨M, v, rfl, hM, hA, fun _ _ h => h, fun _ _ h => .inl h, Tch.refl _ _⟩
      replace hA := Lib.hid hA
      replace hM := Lib.hid hM
      replace hk := Lib.hid hk
      replace hout := Lib.hid hout
      go_enter Try.func132, Try.ntmps132
      go_wp2
      go_ret
      exact hout.out
    | none =>
      replace hlk : (Instr.lookup 143 (.map (some kb)) (.string n) true).run Try.prog w = .ok (.tuple #[.slice none 0 0, .bool false]) w := by rw [hM] at hlk; exact hlk
      have hh := known_has hk
      obtain ⟨ta, tc, hTn, hts⟩ := hT n hh
      have hlt := hA.tg.look (t := 173) (e := 49) Try.underlying173 (z := .slice none 0 0) (by kernel_rfl) false n
      replace hlt : (Instr.lookup 173 (.map (some mb)) (.string n) false).run Try.prog w = .ok (.slice ta (tgtsOf l n).length tc) w := by rw [hTn] at hlt; exact hlt
      obtain ⟨ts, hTs⟩ : ∃ ts, ts = tgtsOf l n := ⟨_, rfl⟩
      rw [← hTs] at hTn hts hlt
      have htl := hts.1
      replace hA := Lib.hid hA
      replace hM := Lib.hid hM
      replace hk := Lib.hid hk
      replace hh := Lib.hid hh
      replace hTn := Lib.hid hTn
      replace hts := Lib.hid hts
      replace hTs := Lib.hid hTs
      go_enter Try.func132, Try.ntmps132
      have hIS0 : Hid (IS W0 w w l db tb fb mb kb T M M (.slice none 0 0) (shStep (shOf l) (ts.take 0))) := Lib.hid ⟨hA.out, hA.out.lt, ⟨World.ownsRow_nil _ _ _ _, (fun s hs => by cases hs)⟩, (fun g q => by cases q), (fun _ _ _ g q => by cases q), (fun _ _ h => h), (fun _ _ h => .inl h), Tch.refl _ _⟩
      obtain ⟨hof, hofl⟩ := hC.of hh.out
      rw [← hTs.out] at hof hofl
      replace hof := Lib.hid hof
      replace hofl := Lib.hid hofl
      go_wp2
      go_loopg [8, 26] (ts.length + 1) (fun gg lv ic wr => ∃ (i : Nat) (M2 : ByteArray → Option Value), gg = ts.length - i + 1 ∧ i ≤ ts.length ∧ ic = .int .i64 i ∧ Hid (IS W0 w wr l db tb fb mb kb T M M2 lv (shStep (shOf l) (ts.take i))))
      case atStart => exact ⟨0, M, rfl, Nat.zero_le _, rfl, hIS0⟩
      case round =>
        obtain ⟨i, M2, rfl, hi, rfl, hI⟩ := hrel
        obtain ⟨lo, lc, rfl⟩ := ownsRow_shape hI.out.own.row
        have hst := step_take hC hh.out i (by rw [← hTs.out]; exact hi)
        rw [← hTs.out] at hst
        obtain ⟨hbd, hap, hln⟩ := hst
        by_cases hltt : i < ts.length
        · obtain ⟨t, ht⟩ : ∃ t, ts[i]? = some t := ⟨_, List.getElem?_eq_getElem hltt⟩
          obtain ⟨rb, roff, rfl, _, e0, e1, e2, s0, s1, _⟩ := tgt_at hts.out hI.out.st.bel ht
          have hk0 : (i : Int) < (ts.length : Int) := nn_lt hltt
          have hwk := Lib.hid (nn_succ2 hltt htl)
          have hmem := List.mem_of_getElem? ht
          obtain ⟨ho1, ho2, ho3⟩ := hof.out t hmem
          obtain ⟨hd1, hd2⟩ := fdiv_ok ho2 ho3
          have hdv : ∀ w, (binOp .quo 55 (.float .f64 t.weight) (.float .f64 4636737291354636288)).run Try.prog w = .ok (.float .f64 (fdiv t.weight HUN)) w := run_div hd1
          have hsn := step_snoc (e := shOf l) ht
          unfold tgtS at hsn
          generalize hq : fdiv t.weight HUN = q at *
          obtain ⟨a, ha⟩ : ∃ a, a = shStep (shOf l) (ts.take i) := ⟨_, rfl⟩
          rw [← ha] at hsn hbd hap hln hI ⊢
          have hti : i + 1 ≤ 1048577 := by have := hofl.out; omega
          obtain ⟨wb, hwb⟩ : ∃ wb, wb = wr.alloc (.cells #[.string t.service, .string t.split, .float .f64 t.weight] 57) := ⟨_, rfl⟩
          obtain ⟨bk, hbk⟩ : ∃ bk, bk = wr.heap.size := ⟨_, rfl⟩
          have hbx : wb.heap[bk]? = some (.cells #[.string t.service, .string t.split, .float .f64 t.weight] 57) := by rw [hwb, hbk]; exact heap_alloc_new wr _
          have hba := alloc_below wr (.cells #[.string t.service, .string t.split, .float .f64 t.weight] 57)
          rw [← hwb] at hba
          have hI1 := Lib.hid (hI.out.below hba)
          have b0 := box_at hbx (j := 0) rfl
          have b1 := box_at hbx (j := 1) rfl
          have b2 := box_at hbx (j := 2) rfl
          have cf1 := hI1.out.st.cf
          cases hs : t.service.toList.isEmpty with
          | true =>
            rw [if_pos (show noS t.service = true from hs)] at hsn
            have hkid : known l r t.split ≠ 0 := by
              have h1 := hk.out
              rw [known_succ hh.out r, ← hTs.out] at h1
              exact (stepE_kid _ _ h1 t hmem hs).1
            have hcall := Lib.hid (ih t.split wb M2 hkid hI1.out.st)
            obtain ⟨sub, hsub⟩ : ∃ sub, sub = shOf l t.split := ⟨_, rfl⟩
            have hsb := shOf_bd hC t.split
            have hsa := shOf_apart l t.split
            have hsl := shOf_len hC t.split
            rw [← hsub] at hsb hsa hsl hsn
            have hB0 : Hid (∃ f, SubB 160 i 0 q a sub f) := Lib.hid ⟨_, SubB.zero hbd⟩
            have ha0 : Hid (a = addL q a (sub.take 0)) := Lib.hid (by rw [List.take_zero]; rfl)
            replace hsn := Lib.hid hsn
            replace hbd := Lib.hid hbd
            replace hap := Lib.hid hap
            replace ha := Lib.hid ha
            replace hbx := Lib.hid hbx
            replace hba := Lib.hid hba
            replace ho1 := Lib.hid ho1
            replace ho2 := Lib.hid ho2
            replace ho3 := Lib.hid ho3
            replace hd1 := Lib.hid hd1
            replace hd2 := Lib.hid hd2
            replace ht := Lib.hid ht
            replace hmem := Lib.hid hmem
            replace hq := Lib.hid hq
            replace hkid := Lib.hid hkid
            replace hsub := Lib.hid hsub
            replace hsb := Lib.hid hsb
            replace hsa := Lib.hid hsa
            go_upto_region 8 with fail
            rw [← hwb, ← hbk]
            replace hwb := Lib.hid hwb
            replace hbk := Lib.hid hbk
            clear e0 e1 e2
            go_upto_region 12 with (first
              | (go_at_call 132; (with_reducible refine hcall.out.mono ?_); rintro e w3 ⟨M3, v3, rfl, hv3, hA3, he3, hn3, ht3⟩; have hI3 := Lib.hid (hI1.out.call hA3 he3 hn3 ht3); have hO3 := hA3.ok _ _ hv3; rw [← hsub.out] at hO3; obtain ⟨so, sc, rfl⟩ := ownsRow_shape hO3.row; replace hv3 := Lib.hid hv3; clear hA3 he3 hn3 ht3 hO3)
              | fail)
            go_loopg [8, 46] (sub.length + 1) (fun gg lv jc wx => ∃ (j : Nat) (a' : List Shr), gg = sub.length - j + 1 ∧ j ≤ sub.length ∧ jc = .int .i64 j ∧ Hid (a' = addL q a (sub.take j)) ∧ Hid (∃ f, SubB 160 i j q a sub f) ∧ Hid (IS W0 w wx l db tb fb mb kb T M M3 lv a'))
            case atStart => exact ⟨0, a, rfl, Nat.zero_le _, rfl, ha0, hB0, hI3⟩
            case round =>
              obtain ⟨j, a', rfl, hj, rfl, ha', hB, hJ⟩ := hrel
              obtain ⟨jo, jc, rfl⟩ := ownsRow_shape hJ.out.own.row
              have hal : a'.length ≤ 128 := by
                have h1 := addL_len q (sub.take j) a
                rw [← ha'.out, List.length_take] at h1
                omega
              by_cases hjl : j < sub.length
              · obtain ⟨x, hx⟩ : ∃ x, sub[j]? = some x := ⟨_, List.getElem?_eq_getElem hjl⟩
                have hso := hJ.out.st.ok _ _ hv3.out
                rw [← hsub.out] at hso
                obtain ⟨sg, hsg, _, _, x0, _⟩ := ownsRow_cell hso.row (flat_at hx).1
                subst hsg
                obtain ⟨sg', hsg', _, _, x1, _⟩ := ownsRow_cell hso.row (flat_at hx).2
                simp only [Option.some.injEq, Addr.mk.injEq, and_true] at hsg'
                subst hsg'
                obtain ⟨xs, xu⟩ := hso.ok x (List.mem_of_getElem? hx)
                have j0 : (j : Int) < (sub.length : Int) := nn_lt hjl
                have jwk := Lib.hid (nn_succ2 hjl (by omega))
                obtain ⟨hm1, hm2⟩ := fmul_ok (k := 160) hd2.out (hsb.out x (List.mem_of_getElem? hx)) (by omega)
                have hmul := run_mul hm1
                obtain ⟨f, hf⟩ := hB.out
                have hB1 : Hid (∃ f, SubB 160 i (j + 1) q a sub f) := Lib.hid ⟨_, hf.succ hsa.out hx hm2 (by omega) (by omega)⟩
                have ha1 := addL_snoc (w := q) (l := a) hx
                rw [← ha'.out] at ha1
                have h0 := hf.rest j x (Nat.le_refl _) hx
                have hadd : ∀ y ∈ a', y.service = x.service → dbl.add y.upto (fmul q x.upto) = some (fadd y.upto (fmul q x.upto)) ∧ fadd y.upto (fmul q x.upto) ≤ INF := fun y hy he => by
                  have hb := hf.bd y (by rw [← ha'.out]; exact hy)
                  rw [he] at hb
                  have hh := fadd_ok (j := f x.service) (k := 160) hb hm2 (by omega) (by omega)
                  exact ⟨hh.1, Nat.le_trans hh.2 (D_le _ _)⟩
                have hz0 := fadd_ok (a := 0) (j := 0) (k := 160) (Nat.zero_le _) hm2 (by omega) (by omega)
                generalize hfm : fmul q x.upto = u at *
                obtain ⟨wy, hwy⟩ : ∃ wy, wy = wr.alloc (.cells #[.string x.service, .float .f64 x.upto] 73) := ⟨_, rfl⟩
                obtain ⟨bz, hbz⟩ : ∃ bz, bz = wr.heap.size := ⟨_, rfl⟩
                have hbxy : wy.heap[bz]? = some (.cells #[.string x.service, .float .f64 x.upto] 73) := by rw [hwy, hbz]; exact heap_alloc_new wr _
                have hbay := alloc_below wr (.cells #[.string x.service, .float .f64 x.upto] 73)
                rw [← hwy] at hbay
                have hJ1 := Lib.hid (hJ.out.below hbay)
                have y0 := box_at hbxy (j := 0) rfl
                have y1 := box_at hbxy (j := 1) rfl
                have hcallx := Lib.hid (add133 a' (.slice jo a'.length jc) W0.heap.size wy x.service u hJ1.out.own (by omega) xs hJ1.out.st.bel.size hadd ⟨hz0.1, Nat.le_trans hz0.2 (D_le _ _)⟩)
                replace hx := Lib.hid hx
                replace hso := Lib.hid hso
                replace hm1 := Lib.hid hm1
                replace hm2 := Lib.hid hm2
                replace hf := Lib.hid hf
                replace hB := Lib.hid hB
                replace ha1 := Lib.hid ha1
                replace h0 := Lib.hid h0
                replace hadd := Lib.hid hadd
                replace hz0 := Lib.hid hz0
                replace hbxy := Lib.hid hbxy
                replace hbay := Lib.hid hbay
                replace hfm := Lib.hid hfm
                replace xs := Lib.hid xs
                replace xu := Lib.hid xu
                go_upto_region 14 with fail
                rw [← hwy, ← hbz]
                replace hwy := Lib.hid hwy
                replace hbz := Lib.hid hbz
                clear x0 x1
                go_wp2_with (first
                  | (go_at_call 133; (with_reducible refine hcallx.out.mono ?_); rintro e w4 ⟨v4, rfl, hO4, ht4, hg4⟩; have hJ4 := Lib.hid (hJ1.out.add hO4 ht4 hg4); clear hO4 ht4 hg4)
                  | fail)
                go_roundg (sub.length - (j + 1) + 1)
                case rel => exact ⟨j + 1, addS a' x.service u, rfl, hjl, by first | rw [jwk.out] | go_num, Lib.hid ha1.out.symm, hB1, hJ4⟩
                case measure => exact nn_downS hjl
              · have j0 : decide ((j : Int) < (sub.length : Int)) = false := decide_eq_false (by omega)
                have j1 : ¬ (j : Int) < (sub.length : Int) := by omega
                have haf : a' = shStep (shOf l) (ts.take (i + 1)) := by rw [ha'.out, List.take_of_length_le (by omega), hsn.out]
                replace haf := Lib.hid haf
                go_wp2
                go_roundg (ts.length - (i + 1) + 1)
                case rel => exact ⟨i + 1, M3, rfl, hltt, by first | rw [hwk.out] | go_num, by rw [← haf.out]; exact hJ⟩
                case measure => exact nn_downS hltt
          | false =>
            rw [if_neg (by unfold noS; rw [hs]; simp)] at hsn
            have hcall := Lib.hid (add133 a (.slice lo a.length lc) W0.heap.size wb t.service q hI1.out.own (by omega) s0 hI1.out.st.bel.size (fun y hy _ => ⟨(fadd_ok (j := i) (k := 160) (hbd y hy) (hd2.up (Nat.zero_le _)) (by omega) (by omega)).1, Nat.le_trans (fadd_ok (j := i) (k := 160) (hbd y hy) (hd2.up (Nat.zero_le _)) (by omega) (by omega)).2 (D_le _ _)⟩) ⟨(fadd_ok (j := 0) (k := 160) (Nat.zero_le _) (hd2.up (Nat.zero_le _)) (by omega) (by omega)).1, Nat.le_trans (fadd_ok (j := 0) (k := 160) (Nat.zero_le _) (hd2.up (Nat.zero_le _)) (by omega) (by omega)).2 (D_le _ _)⟩)
            replace hsn := Lib.hid hsn
            replace hbd := Lib.hid hbd
            replace hap := Lib.hid hap
            replace hln := Lib.hid hln
            replace ha := Lib.hid ha
            replace hbx := Lib.hid hbx
            replace hba := Lib.hid hba
            replace ho1 := Lib.hid ho1
            replace ho2 := Lib.hid ho2
            replace ho3 := Lib.hid ho3
            replace hd1 := Lib.hid hd1
            replace hd2 := Lib.hid hd2
            replace ht := Lib.hid ht
            replace hmem := Lib.hid hmem
            replace hq := Lib.hid hq
            go_upto_region 8 with fail
            rw [← hwb, ← hbk]
            replace hwb := Lib.hid hwb
            replace hbk := Lib.hid hbk
            clear e0 e1 e2
            go_wp2_with (first
              | (go_at_call 133; (with_reducible refine hcall.out.mono ?_); rintro e w3 ⟨v3, rfl, hO3, ht3, hg3⟩; have hI3 := Lib.hid (hI1.out.add hO3 ht3 hg3); clear hO3 ht3 hg3)
              | fail)
            go_roundg (ts.length - (i + 1) + 1)
            case rel => exact ⟨i + 1, M2, rfl, hltt, by first | rw [hwk.out] | go_num, by rw [hsn.out]; exact hI3⟩
            case measure => exact nn_downS hltt
        · have hk0 : decide ((i : Int) < (ts.length : Int)) = false := decide_eq_false (by omega)
          have hk1 : ¬ (i : Int) < (ts.length : Int) := by omega
          have hfin : shStep (shOf l) (ts.take i) = shOf l n := by rw [List.take_of_length_le (by omega), hTs.out, shOf_eq (hC.known hh.out)]
          rw [hfin] at hI ⊢
          have cd2 := hI.out.st.cd
          have hdn := Lib.hid hI.out.st.dn
          replace hfin := Lib.hid hfin
          replace hbd := Lib.hid hbd
          replace hap := Lib.hid hap
          replace hln := Lib.hid hln
          have hne : ∀ x v, M x = some v → x ≠ n := fun x v hx e => by rw [e, hM.out] at hx; cases hx
          replace hne := Lib.hid hne
          go_wp2_with (first
            | (at_mapUpdate; go_loud (refine wp_store rfl _ _ _ 143 rfl nameKey 67 Try.underlying143 kb M2 n (.slice lo (shOf l n).length lc) rfl hdn.out rfl rfl ?_); intro w4 hm4 ht4; have hA4 := Lib.hid (hI.out.st.put hm4 ht4 hI.out.own); have t4 := Lib.hid (hI.out.tch.trans (Tch.turned (S := fun k => k = kb) ht4 rfl) (fun k q => .inl q)); clear hm4 ht4)
            | fail)
          go_ret
          refine ⟨upd M2 n (.slice lo (shOf l n).length lc), _, rfl, upd_same _ _ _, hA4.out, fun x v hx => ?_, fun x v hx => ?_, t4.out⟩
          · rw [upd_other _ _ (hne.out x v hx)]; exact hI.out.ext x v hx
          · unfold upd at hx
            split at hx
            · cases hx; exact .inr hI.out.fresh
            · exact hI.out.new x v hx
end Go.Proofs.Ytjepgpocmnijiaa
end

section
/- The resources of a kind: named. -/
namespace Go.Proofs.Ytjepgpocmnijiaa
open Go.RowKit Go.Mp Go.Ck
set_option linter.unusedVariables false
set_option maxRecDepth 100000
set_option maxHeartbeats 4000000
def kindP (k : Int) (r : Res) : Bool := r.kind == k
def NamedO (w0 w : World) (l : List Res) (k : Int) (e : Ending) (w' : World) : Prop := ∃ o c, ∃ L : List Rw, e = .returned (.slice o L.length c) ∧ L.map Rw.r = l.filter (kindP k) ∧ w'.ownsRow w.heap.size 52 8 (.slice o L.length c) L.length (L.flatMap Rw.cells) ∧ (∀ x ∈ L, Rw.P w0 x) ∧ Below w.heap.size w w'
theorem filter_take {l : List Res} {i : Nat} {r : Res} (h : l[i]? = some r) (p : Res → Bool) : (l.take (i + 1)).filter p = (l.take i).filter p ++ (if p r = true then [r] else []) := by
  have hi := (List.getElem?_eq_some_iff.1 h).1
  rw [List.take_succ_eq_append_getElem hi, List.filter_append, (List.getElem?_eq_some_iff.1 h).2, List.filter_cons]
  rfl
theorem named92 (l : List Res) (k : Int) (v : Value) (w0 w : World) (hl : ResS w0 v l) (hM : SzL l) (hb : Below w0.heap.size w0 w) : Calls Try.prog 92 #[v, .int .i64 k] w (NamedO w0 w l k) := by
  obtain ⟨R, hR, hS, hP⟩ := lies hl
  obtain ⟨ao, cap, rfl⟩ := slice_shape hl
  have hlen := hl.1
  have hRl : R.length = l.length := by rw [← hR, List.length_map]
  obtain ⟨i52, h52, h520, h521, h522⟩ := info_parts info52
  have hr0 := Lib.hid (World.ownsRow_nil w w.heap.size 52 8)
  replace hl := Lib.hid hl
  replace hM := Lib.hid hM
  replace hb := Lib.hid hb
  replace hR := Lib.hid hR
  replace hS := Lib.hid hS
  replace hP := Lib.hid hP
  replace h52 := Lib.hid h52
  replace h520 := Lib.hid h520
  replace h521 := Lib.hid h521
  replace h522 := Lib.hid h522
  go_enter Try.func92, Try.ntmps92
  go_wp2
  go_loopg [5, 10] (l.length + 1) (fun gg ov ic wr => ∃ (i : Nat) (L : List Rw), gg = l.length - i + 1 ∧ i ≤ l.length ∧ ic = .int .i64 i ∧ Hid (L.map Rw.r = (l.take i).filter (kindP k)) ∧ Hid (wr.ownsRow w.heap.size 52 8 ov L.length (L.flatMap Rw.cells)) ∧ Hid (∀ x ∈ L, Rw.P w0 x) ∧ Hid (Below w.heap.size w wr))
  case atStart => exact ⟨0, [], rfl, Nat.zero_le _, rfl, Lib.hid (by simp), hr0, Lib.hid (fun x hx => by cases hx), Lib.hid (Below.refl _ _)⟩
  case round =>
    obtain ⟨i, L, rfl, hi, rfl, hL, hrow, hLP, hbw⟩ := hrel
    obtain ⟨oo, oc, rfl⟩ := ownsRow_shape hrow.out
    have hLn : L.length ≤ i := by
      have := congrArg List.length hL.out
      rw [List.length_map] at this
      rw [this]
      exact Nat.le_trans (List.length_filter_le _ _) (by rw [List.length_take]; omega)
    by_cases hlt : i < l.length
    · obtain ⟨x, hx⟩ : ∃ x, R[i]? = some x := ⟨_, List.getElem?_eq_getElem (by omega)⟩
      have hxr : l[i]? = some x.r := by rw [← hR.out, List.getElem?_map, hx]; rfl
      obtain ⟨b0, off, rfl, hbl, hc⟩ := at_i hS.out (seq_below hb.out hbw.out) hx
      have c0 : wr.cell? ⟨b0, off + i * 8, none⟩ = some (.int .i64 x.r.kind) := hc 0 _ rfl
      have c1 : wr.cell? ⟨b0, off + i * 8 + 1, none⟩ = some (.string x.r.name) := hc 1 _ rfl
      have c2 : wr.cell? ⟨b0, off + i * 8 + 2, none⟩ = some (.slice x.eo x.r.eps.length x.ec) := hc 2 _ rfl
      have c3 : wr.cell? ⟨b0, off + i * 8 + 3, none⟩ = some (.slice x.ta x.r.tgts.length x.tc) := hc 3 _ rfl
      have c4 : wr.cell? ⟨b0, off + i * 8 + 4, none⟩ = some (.string x.r.host) := hc 4 _ rfl
      have c5 : wr.cell? ⟨b0, off + i * 8 + 5, none⟩ = some (.slice x.ra x.r.rules.length x.rc) := hc 5 _ rfl
      have c6 : wr.cell? ⟨b0, off + i * 8 + 6, none⟩ = some (.string x.r.route) := hc 6 _ rfl
      have c7 : wr.cell? ⟨b0, off + i * 8 + 7, none⟩ = some (.bool x.r.del) := hc 7 _ rfl
      have hk0 : (i : Int) < (l.length : Int) := nn_lt hlt
      have hwk := Lib.hid (nn_succ2 hlt hlen)
      have htk := filter_take hxr (kindP k)
      obtain ⟨wb, hwb⟩ : ∃ wb, wb = wr.alloc (.cells #[.int .i64 x.r.kind, .string x.r.name, .slice x.eo x.r.eps.length x.ec, .slice x.ta x.r.tgts.length x.tc, .string x.r.host, .slice x.ra x.r.rules.length x.rc, .string x.r.route, .bool x.r.del] 52) := ⟨_, rfl⟩
      obtain ⟨bk, hbk⟩ : ∃ bk, bk = wr.heap.size := ⟨_, rfl⟩
      have hbx : wb.heap[bk]? = some (.cells #[.int .i64 x.r.kind, .string x.r.name, .slice x.eo x.r.eps.length x.ec, .slice x.ta x.r.tgts.length x.tc, .string x.r.host, .slice x.ra x.r.rules.length x.rc, .string x.r.route, .bool x.r.del] 52) := by rw [hwb, hbk]; exact heap_alloc_new wr _
      have hba := Lib.hid (alloc_below wr (.cells #[.int .i64 x.r.kind, .string x.r.name, .slice x.eo x.r.eps.length x.ec, .slice x.ta x.r.tgts.length x.tc, .string x.r.host, .slice x.ra x.r.rules.length x.rc, .string x.r.route, .bool x.r.del] 52))
      rw [← hwb] at hba
      have hrow1 := Lib.hid (ownsRow_tch hrow.out (Tch.of_below (S := No) hba.out) (fun _ _ q => q))
      have hbw1 := Lib.hid (seq_below hbw.out hba.out)
      have hlim := Lib.hid hM.out.n
      have bx0 := box_at hbx (j := 0) rfl
      have b1 := box_at hbx (j := 1) rfl
      have b2 := box_at hbx (j := 2) rfl
      have b3 := box_at hbx (j := 3) rfl
      have b4 := box_at hbx (j := 4) rfl
      have b5 := box_at hbx (j := 5) rfl
      have b6 := box_at hbx (j := 6) rfl
      have b7 := box_at hbx (j := 7) rfl
      obtain ⟨kb, hkb⟩ : ∃ b, kindP k x.r = b := ⟨_, rfl⟩
      rw [hkb] at htk
      have hkb' : (x.r.kind == k) = kb := hkb
      cases kb with
      | true =>
        have hrow2 := Lib.hid (hrow1.out.alloc (.cells #[.int .i64 x.r.kind, .string x.r.name, .slice x.eo x.r.eps.length x.ec, .slice x.ta x.r.tgts.length x.tc, .string x.r.host, .slice x.ra x.r.rules.length x.rc, .string x.r.route, .bool x.r.del] 52))
        have hn2 := Lib.hid (new_cells wb x.cells 52)
        have hB2 := Lib.hid (show w.heap.size ≤ (wb.alloc (.cells x.cells.toArray 52)).heap.size from Nat.le_trans hbw1.out.size (by simp))
        replace hx := Lib.hid hx
        replace hxr := Lib.hid hxr
        replace hc := Lib.hid hc
        replace hkb := Lib.hid hkb
        replace htk := Lib.hid htk
        replace hbx := Lib.hid hbx
        go_upto_region 5 with fail
        rw [← hwb, ← hbk]
        replace hwb := Lib.hid hwb
        replace hbk := Lib.hid hbk
        clear c0 c1 c2 c3 c4 c5 c6 c7
        go_wp2_with (first
          | (at_builtin; go_loud (refine wp_append_lit (by rfl) _ _ 22 (by rfl) w.heap.size 52 i52 _ 8 136 Try.underlying22 h52.out h520.out h521.out h522.out rfl (by decide) _ L.length (L.flatMap Rw.cells) (by rfl) hrow2.out ⟨wb.heap.size, 0, none⟩ 1 _ x.cells (by rfl) rfl hn2.out (fun u hu => rwC.one x u hu) (by unfold maxLen; omega) (by have := hlim.out; omega) hB2.out ?_); intro v3 w3 hr3 hg3 hl3; have hr3' := Lib.hid hr3; obtain ⟨o3, c3', rfl⟩ := ownsRow_shape hr3; replace hg3 := Lib.hid hg3; replace hl3 := Lib.hid hl3; clear hr3)
          | fail)
        go_roundg (l.length - (i + 1) + 1)
        case rel =>
          refine ⟨i + 1, L ++ [x], rfl, hlt, by first | rw [hwk.out] | go_num, Lib.hid (by rw [List.map_append, hL.out, htk.out]; rfl), Lib.hid (by rw [List.length_append, List.flatMap_append]; simpa using hr3'.out), Lib.hid (fun y hy => ?_), Lib.hid ?_⟩
          · rcases List.mem_append.1 hy with q | q
            · exact hLP.out y q
            · rw [List.mem_singleton.1 q]; exact hP.out x (List.mem_of_getElem? hx.out)
          · exact (seq_below hbw1.out (alloc_below wb (.cells x.cells.toArray 52))).grown hg3.out hB2.out (fun q hq => (hrow.out.lt q hq).1)
        case measure => exact nn_downS hlt
      | false =>
        replace hx := Lib.hid hx
        replace hxr := Lib.hid hxr
        replace hc := Lib.hid hc
        replace hkb := Lib.hid hkb
        replace htk := Lib.hid htk
        replace hbx := Lib.hid hbx
        go_upto_region 5 with fail
        rw [← hwb, ← hbk]
        replace hwb := Lib.hid hwb
        replace hbk := Lib.hid hbk
        clear c0 c1 c2 c3 c4 c5 c6 c7
        go_wp2
        go_roundg (l.length - (i + 1) + 1)
        case rel => exact ⟨i + 1, L, rfl, hlt, by first | rw [hwk.out] | go_num, Lib.hid (by rw [hL.out, htk.out]; simp), hrow1, hLP, hbw1⟩
        case measure => exact nn_downS hlt
    · have hk0 : decide ((i : Int) < (l.length : Int)) = false := decide_eq_false (by omega)
      have hk1 : ¬ (i : Int) < (l.length : Int) := by omega
      have hie : i = l.length := by omega
      have hLf : L.map Rw.r = l.filter (kindP k) := by rw [hL.out, hie, List.take_length]
      replace hie := Lib.hid hie
      replace hLf := Lib.hid hLf
      go_wp2
      go_ret
      exact ⟨_, _, L, rfl, hLf.out, hrow.out, hLP.out, hbw.out⟩
end Go.Proofs.Ytjepgpocmnijiaa
end

section
/- The shares of all splits: the program's all. -/
namespace Go.Proofs.Ytjepgpocmnijiaa
open Go.RowKit Go.Mp Go.Ck Fl
set_option linter.unusedVariables false
set_option maxRecDepth 100000
set_option maxHeartbeats 4000000
def tupd (T : ByteArray → Option Value) (x : Rw) : ByteArray → Option Value := upd T x.r.name (.slice x.ta x.r.tgts.length x.tc)
def tmap (L : List Rw) : ByteArray → Option Value := L.foldl tupd (fun _ => none)
theorem tmap_snoc {L : List Rw} {i : Nat} {x : Rw} (h : L[i]? = some x) : tmap (L.take (i + 1)) = tupd (tmap (L.take i)) x := by
  unfold tmap
  have hi := (List.getElem?_eq_some_iff.1 h).1
  rw [List.take_succ_eq_append_getElem hi, List.foldl_append, (List.getElem?_eq_some_iff.1 h).2]; rfl
theorem tfold_some : ∀ (L : List Rw) (T : ByteArray → Option Value) (n : ByteArray) (v : Value), (L.foldl tupd T) n = some v → T n = some v ∨ ∃ x ∈ L, x.r.name = n ∧ v = .slice x.ta x.r.tgts.length x.tc
  | [], T, n, v, h => .inl h
  | x :: L, T, n, v, h => by
    rcases tfold_some L (tupd T x) n v h with h1 | ⟨y, hy, h1, h2⟩
    · unfold tupd upd at h1
      split at h1
      · rename_i e
        cases h1
        exact .inr ⟨x, .head _, e.symm, rfl⟩
      · exact .inl h1
    · exact .inr ⟨y, .tail _ hy, h1, h2⟩
theorem tfold_has : ∀ (L : List Rw) (T : ByteArray → Option Value) (n : ByteArray), (T n ≠ none ∨ ∃ x ∈ L, x.r.name = n) → (L.foldl tupd T) n ≠ none
  | [], T, n, h => by
    rcases h with h | ⟨x, hx, _⟩
    · exact h
    · cases hx
  | x :: L, T, n, h => by
    refine tfold_has L (tupd T x) n ?_
    by_cases e : n = x.r.name
    · left
      unfold tupd upd
      rw [if_pos e]; simp
    · rcases h with h | ⟨y, hy, h1⟩
      · left
        unfold tupd upd
        rw [if_neg e]; exact h
      · rcases List.mem_cons.1 hy with rfl | hy
        · exact absurd h1.symm e
        · exact .inr ⟨y, hy, h1⟩
theorem srt_one {l : List Res} (h : Srt l) {a b : Res} (ha : a ∈ l) (hb : b ∈ l) (e : rk a = rk b) : a = b := by
  have h1 := h.fnd_mem ha
  have h2 := h.fnd_mem hb
  rw [e, h2] at h1
  exact (Option.some.inj h1).symm
theorem tgtV_of {w : World} {l : List Res} {L : List Rw} (hC : Cfg l) (hL : L.map Rw.r = l.filter (kindP 2)) (hP : ∀ x ∈ L, Rw.P w x) : TgtV w l (tmap L) := fun n hn => by
  obtain ⟨r, _, hr, hk, he, ht⟩ := find_split hn
  have hm : r ∈ L.map Rw.r := by
    rw [hL]
    exact List.mem_filter.2 ⟨hr, by unfold kindP; rw [hk]; rfl⟩
  obtain ⟨x, hx, hxr⟩ := List.mem_map.1 hm
  have h1 : tmap L n ≠ none := tfold_has L _ n (.inr ⟨x, hx, by rw [hxr]; exact he⟩)
  cases hv : tmap L n with
  | none => exact absurd hv h1
  | some v =>
    rcases tfold_some L _ n v hv with q | ⟨y, hy, h2, h3⟩
    · cases q
    · have hyl : y.r ∈ l.filter (kindP 2) := by rw [← hL]; exact List.mem_map.2 ⟨y, hy, rfl⟩
      obtain ⟨hyl, hyk⟩ := List.mem_filter.1 hyl
      have hyk2 : y.r.kind = 2 := by unfold kindP at hyk; simpa using hyk
      have hyr : y.r = r := srt_one (srt_of_ord (ord_of hC.out)) hyl hr (Prod.ext (hyk2.trans hk.symm) (h2.trans he.symm))
      rw [h3, ht, ← hyr]
      exact ⟨_, _, rfl, (hP y hy).t⟩
theorem tmap_key {l : List Res} {L : List Rw} (hL : L.map Rw.r = l.filter (kindP 2)) {n : ByteArray} {v : Value} (h : tmap L n = some v) : has l 2 n = true := by
  rcases tfold_some L _ n v h with q | ⟨y, hy, h2, h3⟩
  · cases q
  · have hyl : y.r ∈ l.filter (kindP 2) := by rw [← hL]; exact List.mem_map.2 ⟨y, hy, rfl⟩
    obtain ⟨hyl, hyk⟩ := List.mem_filter.1 hyl
    unfold kindP at hyk
    exact has_iff.2 ⟨y.r, hyl, by simpa using hyk, h2⟩
/-- Behind the call of a key of the range. -/
theorem rl_keep {w w' : World} {mb ik kb : Nat} {T : ByteArray → Option Value} {left : ByteArray → Prop} (h : RangeS nameKey w mb ik T left) (t : Tch (fun k => k = kb) w w') (h1 : mb ≠ kb) (h2 : ik ≠ kb) : RangeS nameKey w' mb ik T left ∧ w'.rangeLeft mb ik = w.rangeLeft mb ik := by
  have k1 := t.block mb h.map.lt h1
  have k2 := t.block ik h.rlt h2
  exact ⟨h.keep k1 k2, by unfold World.rangeLeft; rw [k1, k2]⟩
theorem own_iter {w : World} {B mb ik : Nat} {v : Value} {a : List Shr} {T : ByteArray → Option Value} {left : ByteArray → Prop} (h : OwnS w B v a) (hr : RangeS nameKey w mb ik T left) : v.ownBlock ≠ some ik := fun q => by
  obtain ⟨_, es, clock, since, seen, c0, _, _, h1, _⟩ := hr
  rcases h.row.2 with ⟨rfl, _⟩ | ⟨g, cap, cur, rfl, _, hg, _⟩
  · cases q
  · simp only [Value.ownBlock, Option.some.injEq] at q
    subst q
    rw [hg] at h1; cases h1
theorem boxes_laid (wr : World) : ∃ wZ kb db fb, wZ = ((wr.alloc (.map #[] 0)).alloc (.cells #[.map (some wr.heap.size)] 143)).alloc (.cells #[Value.nilFunc] 174) ∧ kb = wr.heap.size ∧ db = wr.heap.size + 1 ∧ fb = wr.heap.size + 1 + 1 ∧ Below wr.heap.size wr wZ ∧ MapS nameKey wZ kb (fun _ => none) ∧ wZ.cell? ⟨db, 0, none⟩ = some (.map (some kb)) ∧ wZ.heap[fb]? = some (.cells #[Value.nilFunc] 174 (0, 0)) ∧ fb < wZ.heap.size := by
  refine ⟨_, _, _, _, rfl, rfl, rfl, rfl, seq_below (seq_below (alloc_below wr _) (alloc_below _ _)) (alloc_below _ _), ((MapS.made nameKey wr).tch (Tch.alloc No _ _) id).tch (Tch.alloc No _ _) id, ?_, ?_, by simp⟩
  · have e : (wr.alloc (.map #[] 0)).heap.size = wr.heap.size + 1 := by simp
    have h1 := (cell_of_row _ _ 0 _ _ _ (heap_alloc_new (wr.alloc (.map #[] 0)) (.cells #[.map (some wr.heap.size)] 143))).trans rfl
    rw [e] at h1
    exact ((alloc_below _ _).cell (p := ⟨wr.heap.size + 1, 0, none⟩) (by simp)).trans h1
  · have e : ((wr.alloc (.map #[] 0)).alloc (.cells #[.map (some wr.heap.size)] 143)).heap.size = wr.heap.size + 1 + 1 := by simp
    have h1 := heap_alloc_new ((wr.alloc (.map #[] 0)).alloc (.cells #[.map (some wr.heap.size)] 143)) (.cells #[Value.nilFunc] 174)
    rw [e] at h1
    exact h1
/-- What all answers. -/
def All95 (w : World) (l : List Res) (e : Ending) (w' : World) : Prop := ∃ kb M, e = .returned (.map (some kb)) ∧ MapS nameKey w' kb M ∧ (∀ n, has l 2 n = true → ∃ v, M n = some v) ∧ (∀ n v, M n = some v → OwnS w' w.heap.size v (shOf l n)) ∧ Below w.heap.size w w'
theorem all95 (l : List Res) (v : Value) (w : World) (hl : ResS w v l) (hM : SzL l) (hC : Cfg l) : Calls Try.prog 95 #[v] w (All95 w l) := by
  obtain ⟨ao, cap, rfl⟩ := slice_shape hl
  have hlen := hl.1
  have hK92 : ∀ w', Below w.heap.size w w' → Calls Try.prog 92 #[.slice ao l.length cap, .int .i64 2] w' (NamedO w w' l 2) := fun w' hb => named92 l 2 _ w w' hl hM hb
  replace hl := Lib.hid hl
  replace hM := Lib.hid hM
  replace hK92 := Lib.hid hK92
  go_enter Try.func95, Try.ntmps95
  have hmm := @run_makeMap Try.prog
  go_upto_region 2 with fail
  obtain ⟨w2, hw2⟩ : ∃ w2, w2 = (w.alloc (.map #[] 0)).alloc (.cells #[.map (some w.heap.size)] 173) := ⟨_, rfl⟩
  obtain ⟨mb, hmb⟩ : ∃ mb, mb = w.heap.size := ⟨_, rfl⟩
  obtain ⟨tb, htb⟩ : ∃ tb, tb = w.heap.size + 1 := ⟨_, rfl⟩
  have hb02 := seq_below (alloc_below w (.map #[] 0)) (alloc_below (w.alloc (.map #[] 0)) (.cells #[.map (some w.heap.size)] 173))
  have hm2 : MapS nameKey w2 mb (tmap (([] : List Rw).take 0)) := by
    rw [hw2, hmb]
    exact (MapS.made nameKey w).tch (Tch.alloc No _ _) id
  have ct2 : w2.cell? ⟨tb, 0, none⟩ = some (.map (some mb)) := by
    have e : (w.alloc (.map #[] 0)).heap.size = w.heap.size + 1 := by simp
    rw [hw2, htb, hmb, ← e]
    exact (cell_of_row _ _ 0 _ _ _ (heap_alloc_new (w.alloc (.map #[] 0)) (.cells #[.map (some w.heap.size)] 173))).trans rfl
  have htl2 : tb < w2.heap.size := by rw [hw2, htb]; simp
  have hmt : mb < tb := by rw [hmb, htb]; omega
  rw [← hw2] at hb02
  rw [← hw2, ← htb, ← hmb]
  replace hw2 := Lib.hid hw2
  replace hb02 := Lib.hid hb02
  replace hm2 := Lib.hid hm2
  replace hmb := Lib.hid hmb
  replace htb := Lib.hid htb
  go_upto_region 3 with (first
    | (go_at_call 92; (with_reducible refine (hK92.out _ hb02.out).mono ?_); rintro e wN ⟨No, Nc, L, rfl, hLr, hLrow, hLP, hbN⟩; have ctN := (hbN.cell (p := ⟨tb, 0, none⟩) htl2).trans ct2; have hmN := Lib.hid (hm2.out.tch (Tch.of_below (S := fun _ => False) hbN) id); have hb0N := Lib.hid (seq_below hb02.out hbN); replace hLrow := Lib.hid hLrow; replace hLP := Lib.hid hLP; replace hLr := Lib.hid hLr; have htlN := Nat.lt_of_lt_of_le htl2 hbN.size; replace hbN := Lib.hid hbN)
    | fail)
  have hmb2 : mb < w2.heap.size := by omega
  have hLn : L.length ≤ l.length := by
    have := congrArg List.length hLr.out
    rw [List.length_map] at this
    rw [this]
    exact List.length_filter_le _ _
  have hTb : w.heap.size ≤ tb := by rw [htb.out]; omega
  have hMb : w.heap.size ≤ mb := by rw [hmb.out]; exact Nat.le_refl _
  clear ct2
  replace hb0N := hb0N
  go_loopg [13] (L.length + 1) (fun gg ic wr => ∃ i : Nat, gg = L.length - i + 1 ∧ i ≤ L.length ∧ ic = .int .i64 i ∧ Hid (MapS nameKey wr mb (tmap (L.take i))) ∧ Hid (wr.cell? ⟨tb, 0, none⟩ = some (.map (some mb))) ∧ Hid (wr.ownsRow w2.heap.size 52 8 (.slice No L.length Nc) L.length (L.flatMap Rw.cells)) ∧ Hid (Below w.heap.size w wr) ∧ Hid (tb < wr.heap.size))
  case atStart => exact ⟨0, rfl, Nat.zero_le _, rfl, hmN, Lib.hid ctN, hLrow, hb0N, Lib.hid htlN⟩
  case round =>
    obtain ⟨i, rfl, hi, rfl, hmI, hct, hrw, hbw, htl⟩ := hrel
    by_cases hlt : i < L.length
    · obtain ⟨x, hx⟩ : ∃ x, L[i]? = some x := ⟨_, List.getElem?_eq_getElem hlt⟩
      have hq : ∀ (q : Nat) u, q < 8 → x.cells[q]? = some u → ∃ g, No = some ⟨g, 0, none⟩ ∧ wr.cell? ⟨g, i * 8 + q, none⟩ = some u := fun q u hq hu => by
        obtain ⟨g, e1, _, _, e2, _⟩ := ownsRow_cell hrw.out (j := i * 8 + q) (u := u) ((Rd.flat_at rwC.len hx q hq).trans hu)
        exact ⟨g, e1, e2⟩
      obtain ⟨ng, hng, _⟩ := hq 0 _ (by decide) rfl
      subst hng
      have hr : ∀ (q : Nat) u, q < 8 → x.cells[q]? = some u → wr.cell? ⟨ng, i * 8 + q, none⟩ = some u := fun q u h1 h2 => by
        obtain ⟨g, e1, e2⟩ := hq q u h1 h2
        simp only [Option.some.injEq, Addr.mk.injEq, and_true] at e1
        rw [e1]; exact e2
      have c0 : wr.cell? ⟨ng, i * 8, none⟩ = some (.int .i64 x.r.kind) := hr 0 _ (by decide) rfl
      have c1 : wr.cell? ⟨ng, i * 8 + 1, none⟩ = some (.string x.r.name) := hr 1 _ (by decide) rfl
      have c2 : wr.cell? ⟨ng, i * 8 + 2, none⟩ = some (.slice x.eo x.r.eps.length x.ec) := hr 2 _ (by decide) rfl
      have c3 : wr.cell? ⟨ng, i * 8 + 3, none⟩ = some (.slice x.ta x.r.tgts.length x.tc) := hr 3 _ (by decide) rfl
      have c4 : wr.cell? ⟨ng, i * 8 + 4, none⟩ = some (.string x.r.host) := hr 4 _ (by decide) rfl
      have c5 : wr.cell? ⟨ng, i * 8 + 5, none⟩ = some (.slice x.ra x.r.rules.length x.rc) := hr 5 _ (by decide) rfl
      have c6 : wr.cell? ⟨ng, i * 8 + 6, none⟩ = some (.string x.r.route) := hr 6 _ (by decide) rfl
      have c7 : wr.cell? ⟨ng, i * 8 + 7, none⟩ = some (.bool x.r.del) := hr 7 _ (by decide) rfl
      have hk0 : (i : Int) < (L.length : Int) := nn_lt hlt
      have hwk := Lib.hid (nn_succ2 hlt (by omega))
      have hsn := tmap_snoc hx
      obtain ⟨wb, hwb⟩ : ∃ wb, wb = wr.alloc (.cells #[.int .i64 x.r.kind, .string x.r.name, .slice x.eo x.r.eps.length x.ec, .slice x.ta x.r.tgts.length x.tc, .string x.r.host, .slice x.ra x.r.rules.length x.rc, .string x.r.route, .bool x.r.del] 52) := ⟨_, rfl⟩
      obtain ⟨bk, hbk⟩ : ∃ bk, bk = wr.heap.size := ⟨_, rfl⟩
      have hbx : wb.heap[bk]? = some (.cells #[.int .i64 x.r.kind, .string x.r.name, .slice x.eo x.r.eps.length x.ec, .slice x.ta x.r.tgts.length x.tc, .string x.r.host, .slice x.ra x.r.rules.length x.rc, .string x.r.route, .bool x.r.del] 52) := by rw [hwb, hbk]; exact heap_alloc_new wr _
      have hba := alloc_below wr (.cells #[.int .i64 x.r.kind, .string x.r.name, .slice x.eo x.r.eps.length x.ec, .slice x.ta x.r.tgts.length x.tc, .string x.r.host, .slice x.ra x.r.rules.length x.rc, .string x.r.route, .bool x.r.del] 52)
      rw [← hwb] at hba
      have hm1 := Lib.hid (hmI.out.tch (Tch.of_below (S := fun _ => False) hba) id)
      have ctb := (hba.cell (p := ⟨tb, 0, none⟩) htl.out).trans hct.out
      have hrwb := Lib.hid (ownsRow_tch hrw.out (Tch.of_below (S := fun _ => False) hba) (fun _ _ q => q))
      have hbwb := Lib.hid (seq_below hbw.out hba)
      have htlb := Lib.hid (Nat.lt_of_lt_of_le htl.out hba.size)
      have b0 := box_at hbx (j := 0) rfl
      have b1 := box_at hbx (j := 1) rfl
      have b2 := box_at hbx (j := 2) rfl
      have b3 := box_at hbx (j := 3) rfl
      have b4 := box_at hbx (j := 4) rfl
      have b5 := box_at hbx (j := 5) rfl
      have b6 := box_at hbx (j := 6) rfl
      have b7 := box_at hbx (j := 7) rfl
      replace hx := Lib.hid hx
      replace hsn := Lib.hid hsn
      replace hbx := Lib.hid hbx
      replace hba := Lib.hid hba
      replace hq := Lib.hid hq
      replace hr := Lib.hid hr
      go_upto_region 5 with fail
      rw [← hwb, ← hbk]
      replace hwb := Lib.hid hwb
      replace hbk := Lib.hid hbk
      clear c0 c1 c2 c3 c4 c5 c6 c7
      go_wp2_with (first
        | (at_mapUpdate; go_loud (refine wp_store rfl _ _ _ 173 rfl nameKey 49 Try.underlying173 mb (tmap (L.take i)) x.r.name (.slice x.ta x.r.tgts.length x.tc) rfl hm1.out rfl rfl ?_); intro w4 hm4 ht4; have t4 := Tch.turned (S := fun k => k = mb) ht4 rfl; have ct4 := Lib.hid (t4.cell_some ctb (fun q => by omega)); have hrw4 := Lib.hid (ownsRow_tch hrwb.out t4 (fun g hg q => by have := (hrwb.out.lt g hg).1; omega)); have hbw4 := Lib.hid (Tch.below hbwb.out t4 hbwb.out.size (fun k q => by rw [q]; exact hMb)); have htl4 := Lib.hid (Nat.lt_of_lt_of_le htlb.out t4.size); replace hm4 := Lib.hid hm4; clear ht4 t4)
        | fail)
      go_roundg (L.length - (i + 1) + 1)
      case rel => exact ⟨i + 1, rfl, hlt, by first | rw [hwk.out] | go_num, Lib.hid (by rw [hsn.out]; exact hm4.out), ct4, hrw4, hbw4, htl4⟩
      case measure => exact nn_downS hlt
    · have hk0 : decide ((i : Int) < (L.length : Int)) = false := decide_eq_false (by omega)
      have hk1 : ¬ (i : Int) < (L.length : Int) := by omega
      have hmT : Hid (MapS nameKey wr mb (tmap L)) := Lib.hid (by have := hmI.out; rwa [List.take_of_length_le (by omega)] at this)
      have hT := Lib.hid (tgtV_of hC hLr.out hLP.out)
      have hTk := Lib.hid (fun n v (h : tmap L n = some v) => tmap_key hLr.out h)
      obtain ⟨T, hTe⟩ : ∃ T, T = tmap L := ⟨_, rfl⟩
      rw [← hTe] at hmT hT hTk
      have hct0 := hct.out
      have hmf := mkf
      replace hTe := Lib.hid hTe
      go_upto_region 9 with fail
      obtain ⟨wZ, kb, db, fb, hwZ, hkb, hdb, hfb, hbZ, hdZ, cdZ, hbfZ, hflZ⟩ := boxes_laid wr
      rw [← hwZ, ← hfb, ← hdb, ← hkb]
      have cfZ : wZ.cell? ⟨fb, 0, none⟩ = some Value.nilFunc := box_at hbfZ (j := 0) rfl
      have ffZ : wZ.frozen? ⟨fb, 0, none⟩ = false := frozen_of_row _ fb 0 _ _ hbfZ
      obtain ⟨FV, hFV⟩ : ∃ FV : Value, FV = .func (.func 132) #[] #[.pointer (some ⟨db, 0, none⟩), .pointer (some ⟨tb, 0, none⟩), .pointer (some ⟨fb, 0, none⟩)] := ⟨_, rfl⟩
      have tY : Tch (fun k => k = fb) wZ (wZ.setCell ⟨fb, 0, none⟩ FV) := Tch.setCell (S := fun k => k = fb) wZ (p := ⟨fb, 0, none⟩) rfl FV
      have hsz := hbw.out.size
      have htr := htl.out
      have hAY : AS w (wZ.setCell ⟨fb, 0, none⟩ FV) l db tb fb mb kb T (fun _ => none) := by
        have h1 := hbZ.size
        have cfY : (wZ.setCell ⟨fb, 0, none⟩ FV).cell? ⟨fb, 0, none⟩ = some FV := box_at (box_set (i := 0) (v := FV) hbfZ) (j := 0) rfl
        rw [hFV] at cfY
        refine ⟨Tch.below (seq_below hbw.out hbZ) tY (seq_below hbw.out hbZ).size (fun k q => by rw [q, hfb]; omega), by rw [hkb]; exact hsz, tY.cell_some cdZ (fun q => by omega), tY.cell_some ((hbZ.cell (p := ⟨tb, 0, none⟩) htr).trans hct0) (fun q => by omega), by rw [hFV]; exact cfY, (hmT.out.tch (Tch.of_below (S := fun _ => False) hbZ) id).tch tY (fun q => by omega), hdZ.tch tY (fun q => by omega), by omega, by omega, by omega, by omega, ?_, fun n v h => by cases h⟩
        have := tY.size
        exact ⟨by omega, by omega, by omega, by omega, by omega⟩
      rw [hFV] at hAY
      replace hAY := Lib.hid hAY
      replace hFV := Lib.hid hFV
      replace tY := Lib.hid tY
      replace hbZ := Lib.hid hbZ
      replace hdZ := Lib.hid hdZ
      replace hbfZ := Lib.hid hbfZ
      replace hwZ := Lib.hid hwZ
      replace hkb := Lib.hid hkb
      replace hdb := Lib.hid hdb
      replace hfb := Lib.hid hfb
      replace hsz := Lib.hid hsz
      replace hmI := Lib.hid hmI
      replace hrw := Lib.hid hrw
      clear hct0 htr
      go_upto_region 10 with fail
      obtain ⟨wY, hwY⟩ : ∃ wY, wY = wZ.setCell ⟨fb, 0, none⟩ (.func (.func 132) #[] #[.pointer (some ⟨db, 0, none⟩), .pointer (some ⟨tb, 0, none⟩), .pointer (some ⟨fb, 0, none⟩)]) := ⟨_, rfl⟩
      rw [← hwY] at hAY ⊢
      clear cdZ cfZ ffZ
      have ctY := hAY.out.ct
      have hmY := hAY.out.tg
      obtain ⟨ik, hik⟩ : ∃ ik, ik = wY.heap.size := ⟨_, rfl⟩
      replace hwY := Lib.hid hwY
      go_wp2_with (first | (at_range; go_loud (refine wp_range rfl _ 173 rfl nameKey 49 Try.underlying173 mb T rfl hmY ?_); intro w7 hrg hb7 hs7) | fail)
      rw [← hik] at hrg hb7 hs7 ⊢
      have hA7 := Lib.hid (hAY.out.below (by rw [← hik]; exact hb7))
      have hik7 : Hid (ik < w7.heap.size) := Lib.hid (by omega)
      have hikw : Hid (w.heap.size ≤ ik ∧ ik ≠ db ∧ ik ≠ tb ∧ ik ≠ fb ∧ ik ≠ mb ∧ ik ≠ kb) := Lib.hid (by
        obtain ⟨l1, l2, l3, l4, l5⟩ := hAY.out.lt
        have := hAY.out.bel.size
        exact ⟨by omega, by omega, by omega, by omega, by omega, by omega⟩)
      have hcov : Hid (∀ n, T n ≠ none → T n ≠ none ∨ ∃ v, (none : Option Value) = some v) := Lib.hid (fun n h => .inl h)
      have hnk : Hid (∀ n, has l 2 n = true → T n ≠ none) := Lib.hid (fun n hn => by
        obtain ⟨ta, tc, h1, _⟩ := hT.out n hn
        rw [h1]; simp)
      replace hik := Lib.hid hik
      replace hb7 := Lib.hid hb7
      replace hs7 := Lib.hid hs7
      clear ctY hmY
      go_loopg [] (w7.rangeLeft mb ik) (fun gg wr => ∃ (left : ByteArray → Prop) (M : ByteArray → Option Value), gg = wr.rangeLeft mb ik ∧ RangeS nameKey wr mb ik T left ∧ Hid (AS w wr l db tb fb mb kb T M) ∧ Hid (∀ n, T n ≠ none → left n ∨ ∃ v, M n = some v) ∧ Hid (ik < wr.heap.size))
      case atStart => exact ⟨_, _, rfl, hrg, hA7, hcov, hik7⟩
      case round =>
        obtain ⟨left, M, rfl, hrg, hA, hcv, hsz⟩ := hrel
        go_wp2_with (first | (at_next; go_loud (refine wp_next rfl _ rfl nameKey mb ik T left rfl hrg ?_ ?_)) | fail)
        · intro hl0
          have hdn := hA.out.dn
          have hfin : ∀ n, has l 2 n = true → ∃ v, M n = some v := fun n hn => (hcv.out n (hnk.out n hn)).resolve_left (hl0 n)
          have hcd := hA.out.cd
          replace hl0 := Lib.hid hl0
          replace hdn := Lib.hid hdn
          replace hfin := Lib.hid hfin
          clear hrg
          go_wp2
          go_ret
          exact ⟨kb, M, rfl, hdn.out, hfin.out, hA.out.ok, hA.out.bel⟩
        · intro k vv w1 hlk hfk hrg1 hlt1 hg1 hs1 hen
          replace hen : (Instr.entry (.pointer (some ⟨ik, 0, none⟩))).run Try.prog w1 = .ok (.tuple #[.string k, vv]) w1 := hen
          have hT1 : Tch (fun q => q = ik) wr w1 := Tch.grown hg1 (fun j hj => by cases hj; exact .inl rfl)
          have hA1 : AS w w1 l db tb fb mb kb T M := hA.out.tch hT1 (fun q e => by rw [e]; exact hikw.out) (fun q e n v hv => by rw [e]; exact own_iter (hA.out.ok n v hv) hrg)
          have hcall := Lib.hid (all132 hC hT.out 8 k w1 M (hC.known (hTk.out k vv hfk)) hA1)
          have cf1 := hA1.cf
          have hsz1 : ik < w1.heap.size := by rw [hs1]; exact hsz.out
          replace hlk := Lib.hid hlk
          replace hfk := Lib.hid hfk
          replace hlt1 := Lib.hid hlt1
          replace hg1 := Lib.hid hg1
          replace hs1 := Lib.hid hs1
          replace hT1 := Lib.hid hT1
          replace hA1 := Lib.hid hA1
          clear hrg
          go_wp2_with (first
            | (go_at_call 132; (with_reducible refine hcall.out.mono ?_); rintro e w3 ⟨M3, v3, rfl, hv3, hA3, he3, hn3, ht3⟩; obtain ⟨hrg3, hrl3⟩ := rl_keep hrg1 ht3 hA3.nm hikw.out.2.2.2.2.2; have hsz3 := Lib.hid (Nat.lt_of_lt_of_le hsz1 ht3.size); replace hv3 := Lib.hid hv3; replace hA3 := Lib.hid hA3; replace he3 := Lib.hid he3; clear hn3 ht3)
            | fail)
          go_roundg (w3.rangeLeft mb ik)
          case rel =>
            refine ⟨_, M3, rfl, hrg3, hA3, Lib.hid (fun n hn => ?_), hsz3⟩
            rcases hcv.out n hn with h | ⟨u, hu⟩
            · by_cases e : n = k
              · right; rw [e]; exact ⟨_, hv3.out⟩
              · exact .inl ⟨h, e⟩
            · exact .inr ⟨u, he3.out n u hu⟩
          case measure => rw [hrl3]; exact hlt1.out
end Go.Proofs.Ytjepgpocmnijiaa
end

section
/- What Shares asks: is a split named, and a copy of shares. -/
namespace Go.Ck
open Go.RowKit
set_option linter.unusedVariables false
def nmIx (l : List Res) (s : ByteArray) (m : Nat) : Bool := match l[m]? with
  | some r => r.name.toList == s.toList
  | none => false
theorem nmIx_at {l : List Res} {s : ByteArray} {m : Nat} {r : Res} (h : l[m]? = some r) : nmIx l s m = (r.name.toList == s.toList) := by unfold nmIx; rw [h]
theorem kindP_iff {k : Int} {r : Res} : Go.Proofs.Ytjepgpocmnijiaa.kindP k r = true ↔ r.kind = k := by unfold Go.Proofs.Ytjepgpocmnijiaa.kindP; exact beq_iff_eq
theorem named_has (l : List Res) (s : ByteArray) : decide (0 ≤ firstN (l.filter (Go.Proofs.Ytjepgpocmnijiaa.kindP 2)).length (nmIx (l.filter (Go.Proofs.Ytjepgpocmnijiaa.kindP 2)) s)) = has l 2 s := by
  rw [Bool.eq_iff_iff, decide_eq_true_iff, has_iff]
  rcases firstN_cases (l.filter (Go.Proofs.Ytjepgpocmnijiaa.kindP 2)).length (nmIx (l.filter (Go.Proofs.Ytjepgpocmnijiaa.kindP 2)) s) with ⟨e, h⟩ | ⟨i, hi, e, h1, _⟩
  · rw [e]
    refine ⟨fun q => absurd q (by omega), fun ⟨r, hr, hk, hn⟩ => ?_⟩
    have hm : r ∈ l.filter (Go.Proofs.Ytjepgpocmnijiaa.kindP 2) := List.mem_filter.2 ⟨hr, by unfold Go.Proofs.Ytjepgpocmnijiaa.kindP; rw [hk]; rfl⟩
    obtain ⟨j, hj⟩ := List.mem_iff_getElem?.1 hm
    have := h j (List.getElem?_eq_some_iff.1 hj).1
    rw [nmIx_at hj, hn] at this
    simp at this
  · rw [e]
    have hx := List.getElem?_eq_getElem hi
    rw [nmIx_at hx] at h1
    obtain ⟨hm, hk⟩ := List.mem_filter.1 (List.mem_of_getElem? hx)
    exact ⟨fun _ => ⟨_, hm, kindP_iff.1 hk, seq_iff.1 h1⟩, fun _ => by omega⟩
/-- The fault of a configuration, as a number. -/
def faultC (l : List Res) : Int := (faultP l).2.2
def sharesC (l : List Res) (s : ByteArray) : Int := if faultC l ≠ 0 then faultC l else if has l 2 s = true then 0 else 2
def sharesL (l : List Res) (s : ByteArray) : List Shr := if faultC l ≠ 0 then [] else if has l 2 s = true then shOf l s else []
theorem res_weights {w : World} {v : Value} {l : List Res} (h : ResS w v l) : ∀ r ∈ l, ∀ t ∈ r.tgts, t.weight < 18446744073709551616 := fun r hr t ht => by
  obtain ⟨ao, cap, rfl⟩ := slice_shape h
  obtain ⟨i, hi⟩ := List.mem_iff_getElem?.1 hr
  obtain ⟨_, _, _, _, _, _, _, _, _, _, _, hp⟩ := Go.Proofs.Ytjepgpocmnijiaa.res_at2 h hi
  exact rp_weights hp _ (List.mem_map.2 ⟨t, ht, rfl⟩)
theorem cfg_of {w : World} {v : Value} {l : List Res} {f : Flt} {ws : List Warn} (h : ResS w v l) (hM : listM l ≤ 1048576) (hc : Chk l f ws) (h0 : f.2.2 = 0) : Cfg l := by
  cases hc with
  | out _ => cases h0
  | count _ _ => cases h0
  | dang _ _ _ _ _ => cases h0
  | twice _ _ _ _ _ _ => cases h0
  | heavy _ _ _ _ _ _ _ => cases h0
  | ring _ _ _ _ _ _ _ _ => cases h0
  | fine h1 h2 h3 _ h5 h6 => exact ⟨h2, h1, h3, h5, h6, res_weights h, fun r hr => Nat.le_trans (tgts_le r) (Nat.le_trans (mem_le hr) hM)⟩
end Go.Ck
namespace Go.Proofs.Ytjepgpocmnijiaa
open Go.RowKit Go.Mp Go.Ck Fl
set_option linter.unusedVariables false
set_option maxRecDepth 100000
set_option maxHeartbeats 4000000
theorem is93 (r : Res) (ev tv rv : Value) (s : ByteArray) (xb : Nat) (w : World) (hxb : xb < w.heap.size) (c0 : w.cell? ⟨xb, 0, none⟩ = some (.string s)) (he : ∃ o n c, ev = .slice o n c) (ht : ∃ o n c, tv = .slice o n c) (hr : ∃ o n c, rv = .slice o n c) :
    Calls Try.prog 93 #[.agg #[.int .i64 r.kind, .string r.name, ev, tv, .string r.host, rv, .string r.route, .bool r.del], .pointer (some ⟨xb, 0, none⟩)] w fun e w' => e = .returned (.bool (r.name.toList == s.toList)) ∧ Below w.heap.size w w' := by
  obtain ⟨eo, en, ec, rfl⟩ := he
  obtain ⟨ta, tn, tc, rfl⟩ := ht
  obtain ⟨ra, rn, rc, rfl⟩ := hr
  have hb1 := alloc_below w (.cells #[.int .i64 r.kind, .string r.name, .slice eo en ec, .slice ta tn tc, .string r.host, .slice ra rn rc, .string r.route, .bool r.del] 52)
  have k0 := (hb1.cell (p := ⟨xb, 0, none⟩) hxb).trans c0
  obtain ⟨b, hb⟩ : ∃ b, (r.name.toList == s.toList) = b := ⟨_, rfl⟩
  rw [hb]
  replace hb1 := Lib.hid hb1
  replace hxb := Lib.hid hxb
  clear c0
  cases b with
  | true =>
    go_enter Try.func93, Try.ntmps93
    go_wp2
    go_ret
    exact ⟨rfl, hb1.out⟩
  | false =>
    go_enter Try.func93, Try.ntmps93
    go_wp2
    go_ret
    exact ⟨rfl, hb1.out⟩
theorem idx131 (l : List Res) (s : ByteArray) (xb : Nat) (v : Value) (w : World) (hl : ResS w v l) (hxb : xb < w.heap.size) (c0 : w.cell? ⟨xb, 0, none⟩ = some (.string s)) :
    Calls Try.prog 131 #[v, .func (.func 93) #[] #[.pointer (some ⟨xb, 0, none⟩)]] w fun e w' => e = .returned (.int .i64 (firstN l.length (nmIx l s))) ∧ Below w.heap.size w w' := by
  obtain ⟨ao, cap, rfl⟩ := slice_shape hl
  have hlen := hl.1
  replace hl := Lib.hid hl
  replace hxb := Lib.hid hxb
  replace c0 := Lib.hid c0
  go_enter Try.func131, Try.ntmps131
  go_wp2
  go_loopg [8] (l.length + 1) (fun gg ic wr => ∃ i : Nat, gg = l.length - i + 1 ∧ i ≤ l.length ∧ ic = .int .i64 i ∧ Hid (∀ j, j < i → nmIx l s j = false) ∧ Hid (Below w.heap.size w wr))
  case atStart => exact ⟨0, rfl, Nat.zero_le _, rfl, Lib.hid (fun j hj => absurd hj (Nat.not_lt_zero j)), Lib.hid (Below.refl _ _)⟩
  case round =>
    obtain ⟨i, rfl, hi, rfl, hno, hbw⟩ := hrel
    by_cases hlt : i < l.length
    · obtain ⟨y, hy⟩ : ∃ y, l[i]? = some y := ⟨_, List.getElem?_eq_getElem hlt⟩
      obtain ⟨b, off, eo, ec, ta, tc, ra, rc, rfl, hbl, c, hp⟩ := res_at2 hl.out hy
      obtain ⟨c0', c1, c2, c3, c4, c5, c6, c7⟩ := c.below hbl hbw.out
      have hk0 : (i : Int) < (l.length : Int) := nn_lt hlt
      have hwk := Lib.hid (nn_succ2 hlt hlen)
      have hix := nmIx_at (s := s) hy
      have hC := is93 y (.slice eo y.eps.length ec) (.slice ta y.tgts.length tc) (.slice ra y.rules.length rc) s xb wr (Nat.lt_of_lt_of_le hxb.out hbw.out.size) ((hbw.out.cell (p := ⟨xb, 0, none⟩) hxb.out).trans c0.out) ⟨_, _, _, rfl⟩ ⟨_, _, _, rfl⟩ ⟨_, _, _, rfl⟩
      generalize (y.name.toList == s.toList) = cv at *
      replace hC := Lib.hid hC
      replace hy := Lib.hid hy
      replace c := Lib.hid c
      replace hp := Lib.hid hp
      cases cv with
      | true =>
        have hf := firstN_at hno.out hlt hix
        replace hix := Lib.hid hix
        replace hf := Lib.hid hf
        replace hno := Lib.hid hno
        go_wp2_with (first | (go_at_call 93; (with_reducible refine hC.out.mono ?_); rintro e w2 ⟨rfl, hb2⟩; replace hb2 := Lib.hid hb2) | fail)
        go_ret
        exact ⟨ret_i hf.out.symm, seq_below hbw.out hb2.out⟩
      | false =>
        have hno2 := no_upto hno.out hix
        replace hix := Lib.hid hix
        replace hno := Lib.hid hno
        replace hno2 := Lib.hid hno2
        go_wp2_with (first | (go_at_call 93; (with_reducible refine hC.out.mono ?_); rintro e w2 ⟨rfl, hb2⟩; replace hb2 := Lib.hid hb2) | fail)
        go_roundg (l.length - (i + 1) + 1)
        case rel => exact ⟨i + 1, rfl, hlt, by first | rw [hwk.out] | go_num, hno2, Lib.hid (seq_below hbw.out hb2.out)⟩
        case measure => exact nn_downS hlt
    · have hk0 : decide ((i : Int) < (l.length : Int)) = false := decide_eq_false (by omega)
      have hf := firstN_none (n := l.length) (fun j hj => hno.out j (by omega))
      replace hf := Lib.hid hf
      replace hno := Lib.hid hno
      go_wp2
      go_ret
      exact ⟨ret_i hf.out.symm, hbw.out⟩
theorem has91 (l : List Res) (s : ByteArray) (xb : Nat) (v : Value) (w : World) (hl : ResS w v l) (hxb : xb < w.heap.size) (c0 : w.cell? ⟨xb, 0, none⟩ = some (.string s)) :
    Calls Try.prog 91 #[v, .func (.func 93) #[] #[.pointer (some ⟨xb, 0, none⟩)]] w fun e w' => e = .returned (.bool (decide (0 ≤ firstN l.length (nmIx l s)))) ∧ Below w.heap.size w w' := by
  obtain ⟨ao, cap, rfl⟩ := slice_shape hl
  have hC := Lib.hid (idx131 l s xb _ w hl hxb c0)
  generalize firstN l.length (nmIx l s) = q at *
  replace hl := Lib.hid hl
  replace hxb := Lib.hid hxb
  replace c0 := Lib.hid c0
  go_enter Try.func91, Try.ntmps91
  go_wp2_with (first | (go_at_call 131; (with_reducible refine hC.out.mono ?_); rintro e w2 ⟨rfl, hb2⟩; replace hb2 := Lib.hid hb2) | fail)
  go_ret
  exact ⟨rfl, hb2.out⟩
def CloneO (w : World) (a : List Shr) (e : Ending) (w' : World) : Prop := ∃ v', e = .returned v' ∧ OwnS w' w.heap.size v' a ∧ Below w.heap.size w w'
theorem clone94 (a : List Shr) (v : Value) (w : World) (hl : ShS w v a) (hM : a.length * 24 ≤ 140737488355328) : Calls Try.prog 94 #[v] w (CloneO w a) := by
  obtain ⟨i73, h73, h730, h731, h732⟩ := info_parts info73
  obtain ⟨ao, cap, rfl⟩ := slice_shape hl
  have hlen := hl.1
  have hok := hl.ok
  have hcap := slice_cap hl
  have q24 : ∀ (w : World) (a : Option Addr) (n c n' c' : Nat), (binOp .eql 67 (.slice a n c) (.slice none n' c')).run Try.prog w = .ok (.bool a.isNone) w := fun w a n c n' c' => Lib.run_eql_slice_nil w _ _ a n c n' c' Try.underlying67
  cases ao with
  | none =>
    have hnil : a = [] := by
      obtain ⟨_, _, _, e, _, h | ⟨_, _, h, _⟩⟩ := hl
      · exact h
      · cases e; cases h
    subst hnil
    replace hl := Lib.hid hl
    replace hok := Lib.hid hok
    replace h73 := Lib.hid h73
    replace h730 := Lib.hid h730
    replace h731 := Lib.hid h731
    replace h732 := Lib.hid h732
    go_enter Try.func94, Try.ntmps94
    go_wp2
    go_ret
    exact ⟨_, rfl, ⟨World.ownsRow_nil _ _ _ _, hok.out⟩, Below.refl _ _⟩
  | some ad =>
    have hr0 := Lib.hid (empty_row w w.heap.size (Nat.le_refl _) 73 2)
    have hs0 := Lib.hid (hl.below (alloc_below w (.cells #[] 73)))
    have hB0 := Lib.hid (show w.heap.size ≤ (w.alloc (.cells #[] 73)).heap.size by simp)
    replace h73 := Lib.hid h73
    replace h730 := Lib.hid h730
    replace h731 := Lib.hid h731
    replace h732 := Lib.hid h732
    replace hok := Lib.hid hok
    go_enter Try.func94, Try.ntmps94
    go_wp2_with (first
      | (at_builtin; go_loud (refine Rd.wp_append_src shrC (by rfl) _ _ 67 (by rfl) w.heap.size 73 i73 _ 24 Try.underlying67 h73.out h730.out h731.out h732.out rfl _ 0 [] (by rfl) hr0.out _ a (by rfl) hs0.out (by unfold maxLen; omega) (by omega) hB0.out ?_); intro v3 w3 hr3 hg3 hl3; rw [Nat.zero_add, List.nil_append] at hr3; replace hr3 := Lib.hid hr3; replace hg3 := Lib.hid hg3; clear hl3)
      | fail)
    go_ret
    exact ⟨_, rfl, ⟨hr3.out, hok.out⟩, (alloc_below w (.cells #[] 73)).grown hg3.out hB0.out (fun q hq => by cases hq; exact Nat.le_refl _)⟩
end Go.Proofs.Ytjepgpocmnijiaa
end

section

namespace Go.Proofs.Ytjepgpocmnijiaa
open Go.RowKit Go.Mp Go.Ck Fl
set_option linter.unusedVariables false
set_option maxRecDepth 100000
set_option maxHeartbeats 4000000
theorem add154 (a : List Shr) (v : Value) (B : Nat) (w : World) (s : ByteArray) (x : Nat) (hO : OwnS w B v a) (hl : a.length ≤ 1048576) (hs : s.size ≤ maxLen) (hB : B ≤ w.heap.size)
    (hadd : ∀ y ∈ a, y.service = s → dbl.add y.upto x = some (fadd y.upto x) ∧ fadd y.upto x ≤ INF) (h0 : dbl.add 0 x = some (fadd 0 x) ∧ fadd 0 x ≤ INF) : Calls Try.prog 154 #[v, .string s, .float .f64 x] w (AddO w B v (addS a s x)) := by
  obtain ⟨i73, h73, h730, h731, h732⟩ := info_parts info73
  replace h73 := Lib.hid h73
  replace h730 := Lib.hid h730
  replace h731 := Lib.hid h731
  replace h732 := Lib.hid h732
  obtain ⟨ao, cap, rfl⟩ := ownsRow_shape hO.row
  obtain ⟨a', ha'⟩ : ∃ a', a' = addS a s x := ⟨_, rfl⟩
  rw [← ha']
  replace hO := Lib.hid hO
  replace hs := Lib.hid hs
  replace hadd := Lib.hid hadd
  replace h0 := Lib.hid h0
  replace ha' := Lib.hid ha'
  go_enter Try.func154, Try.ntmps154
  go_outline
  go_wp2
  go_loopg [7] (a.length + 1) (fun gg ic wr => ∃ i : Nat, gg = a.length - i + 1 ∧ i ≤ a.length ∧ ic = .int .i64 i ∧ Hid (∀ j, j < i → isSx a s j = false) ∧ Hid (wr = w))
  case atStart => exact ⟨0, rfl, Nat.zero_le _, rfl, Lib.hid (fun j hj => absurd hj (Nat.not_lt_zero j)), Lib.hid rfl⟩
  case round =>
    obtain ⟨i, rfl, hi, rfl, hno, hw⟩ := hrel
    obtain rfl := hw.out
    clear hw
    by_cases hlt : i < a.length
    · obtain ⟨y, hy⟩ : ∃ y, a[i]? = some y := ⟨_, List.getElem?_eq_getElem hlt⟩
      obtain ⟨g, hg, _, _, cy, fy⟩ := ownsRow_cell hO.out.row (flat_at hy).1
      subst hg
      obtain ⟨g', hg', _, _, cz, fz⟩ := ownsRow_cell hO.out.row (flat_at hy).2
      simp only [Option.some.injEq, Addr.mk.injEq, and_true] at hg'
      subst hg'
      have hk0 : (i : Int) < (a.length : Int) := nn_lt hlt
      have hwk := Lib.hid (nn_succ2 hlt (by omega))
      have hix := isSx_at (s := s) hy
      obtain ⟨cv, hcv⟩ : ∃ b, (y.service.toList == s.toList) = b := ⟨_, rfl⟩
      rw [hcv] at hix
      cases cv with
      | true =>
        have hA := addS_some (x := x) hno.out hy hix
        obtain ⟨hw1, hw2⟩ := hadd.out y (List.mem_of_getElem? hy) (seq_iff.1 hcv)
        have hw0 := run_add hw1
        have hok : OkS (a.set i ⟨y.service, fadd y.upto x⟩) := oks_some hO.out.ok hy (Nat.lt_of_le_of_lt hw2 (by decide))
        have hst := hO.out.row.stored (i * 2 + 1) (.float .f64 (fadd y.upto x))
        rw [← flat_set _ hy] at hst
        have ht4 := Lib.hid (Tch.setCell (S := fun k => (Value.slice (some ⟨g, 0, none⟩) a.length cap).ownBlock = some k) wr (p := ⟨g, i * 2 + 1, none⟩) rfl (.float .f64 (fadd y.upto x)))
        replace hy := Lib.hid hy
        replace hix := Lib.hid hix
        replace hA := Lib.hid hA
        replace hw1 := Lib.hid hw1
        replace hw2 := Lib.hid hw2
        replace hok := Lib.hid hok
        replace hst := Lib.hid hst
        replace hno := Lib.hid hno
        go_wp2
        go_ret
        rw [ha'.out, hA.out]
        exact ⟨_, rfl, ⟨by rw [List.length_set]; exact hst.out.1, hok.out⟩, ht4.out, fun k q => .inl q⟩
      | false =>
        have hno2 := no_upto hno.out hix
        replace hy := Lib.hid hy
        replace hix := Lib.hid hix
        replace hno2 := Lib.hid hno2
        replace hno := Lib.hid hno
        go_wp2
        go_roundg (a.length - (i + 1) + 1)
        case rel => exact ⟨i + 1, rfl, hlt, by first | rw [hwk.out] | go_num, hno2, Lib.hid rfl⟩
        case measure => exact nn_downS hlt
    · have hk0 : decide ((i : Int) < (a.length : Int)) = false := decide_eq_false (by omega)
      have hk1 : ¬ (i : Int) < (a.length : Int) := by omega
      have hA := addS_none (x := x) (fun j hj => hno.out j (by omega))
      have hw0 := run_add h0.out.1
      have hrb := Lib.hid (hO.out.row.alloc (.cells #[.string s, .float .f64 (fadd 0 x)] 73))
      have hnb := Lib.hid (new_cells wr [.string s, .float .f64 (fadd 0 x)] 73)
      have hBb := Lib.hid (show B ≤ (wr.alloc (.cells #[.string s, .float .f64 (fadd 0 x)] 73)).heap.size from Nat.le_trans hB (by simp))
      have hok := Lib.hid (oks_snoc hO.out.ok hs.out (Nat.lt_of_le_of_lt h0.out.2 (by decide)))
      replace hA := Lib.hid hA
      replace hno := Lib.hid hno
      go_wp2_with (first
        | (at_builtin; go_loud (refine wp_append_lit (by rfl) _ _ 67 (by rfl) B 73 i73 _ 2 24 Try.underlying67 h73.out h730.out h731.out h732.out rfl (by decide) _ a.length (flat a) (by rfl) hrb.out ⟨wr.heap.size, 0, none⟩ 1 _ [.string s, .float .f64 (fadd 0 x)] (by rfl) rfl hnb.out (by simp [Value.oneCell']) (by unfold maxLen; omega) (by omega) hBb.out ?_); intro v3 w3 hr3 hg3 hl3; have hr3' := Lib.hid hr3; obtain ⟨o3, c3, rfl⟩ := ownsRow_shape hr3; replace hg3 := Lib.hid hg3; replace hl3 := Lib.hid hl3; clear hr3)
        | fail)
      go_ret
      rw [ha'.out, hA.out]
      refine ⟨_, rfl, ⟨?_, hok.out⟩, (Tch.of_below (S := fun k => (Value.slice ao a.length cap).ownBlock = some k) (alloc_below wr (.cells #[.string s, .float .f64 (fadd 0 x)] 73))).trans (Tch.grown (S := fun k => (Value.slice ao a.length cap).ownBlock = some k) hg3.out (fun k q => .inl q)) (fun k q => .inl q), fun k q => (hl3.out k q).imp id (fun q => Nat.le_trans (by simp) q)⟩
      rw [List.length_append, flat_snoc]
      exact hr3'.out
end Go.Proofs.Ytjepgpocmnijiaa
end
