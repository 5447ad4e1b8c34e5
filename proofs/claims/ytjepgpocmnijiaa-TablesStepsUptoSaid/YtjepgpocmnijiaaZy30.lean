/- Shares in memory, and how one is grown: the program's add and the document's. -/
import Derived.Test.YtjepgpocmnijiaaZy29
import Derived.Test.YtjepgpocmnijiaaZy2
import Derived.Test.YtjepgpocmnijiaaZy25
import Derived.Test.YtjepgpocmnijiaaZy27
import Derived.Test.YtjepgpocmnijiaaZy12
import Derived.Test.YtjepgpocmnijiaaZy15
section
/- The walk of sorted: a map's resources, in order, in memory of the call's own. -/
namespace Go.Ck
open Go.Proofs.Ytjepgpocmnijiaa (Key)
set_option linter.unusedVariables false
theorem fnd_nodup {A : List Res} (h : (A.map rk).Nodup) {k : Key} {x : Res} : fnd A k = some x ↔ x ∈ A ∧ rk x = k := by
  constructor
  · intro h1
    exact ⟨(fnd_some h1).2, (fnd_some h1).1⟩
  · rintro ⟨h1, h2⟩
    cases h3 : fnd A k with
    | none => exact absurd h2 (fnd_none.1 h3 x h1)
    | some y =>
      have h4 := fnd_some h3
      rw [Go.Mp.nodup_inj h h4.2 h1 (h4.1.trans h2.symm)]
theorem nodup_len {α : Type} [DecidableEq α] : ∀ {L M : List α}, L.Nodup → (∀ i ∈ L, i ∈ M) → L.length ≤ M.length
  | [], _, _, _ => Nat.zero_le _
  | a :: L, M, hn, hs => by
    have ha := hs a List.mem_cons_self
    have h1 := nodup_len (L := L) (M := M.erase a) (List.nodup_cons.1 hn).2 (fun i hi => (List.mem_erase_of_ne (fun e => (List.nodup_cons.1 hn).1 (by rw [← e]; exact hi))).2 (hs i (List.mem_cons_of_mem _ hi)))
    have h2 := List.length_erase_of_mem ha
    have h3 := List.length_pos_of_mem ha
    rw [List.length_cons]; omega
end Go.Ck
namespace Go.Proofs.Ytjepgpocmnijiaa
open Go.RowKit Go.Mp Go.Ck
set_option linter.unusedVariables false
set_option maxRecDepth 100000
set_option maxHeartbeats 8000000
def valR (g : Key → Option Rw) : Key → Option Value := fun k => (g k).map fun x => .agg x.cells.toArray
structure MapR (w : World) (b : Nat) (g : Key → Option Rw) (ks : List Key) : Prop where
  m : MapS keyKey w b (valR g)
  el : ∀ k x, g k = some x → rk x.r = k ∧ x.P w ∧ SzR x.r
  kin : ∀ k, g k ≠ none → k ∈ ks
  n : ks.length ≤ 4194304
/-- What was collected. -/
structure ColR (g : Key → Option Rw) (left : Key → Prop) (L : List Rw) : Prop where
  nd : ((L.map Rw.r).map rk).Nodup
  no : ∀ k, left k → fnd (L.map Rw.r) k = none
  yes : ∀ k, ¬ left k → fnd (L.map Rw.r) k = (g k).map Rw.r
theorem ColR.zero (g : Key → Option Rw) (F : Key → Option Value) (hF : ∀ k, F k = valR g k) : ColR g (fun k => F k ≠ none) [] :=
  ⟨List.nodup_nil, fun _ _ => rfl, fun k h => by
    have h1 : F k = none := Classical.byContradiction h
    rw [hF] at h1
    unfold valR at h1
    rw [Option.map_eq_none_iff] at h1
    rw [h1]; rfl⟩
theorem ColR.add {g : Key → Option Rw} {left : Key → Prop} {L : List Rw} (h : ColR g left L) {k : Key} {x y : Rw} (hk : left k) (hg : g k = some x) (hx : rk x.r = k) (hy : y.r = x.r) : ColR g (fun j => left j ∧ j ≠ k) (L ++ [y]) := by
  have h0 := h.no k hk
  have e1 : (L ++ [y]).map Rw.r = L.map Rw.r ++ [x.r] := by rw [List.map_append, ← hy]; rfl
  refine ⟨?_, fun j hj => ?_, fun j hj => ?_⟩
  · rw [e1, List.map_append]
    refine List.nodup_append.2 ⟨h.nd, by simp, fun a ha b hb => ?_⟩
    obtain ⟨r, hr, rfl⟩ := List.mem_map.1 ha
    simp only [List.map_cons, List.map_nil, List.mem_singleton] at hb
    rw [hb, hx]
    exact fnd_none.1 h0 r hr
  · rw [e1, fnd_append, h.no j hj.1, fnd_cons, fnd_nil, if_neg (fun e => hj.2 (e.symm.trans hx))]; rfl
  · rw [e1, fnd_append, fnd_cons, fnd_nil]
    by_cases e : j = k
    · subst e
      rw [h0, if_pos hx, hg]; rfl
    · rw [if_neg (fun q => e (q.symm.trans hx)), h.yes j (fun q => hj ⟨q, e⟩)]
      cases (g j).map Rw.r <;> rfl
theorem ColR.len {w : World} {b : Nat} {g : Key → Option Rw} {ks : List Key} {left : Key → Prop} {L : List Rw} (h : ColR g left L) (hm : MapR w b g ks) : L.length ≤ ks.length := by
  have := nodup_len (M := ks) h.nd (fun k hk => by
    obtain ⟨r, hr, rfl⟩ := List.mem_map.1 hk
    have h1 : fnd (L.map Rw.r) (rk r) = some r := (fnd_nodup h.nd).2 ⟨hr, rfl⟩
    have h2 : ¬ left (rk r) := fun q => by rw [h.no _ q] at h1; cases h1
    rw [h.yes _ h2] at h1
    refine hm.kin _ (fun q => ?_)
    rw [q] at h1; cases h1)
  simpa using this
end Go.Proofs.Ytjepgpocmnijiaa
end

section
/- Doubles: what is written of more is no less; so sums and products of what is bounded are bounded, and have an answer. -/
namespace Go.Proofs.Ytjepgpocmnijiaa.Fl
set_option linter.unusedVariables false
open Ieee
/-- n / 2^d, to the nearest, between two to the even one. -/
def rnd (n d : Nat) : Nat := n / 2 ^ d + (decide (2 ^ d < 2 * (n % 2 ^ d)) || (2 ^ d == 2 * (n % 2 ^ d) && n / 2 ^ d % 2 == 1)).toNat
theorem rnd_small {n d : Nat} (h : 2 * n < 2 ^ d) : rnd n d = 0 := by
  unfold rnd
  have h1 : n < 2 ^ d := by omega
  rw [Nat.div_eq_of_lt h1, Nat.mod_eq_of_lt h1]
  have h2 : decide (2 ^ d < 2 * n) = false := decide_eq_false (by omega)
  have h3 : (2 ^ d == 2 * n) = false := beq_eq_false_iff_ne.2 (by omega)
  rw [h2, h3]; rfl
theorem cut_rnd (n d : Nat) : Toward.even.cut false n d = rnd n d := by
  by_cases h : d ≤ n.log2 + 2
  · unfold Toward.cut rnd
    simp only [Nat.min_eq_left h, Nat.shiftLeft_eq, Nat.one_mul]
  · have h1 : n < 2 ^ (n.log2 + 1) := Nat.lt_log2_self
    have h2 : 2 * n < 2 ^ (n.log2 + 2) := by rw [Nat.pow_succ]; omega
    have h3 : 2 ^ (n.log2 + 2) ≤ 2 ^ d := Nat.pow_le_pow_right (by decide) (by omega)
    rw [rnd_small (by omega)]
    have h4 := rnd_small h2
    unfold Toward.cut
    simp only [Nat.min_eq_right (show n.log2 + 2 ≤ d by omega), Nat.shiftLeft_eq, Nat.one_mul]
    exact h4
theorem rnd_mul (k d : Nat) : rnd (k * 2 ^ d) d = k := by
  unfold rnd
  have hp := Nat.two_pow_pos d
  rw [Nat.mul_div_cancel _ hp, Nat.mul_mod_left]
  have h2 : decide (2 ^ d < 2 * 0) = false := decide_eq_false (by omega)
  have h3 : (2 ^ d == 2 * 0) = false := beq_eq_false_iff_ne.2 (by omega)
  rw [h2, h3]; rfl
theorem rnd_mono {n m : Nat} (d : Nat) (h : n ≤ m) : rnd n d ≤ rnd m d := by
  unfold rnd
  have hp := Nat.two_pow_pos d
  have e1 := Nat.div_add_mod n (2 ^ d)
  have e2 := Nat.div_add_mod m (2 ^ d)
  have hq : n / 2 ^ d ≤ m / 2 ^ d := Nat.div_le_div_right h
  generalize hg : 2 ^ d = g at *
  generalize n / g = a at *
  generalize m / g = b at *
  generalize n % g = r at *
  generalize m % g = s at *
  have t1 : ∀ x : Bool, x.toNat ≤ 1 := fun x => by cases x <;> decide
  rcases Nat.lt_or_eq_of_le hq with h1 | h1
  · have := t1 (decide (g < 2 * r) || (g == 2 * r && a % 2 == 1))
    omega
  · subst h1
    have hrs : r ≤ s := by omega
    cases hx : (decide (g < 2 * r) || (g == 2 * r && a % 2 == 1)) with
    | false => simp
    | true =>
      have hy : (decide (g < 2 * s) || (g == 2 * s && a % 2 == 1)) = true := by
        simp only [Bool.or_eq_true, decide_eq_true_eq, Bool.and_eq_true, beq_iff_eq] at hx ⊢
        omega
      rw [hy]
      exact Nat.le_refl _
theorem D_form (n c : Nat) (h0 : n ≠ 0) : D n (-1074 - (c : Int)) = min ((max (n.log2 - 52) c - c) * 4503599627370496 + rnd n (max (n.log2 - 52) c)) INF := by
  unfold D Format.nearest Format.word
  rw [if_neg h0]
  simp only [Bool.false_eq_true, if_false, ef, el, eb, ei, cut_rnd]
  have e1 : (-1074 - (c : Int) - max (-1074 - (c : Int) + (n.log2 : Int) - ((52 : Nat) : Int)) (-1074)).toNat = 0 := by omega
  have e2 : (max (-1074 - (c : Int) + (n.log2 : Int) - ((52 : Nat) : Int)) (-1074) - (-1074 - (c : Int))).toNat = max (n.log2 - 52) c := by omega
  have e3 : (max (-1074 - (c : Int) + (n.log2 : Int) - ((52 : Nat) : Int)) (-1074) - (-1074)).toNat = max (n.log2 - 52) c - c := by omega
  rw [e1, e2, e3]
  simp only [Nat.shiftLeft_zero]
theorem p53 (x : Nat) : 2 ^ (x + 53) = 9007199254740992 * 2 ^ x := by
  rw [Nat.pow_add, Nat.mul_comm]
theorem p52 (x : Nat) : 2 ^ (x + 52) = 4503599627370496 * 2 ^ x := by
  rw [Nat.pow_add, Nat.mul_comm]
theorem rung_key {n m x y : Nat} (h0 : n ≠ 0) (h1 : m ≠ 0) (hlt : x + 1 ≤ y) (hny : y + 52 = m.log2) (hnx : n.log2 ≤ x + 52) : rnd n x ≤ 9007199254740992 ∧ 4503599627370496 ≤ rnd m y := by
  have a1 : n ≤ 9007199254740992 * 2 ^ x := by
    have q1 : n < 2 ^ (n.log2 + 1) := Nat.lt_log2_self
    have q2 : 2 ^ (n.log2 + 1) ≤ 2 ^ (x + 53) := Nat.pow_le_pow_right (by decide) (by omega)
    rw [p53] at q2
    exact Nat.le_trans (Nat.le_of_lt q1) q2
  have a2 : 4503599627370496 * 2 ^ y ≤ m := by
    have q1 := Nat.log2_self_le h1
    rw [← hny, p52] at q1
    exact q1
  have b1 := rnd_mono x a1
  have b2 := rnd_mono y a2
  rw [rnd_mul] at b1 b2
  exact ⟨b1, b2⟩
theorem rung_le {x y c a b : Nat} (hlt : x + 1 ≤ y) (hc : c ≤ x) (b1 : a ≤ 9007199254740992) (b2 : 4503599627370496 ≤ b) : (x - c) * 4503599627370496 + a ≤ (y - c) * 4503599627370496 + b := by
  omega
theorem D_mono0 {n m : Nat} (c : Nat) (h : n ≤ m) : D n (-1074 - (c : Int)) ≤ D m (-1074 - (c : Int)) := by
  by_cases h0 : n = 0
  · subst h0; rw [D_zero]; exact Nat.zero_le _
  have h1 : m ≠ 0 := by omega
  rw [D_form n c h0, D_form m c h1]
  have hl : n.log2 ≤ m.log2 := by
    rw [Nat.le_log2 h1]
    exact Nat.le_trans (Nat.log2_self_le h0) h
  obtain ⟨x, hx⟩ : ∃ x, x = max (n.log2 - 52) c := ⟨_, rfl⟩
  obtain ⟨y, hy⟩ : ∃ y, y = max (m.log2 - 52) c := ⟨_, rfl⟩
  rw [← hx, ← hy]
  have key : (x - c) * 4503599627370496 + rnd n x ≤ (y - c) * 4503599627370496 + rnd m y := by
    by_cases hxy : x = y
    · subst hxy
      have := rnd_mono x h
      omega
    · have hlt : x + 1 ≤ y := by omega
      obtain ⟨b1, b2⟩ := rung_key h0 h1 hlt (by omega) (by omega)
      exact rung_le hlt (by omega) b1 b2
  exact Nat.le_min.2 ⟨Nat.le_trans (Nat.min_le_left _ _) key, Nat.min_le_right _ _⟩
theorem D_at (n : Nat) (p : Int) (c : Nat) (hp : -1074 - (c : Int) ≤ p) : D n p = D (n * 2 ^ (p + 1074 + c).toNat) (-1074 - (c : Int)) :=
  nearest_same dbl _ _ _ _ (-1074 - (c : Int)) hp (Int.le_refl _) (by
    have e1 : (p - (-1074 - (c : Int))).toNat = (p + 1074 + c).toNat := by omega
    have e2 : (-1074 - (c : Int) - (-1074 - (c : Int))).toNat = 0 := by omega
    rw [e1, e2, Nat.pow_zero, Nat.mul_one])
/-- What is written of more is no less. -/
theorem D_mono {n m : Nat} {p q : Int} (c : Nat) (hp : -1074 - (c : Int) ≤ p) (hq : -1074 - (c : Int) ≤ q) (h : n * 2 ^ (p + 1074 + c).toNat ≤ m * 2 ^ (q + 1074 + c).toNat) : D n p ≤ D m q := by
  rw [D_at n p c hp, D_at m q c hq]
  exact D_mono0 c h
theorem V_le {x y : Nat} (hy : y < INF) (h : x ≤ y) : V x ≤ V y := by
  rcases Nat.lt_or_eq_of_le h with h1 | h1
  · exact Nat.le_of_lt (V_lt (by omega) hy h1)
  · rw [h1]; exact Nat.le_refl _
def fmul (x y : Nat) : Nat := (dbl.mul x y).getD 0
def fdiv (x y : Nat) : Nat := (dbl.div x y).getD 0
/-- A sum of what is at most j units and what is at most one. -/
theorem fadd_bd {a b j k : Nat} (ha : a ≤ D j k) (hb : b ≤ D 1 k) (hj : j + 1 < 9007199254740992) (hk : k ≤ 900) : dbl.add a b = some (fadd a b) ∧ fadd a b ≤ D (j + 1) k := by
  obtain ⟨l1, v1⟩ := D_lt j (k : Int) (by omega) (by omega) (by omega)
  obtain ⟨l2, v2⟩ := D_lt 1 (k : Int) (by omega) (by omega) (by omega)
  have h1 := V_le l1 ha
  have h2 := V_le l2 hb
  rw [v1] at h1
  rw [v2] at h2
  have e := add_eq a b (by omega) (by omega)
  unfold fadd
  rw [e]
  refine ⟨rfl, ?_⟩
  show D (V a + V b) (-1074) ≤ D (j + 1) k
  refine D_mono 0 (by omega) (by omega) ?_
  have e1 : ((-1074 : Int) + 1074 + ((0 : Nat) : Int)).toNat = 0 := by omega
  have e2 : ((k : Int) + 1074 + ((0 : Nat) : Int)).toNat = ((k : Int) + 1074).toNat := by omega
  rw [e1, e2, Nat.pow_zero, Nat.mul_one, Nat.add_mul]
  omega
theorem mul_eq (x y : Nat) (hx : x < INF) (hy : y < INF) : dbl.mul x y = some (D (V x * V y) (-2148)) := by
  obtain ⟨r, m, e1, v1, _⟩ := read_V x hx
  obtain ⟨q, n, e2, v2, _⟩ := read_V y hy
  unfold Format.mul
  rw [e1, e2, v1, v2]
  simp only [Datum.product, Option.map_some, Bool.false_xor]
  congr 1
  show D (m * n) ((r : Int) - 1074 + ((q : Int) - 1074)) = _
  refine nearest_same dbl _ _ _ _ (-2148) (by omega) (Int.le_refl _) ?_
  have a1 : ((r : Int) - 1074 + ((q : Int) - 1074) - (-2148)).toNat = r + q := by omega
  have a2 : ((-2148 : Int) - (-2148)).toNat = 0 := by omega
  rw [a1, a2, Nat.pow_zero, Nat.mul_one, Nat.pow_add]
  generalize 2 ^ r = A
  generalize 2 ^ q = B
  rw [Nat.mul_assoc, Nat.mul_assoc, Nat.mul_left_comm n A B]
/-- What is at most one times a number is at most that number. -/
theorem fmul_le {w u : Nat} (hw : w ≤ D 1 0) (hu : u < INF) : dbl.mul w u = some (fmul w u) ∧ fmul w u ≤ u := by
  obtain ⟨l1, v1⟩ := D_lt 1 0 (by omega) (by omega) (by omega)
  have h1 := V_le l1 hw
  rw [v1] at h1
  have e := mul_eq w u (by omega) hu
  unfold fmul
  rw [e]
  refine ⟨rfl, ?_⟩
  show D (V w * V u) (-2148) ≤ u
  have h2 : D (V w * V u) (-2148) ≤ D (V u) (-1074) := by
    refine D_mono 1074 (by omega) (by omega) ?_
    have e1 : ((-2148 : Int) + 1074 + ((1074 : Nat) : Int)).toNat = 0 := by omega
    have e2 : ((-1074 : Int) + 1074 + ((1074 : Nat) : Int)).toNat = 1074 := by omega
    have e3 : ((0 : Int) + 1074).toNat = 1074 := by omega
    rw [e3] at h1
    rw [e1, e2, Nat.pow_zero, Nat.mul_one, Nat.mul_comm]
    exact Nat.mul_le_mul_left _ (by omega)
  rwa [D_V u hu] at h2
def NEG0 : Nat := 9223372036854775808
theorem mul_neg0 {u : Nat} (hu : u < INF) : dbl.mul NEG0 u = some NEG0 := by
  obtain ⟨q, n, e2, v2, _⟩ := read_V u hu
  have e1 : dbl.read NEG0 = .number true 0 (-1074) := readN0
  unfold Format.mul
  rw [e1, e2]
  simp only [Datum.product, Option.map_some, Nat.zero_mul, Bool.true_xor, Bool.not_false]
  congr 1
/-- A hundred. -/
def HUN : Nat := 4636737291354636288
theorem readHUN : dbl.read HUN = .number false 7036874417766400 (-46) := by decide +kernel
theorem hun_D : HUN = D 7036874417766400 (-46) := by decide +kernel
theorem hun_log : Nat.log2 7036874417766400 = 52 := by decide +kernel
theorem quo_le {m more K : Nat} (h : m * 2 ^ more ≤ 7036874417766400 * 2 ^ K) : 2 * (m * 2 ^ more / 7036874417766400) + (m * 2 ^ more % 7036874417766400 != 0).toNat ≤ 2 ^ (K + 1) := by
  rw [Nat.pow_succ]
  generalize m * 2 ^ more = d at *
  generalize 2 ^ K = q at *
  cases hr : (d % 7036874417766400 != 0) with
  | false => simp only [Bool.toNat_false]; omega
  | true =>
    have : d % 7036874417766400 ≠ 0 := by simpa using hr
    simp only [Bool.toNat_true]
    omega
theorem fdiv_le {x : Nat} (hx : x ≤ HUN) : dbl.div x HUN = some (fdiv x HUN) ∧ fdiv x HUN ≤ D 1 0 := by
  have hxi : x < INF := Nat.lt_of_le_of_lt hx (by decide)
  obtain ⟨r, m, e1, v1, hm, hr, hc, hxe⟩ := read_V x hxi
  obtain ⟨l2, v2⟩ := D_lt 7036874417766400 (-46) (by omega) (by omega) (by omega)
  rw [← hun_D] at l2 v2
  have hv := V_le l2 hx
  rw [v1, v2] at hv
  obtain ⟨E, hE⟩ : ∃ E : Nat, E = 1028 := ⟨_, rfl⟩
  have e3 : ((-46 : Int) + 1074).toNat = E := by omega
  rw [e3] at hv
  have e : dbl.div x HUN = some (D (2 * (m * 2 ^ (54 + 52 - m.log2) / 7036874417766400) + (m * 2 ^ (54 + 52 - m.log2) % 7036874417766400 != 0).toNat) ((r : Int) - 1074 - (-46) - ((54 + 52 - m.log2 : Nat) : Int) - 1)) := by
    unfold Format.div
    rw [e1, readHUN]
    simp only [Datum.quotient, hun_log, ef, Nat.shiftLeft_eq]
    rfl
  unfold fdiv
  rw [e]
  refine ⟨rfl, ?_⟩
  show D _ _ ≤ D 1 0
  obtain ⟨more, hmo⟩ : ∃ more, more = 54 + 52 - m.log2 := ⟨_, rfl⟩
  rw [← hmo]
  by_cases hm0 : m = 0
  · subst hm0
    rw [Nat.zero_mul]
    show D 0 _ ≤ _
    rw [D_zero]; exact Nat.zero_le _
  have hlog : m.log2 ≤ 52 := by
    have : m.log2 < 53 := (Nat.log2_lt hm0).2 hm
    omega
  have hr2 : r ≤ E := by
    rcases hc with hc | hc
    · by_cases hq : r ≤ E
      · exact hq
      · have a1 : 2 * 2 ^ E ≤ 2 ^ r := by
          obtain ⟨q, rfl⟩ : ∃ q, r = q + 1 := ⟨r - 1, by omega⟩
          have q1 : 2 ^ (q + 1) = 2 * 2 ^ q := by rw [Nat.pow_succ, Nat.mul_comm]
          rw [q1]
          exact Nat.mul_le_mul_left _ (Nat.pow_le_pow_right (by decide) (by omega))
        have a3 : 4503599627370496 * 2 ^ r ≤ m * 2 ^ r := Nat.mul_le_mul_right _ hc
        have a4 : 0 < 2 ^ E := Nat.two_pow_pos _
        generalize 2 ^ E = g at *
        generalize 2 ^ r = u at *
        generalize m * u = t at *
        omega
    · omega
  have hK : m * 2 ^ more ≤ 7036874417766400 * 2 ^ (E + more - r) := by
    have a1 : m * 2 ^ r * 2 ^ more ≤ 7036874417766400 * 2 ^ E * 2 ^ more := Nat.mul_le_mul_right _ hv
    have a2 : 7036874417766400 * 2 ^ E * 2 ^ more = 7036874417766400 * 2 ^ (E + more - r) * 2 ^ r := by
      generalize 7036874417766400 = Q
      rw [Nat.mul_assoc, Nat.mul_assoc, ← Nat.pow_add, ← Nat.pow_add]
      rw [show E + more - r + r = E + more by omega]
    have a3 : m * 2 ^ r * 2 ^ more = m * 2 ^ more * 2 ^ r := by rw [Nat.mul_right_comm]
    rw [a2, a3] at a1
    generalize m * 2 ^ more = A at a1 ⊢
    generalize 7036874417766400 * 2 ^ (E + more - r) = B at a1 ⊢
    exact Nat.le_of_mul_le_mul_right a1 (Nat.two_pow_pos _)
  have hq := quo_le hK
  refine D_mono 200 (by omega) (by omega) ?_
  obtain ⟨E2, hE2⟩ : ∃ E2 : Nat, E2 = 1274 := ⟨_, rfl⟩
  have e4 : ((0 : Int) + 1074 + ((200 : Nat) : Int)).toNat = E2 := by omega
  have e5 : ((r : Int) - 1074 - (-46) - ((more : Nat) : Int) - 1 + 1074 + ((200 : Nat) : Int)).toNat = r + 245 - more := by omega
  rw [e4, e5, Nat.one_mul]
  refine Nat.le_trans (Nat.mul_le_mul_right _ hq) ?_
  rw [← Nat.pow_add]
  exact Nat.pow_le_pow_right (by decide) (by omega)
theorem div_neg0 : dbl.div NEG0 HUN = some NEG0 := by decide +kernel
theorem D_up {j j' k : Nat} (h : j ≤ j') : D j k ≤ D j' k := D_mono 0 (by omega) (by omega) (Nat.mul_le_mul_right _ h)
theorem D_unit (k e : Nat) : D (2 ^ e) k = D 1 ((k + e : Nat) : Int) := D_same _ _ _ _ (by omega) (by omega) (by
  have e1 : ((k : Int) + 1074).toNat = k + 1074 := by omega
  have e2 : (((k + e : Nat) : Int) + 1074).toNat = e + (k + 1074) := by omega
  rw [e1, e2, Nat.one_mul, ← Nat.pow_add])
end Go.Proofs.Ytjepgpocmnijiaa.Fl
end

section
/- The shares of splits, in plain words: what they are, that they are bounded, and that two ways of reckoning them come to the same. -/
namespace Go.Ck
open Go.Proofs.Ytjepgpocmnijiaa.Fl
set_option linter.unusedVariables false
structure Shr where
  service : ByteArray
  upto : Nat
/-- A service's share is grown, or begun. -/
def addS : List Shr → ByteArray → Nat → List Shr
  | [], s, x => [⟨s, fadd 0 x⟩]
  | y :: l, s, x => if y.service = s then ⟨y.service, fadd y.upto x⟩ :: l else y :: addS l s x
def addL (w : Nat) (l : List Shr) (sub : List Shr) : List Shr := sub.foldl (fun l s => addS l s.service (fmul w s.upto)) l
def tgtS (e : ByteArray → List Shr) (l : List Shr) (t : Tgt) : List Shr :=
  if noS t.service = true then addL (fdiv t.weight HUN) l (e t.split) else addS l t.service (fdiv t.weight HUN)
def shStep (e : ByteArray → List Shr) (ts : List Tgt) : List Shr := ts.foldl (tgtS e) []
/-- The shares of a split, behind so many rounds. -/
def shR (l : List Res) : Nat → ByteArray → List Shr
  | 0, _ => []
  | r + 1, n => if has l 2 n = true then shStep (shR l r) (tgtsOf l n) else []
def shOf (l : List Res) (n : ByteArray) : List Shr := shR l 8 n
theorem fold_congr {e e' : ByteArray → List Shr} : ∀ (ts : List Tgt) (a : List Shr), (∀ t ∈ ts, noS t.service = true → e t.split = e' t.split) → ts.foldl (tgtS e) a = ts.foldl (tgtS e') a
  | [], a, _ => rfl
  | t :: ts, a, h => by
    have h1 : tgtS e a t = tgtS e' a t := by
      unfold tgtS
      by_cases hs : noS t.service = true
      · rw [if_pos hs, if_pos hs, h t (.head _) hs]
      · rw [if_neg hs, if_neg hs]
    simp only [List.foldl_cons, h1]
    exact fold_congr ts _ (fun u hu => h u (.tail _ hu))
theorem shR_succ {l : List Res} {n : ByteArray} (h : has l 2 n = true) (r : Nat) : shR l (r + 1) n = shStep (shR l r) (tgtsOf l n) := by rw [shR, if_pos h]
theorem shR_mono (l : List Res) : ∀ (r : Nat) (n : ByteArray), known l r n ≠ 0 → shR l (r + 1) n = shR l r n
  | 0, n, h => absurd rfl h
  | r + 1, n, h => by
    have hh := known_has h
    rw [shR_succ hh (r + 1), shR_succ hh r]
    rw [known_succ hh r] at h
    exact fold_congr _ _ (fun t ht hs => shR_mono l r t.split (stepE_kid _ _ h t ht hs).1)
/-- A split's shares come of its targets'. -/
theorem shOf_eq {l : List Res} {n : ByteArray} (h : known l 8 n ≠ 0) : shOf l n = shStep (shOf l) (tgtsOf l n) := by
  have hh := known_has h
  unfold shOf
  rw [shR_succ hh 7]
  rw [known_succ hh 7] at h
  exact fold_congr _ _ (fun t ht hs => (shR_mono l 7 t.split (stepE_kid _ _ h t ht hs).1).symm)
theorem step_snoc {e : ByteArray → List Shr} {ts : List Tgt} {i : Nat} {t : Tgt} (h : ts[i]? = some t) : shStep e (ts.take (i + 1)) = tgtS e (shStep e (ts.take i)) t := by
  unfold shStep
  have hi := (List.getElem?_eq_some_iff.1 h).1
  rw [List.take_succ_eq_append_getElem hi, List.foldl_append, (List.getElem?_eq_some_iff.1 h).2]; rfl
theorem addL_snoc {w : Nat} {l sub : List Shr} {i : Nat} {s : Shr} (h : sub[i]? = some s) : addL w l (sub.take (i + 1)) = addS (addL w l (sub.take i)) s.service (fmul w s.upto) := by
  unfold addL
  have hi := (List.getElem?_eq_some_iff.1 h).1
  rw [List.take_succ_eq_append_getElem hi, List.foldl_append, (List.getElem?_eq_some_iff.1 h).2]; rfl
/-! ### what services are named -/
theorem addS_mem {l : List Shr} {s : ByteArray} {x : Nat} {y : Shr} : y ∈ addS l s x → y.service = s ∨ ∃ z ∈ l, z.service = y.service := by
  induction l with
  | nil => intro h; exact .inl (by rw [List.mem_singleton.1 h])
  | cons z l ih =>
    intro h
    unfold addS at h
    split at h
    · rcases List.mem_cons.1 h with rfl | h
      · exact .inr ⟨z, .head _, rfl⟩
      · exact .inr ⟨y, .tail _ h, rfl⟩
    · rcases List.mem_cons.1 h with rfl | h
      · exact .inr ⟨y, .head _, rfl⟩
      · rcases ih h with h | ⟨u, hu, e⟩
        · exact .inl h
        · exact .inr ⟨u, .tail _ hu, e⟩
/-- Shares whose services are apart. -/
def Apart (l : List Shr) : Prop := l.Pairwise fun a b => a.service ≠ b.service
theorem addS_apart {l : List Shr} (h : Apart l) (s : ByteArray) (x : Nat) : Apart (addS l s x) := by
  induction l with
  | nil => exact List.pairwise_singleton _ _
  | cons z l ih =>
    obtain ⟨h1, h2⟩ := List.pairwise_cons.1 h
    unfold addS
    split
    · exact List.pairwise_cons.2 ⟨fun b hb => h1 b hb, h2⟩
    · rename_i hz
      refine List.pairwise_cons.2 ⟨fun b hb => ?_, ih h2⟩
      rcases addS_mem hb with e | ⟨u, hu, e⟩
      · rw [e]; exact hz
      · rw [← e]; exact h1 u hu
theorem addL_apart (w : Nat) : ∀ (sub l : List Shr), Apart l → Apart (addL w l sub)
  | [], l, h => h
  | s :: sub, l, h => addL_apart w sub _ (addS_apart h _ _)
theorem tgtS_apart {e : ByteArray → List Shr} {l : List Shr} (h : Apart l) (t : Tgt) : Apart (tgtS e l t) := by
  unfold tgtS
  split
  · exact addL_apart _ _ _ h
  · exact addS_apart h _ _
theorem step_apart (e : ByteArray → List Shr) : ∀ (ts : List Tgt) (a : List Shr), Apart a → Apart (ts.foldl (tgtS e) a)
  | [], a, h => h
  | t :: ts, a, h => step_apart e ts _ (tgtS_apart h t)
theorem shR_apart (l : List Res) (r : Nat) (n : ByteArray) : Apart (shR l r n) := by
  cases r with
  | zero => exact List.Pairwise.nil
  | succ r =>
    unfold shR
    split
    · exact step_apart _ _ _ List.Pairwise.nil
    · exact List.Pairwise.nil
/-- Do all shares name services that there are? -/
def Named (l : List Res) (a : List Shr) : Prop := ∀ s ∈ a, has l 1 s.service = true
theorem addS_named {l : List Res} {a : List Shr} (h : Named l a) {s : ByteArray} (hs : has l 1 s = true) (x : Nat) : Named l (addS a s x) := fun y hy => by
  rcases addS_mem hy with e | ⟨u, hu, e⟩
  · rw [e]; exact hs
  · rw [← e]; exact h u hu
theorem addL_named {l : List Res} (w : Nat) : ∀ (sub a : List Shr), Named l a → Named l sub → Named l (addL w a sub)
  | [], a, h, _ => h
  | s :: sub, a, h, h' => addL_named w sub _ (addS_named h (h' s (.head _)) _) (fun u hu => h' u (.tail _ hu))
theorem tgtS_named {l : List Res} {e : ByteArray → List Shr} {a : List Shr} (h : Named l a) {t : Tgt} (ht : badT l t = false) (he : noS t.service = true → Named l (e t.split)) : Named l (tgtS e a t) := by
  unfold badT at ht
  unfold tgtS
  by_cases hs : noS t.service = true
  · rw [if_pos hs]; exact addL_named _ _ _ h (he hs)
  · rw [if_neg hs]
    rw [if_neg hs] at ht
    exact addS_named h (by simpa using ht) _
theorem step_named {l : List Res} {e : ByteArray → List Shr} : ∀ (ts : List Tgt) (a : List Shr), Named l a → (∀ t ∈ ts, badT l t = false) → (∀ n, Named l (e n)) → Named l (ts.foldl (tgtS e) a)
  | [], a, h, _, _ => h
  | t :: ts, a, h, ht, he => step_named ts _ (tgtS_named h (ht t (.head _)) (fun _ => he _)) (fun u hu => ht u (.tail _ hu)) he
theorem services_len {l : List Res} {a : List Shr} (h : Named l a) (ha : Apart a) : a.length ≤ l.length := by
  have hnd : (a.map (·.service)).Nodup := List.pairwise_map.2 ha
  have := nodup_len (L := a.map (·.service)) (M := l.map (·.name)) hnd (fun k hk => by
    obtain ⟨s, hs, rfl⟩ := List.mem_map.1 hk
    obtain ⟨r, hr, _, hn⟩ := has_iff.1 (h s hs)
    exact List.mem_map.2 ⟨r, hr, hn⟩)
  simpa using this
/-! ### how great shares are -/
/-- A part of a share: not above a unit, or the lesser nought. -/
def Unit (k x : Nat) : Prop := x ≤ D 1 k ∨ x = NEG0
theorem ge_neg0 : ge NEG0 = true := (ge_iff NEG0 (by decide)).2 (.inr rfl)
theorem pos_neg0 : pos NEG0 = false := by
  rw [← Bool.not_eq_true, pos_iff NEG0 (by decide)]
  intro h
  exact absurd h.2 (by decide)
theorem fadd_ok {a x j k : Nat} (ha : a ≤ D j k) (hx : Unit k x) (hj : j + 1 < 9007199254740992) (hk : k ≤ 900) : dbl.add a x = some (fadd a x) ∧ fadd a x ≤ D (j + 1) k := by
  rcases hx with h | rfl
  · exact fadd_bd ha h hj hk
  · have hi : a ≤ INF := Nat.le_trans ha (D_le _ _)
    have h2 := fadd_zero a NEG0 hi (by decide) ge_neg0 pos_neg0
    exact ⟨(add_ge a NEG0 hi (by decide) ge_neg0).1, by rw [h2]; exact Nat.le_trans ha (D_up (by omega))⟩
theorem D_fin {k : Nat} (hk : k ≤ 900) : D 1 k < INF := (D_lt 1 (k : Int) (by omega) (by omega) (by omega)).1
theorem fmul_ok {w u k : Nat} (hw : Unit 0 w) (hu : u ≤ D 1 k) (hk : k ≤ 900) : dbl.mul w u = some (fmul w u) ∧ Unit k (fmul w u) := by
  have hi : u < INF := Nat.lt_of_le_of_lt hu (D_fin hk)
  rcases hw with h | rfl
  · obtain ⟨h1, h2⟩ := fmul_le h hi
    exact ⟨h1, .inl (Nat.le_trans h2 hu)⟩
  · have h := mul_neg0 hi
    have e : fmul NEG0 u = NEG0 := by unfold fmul; rw [h]; rfl
    rw [e]
    exact ⟨h, .inr rfl⟩
theorem leF_hun {x : Nat} (h : leF x 4636737291354636288 = true) (hx : x ≤ INF) : x ≤ HUN := by
  rcases Nat.lt_or_eq_of_le hx with h1 | h1
  · have e := order_eq x 4636737291354636288 h1 (by decide)
    unfold leF at h
    have e' : Go.FloatKind.f64.format.order x 4636737291354636288 = some (compare x 4636737291354636288) := e
    rw [e'] at h
    rcases Nat.lt_trichotomy x 4636737291354636288 with q | q | q
    · exact Nat.le_of_lt q
    · exact Nat.le_of_eq q
    · rw [Nat.compare_eq_gt.2 q] at h; cases h
  · subst h1
    have : leF INF 4636737291354636288 = false := by decide +kernel
    rw [this] at h; cases h
theorem fdiv_ok {x : Nat} (h : wOk x = true) (hx : x < 18446744073709551616) : dbl.div x HUN = some (fdiv x HUN) ∧ Unit 0 (fdiv x HUN) := by
  unfold wOk at h
  rw [Bool.and_eq_true] at h
  have hg : ge x = true := h.1
  rcases (ge_iff x hx).1 hg with q | q
  · obtain ⟨h1, h2⟩ := fdiv_le (leF_hun h.2 q)
    exact ⟨h1, .inl h2⟩
  · subst q
    have e : fdiv NEG0 HUN = NEG0 := by unfold fdiv; rw [div_neg0]; rfl
    exact ⟨by rw [show (9223372036854775808 : Nat) = NEG0 from rfl, e]; exact div_neg0, .inr e⟩
theorem Unit.up {k k' x : Nat} (h : Unit k x) (hk : k ≤ k') : Unit k' x := by
  rcases h with h | h
  · refine .inl (Nat.le_trans h (D_mono 0 (by omega) (by omega) ?_))
    exact Nat.mul_le_mul_left _ (Nat.pow_le_pow_right (by decide) (by omega))
  · exact .inr h
/-- Shares that are so many units at most. -/
def Bd (k : Nat) (f : ByteArray → Nat) (a : List Shr) : Prop := ∀ s ∈ a, s.upto ≤ D (f s.service) k
theorem addS_bd {k : Nat} {f : ByteArray → Nat} {s : ByteArray} {x : Nat} (hx : Unit k x) (hk : k ≤ 900) (hf : f s + 1 < 9007199254740992) : ∀ {a : List Shr}, Bd k f a → Bd k (fun n => if n = s then f n + 1 else f n) (addS a s x)
  | [], _, y, hy => by
    rw [List.mem_singleton.1 hy]
    show fadd 0 x ≤ D (if s = s then f s + 1 else f s) k
    rw [if_pos rfl]
    exact Nat.le_trans (fadd_ok (j := 0) (Nat.zero_le _) hx (by omega) hk).2 (D_up (by omega))
  | z :: a, h, y, hy => by
    have up : ∀ u : Shr, u.upto ≤ D (f u.service) k → u.upto ≤ D (if u.service = s then f u.service + 1 else f u.service) k := fun u hu => by
      split
      · exact Nat.le_trans hu (D_up (by omega))
      · exact hu
    unfold addS at hy
    split at hy
    · rename_i hz
      rcases List.mem_cons.1 hy with rfl | hy
      · show fadd z.upto x ≤ D (if z.service = s then f z.service + 1 else f z.service) k
        rw [if_pos hz]
        exact (fadd_ok (h z (.head _)) hx (by rw [hz]; exact hf) hk).2
      · exact up y (h y (.tail _ hy))
    · rcases List.mem_cons.1 hy with rfl | hy
      · exact up y (h y (.head _))
      · exact addS_bd hx hk hf (fun u hu => h u (.tail _ hu)) y hy
theorem Bd.up {k : Nat} {f g : ByteArray → Nat} {a : List Shr} (h : Bd k f a) (hfg : ∀ n, f n ≤ g n) : Bd k g a := fun s hs => Nat.le_trans (h s hs) (D_up (hfg _))
/-- Behind the first shares of a part. -/
structure SubB (k j i w : Nat) (a sub : List Shr) (f : ByteArray → Nat) : Prop where
  bd : Bd k f (addL w a (sub.take i))
  le : ∀ n, f n ≤ j + 1
  rest : ∀ m s, i ≤ m → sub[m]? = some s → f s.service ≤ j
theorem SubB.zero {k j w : Nat} {a sub : List Shr} (h : Bd k (fun _ => j) a) : SubB k j 0 w a sub (fun _ => j) := ⟨by rw [List.take_zero]; exact h, fun _ => Nat.le_succ _, fun _ _ _ _ => Nat.le_refl _⟩
theorem SubB.succ {k j i w : Nat} {a sub : List Shr} {f : ByteArray → Nat} (h : SubB k j i w a sub f) (hap : Apart sub) {s : Shr} (hs : sub[i]? = some s) (hx : Unit k (fmul w s.upto)) (hk : k ≤ 900) (hj : j + 1 < 9007199254740992) : SubB k j (i + 1) w a sub (fun n => if n = s.service then f n + 1 else f n) := by
  have h0 := h.rest i s (Nat.le_refl _) hs
  refine ⟨?_, fun n => ?_, fun m u hm hu => ?_⟩
  · rw [addL_snoc hs]
    exact addS_bd hx hk (by omega) h.bd
  · split
    · rename_i e; rw [e]; omega
    · exact h.le n
  · have hne : u.service ≠ s.service := fun e => by
      obtain ⟨h1, e1⟩ := List.getElem?_eq_some_iff.1 hs
      obtain ⟨h2, e2⟩ := List.getElem?_eq_some_iff.1 hu
      have := List.pairwise_iff_getElem.1 hap i m h1 h2 (by omega)
      rw [e1, e2] at this
      exact this e.symm
    show (if u.service = s.service then f u.service + 1 else f u.service) ≤ j
    rw [if_neg hne]
    exact h.rest m u (by omega) hu
/-- A sum that is made has an answer. -/
theorem SubB.add {k j i w : Nat} {a sub : List Shr} {f : ByteArray → Nat} (h : SubB k j i w a sub f) {s y : Shr} (hs : sub[i]? = some s) (hx : Unit k (fmul w s.upto)) (hk : k ≤ 900) (hj : j + 1 < 9007199254740992) (hy : y ∈ addL w a (sub.take i)) (he : y.service = s.service) : dbl.add y.upto (fmul w s.upto) = some (fadd y.upto (fmul w s.upto)) := by
  have h0 := h.rest i s (Nat.le_refl _) hs
  exact (fadd_ok (h.bd y hy) hx (by rw [he]; omega) hk).1
theorem addL_bd {k j w : Nat} {a sub : List Shr} (h : Bd k (fun _ => j) a) (hap : Apart sub) (hx : ∀ s ∈ sub, Unit k (fmul w s.upto)) (hk : k ≤ 900) (hj : j + 1 < 9007199254740992) : Bd k (fun _ => j + 1) (addL w a sub) := by
  have key : ∀ i, i ≤ sub.length → ∃ f, SubB k j i w a sub f := by
    intro i
    induction i with
    | zero => exact fun _ => ⟨_, SubB.zero h⟩
    | succ i ih =>
      intro hi
      obtain ⟨f, hf⟩ := ih (by omega)
      have hs : sub[i]? = some sub[i] := List.getElem?_eq_getElem (by omega)
      exact ⟨_, hf.succ hap hs (hx _ (List.mem_of_getElem? hs)) hk hj⟩
  obtain ⟨f, hf⟩ := key sub.length (Nat.le_refl _)
  have := hf.bd
  rw [List.take_length] at this
  exact this.up hf.le
/-- A configuration without a fault, as far as shares go. -/
structure Cfg (l : List Res) : Prop where
  n : l.length ≤ 64
  out : outI l < 0
  dang : ∀ j, j < l.length → dangIx l j = false
  heavy : ∀ j, j < l.length → heavyIx l j = false
  ring : ∀ j, j < l.length → ringIx l j = false
  w : ∀ r ∈ l, ∀ t ∈ r.tgts, t.weight < 18446744073709551616
  t : ∀ r ∈ l, r.tgts.length ≤ 1048576
theorem at_mem {l : List Res} {r : Res} (h : r ∈ l) : ∃ j, j < l.length ∧ l[j]? = some r := by
  obtain ⟨j, hj⟩ := List.mem_iff_getElem?.1 h
  exact ⟨j, (List.getElem?_eq_some_iff.1 hj).1, hj⟩
theorem find_split {l : List Res} {n : ByteArray} (h : has l 2 n = true) : ∃ r, l.find? (isK 2 n) = some r ∧ r ∈ l ∧ r.kind = 2 ∧ r.name = n ∧ tgtsOf l n = r.tgts := by
  cases hf : l.find? (isK 2 n) with
  | none =>
    obtain ⟨r, hr, hk, hn⟩ := has_iff.1 h
    have := List.find?_eq_none.1 hf r hr
    unfold isK at this
    rw [hk, hn] at this
    simp [seq_iff] at this
  | some r =>
    have h1 := List.find?_some hf
    unfold isK at h1
    rw [Bool.and_eq_true, beq_iff_eq, seq_iff] at h1
    exact ⟨r, rfl, List.mem_of_find?_eq_some hf, h1.1, h1.2, by unfold tgtsOf; rw [hf]⟩
theorem upI_neg {n : Nat} {p : Nat → Bool} (h : ¬ 0 ≤ upI (firstN n p)) : ∀ j, j < n → p j = false := by
  rcases firstN_cases n p with ⟨_, h1⟩ | ⟨i, hi, e, h1, h2⟩
  · exact h1
  · rw [e] at h
    unfold upI at h
    split at h <;> omega
theorem Cfg.tgt {l : List Res} (h : Cfg l) {r : Res} (hr : r ∈ l) (hk : r.kind = 2) : ∀ t ∈ r.tgts, badT l t = false := fun t ht => by
  obtain ⟨j, hj, hx⟩ := at_mem hr
  have h1 := h.dang j hj
  rw [dangIx_at hx, decide_eq_false_iff_not] at h1
  unfold dangI at h1
  rw [if_pos hk] at h1
  obtain ⟨i, hi⟩ := List.mem_iff_getElem?.1 ht
  have := upI_neg h1 i (List.getElem?_eq_some_iff.1 hi).1
  rwa [badTx_at hi] at this
theorem Cfg.wok {l : List Res} (h : Cfg l) {r : Res} (hr : r ∈ l) (hk : r.kind = 2) : ∀ t ∈ r.tgts, wOk t.weight = true := fun t ht => by
  obtain ⟨j, hj, hx⟩ := at_mem hr
  have h1 := h.heavy j hj
  rw [heavyIx_at hx, hk] at h1
  unfold Ck.heavy at h1
  simp only [beq_self_eq_true, Bool.true_and, Bool.not_eq_false', Bool.and_eq_true, List.all_eq_true] at h1
  exact h1.1 _ (List.mem_map.2 ⟨t, ht, rfl⟩)
theorem Cfg.known {l : List Res} (h : Cfg l) {n : ByteArray} (hn : has l 2 n = true) : known l 8 n ≠ 0 := by
  obtain ⟨r, _, hr, hk, he, _⟩ := find_split hn
  obtain ⟨j, hj, hx⟩ := at_mem hr
  have h1 := h.ring j hj
  rw [ringIx_at hx, hk, he] at h1
  simpa using h1
/-- What of a split's targets holds. -/
theorem Cfg.of {l : List Res} (h : Cfg l) {n : ByteArray} (hn : has l 2 n = true) : (∀ t ∈ tgtsOf l n, badT l t = false ∧ wOk t.weight = true ∧ t.weight < 18446744073709551616) ∧ (tgtsOf l n).length ≤ 1048576 := by
  obtain ⟨r, _, hr, hk, he, ht⟩ := find_split hn
  rw [ht]
  exact ⟨fun t h1 => ⟨h.tgt hr hk t h1, h.wok hr hk t h1, h.w r hr t h1⟩, h.t r hr⟩
theorem shR_named {l : List Res} (h : Cfg l) : ∀ (r : Nat) (n : ByteArray), Named l (shR l r n)
  | 0, _ => fun s hs => by cases hs
  | r + 1, n => by
    unfold shR
    split
    · rename_i hn
      exact step_named _ _ (fun s hs => by cases hs) (fun t ht => ((h.of hn).1 t ht).1) (shR_named h r)
    · exact fun s hs => by cases hs
theorem tgtS_bd {k j : Nat} {e : ByteArray → List Shr} {a : List Shr} {t : Tgt} (h : Bd k (fun _ => j) a) (hw : wOk t.weight = true) (hx : t.weight < 18446744073709551616) (he : noS t.service = true → Apart (e t.split) ∧ ∀ s ∈ e t.split, s.upto ≤ D 1 k) (hk : k ≤ 900) (hj : j + 1 < 9007199254740992) : Bd k (fun _ => j + 1) (tgtS e a t) := by
  obtain ⟨_, hu⟩ := fdiv_ok hw hx
  unfold tgtS
  by_cases hs : noS t.service = true
  · rw [if_pos hs]
    obtain ⟨h1, h2⟩ := he hs
    exact addL_bd h h1 (fun s hs => (fmul_ok hu (h2 s hs) hk).2) hk hj
  · rw [if_neg hs]
    refine (addS_bd (hu.up (Nat.zero_le _)) hk hj h).up (fun n => ?_)
    split <;> omega
theorem step_bd {k : Nat} {e : ByteArray → List Shr} (hk : k ≤ 900) : ∀ (ts : List Tgt) (j : Nat) (a : List Shr), Bd k (fun _ => j) a → (∀ t ∈ ts, wOk t.weight = true ∧ t.weight < 18446744073709551616 ∧ (noS t.service = true → Apart (e t.split) ∧ ∀ s ∈ e t.split, s.upto ≤ D 1 k)) → j + ts.length < 9007199254740992 → Bd k (fun _ => j + ts.length) (ts.foldl (tgtS e) a)
  | [], j, a, h, _, _ => h
  | t :: ts, j, a, h, ht, hj => by
    obtain ⟨h1, h2, h3⟩ := ht t (.head _)
    simp only [List.length_cons] at hj
    have := step_bd hk ts (j + 1) _ (tgtS_bd h h1 h2 h3 hk (by omega)) (fun u hu => ht u (.tail _ hu)) (by omega)
    simp only [List.foldl_cons, List.length_cons]
    exact this.up (fun _ => by omega)
theorem shR_bd {l : List Res} (h : Cfg l) : ∀ (r : Nat), r ≤ 8 → ∀ (n : ByteArray), ∀ s ∈ shR l r n, s.upto ≤ D 1 ((20 * r : Nat) : Int)
  | 0, _, _, s, hs => by cases hs
  | r + 1, hr, n, s, hs => by
    unfold shR at hs
    split at hs
    · rename_i hn
      obtain ⟨h1, h2⟩ := h.of hn
      have h3 := step_bd (k := 20 * r) (e := shR l r) (by omega) (tgtsOf l n) 0 [] (fun s hs => by cases hs) (fun t ht => ⟨(h1 t ht).2.1, (h1 t ht).2.2, fun _ => ⟨shR_apart l r _, shR_bd h r (by omega) _⟩⟩) (by omega)
      have h4 := h3 s hs
      have h5 : D (0 + (tgtsOf l n).length) ((20 * r : Nat) : Int) ≤ D (2 ^ 20) ((20 * r : Nat) : Int) := D_up (by omega)
      have h6 := D_unit (20 * r) 20
      rw [h6] at h5
      rw [show 20 * (r + 1) = 20 * r + 20 by omega]
      exact Nat.le_trans h4 h5
    · cases hs
theorem shOf_bd {l : List Res} (h : Cfg l) (n : ByteArray) : ∀ s ∈ shOf l n, s.upto ≤ D 1 ((160 : Nat) : Int) := shR_bd h 8 (Nat.le_refl _) n
theorem shOf_apart (l : List Res) (n : ByteArray) : Apart (shOf l n) := shR_apart l 8 n
theorem shOf_named {l : List Res} (h : Cfg l) (n : ByteArray) : Named l (shOf l n) := shR_named h 8 n
theorem shOf_len {l : List Res} (h : Cfg l) (n : ByteArray) : (shOf l n).length ≤ 64 := Nat.le_trans (services_len (shOf_named h n) (shOf_apart l n)) h.n
/-- Behind the first targets: bounded, few, and apart. -/
theorem step_take {l : List Res} (h : Cfg l) {n : ByteArray} (hn : has l 2 n = true) (i : Nat) (hi : i ≤ (tgtsOf l n).length) : Bd 160 (fun _ => i) (shStep (shOf l) ((tgtsOf l n).take i)) ∧ Apart (shStep (shOf l) ((tgtsOf l n).take i)) ∧ (shStep (shOf l) ((tgtsOf l n).take i)).length ≤ 64 := by
  obtain ⟨h1, h2⟩ := h.of hn
  have hm : ∀ t ∈ (tgtsOf l n).take i, t ∈ tgtsOf l n := fun t ht => List.mem_of_mem_take ht
  have h3 := step_bd (k := 160) (e := shOf l) (by omega) ((tgtsOf l n).take i) 0 [] (fun s hs => by cases hs) (fun t ht => ⟨(h1 t (hm t ht)).2.1, (h1 t (hm t ht)).2.2, fun _ => ⟨shOf_apart l _, shOf_bd h _⟩⟩) (by rw [List.length_take]; omega)
  have ha : Apart (shStep (shOf l) ((tgtsOf l n).take i)) := step_apart _ _ _ List.Pairwise.nil
  have hN : Named l (shStep (shOf l) ((tgtsOf l n).take i)) := step_named _ _ (fun s hs => by cases hs) (fun t ht => (h1 t (hm t ht)).1) (shOf_named h)
  refine ⟨h3.up (fun _ => by rw [List.length_take]; omega), ha, Nat.le_trans (services_len hN ha) h.n⟩
/-! ### steps -/
def ONE : Nat := 4607182418800017408
def stF (a : List Shr × Nat) (s : Shr) : List Shr × Nat := if pos s.upto = true then (a.1 ++ [⟨s.service, fadd a.2 s.upto⟩], fadd a.2 s.upto) else a
def stL (l : List Shr) : List Shr × Nat := l.foldl stF ([], 0)
def lastOne (l : List Shr) : List Shr := match l[l.length - 1]? with
  | some s => l.set (l.length - 1) ⟨s.service, ONE⟩
  | none => l
def stepsS (l : List Shr) : List Shr := lastOne (stL l).1
theorem stL_snoc {l : List Shr} {i : Nat} {s : Shr} (h : l[i]? = some s) : stL (l.take (i + 1)) = stF (stL (l.take i)) s := by
  unfold stL
  have hi := (List.getElem?_eq_some_iff.1 h).1
  rw [List.take_succ_eq_append_getElem hi, List.foldl_append, (List.getElem?_eq_some_iff.1 h).2]; rfl
theorem stF_len (a : List Shr × Nat) (s : Shr) : (stF a s).1.length ≤ a.1.length + 1 := by
  unfold stF; split
  · simp
  · exact Nat.le_succ _
theorem stL_len (l : List Shr) (i : Nat) : (stL (l.take i)).1.length ≤ i := by
  induction i with
  | zero => simp [stL]
  | succ i ih =>
    by_cases hi : i < l.length
    · rw [stL_snoc (List.getElem?_eq_getElem hi)]
      exact Nat.le_trans (stF_len _ _) (by omega)
    · rw [List.take_of_length_le (by omega)]
      rw [List.take_of_length_le (by omega)] at ih
      omega
theorem pos_ge {x : Nat} (h : pos x = true) : ge x = true := by
  unfold ge
  unfold pos at h
  rw [h]; rfl
theorem stF_sum {a : List Shr × Nat} {s : Shr} (ha : a.2 ≤ INF) (hs : s.upto < 18446744073709551616) : (stF a s).2 ≤ INF ∧ (pos s.upto = true → dbl.add a.2 s.upto = some (fadd a.2 s.upto)) := by
  unfold stF
  split
  · rename_i hp
    obtain ⟨h1, h2⟩ := add_ge a.2 s.upto ha hs (pos_ge hp)
    exact ⟨h2, fun _ => h1⟩
  · rename_i hp
    exact ⟨ha, fun q => absurd q hp⟩
theorem stL_sum {l : List Shr} (hl : ∀ s ∈ l, s.upto < 18446744073709551616) (i : Nat) : (stL (l.take i)).2 ≤ INF := by
  induction i with
  | zero => rw [List.take_zero]; exact Nat.zero_le _
  | succ i ih =>
    by_cases hi : i < l.length
    · have hx : l[i]? = some l[i] := List.getElem?_eq_getElem hi
      rw [stL_snoc hx]
      exact (stF_sum ih (hl _ (List.mem_of_getElem? hx))).1
    · rw [List.take_of_length_le (by omega)]
      rwa [List.take_of_length_le (by omega)] at ih
theorem lastOne_at {l : List Shr} {s : Shr} (h : l[l.length - 1]? = some s) : lastOne l = l.set (l.length - 1) ⟨s.service, ONE⟩ := by unfold lastOne; rw [h]
theorem lastOne_nil : lastOne [] = [] := rfl
end Go.Ck
end

section

namespace Go.Ck
open Go.RowKit Go.Mp
set_option linter.unusedVariables false
def shrE : Rd.Elem Shr := (Rd.pair Rd.str (Rd.pair Rd.float Rd.none)).map fun t => (t.service, t.upto, ())
def shrC : Rd.Enc shrE := ⟨fun t => [.string t.service, .float .f64 t.upto], fun t => t.service.size ≤ maxLen ∧ t.upto < 18446744073709551616, fun _ => rfl, by decide, fun x u hu => by
    simp only [List.mem_cons, List.not_mem_nil, or_false] at hu; rcases hu with rfl | rfl <;> rfl, fun h => by
    obtain ⟨⟨c0, s0⟩, ⟨c1, s1⟩, _⟩ := h
    refine ⟨fun j u hu => ?_, s0, s1⟩
    match j, hu with
    | 0, hu => simp only [List.getElem?_cons_zero, Option.some.injEq] at hu; rw [← hu]; exact c0
    | 1, hu => simp only [List.getElem?_cons_succ, List.getElem?_cons_zero, Option.some.injEq] at hu; rw [← hu]; exact c1
    | j + 2, hu => simp at hu, fun h hc => ⟨⟨hc 0 _ rfl, h.1⟩, ⟨hc 1 _ rfl, h.2⟩, trivial⟩⟩
def flat (a : List Shr) : List Value := a.flatMap shrC.enc
theorem flat_snoc (a : List Shr) (y : Shr) : flat (a ++ [y]) = flat a ++ [.string y.service, .float .f64 y.upto] := by
  unfold flat; rw [List.flatMap_append]; rfl
theorem flat_set : ∀ {a : List Shr} {i : Nat} {y : Shr} (u : Nat), a[i]? = some y → flat (a.set i ⟨y.service, u⟩) = (flat a).set (i * 2 + 1) (.float .f64 u)
  | [], i, y, u, h => by cases h
  | z :: a, 0, y, u, h => by
    simp only [List.getElem?_cons_zero, Option.some.injEq] at h
    subst h; rfl
  | z :: a, i + 1, y, u, h => by
    have e1 : flat ((z :: a).set (i + 1) ⟨y.service, u⟩) = .string z.service :: .float .f64 z.upto :: flat (a.set i ⟨y.service, u⟩) := rfl
    have e2 : flat (z :: a) = .string z.service :: .float .f64 z.upto :: flat a := rfl
    rw [e1, e2, flat_set u (by simpa using h), show (i + 1) * 2 + 1 = (i * 2 + 1) + 1 + 1 by omega]
    rfl
theorem flat_at {a : List Shr} {i : Nat} {y : Shr} (h : a[i]? = some y) : (flat a)[i * 2]? = some (.string y.service) ∧ (flat a)[i * 2 + 1]? = some (.float .f64 y.upto) := by
  have h0 := Rd.flat_at shrC.len h 0 (by decide)
  have h1 := Rd.flat_at shrC.len h 1 (by decide)
  exact ⟨h0, h1⟩
def OkS (a : List Shr) : Prop := ∀ s ∈ a, s.service.size ≤ maxLen ∧ s.upto < 18446744073709551616
/-- Shares in memory of one's own. -/
structure OwnS (w : World) (B : Nat) (v : Value) (a : List Shr) : Prop where
  row : w.ownsRow B 73 2 v a.length (flat a)
  ok : OkS a
abbrev ShS (w : World) (v : Value) (a : List Shr) : Prop := Rd.SliceOf shrE w v a
theorem OwnS.reads {w : World} {B : Nat} {v : Value} {a : List Shr} (h : OwnS w B v a) (hl : a.length ≤ 140737488351232) : ShS w v a := Rd.own_slice shrC h.row h.ok hl
theorem ShS.ok {w : World} {v : Value} {a : List Shr} (h : ShS w v a) : OkS a := Rd.slice_ok shrC h
theorem shr_at {w wr : World} {ao : Option Addr} {n cap : Nat} {xs : List Shr} (h : ShS w (.slice ao n cap) xs) (hb : Below w.heap.size w wr) {i : Nat} {x : Shr} (hx : xs[i]? = some x) :
    ∃ b off, ao = some ⟨b, off, none⟩ ∧ b < w.heap.size ∧ wr.cell? ⟨b, off + i * 2, none⟩ = some (.string x.service) ∧ wr.cell? ⟨b, off + i * 2 + 1, none⟩ = some (.float .f64 x.upto) ∧ x.service.size ≤ maxLen ∧ x.upto < 18446744073709551616 := by
  obtain ⟨b, off, e, hbw, ⟨c0, s0⟩, ⟨c1, s1⟩, _⟩ := at_i h hb hx
  exact ⟨b, off, e, hbw, c0, c1, s0, s1⟩
def isSx (a : List Shr) (s : ByteArray) (m : Nat) : Bool := match a[m]? with
  | some y => y.service.toList == s.toList
  | none => false
theorem isSx_at {a : List Shr} {s : ByteArray} {m : Nat} {y : Shr} (h : a[m]? = some y) : isSx a s m = (y.service.toList == s.toList) := by unfold isSx; rw [h]
def ixS (a : List Shr) (s : ByteArray) : Int := firstN a.length (isSx a s)
theorem addS_none : ∀ {a : List Shr} {s : ByteArray} {x : Nat}, (∀ j, j < a.length → isSx a s j = false) → addS a s x = a ++ [⟨s, Go.Proofs.Ytjepgpocmnijiaa.Fl.fadd 0 x⟩]
  | [], s, x, _ => rfl
  | y :: a, s, x, h => by
    have h0 : seq y.service s = false := h 0 (Nat.zero_lt_succ _)
    have h1 : ¬ y.service = s := seq_not.1 h0
    unfold addS
    rw [if_neg h1, addS_none (a := a) (fun j hj => h (j + 1) (Nat.succ_lt_succ hj))]; rfl
theorem addS_some : ∀ {a : List Shr} {s : ByteArray} {x i : Nat} {y : Shr}, (∀ j, j < i → isSx a s j = false) → a[i]? = some y → isSx a s i = true → addS a s x = a.set i ⟨y.service, Go.Proofs.Ytjepgpocmnijiaa.Fl.fadd y.upto x⟩
  | [], s, x, i, y, _, h, _ => by cases h
  | z :: a, s, x, 0, y, _, h, hy => by
    simp only [List.getElem?_cons_zero, Option.some.injEq] at h
    subst h
    have h1 : z.service = s := seq_iff.1 hy
    unfold addS
    rw [if_pos h1]; rfl
  | z :: a, s, x, i + 1, y, hno, h, hy => by
    have h0 : seq z.service s = false := hno 0 (Nat.zero_lt_succ _)
    unfold addS
    rw [if_neg (seq_not.1 h0), addS_some (a := a) (fun j hj => hno (j + 1) (Nat.succ_lt_succ hj)) (by simpa using h) hy]; rfl
end Go.Ck
namespace Go.Proofs.Ytjepgpocmnijiaa
open Go.RowKit Go.Mp Go.Ck Fl
set_option linter.unusedVariables false
set_option maxRecDepth 100000
set_option maxHeartbeats 4000000
theorem wp_append_lit {P : Program} {w : World} {ops : Array Oper} {rest : List Oper} {o : Oper} {act : Act} {Q : Exit → Act → World → Prop} (hgd : o.guard = .none) (s x : Operand) (t : TypeId)
    (ho : o.op = .call { callee := .builtin .append, args := #[s, x], argTypes := #[t, t] }) (base : Nat) (e : TypeId) (i : TypeInfo) (z : Value) (size bytes : Nat) (ht : P.underlying t = some (.slice e)) (hi : P.info? e = some i) (hz : i.zero = some z)
    (hsize : i.size = size) (hby : i.bytes = bytes) (hzs : z.cells.size = size) (hsz : 0 < size) (v : Value) (n : Nat) (xs : List Value) (hs : act.eval s = v) (hown : w.ownsRow base e size v n xs)
    (a : Addr) (m c : Nat) (news : List Value) (hxv : act.eval x = .slice (some a) m c) (hl : news.length = m * size) (hnews : ∀ j u, news[j]? = some u → w.cell? (a.add j) = some u) (h1 : ∀ u ∈ news, u.oneCell' = true)
    (h63 : n + m ≤ maxLen) (hbytes : (n + m) * bytes ≤ 140737488355328) (hbase : base ≤ w.heap.size)
    (h : ∀ v' w', w'.ownsRow base e size v' (n + m) (xs ++ news) → w.grownBy w' v.ownBlock → (∀ g, v'.ownBlock = some g → v.ownBlock = some g ∨ w.heap.size ≤ g) → wpList P ops Q rest (act.put o.dst v') w') : wpList P ops Q (o :: rest) act w :=
  wpList_plain hgd fun _ hK => by
    obtain ⟨v', w', hr, h2, h3, h4, h5⟩ := run_append_own_at (P := P) w base t o.type e i z size bytes ht hi hz hsize hby hzs hsz v n xs hown a m c news hl hnews h1 h63 hbytes hbase
    unfold Oper.wp execOp
    simp only [ho, resolve, invoke, builtin, Sem.run_bind, Sem.run_pure, Result.andThen_ok, List.map_toArray, List.map_cons, List.map_nil, hs, hxv, hr]
    refine hK _ _ (h v' w' h2 h3 (fun g hg => ?_))
    rcases h5 with q | q
    · exact .inl (by rw [← q]; exact hg)
    · rw [q] at hg; cases hg; exact .inr (Nat.le_refl _)
theorem run_add {a b c : Nat} (h : dbl.add a b = some c) : ∀ w, (binOp .add 55 (.float .f64 a) (.float .f64 b)).run Try.prog w = .ok (.float .f64 c) w := fun w => run_float_arith w .add 55 .f64 _ _ _ h
theorem run_mul {a b c : Nat} (h : dbl.mul a b = some c) : ∀ w, (binOp .mul 55 (.float .f64 a) (.float .f64 b)).run Try.prog w = .ok (.float .f64 c) w := fun w => run_float_arith w .mul 55 .f64 _ _ _ h
theorem run_div {a b c : Nat} (h : dbl.div a b = some c) : ∀ w, (binOp .quo 55 (.float .f64 a) (.float .f64 b)).run Try.prog w = .ok (.float .f64 c) w := fun w => run_float_arith w .quo 55 .f64 _ _ _ h
theorem info73 : (Try.prog.info? 73).map (fun i => (i.zero, i.size, i.bytes)) = some (some (.agg #[.string ⟨#[]⟩, .float .f64 0]), 2, 24) := by kernel_rfl
theorem is153 (y : Shr) (s : ByteArray) (xb : Nat) (w : World) (hxb : xb < w.heap.size) (c0 : w.cell? ⟨xb, 0, none⟩ = some (.string s)) :
    Calls Try.prog 153 #[.agg #[.string y.service, .float .f64 y.upto], .pointer (some ⟨xb, 0, none⟩)] w fun e w' => e = .returned (.bool (y.service.toList == s.toList)) ∧ Below w.heap.size w w' := by
  have hb1 := alloc_below w (.cells #[.string y.service, .float .f64 y.upto] 73)
  have k0 := (hb1.cell (p := ⟨xb, 0, none⟩) hxb).trans c0
  obtain ⟨b, hb⟩ : ∃ b, (y.service.toList == s.toList) = b := ⟨_, rfl⟩
  rw [hb]
  replace hb1 := Lib.hid hb1
  replace hxb := Lib.hid hxb
  clear c0
  cases b with
  | true =>
    go_enter Try.func153, Try.ntmps153
    go_wp2
    go_ret
    exact ⟨rfl, hb1.out⟩
  | false =>
    go_enter Try.func153, Try.ntmps153
    go_wp2
    go_ret
    exact ⟨rfl, hb1.out⟩
theorem idx152 (a : List Shr) (s : ByteArray) (xb : Nat) (v : Value) (w : World) (hrs : ShS w v a) (hxb : xb < w.heap.size) (c0 : w.cell? ⟨xb, 0, none⟩ = some (.string s)) :
    Calls Try.prog 152 #[v, .func (.func 153) #[] #[.pointer (some ⟨xb, 0, none⟩)]] w fun e w' => e = .returned (.int .i64 (ixS a s)) ∧ Below w.heap.size w w' := by
  obtain ⟨ao, cap, rfl⟩ := slice_shape hrs
  have hlen := hrs.1
  unfold ixS
  replace hrs := Lib.hid hrs
  replace hxb := Lib.hid hxb
  replace c0 := Lib.hid c0
  go_enter Try.func152, Try.ntmps152
  go_wp2
  go_loopg [8] (a.length + 1) (fun gg ic wr => ∃ i : Nat, gg = a.length - i + 1 ∧ i ≤ a.length ∧ ic = .int .i64 i ∧ Hid (∀ j, j < i → isSx a s j = false) ∧ Hid (Below w.heap.size w wr))
  case atStart => exact ⟨0, rfl, Nat.zero_le _, rfl, Lib.hid (fun j hj => absurd hj (Nat.not_lt_zero j)), Lib.hid (Below.refl _ _)⟩
  case round =>
    obtain ⟨i, rfl, hi, rfl, hno, hbw⟩ := hrel
    by_cases hlt : i < a.length
    · obtain ⟨y, hy⟩ : ∃ y, a[i]? = some y := ⟨_, List.getElem?_eq_getElem hlt⟩
      obtain ⟨b, off, rfl, _, e0, e1, s0, _⟩ := shr_at hrs.out hbw.out hy
      have hk0 : (i : Int) < (a.length : Int) := nn_lt hlt
      have hwk := Lib.hid (nn_succ2 hlt hlen)
      have hix := isSx_at (s := s) hy
      have hC := is153 y s xb wr (Nat.lt_of_lt_of_le hxb.out hbw.out.size) ((hbw.out.cell (p := ⟨xb, 0, none⟩) hxb.out).trans c0.out)
      generalize (y.service.toList == s.toList) = cv at *
      replace hC := Lib.hid hC
      replace hy := Lib.hid hy
      cases cv with
      | true =>
        have hf := firstN_at hno.out hlt hix
        replace hix := Lib.hid hix
        replace hf := Lib.hid hf
        replace hno := Lib.hid hno
        go_wp2_with (first | (go_at_call 153; (with_reducible refine hC.out.mono ?_); rintro e w2 ⟨rfl, hb2⟩; replace hb2 := Lib.hid hb2) | fail)
        go_ret
        exact ⟨ret_i hf.out.symm, seq_below hbw.out hb2.out⟩
      | false =>
        have hno2 := no_upto hno.out hix
        replace hix := Lib.hid hix
        replace hno := Lib.hid hno
        replace hno2 := Lib.hid hno2
        go_wp2_with (first | (go_at_call 153; (with_reducible refine hC.out.mono ?_); rintro e w2 ⟨rfl, hb2⟩; replace hb2 := Lib.hid hb2) | fail)
        go_roundg (a.length - (i + 1) + 1)
        case rel => exact ⟨i + 1, rfl, hlt, by first | rw [hwk.out] | go_num, hno2, Lib.hid (seq_below hbw.out hb2.out)⟩
        case measure => exact nn_downS hlt
    · have hk0 : decide ((i : Int) < (a.length : Int)) = false := decide_eq_false (by omega)
      have hf := firstN_none (n := a.length) (fun j hj => hno.out j (by omega))
      replace hf := Lib.hid hf
      replace hno := Lib.hid hno
      go_wp2
      go_ret
      exact ⟨ret_i hf.out.symm, hbw.out⟩
/-- How a share that is grown lies. -/
def AddO (w : World) (B : Nat) (v : Value) (a' : List Shr) (e : Ending) (w' : World) : Prop := ∃ v', e = .returned v' ∧ OwnS w' B v' a' ∧ Tch (fun k => v.ownBlock = some k) w w' ∧ ∀ g, v'.ownBlock = some g → v.ownBlock = some g ∨ w.heap.size ≤ g
theorem _root_.Go.Ck.OwnS.tch {w w' : World} {B : Nat} {v : Value} {a : List Shr} {S : Nat → Prop} (h : OwnS w B v a) (t : Tch S w w') (hs : ∀ g, v.ownBlock = some g → ¬ S g) : OwnS w' B v a := ⟨ownsRow_tch h.row t hs, h.ok⟩
theorem oks_some {a : List Shr} (h : OkS a) {i : Nat} {y : Shr} (hy : a[i]? = some y) {u : Nat} (hu : u < 18446744073709551616) : OkS (a.set i ⟨y.service, u⟩) := fun z hz => by
  rcases List.mem_or_eq_of_mem_set hz with h1 | rfl
  · exact h z h1
  · exact ⟨(h y (List.mem_of_getElem? hy)).1, hu⟩
theorem oks_snoc {a : List Shr} (h : OkS a) {s : ByteArray} {u : Nat} (hs : s.size ≤ maxLen) (hu : u < 18446744073709551616) : OkS (a ++ [⟨s, u⟩]) := fun z hz => by
  rcases List.mem_append.1 hz with h1 | h1
  · exact h z h1
  · rw [List.mem_singleton.1 h1]; exact ⟨hs, hu⟩
theorem add133 (a : List Shr) (v : Value) (B : Nat) (w : World) (s : ByteArray) (x : Nat) (hO : OwnS w B v a) (hl : a.length ≤ 1048576) (hs : s.size ≤ maxLen) (hB : B ≤ w.heap.size)
    (hadd : ∀ y ∈ a, y.service = s → dbl.add y.upto x = some (fadd y.upto x) ∧ fadd y.upto x ≤ INF) (h0 : dbl.add 0 x = some (fadd 0 x) ∧ fadd 0 x ≤ INF) : Calls Try.prog 133 #[v, .string s, .float .f64 x] w (AddO w B v (addS a s x)) := by
  obtain ⟨i73, h73, h730, h731, h732⟩ := info_parts info73
  replace h73 := Lib.hid h73
  replace h730 := Lib.hid h730
  replace h731 := Lib.hid h731
  replace h732 := Lib.hid h732
  obtain ⟨ao, cap, rfl⟩ := ownsRow_shape hO.row
  have hr := hO.reads (by omega)
  have hba := alloc_below w (.cells #[.string s] 9)
  have hC := idx152 a s w.heap.size (.slice ao a.length cap) (w.alloc (.cells #[.string s] 9)) (hr.below hba) (by simp) ((cell_of_row _ _ 0 _ _ _ (heap_alloc_new w _)).trans rfl)
  obtain ⟨wa, hwa⟩ : ∃ wa, wa = w.alloc (.cells #[.string s] 9) := ⟨_, rfl⟩
  obtain ⟨sb, hsb⟩ : ∃ sb, sb = w.heap.size := ⟨_, rfl⟩
  have cs : wa.cell? ⟨sb, 0, none⟩ = some (.string s) := by rw [hwa, hsb]; exact (cell_of_row _ _ 0 _ _ _ (heap_alloc_new w _)).trans rfl
  have hsl : sb < wa.heap.size := by rw [hwa, hsb]; simp
  rw [← hwa] at hC hba
  rcases firstN_cases a.length (isSx a s) with ⟨e1, hno⟩ | ⟨i, hi, e1, hy1, hno⟩
  · have hA := addS_none (x := x) hno
    have e2 : ixS a s = -1 := e1
    rw [hA]
    rw [e2, hsb.symm] at hC
    replace hO := Lib.hid hO
    replace hs := Lib.hid hs
    replace hadd := Lib.hid hadd
    replace h0 := Lib.hid h0
    replace hr := Lib.hid hr
    replace hC := Lib.hid hC
    replace e1 := Lib.hid e1
    replace hno := Lib.hid hno
    replace e2 := Lib.hid e2
    replace hA := Lib.hid hA
    go_enter Try.func133, Try.ntmps133
    go_upto_region 2 with fail
    rw [← hwa, ← hsb]
    replace hwa := Lib.hid hwa
    replace hsb := Lib.hid hsb
    go_upto_region 3 with (first
      | (go_at_call 152; (with_reducible refine hC.out.mono ?_); rintro e wb ⟨rfl, hbb⟩; have cs2 := (hbb.cell (p := ⟨sb, 0, none⟩) hsl).trans cs; have hO2 := Lib.hid (hO.out.tch (Tch.of_below (S := No) (seq_below hba hbb)) (fun _ _ q => q)); have hbb2 := Lib.hid (seq_below hba hbb); clear hbb)
      | fail)
    have hrb := Lib.hid (hO2.out.row.alloc (.cells #[.string s, .float .f64 0] 73))
    have hnb := Lib.hid (new_cells wb [.string s, .float .f64 0] 73)
    have hBb := Lib.hid (show B ≤ (wb.alloc (.cells #[.string s, .float .f64 0] 73)).heap.size from Nat.le_trans (Nat.le_trans hB hbb2.out.size) (by simp))
    go_upto_region 5 with (first
      | (at_builtin; go_loud (refine wp_append_lit (by rfl) _ _ 67 (by rfl) B 73 i73 _ 2 24 Try.underlying67 h73.out h730.out h731.out h732.out rfl (by decide) _ a.length (flat a) (by rfl) hrb.out ⟨wb.heap.size, 0, none⟩ 1 _ [.string s, .float .f64 0] (by rfl) rfl hnb.out (by simp [Value.oneCell']) (by unfold maxLen; omega) (by omega) hBb.out ?_); intro v3 w3 hr3 hg3 hl3; obtain ⟨o3, c3, rfl⟩ := ownsRow_shape hr3)
      | fail)
    obtain ⟨g, hg, _, _, cz, fz⟩ := ownsRow_cell hr3 (j := a.length * 2 + 1) (u := .float .f64 0) (by
      rw [List.getElem?_append_right (by rw [(hO2.out.row).1]; omega), (hO2.out.row).1, show a.length * 2 + 1 - a.length * 2 = 1 by omega]; rfl)
    subst hg
    have hst := hr3.stored (a.length * 2 + 1) (.float .f64 (fadd 0 x))
    have hxs : (flat a ++ [Value.string s, Value.float .f64 0]).set (a.length * 2 + 1) (.float .f64 (fadd 0 x)) = flat (a ++ [⟨s, fadd 0 x⟩]) := by
      rw [flat_snoc, List.set_append_right _ _ (by rw [(hO2.out.row).1]; omega), (hO2.out.row).1, show a.length * 2 + 1 - a.length * 2 = 1 by omega]; rfl
    rw [hxs] at hst
    have hok : OkS (a ++ [⟨s, fadd 0 x⟩]) := oks_snoc hO2.out.ok hs.out (Nat.lt_of_le_of_lt h0.out.2 (by decide))
    have hw0 := run_add h0.out.1
    have ht3 : Tch (fun k => (Value.slice ao a.length cap).ownBlock = some k) w w3 := (Tch.of_below (S := fun k => (Value.slice ao a.length cap).ownBlock = some k) (seq_below hbb2.out (alloc_below wb (.cells #[.string s, .float .f64 0] 73)))).trans (Tch.grown (S := fun k => (Value.slice ao a.length cap).ownBlock = some k) hg3 (fun k q => .inl q)) (fun k q => .inl q)
    have hgo : (Value.slice ao a.length cap).ownBlock = some g ∨ w.heap.size ≤ g := (hl3 g rfl).imp id (fun q => by
      have := (seq_below hbb2.out (alloc_below wb (.cells #[.string s, .float .f64 0] 73))).size
      omega)
    have ht4 := Lib.hid (ht3.trans (Tch.setCell (S := fun k => k = g) w3 (p := ⟨g, a.length * 2 + 1, none⟩) rfl (.float .f64 (fadd 0 x))) (fun k q => by rw [q]; exact hgo))
    have hlt1 : (a.length : Int) < ((a.length + 1 : Nat) : Int) := by omega
    have hgE : Hid (∀ k, (Value.slice (some ⟨g, 0, none⟩) (a.length + 1) c3).ownBlock = some k → (Value.slice ao a.length cap).ownBlock = some k ∨ w.heap.size ≤ k) := Lib.hid (fun k q => by cases q; exact hgo)
    replace hst := Lib.hid hst
    replace hok := Lib.hid hok
    replace hxs := Lib.hid hxs
    replace hrb := Lib.hid hrb
    replace hnb := Lib.hid hnb
    replace hBb := Lib.hid hBb
    replace hr3 := Lib.hid hr3
    replace hg3 := Lib.hid hg3
    replace hl3 := Lib.hid hl3
    replace ht3 := Lib.hid ht3
    replace hgo := Lib.hid hgo
    replace hO2 := Lib.hid hO2
    replace hbb2 := Lib.hid hbb2
    go_wp2
    go_ret
    exact ⟨_, rfl, ⟨by rw [List.length_append]; exact hst.out.1, hok.out⟩, ht4.out, hgE.out⟩
  · obtain ⟨y, hy⟩ : ∃ y, a[i]? = some y := ⟨_, List.getElem?_eq_getElem hi⟩
    have hA := addS_some (x := x) hno hy hy1
    have e2 : ixS a s = (i : Int) := e1
    have hys : y.service = s := by rw [isSx_at hy] at hy1; exact seq_iff.1 hy1
    obtain ⟨hw1, hw2⟩ := hadd y (List.mem_of_getElem? hy) hys
    rw [hA]
    rw [e2, hsb.symm] at hC
    have hw0 := run_add hw1
    have hi0 : decide ((i : Int) < 0) = false := decide_eq_false (by omega)
    have hi1 : ¬ (i : Int) < 0 := by omega
    have hi2 : (i : Int) < (a.length : Int) := nn_lt hi
    have hi3 : (0 : Int) ≤ (i : Int) := by omega
    have hok : OkS (a.set i ⟨y.service, fadd y.upto x⟩) := oks_some hO.ok hy (Nat.lt_of_le_of_lt hw2 (by decide))
    obtain ⟨g, hg, _, _, _, _⟩ := ownsRow_cell hO.row (flat_at hy).2
    subst hg
    replace hO := Lib.hid hO
    replace hs := Lib.hid hs
    replace hadd := Lib.hid hadd
    replace h0 := Lib.hid h0
    replace hr := Lib.hid hr
    replace hC := Lib.hid hC
    replace e1 := Lib.hid e1
    replace hno := Lib.hid hno
    replace e2 := Lib.hid e2
    replace hA := Lib.hid hA
    replace hy1 := Lib.hid hy1
    replace hys := Lib.hid hys
    replace hw1 := Lib.hid hw1
    replace hw2 := Lib.hid hw2
    replace hok := Lib.hid hok
    go_enter Try.func133, Try.ntmps133
    go_upto_region 2 with fail
    rw [← hwa, ← hsb]
    replace hwa := Lib.hid hwa
    replace hsb := Lib.hid hsb
    go_upto_region 5 with (first
      | (go_at_call 152; (with_reducible refine hC.out.mono ?_); rintro e wb ⟨rfl, hbb⟩; have hO2 := Lib.hid (hO.out.tch (Tch.of_below (S := No) (seq_below hba hbb)) (fun _ _ q => q)); have hbb2 := Lib.hid (seq_below hba hbb); clear hbb)
      | fail)
    obtain ⟨g', hg', _, _, cz, fz⟩ := ownsRow_cell hO2.out.row (flat_at hy).2
    simp only [Option.some.injEq, Addr.mk.injEq, and_true] at hg'
    subst hg'
    have hst := hO2.out.row.stored (i * 2 + 1) (.float .f64 (fadd y.upto x))
    rw [← flat_set _ hy] at hst
    have ht4 := Lib.hid ((Tch.of_below (S := fun k => (Value.slice (some ⟨g, 0, none⟩) a.length cap).ownBlock = some k) hbb2.out).trans (Tch.setCell (S := fun k => k = g) wb (p := ⟨g, i * 2 + 1, none⟩) rfl (.float .f64 (fadd y.upto x))) (fun k q => by rw [q]; exact .inl rfl))
    replace hst := Lib.hid hst
    replace hO2 := Lib.hid hO2
    replace hbb2 := Lib.hid hbb2
    go_wp2
    go_ret
    exact ⟨_, rfl, ⟨by rw [List.length_set]; exact hst.out.1, hok.out⟩, ht4.out, fun k q => .inl q⟩
end Go.Proofs.Ytjepgpocmnijiaa
end
