/- Equal weights have equal shares: the plain law. -/
import Derived.Test.YtfdmfihifjlidaaPick
namespace Go.Proofs.Ytfdmfihifjlidaa.Shares
open Fl Cum

def P (k : Nat) : Nat := D 1 (-(k : Int))
def W (k : Nat) : List Nat := List.replicate (2 ^ k) (P k)

theorem pow_le {k : Nat} (hk : k ≤ 10) : 2 ^ k ≤ 1024 := Nat.pow_le_pow_right (n := 2) (by decide) hk
theorem getD_W {k i : Nat} (hi : i < 2 ^ k) : (W k).getD i 0 = P k := by
  unfold W
  rw [List.getD_eq_getElem?_getD, List.getElem?_replicate, if_pos hi, Option.getD_some]
theorem D_fin {n : Nat} {k : Nat} (hn : n ≤ 1024) (hk : k ≤ 10) : D n (-(k : Int)) < INF := (D_lt n (-(k : Int)) (by omega) (by omega) (by omega)).1
theorem P_pos {k : Nat} (hk : k ≤ 10) : 0 < P k := by
  rcases Nat.eq_zero_or_pos (P k) with h | h
  · have h2 := (D_lt 1 (-(k : Int)) (by decide) (by omega) (by omega)).2
    have h3 : V (D 1 (-(k : Int))) = 0 := by show V (P k) = 0; rw [h]; rfl
    rw [h3, Nat.one_mul] at h2
    exact absurd h2.symm (two_pow_ne _)
  · exact h
theorem P_64 {k : Nat} (hk : k ≤ 10) : P k < 18446744073709551616 := by
  have := D_fin (n := 1) (by omega) hk
  have h2 : INF < 18446744073709551616 := by decide
  exact Nat.lt_trans this h2
theorem sumTo_W {k : Nat} (hk : k ≤ 10) : ∀ i, i ≤ 2 ^ k → sumTo (W k) i = D i (-(k : Int))
  | 0, _ => (D_zero _).symm
  | i + 1, hi => by
    have h := pow_le hk
    show fadd (sumTo (W k) i) ((W k).getD i 0) = _
    rw [sumTo_W hk i (by omega), getD_W (by omega)]
    unfold fadd P
    rw [add_D i 1 (-(k : Int)) (by omega) (by omega) (by omega)]
    exact Option.getD_some
theorem lastTo_W {k : Nat} (hk : k ≤ 10) : ∀ i, i < 2 ^ k → lastTo (W k) (i + 1) = (i : Int) := by
  intro i hi
  show (if pos ((W k).getD i 0) then _ else _) = _
  rw [getD_W hi, if_pos ((pos_iff _ (P_64 hk)).2 ⟨P_pos hk, Nat.le_of_lt (D_fin (by omega) hk)⟩)]
theorem good_W {k : Nat} (hk : k ≤ 10) : good (W k) = true := by
  have h := pow_le hk
  have h0 : 0 < 2 ^ k := Nat.two_pow_pos k
  unfold good
  have e1 : (W k).all ge = true := by
    rw [List.all_eq_true]
    intro x hx
    have hx' : x = P k := List.eq_of_mem_replicate hx
    rw [hx']
    exact (ge_iff _ (P_64 hk)).2 (.inl (Nat.le_of_lt (D_fin (by omega) hk)))
  have e2 : (W k).length = 2 ^ k := List.length_replicate
  obtain ⟨n, hn⟩ : ∃ n, 2 ^ k = n + 1 := ⟨2 ^ k - 1, by omega⟩
  have e3 : lastTo (W k) (2 ^ k) = (n : Int) := by rw [hn]; exact lastTo_W hk n (by omega)
  have e4 := D_fin h hk
  rw [e1, e2, e3, sumTo_W hk _ (Nat.le_refl _)]
  simp [e4]
theorem outs_W {k : Nat} (hk : k ≤ 10) : outs (W k) = (List.range (2 ^ k)).map fun i => D (i + 1) (-(k : Int)) := by
  have h0 : 0 < 2 ^ k := Nat.two_pow_pos k
  have e2 : (W k).length = 2 ^ k := List.length_replicate
  obtain ⟨n, hn⟩ : ∃ n, 2 ^ k = n + 1 := ⟨2 ^ k - 1, by omega⟩
  have e3 : lastTo (W k) (2 ^ k) = (n : Int) := by rw [hn]; exact lastTo_W hk n (by omega)
  unfold outs
  rw [e2, e3]
  refine List.map_congr_left fun i hi => ?_
  have hi2 := List.mem_range.1 hi
  by_cases c : (i : Int) < (n : Int)
  · rw [if_pos c, sumTo_W hk _ (by omega)]
  · rw [if_neg c]
    have : i + 1 = 2 ^ k := by omega
    rw [this]
    refine Eq.trans one_eq ?_
    refine D_same _ _ _ _ (by omega) (by omega) ?_
    have e : ((0 : Int) + 1074).toNat = k + (-(k : Int) + 1074).toNat := by omega
    rw [e, Nat.pow_add, Nat.one_mul]
theorem outs_getD {k j : Nat} (hk : k ≤ 10) (hj : j < 2 ^ k) : (outs (W k)).getD j 0 = D (j + 1) (-(k : Int)) := by
  rw [outs_W hk, List.getD_eq_getElem?_getD, List.getElem?_map, List.getElem?_range hj, Option.map_some, Option.getD_some]
theorem outs_len {k : Nat} : (outs (W k)).length = 2 ^ k := by rw [outs_length]; exact List.length_replicate
theorem gt_iff {k : Nat} (hk : k ≤ 10) (i A : Nat) (hi : i < 2 ^ k) (hA : A < 9007199254740992) : gt (D (i + 1) (-(k : Int))) (D A (-53)) = decide (A < (i + 1) * 2 ^ (53 - k)) := by
  have h := pow_le hk
  obtain ⟨l1, v1⟩ := D_lt (i + 1) (-(k : Int)) (by omega) (by omega) (by omega)
  obtain ⟨l2, v2⟩ := D_lt A (-53) hA (by omega) (by omega)
  have e : (-(k : Int) + 1074).toNat = (53 - k) + ((-53 : Int) + 1074).toNat := by omega
  rw [e, Nat.pow_add, ← Nat.mul_assoc] at v1
  have hq := Nat.two_pow_pos ((-53 : Int) + 1074).toNat
  generalize 2 ^ ((-53 : Int) + 1074).toNat = q at v1 v2 hq
  have hlt := V_lt_iff l2 l1
  rw [v1, v2, Nat.mul_lt_mul_right hq] at hlt
  show (Fl.dbl.order _ _ == some Ordering.gt) = _
  rw [order_eq _ _ l1 l2]
  simp only [compare, compareOfLessAndEq]
  by_cases c : A < (i + 1) * 2 ^ (53 - k)
  · have := hlt.1 c
    rw [decide_eq_true c, if_neg (by omega), if_neg (by omega)]; rfl
  · rw [decide_eq_false c]
    have := fun h => c (hlt.2 h)
    split
    · rfl
    · split
      · rfl
      · exfalso; omega
theorem first_W {k : Nat} (hk : k ≤ 10) (a : Nat) (ha : a < 18446744073709551616) : first (outs (W k)) (D (a / 2048) (-53)) = some (a / 2 ^ (64 - k)) := by
  have hA : a / 2048 < 9007199254740992 := by omega
  have hq := Nat.two_pow_pos (53 - k)
  have e : a / 2 ^ (64 - k) = a / 2048 / 2 ^ (53 - k) := by
    rw [Nat.div_div_eq_div_mul]
    have : 64 - k = 11 + (53 - k) := by omega
    rw [this, Nat.pow_add]
  have hb : a / 2 ^ (64 - k) < 2 ^ k := by
    rw [Nat.div_lt_iff_lt_mul (Nat.two_pow_pos _), ← Nat.pow_add]
    have : k + (64 - k) = 64 := by omega
    rw [this]; exact ha
  have hl : (outs (W k)).length = 2 ^ k := outs_len
  refine first_some (by rw [hl]; exact hb) ?_ ?_
  · intro j hj
    have hj2 : j < 2 ^ k := by omega
    rw [outs_getD hk hj2, gt_iff hk j _ hj2 hA, decide_eq_false_iff_not, Nat.not_lt]
    rw [e] at hj
    exact (Nat.le_div_iff_mul_le hq).1 hj
  · rw [outs_getD hk hb, gt_iff hk _ _ hb hA, decide_eq_true_iff, e]
    exact Nat.lt_mul_of_div_lt (Nat.lt_succ_self _) hq
theorem pick_W {k : Nat} (hk : k ≤ 10) (a : Nat) (ha : a < 18446744073709551616) : PickV a (W k) = .tuple #[.int .i64 ((a / 2 ^ (64 - k) : Nat) : Int), .int .i64 0] := by
  unfold PickV
  rw [good_W hk, first_W hk a ha]
  rfl
end Go.Proofs.Ytfdmfihifjlidaa.Shares
