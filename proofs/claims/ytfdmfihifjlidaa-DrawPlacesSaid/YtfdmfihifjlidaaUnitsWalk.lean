/- The walk of the law on units, for any two words and any number. -/
import Derived.Test.YtfdmfihifjlidaaAwake
import Derived.Test.YtfdmfihifjlidaaFrame
namespace Go.Proofs.Ytfdmfihifjlidaa.drawUnits
open Go.ChangeShapes Go.WideShapes Go.ChangeAt Go.RowKit

abbrev U (a : Nat) : Nat := Fl.D (a / 2048) (-53)
theorem A_lt (a : Nat) (ha : a < 18446744073709551616) : a / 2048 < 9007199254740992 := by omega
theorem U_all : ∃ q, 0 < q ∧ (∀ a, a < 18446744073709551616 → U a < Fl.INF ∧ Fl.V (U a) = a / 2048 * q) ∧ Fl.V 4607182418800017408 = 9007199254740992 * q := by
  obtain ⟨k, hk⟩ : ∃ k, ((-53 : Int) + 1074).toNat = k := ⟨_, rfl⟩
  have h1 : ∀ a, a < 18446744073709551616 → U a < Fl.INF ∧ Fl.V (U a) = a / 2048 * 2 ^ k := fun a ha => by
    have := Fl.D_lt (a / 2048) (-53) (A_lt a ha) (by omega) (by omega)
    rw [hk] at this; exact this
  refine ⟨2 ^ k, Nat.two_pow_pos _, h1, ?_⟩
  have h := (Fl.D_lt 1 0 (by decide) (by omega) (by omega)).2
  rw [← Fl.one_eq] at h
  have e : ((0 : Int) + 1074).toNat = 53 + k := by omega
  rw [e, Nat.pow_add, Nat.one_mul] at h
  exact h
theorem U_fin (a : Nat) (ha : a < 18446744073709551616) : U a < Fl.INF := by
  obtain ⟨q, _, h, _⟩ := U_all
  exact (h a ha).1
theorem U_lt (a b : Nat) (ha : a < 18446744073709551616) (hb : b < 18446744073709551616) : U a < U b ↔ a / 2048 < b / 2048 := by
  obtain ⟨q, hq, h, _⟩ := U_all
  obtain ⟨a1, a2⟩ := h a ha
  obtain ⟨b1, b2⟩ := h b hb
  rw [← Fl.V_lt_iff a1 b1, a2, b2]
  exact Nat.mul_lt_mul_right hq
theorem U_one (a : Nat) (ha : a < 18446744073709551616) : U a < 4607182418800017408 := by
  obtain ⟨q, hq, h, h1⟩ := U_all
  obtain ⟨a1, a2⟩ := h a ha
  rw [← Fl.V_lt_iff a1 (by decide), a2, h1]
  exact Nat.mul_lt_mul_of_pos_right (A_lt a ha) hq
theorem order_ge (a : Nat) (ha : a < 18446744073709551616) : (FloatKind.f64.format.order (U a) 0 == some Ordering.gt || FloatKind.f64.format.order (U a) 0 == some Ordering.eq) = true := by
  have h := (Fl.ge_iff (U a) (by have := (U_fin a ha); unfold Fl.INF at this; omega)).2 (.inl (Nat.le_of_lt (U_fin a ha)))
  exact h
theorem order_lt (x y : Nat) (hx : x < Fl.INF) (hy : y < Fl.INF) (h : x < y) : (FloatKind.f64.format.order x y == some Ordering.lt) = true := by
  show (Fl.dbl.order x y == some Ordering.lt) = true
  rw [Fl.order_eq x y hx hy]
  simp [compare, compareOfLessAndEq, h]
theorem order_eq (x : Nat) (hx : x < Fl.INF) : (FloatKind.f64.format.order x x != some Ordering.eq) = false := by
  show (Fl.dbl.order x x != some Ordering.eq) = false
  rw [Fl.order_eq x x hx hx]
  simp [compare, compareOfLessAndEq]
theorem ofInt (a : Nat) : floatOfInt .f64 ((a : Int) / 2048) = Fl.D (a / 2048) 0 := by
  unfold floatOfInt FloatKind.nearest FloatKind.encode FloatKind.format
  have : decide ((a : Int) / 2048 < 0) = false := by rw [decide_eq_false_iff_not]; omega
  rw [this]; show Fl.dbl.nearest _ _ _ = Fl.dbl.nearest _ _ _; congr 1
theorem mul_run (a : Nat) (ha : a < 18446744073709551616) (w : World) :
    (binOp .mul 29 (.float .f64 (U a)) (.float .f64 4845873199050653696)).run Try.prog w = .ok (.float .f64 (floatOfInt .f64 ((a : Int) / 2048))) w := by
  rw [ofInt]
  have h := Fl.mul_2p53 (U a) (a / 2048) (-53) rfl (A_lt a ha) (by omega) (by omega)
  rw [show (-53 : Int) + 53 = 0 from by omega] at h
  generalize Fl.D (a / 2048) 0 = z at h ⊢
  exact run_float_arith w .mul 29 .f64 (U a) 4845873199050653696 z h
theorem ofInt_eq (a : Nat) (ha : a < 18446744073709551616) : (FloatKind.f64.format.order (floatOfInt .f64 ((a : Int) / 2048)) (floatOfInt .f64 ((a : Int) / 2048)) != some Ordering.eq) = false := by
  rw [ofInt]
  have h := (Fl.D_lt (a / 2048) 0 (A_lt a ha) (by omega) (by omega)).1
  generalize Fl.D (a / 2048) 0 = z at h ⊢
  exact order_eq z h

/-- What the two words' units give the law's tests, one of three. -/
structure Tests (a b : Nat) : Prop where
  ge : (FloatKind.f64.format.order (U a) 0 == some Ordering.gt || FloatKind.f64.format.order (U a) 0 == some Ordering.eq) = true
  lt : (FloatKind.f64.format.order (U a) 4607182418800017408 == some Ordering.lt) = true
  mul : ∀ w, (binOp .mul 29 (.float .f64 (U a)) (.float .f64 4845873199050653696)).run Try.prog w = .ok (.float .f64 (floatOfInt .f64 ((a : Int) / 2048))) w
  eq : (FloatKind.f64.format.order (floatOfInt .f64 ((a : Int) / 2048)) (floatOfInt .f64 ((a : Int) / 2048)) != some Ordering.eq) = false
theorem tests (a b : Nat) (ha : a < 18446744073709551616) : Tests a b :=
  ⟨order_ge a ha, order_lt (U a) 4607182418800017408 (U_fin a ha) (by decide) (U_one a ha), mul_run a ha, ofInt_eq a ha⟩

set_option maxHeartbeats 1000000 in
theorem lta (a b : Nat) (n : Int) (ha : a < 18446744073709551616) (hb : b < 18446744073709551616) (hn : n ≤ 9223372036854775807) (h : a / 2048 < b / 2048) (hn1 : n < 1) (w : World) :
    Calls Try.prog 8 #[.int .u64 a, .int .u64 b, .int .i64 n] w fun e w' => e = .returned (.bool true) ∧ Below w.heap.size w w' := by
  obtain ⟨f1, f2, f3, f4⟩ := tests a b ha
  have g1 := order_lt (U a) (U b) (U_fin a ha) (U_fin b hb) ((U_lt a b ha hb).2 h)
  have i1 : (a : Int) / 2048 < (b : Int) / 2048 := by omega
  go_enter Try.func8, Try.ntmps8
  go_wp2_with (first | (go_at_call 31; refine (awake_any _).mono ?_; rintro e w1 ⟨rfl, hb1⟩) | (go_at_call 13; refine (unit_nat _ _ (by assumption)).mono ?_; rintro e w' ⟨rfl, rfl⟩) | (go_at_call 10; refine (below_bad _ _ _ hn1).mono ?_; rintro e w' ⟨rfl, rfl⟩))
  go_ret
  exact ⟨rfl, hb1⟩
set_option maxHeartbeats 1000000 in
theorem ltb (a b : Nat) (n : Int) (ha : a < 18446744073709551616) (hb : b < 18446744073709551616) (hn : n ≤ 9223372036854775807) (h : a / 2048 < b / 2048) (hn1 : 1 ≤ n) (han : (a : Int) < n) (w : World) :
    Calls Try.prog 8 #[.int .u64 a, .int .u64 b, .int .i64 n] w fun e w' => e = .returned (.bool true) ∧ Below w.heap.size w w' := by
  obtain ⟨f1, f2, f3, f4⟩ := tests a b ha
  have g1 := order_lt (U a) (U b) (U_fin a ha) (U_fin b hb) ((U_lt a b ha hb).2 h)
  have i1 : (a : Int) / 2048 < (b : Int) / 2048 := by omega
  have k2 := Int.emod_nonneg (a : Int) (show n ≠ 0 by omega)
  have k3 := Int.emod_lt_of_pos (a : Int) (show 0 < n by omega)
  have k1 : ((a : Int) % n == (a : Int)) = true := by rw [beq_iff_eq, Int.emod_eq_of_lt (by omega) han]
  go_enter Try.func8, Try.ntmps8
  go_wp2_with (first | (go_at_call 31; refine (awake_any _).mono ?_; rintro e w1 ⟨rfl, hb1⟩) | (go_at_call 13; refine (unit_nat _ _ (by assumption)).mono ?_; rintro e w' ⟨rfl, rfl⟩) | (go_at_call 10; refine (below_ok _ _ _ hn1 (by omega) (by omega) (by omega)).mono ?_; rintro e w' ⟨rfl, rfl⟩))
  go_ret
  exact ⟨rfl, hb1⟩
set_option maxHeartbeats 1000000 in
theorem ltc (a b : Nat) (n : Int) (ha : a < 18446744073709551616) (hb : b < 18446744073709551616) (hn : n ≤ 9223372036854775807) (h : a / 2048 < b / 2048) (hn1 : 1 ≤ n) (han : n ≤ (a : Int)) (w : World) :
    Calls Try.prog 8 #[.int .u64 a, .int .u64 b, .int .i64 n] w fun e w' => e = .returned (.bool true) ∧ Below w.heap.size w w' := by
  obtain ⟨f1, f2, f3, f4⟩ := tests a b ha
  have g1 := order_lt (U a) (U b) (U_fin a ha) (U_fin b hb) ((U_lt a b ha hb).2 h)
  have i1 : (a : Int) / 2048 < (b : Int) / 2048 := by omega
  have k2 := Int.emod_nonneg (a : Int) (show n ≠ 0 by omega)
  have k3 := Int.emod_lt_of_pos (a : Int) (show 0 < n by omega)
  have k1 : (((a : Int) - n) % n == (a : Int) % n) = true := by rw [beq_iff_eq, Int.sub_emod_right]
  go_enter Try.func8, Try.ntmps8
  go_wp2_with (first | (go_at_call 31; refine (awake_any _).mono ?_; rintro e w1 ⟨rfl, hb1⟩) | (go_at_call 13; refine (unit_nat _ _ (by assumption)).mono ?_; rintro e w' ⟨rfl, rfl⟩) | (go_at_call 10; refine (below_ok _ _ _ hn1 (by omega) (by omega) (by omega)).mono ?_; rintro e w' ⟨rfl, rfl⟩))
  go_ret
  exact ⟨rfl, hb1⟩
set_option maxHeartbeats 1000000 in
theorem eqa (a b : Nat) (n : Int) (ha : a < 18446744073709551616) (hb : b < 18446744073709551616) (hn : n ≤ 9223372036854775807) (h : a / 2048 = b / 2048) (hn1 : n < 1) (w : World) :
    Calls Try.prog 8 #[.int .u64 a, .int .u64 b, .int .i64 n] w fun e w' => e = .returned (.bool true) ∧ Below w.heap.size w w' := by
  obtain ⟨f1, f2, f3, f4⟩ := tests a b ha
  have g0 : U a = U b := by unfold U; rw [h]
  have g1 : (FloatKind.f64.format.order (U a) (U b) != some Ordering.eq) = false := by rw [← g0]; exact order_eq _ (U_fin a ha)
  have i1 : ((a : Int) / 2048 == (b : Int) / 2048) = true := by rw [beq_iff_eq]; omega
  have i2 : ¬ ((a : Int) / 2048 < (b : Int) / 2048) := by omega
  clear g0 h
  go_enter Try.func8, Try.ntmps8
  go_wp2_with (first | (go_at_call 31; refine (awake_any _).mono ?_; rintro e w1 ⟨rfl, hb1⟩) | (go_at_call 13; refine (unit_nat _ _ (by assumption)).mono ?_; rintro e w' ⟨rfl, rfl⟩) | (go_at_call 10; refine (below_bad _ _ _ hn1).mono ?_; rintro e w' ⟨rfl, rfl⟩))
  go_ret
  exact ⟨rfl, hb1⟩
set_option maxHeartbeats 1000000 in
theorem eqb (a b : Nat) (n : Int) (ha : a < 18446744073709551616) (hb : b < 18446744073709551616) (hn : n ≤ 9223372036854775807) (h : a / 2048 = b / 2048) (hn1 : 1 ≤ n) (han : (a : Int) < n) (w : World) :
    Calls Try.prog 8 #[.int .u64 a, .int .u64 b, .int .i64 n] w fun e w' => e = .returned (.bool true) ∧ Below w.heap.size w w' := by
  obtain ⟨f1, f2, f3, f4⟩ := tests a b ha
  have g0 : U a = U b := by unfold U; rw [h]
  have g1 : (FloatKind.f64.format.order (U a) (U b) != some Ordering.eq) = false := by rw [← g0]; exact order_eq _ (U_fin a ha)
  have i1 : ((a : Int) / 2048 == (b : Int) / 2048) = true := by rw [beq_iff_eq]; omega
  have i2 : ¬ ((a : Int) / 2048 < (b : Int) / 2048) := by omega
  clear g0 h
  have k2 := Int.emod_nonneg (a : Int) (show n ≠ 0 by omega)
  have k3 := Int.emod_lt_of_pos (a : Int) (show 0 < n by omega)
  have k1 : ((a : Int) % n == (a : Int)) = true := by rw [beq_iff_eq, Int.emod_eq_of_lt (by omega) han]
  go_enter Try.func8, Try.ntmps8
  go_wp2_with (first | (go_at_call 31; refine (awake_any _).mono ?_; rintro e w1 ⟨rfl, hb1⟩) | (go_at_call 13; refine (unit_nat _ _ (by assumption)).mono ?_; rintro e w' ⟨rfl, rfl⟩) | (go_at_call 10; refine (below_ok _ _ _ hn1 (by omega) (by omega) (by omega)).mono ?_; rintro e w' ⟨rfl, rfl⟩))
  go_ret
  exact ⟨rfl, hb1⟩
set_option maxHeartbeats 1000000 in
theorem eqc (a b : Nat) (n : Int) (ha : a < 18446744073709551616) (hb : b < 18446744073709551616) (hn : n ≤ 9223372036854775807) (h : a / 2048 = b / 2048) (hn1 : 1 ≤ n) (han : n ≤ (a : Int)) (w : World) :
    Calls Try.prog 8 #[.int .u64 a, .int .u64 b, .int .i64 n] w fun e w' => e = .returned (.bool true) ∧ Below w.heap.size w w' := by
  obtain ⟨f1, f2, f3, f4⟩ := tests a b ha
  have g0 : U a = U b := by unfold U; rw [h]
  have g1 : (FloatKind.f64.format.order (U a) (U b) != some Ordering.eq) = false := by rw [← g0]; exact order_eq _ (U_fin a ha)
  have i1 : ((a : Int) / 2048 == (b : Int) / 2048) = true := by rw [beq_iff_eq]; omega
  have i2 : ¬ ((a : Int) / 2048 < (b : Int) / 2048) := by omega
  clear g0 h
  have k2 := Int.emod_nonneg (a : Int) (show n ≠ 0 by omega)
  have k3 := Int.emod_lt_of_pos (a : Int) (show 0 < n by omega)
  have k1 : (((a : Int) - n) % n == (a : Int) % n) = true := by rw [beq_iff_eq, Int.sub_emod_right]
  go_enter Try.func8, Try.ntmps8
  go_wp2_with (first | (go_at_call 31; refine (awake_any _).mono ?_; rintro e w1 ⟨rfl, hb1⟩) | (go_at_call 13; refine (unit_nat _ _ (by assumption)).mono ?_; rintro e w' ⟨rfl, rfl⟩) | (go_at_call 10; refine (below_ok _ _ _ hn1 (by omega) (by omega) (by omega)).mono ?_; rintro e w' ⟨rfl, rfl⟩))
  go_ret
  exact ⟨rfl, hb1⟩
set_option maxHeartbeats 1000000 in
theorem gta (a b : Nat) (n : Int) (ha : a < 18446744073709551616) (hb : b < 18446744073709551616) (hn : n ≤ 9223372036854775807) (h : b / 2048 < a / 2048) (hn1 : n < 1) (w : World) :
    Calls Try.prog 8 #[.int .u64 a, .int .u64 b, .int .i64 n] w fun e w' => e = .returned (.bool true) ∧ Below w.heap.size w w' := by
  obtain ⟨f1, f2, f3, f4⟩ := tests a b ha
  have i1 : ((a : Int) / 2048 == (b : Int) / 2048) = false := by rw [beq_eq_false_iff_ne]; omega
  have i2 : (b : Int) / 2048 < (a : Int) / 2048 := by omega
  go_enter Try.func8, Try.ntmps8
  go_wp2_with (first | (go_at_call 31; refine (awake_any _).mono ?_; rintro e w1 ⟨rfl, hb1⟩) | (go_at_call 13; refine (unit_nat _ _ (by assumption)).mono ?_; rintro e w' ⟨rfl, rfl⟩) | (go_at_call 10; refine (below_bad _ _ _ hn1).mono ?_; rintro e w' ⟨rfl, rfl⟩))
  go_ret
  exact ⟨rfl, hb1⟩
set_option maxHeartbeats 1000000 in
theorem gtb (a b : Nat) (n : Int) (ha : a < 18446744073709551616) (hb : b < 18446744073709551616) (hn : n ≤ 9223372036854775807) (h : b / 2048 < a / 2048) (hn1 : 1 ≤ n) (han : (a : Int) < n) (w : World) :
    Calls Try.prog 8 #[.int .u64 a, .int .u64 b, .int .i64 n] w fun e w' => e = .returned (.bool true) ∧ Below w.heap.size w w' := by
  obtain ⟨f1, f2, f3, f4⟩ := tests a b ha
  have i1 : ((a : Int) / 2048 == (b : Int) / 2048) = false := by rw [beq_eq_false_iff_ne]; omega
  have i2 : (b : Int) / 2048 < (a : Int) / 2048 := by omega
  have k2 := Int.emod_nonneg (a : Int) (show n ≠ 0 by omega)
  have k3 := Int.emod_lt_of_pos (a : Int) (show 0 < n by omega)
  have k1 : ((a : Int) % n == (a : Int)) = true := by rw [beq_iff_eq, Int.emod_eq_of_lt (by omega) han]
  go_enter Try.func8, Try.ntmps8
  go_wp2_with (first | (go_at_call 31; refine (awake_any _).mono ?_; rintro e w1 ⟨rfl, hb1⟩) | (go_at_call 13; refine (unit_nat _ _ (by assumption)).mono ?_; rintro e w' ⟨rfl, rfl⟩) | (go_at_call 10; refine (below_ok _ _ _ hn1 (by omega) (by omega) (by omega)).mono ?_; rintro e w' ⟨rfl, rfl⟩))
  go_ret
  exact ⟨rfl, hb1⟩
set_option maxHeartbeats 1000000 in
theorem gtc (a b : Nat) (n : Int) (ha : a < 18446744073709551616) (hb : b < 18446744073709551616) (hn : n ≤ 9223372036854775807) (h : b / 2048 < a / 2048) (hn1 : 1 ≤ n) (han : n ≤ (a : Int)) (w : World) :
    Calls Try.prog 8 #[.int .u64 a, .int .u64 b, .int .i64 n] w fun e w' => e = .returned (.bool true) ∧ Below w.heap.size w w' := by
  obtain ⟨f1, f2, f3, f4⟩ := tests a b ha
  have i1 : ((a : Int) / 2048 == (b : Int) / 2048) = false := by rw [beq_eq_false_iff_ne]; omega
  have i2 : (b : Int) / 2048 < (a : Int) / 2048 := by omega
  have k2 := Int.emod_nonneg (a : Int) (show n ≠ 0 by omega)
  have k3 := Int.emod_lt_of_pos (a : Int) (show 0 < n by omega)
  have k1 : (((a : Int) - n) % n == (a : Int) % n) = true := by rw [beq_iff_eq, Int.sub_emod_right]
  go_enter Try.func8, Try.ntmps8
  go_wp2_with (first | (go_at_call 31; refine (awake_any _).mono ?_; rintro e w1 ⟨rfl, hb1⟩) | (go_at_call 13; refine (unit_nat _ _ (by assumption)).mono ?_; rintro e w' ⟨rfl, rfl⟩) | (go_at_call 10; refine (below_ok _ _ _ hn1 (by omega) (by omega) (by omega)).mono ?_; rintro e w' ⟨rfl, rfl⟩))
  go_ret
  exact ⟨rfl, hb1⟩
theorem units (a b : Nat) (n : Int) (ha : a < 18446744073709551616) (hb : b < 18446744073709551616) (hn : n ≤ 9223372036854775807) (w : World) :
    Calls Try.prog 8 #[.int .u64 a, .int .u64 b, .int .i64 n] w fun e w' => e = .returned (.bool true) ∧ Below w.heap.size w w' := by
  by_cases hn1 : n < 1
  · rcases Nat.lt_trichotomy (a / 2048) (b / 2048) with h | h | h
    · exact lta a b n ha hb hn h hn1 w
    · exact eqa a b n ha hb hn h hn1 w
    · exact gta a b n ha hb hn h hn1 w
  · have hn1 : 1 ≤ n := by omega
    by_cases han : (a : Int) < n
    · rcases Nat.lt_trichotomy (a / 2048) (b / 2048) with h | h | h
      · exact ltb a b n ha hb hn h hn1 han w
      · exact eqb a b n ha hb hn h hn1 han w
      · exact gtb a b n ha hb hn h hn1 han w
    · have han : n ≤ (a : Int) := by omega
      rcases Nat.lt_trichotomy (a / 2048) (b / 2048) with h | h | h
      · exact ltc a b n ha hb hn h hn1 han w
      · exact eqc a b n ha hb hn h hn1 han w
      · exact gtc a b n ha hb hn h hn1 han w
theorem walk {H : Type} (enc : TypeId × Value → H) (W : World) (base : Nat) (args : Array Value) (ds : List (DataW H)) (p : List MemPlace)
    (hval0 : ∀ (j : Nat) t v, Try.f8.params[j]? = some t → args[j]? = some v → Value.okWide Try.prog W .any base t v)
    (hA : DataW.TrodAll enc Try.prog W 0 (fun _ => true) true Try.f8.params.toList args.toList ds p)
    (_ : (DataW.weightsEach Try.prog Try.f8.params.toList ds).all (· ≤ reachBytes) = true) :
    Calls Try.prog 8 args W fun e w' => e = .returned (.bool true) ∧ Below W.heap.size W w' := by
  have hval : ∀ (j : Nat) t v, Try.f8.params[j]? = some t → args[j]? = some v → Value.okWide Try.prog W .any base t v := hval0
  rw [Try.params8] at hA hval
  obtain ⟨v0, v1, v2, d0, d1, d2, p0, p1, p2, rfl, rfl, rfl, h0, h1, h2⟩ := trodAll_three hA
  obtain ⟨a0, rfl, rfl, rfl, w0⟩ := open_int Try.underlying22 (hval 0 22 v0 rfl rfl) h0
  obtain ⟨a1, rfl, rfl, rfl, w1⟩ := open_int Try.underlying22 (hval 1 22 v1 rfl rfl) h1
  obtain ⟨a2, rfl, rfl, rfl, w2⟩ := open_int Try.underlying3 (hval 2 3 v2 rfl rfl) h2
  have b0 := bounds_u64 w0
  have b1 := bounds_u64 w1
  have b2 := bounds_i64 w2
  obtain ⟨a, rfl⟩ := Int.eq_ofNat_of_zero_le b0.1
  obtain ⟨b, rfl⟩ := Int.eq_ofNat_of_zero_le b1.1
  exact units a b a2 (by omega) (by omega) b2.2 W
end Go.Proofs.Ytfdmfihifjlidaa.drawUnits
