/- The walks of the draw's small functions: Below, Unit and their references, and of the law on numbers. Any word, any number. -/
import Derived.Test.YtfdmfihifjlidaaRows
import Derived.Test.YtfdmfihifjlidaaFl
import Derived.WalkKit
import Derived.ProofKit
import Derived.OpenShut
import Derived.WalkLawsBesides
import Derived.Laws.Externs
import Derived.Lib.Hide
namespace Go.Proofs.Ytfdmfihifjlidaa
open Go.ChangeShapes Go.WideShapes Go.ChangeAt Go.RowKit
set_option linter.unusedVariables false

theorem below_bad (a n : Int) (w : World) (h : n < 1) :
    Calls Try.prog 10 #[.int .u64 a, .int .i64 n] w fun e w' => e = .returned (.tuple #[.int .i64 0, .int .i64 2]) ∧ w = w' := by
  go_enter Try.func10, Try.ntmps10
  go_wp2
  go_ret2
  exact ⟨rfl, rfl⟩

theorem unit_any (a : Int) (w : World) (ha : 0 ≤ a) (ha' : a < 18446744073709551616):
    Calls Try.prog 13 #[.int .u64 a] w fun e w' => e = .returned (.float .f64 (Fl.D (a / 2048).toNat (-53))) ∧ w = w' := by
  have hq : ∀ w, (binOp .quo 29 (.float .f64 (floatOfInt .f64 (a / 2048))) (.float .f64 4845873199050653696)).run Try.prog w = .ok (.float .f64 (Fl.D (a / 2048).toNat (-53))) w := by
    intro w
    refine run_float_arith w .quo 29 .f64 _ _ _ ?_
    exact Fl.div_2p53 _ _ 0 (by unfold floatOfInt FloatKind.nearest FloatKind.encode FloatKind.format; have : decide (a / 2048 < 0) = false := by (rw [decide_eq_false_iff_not]; omega)
                                rw [this]; show Fl.dbl.nearest _ _ _ = Fl.dbl.nearest _ _ _; congr 1; omega) (by omega) (by omega) (by omega)
  go_enter Try.func13, Try.ntmps13
  go_wp2
  go_ret
  exact ⟨rfl, rfl⟩


theorem call33 (x : Nat) (w : World) : (callFunc 33 #[.float .f64 x]).run Try.prog w = .ok (.value (.int .u64 x)) w := by
  rw [run_callFunc_extern (fn := Try.f33) (e := Extern.MathFloatBits.float64bits) Try.func33 (by kernel_rfl) (by kernel_rfl) (by kernel_rfl) (by kernel_rfl)]
  rfl
theorem call38 (x : Int) (w : World) : (callFunc 38 #[.int .u64 x]).run Try.prog w = .ok (.value (.float .f64 x.toNat)) w := by
  rw [run_callFunc_extern (fn := Try.f38) (e := Extern.MathFloatBits.float64frombits) Try.func38 (by kernel_rfl) (by kernel_rfl) (by kernel_rfl) (by kernel_rfl)]
  rfl

theorem alike_same (x : Nat) (w : World) :
    Calls Try.prog 12 #[.float .f64 x, .float .f64 x] w fun e w' => e = .returned (.bool true) ∧ w = w' := by
  have h33 := call33
  go_enter Try.func12, Try.ntmps12
  go_wp2
  go_ret
  exact ⟨rfl, rfl⟩



def xs (a k : Nat) : Nat := Fl.D (a / 2 ^ (64 - k)) (-(k : Int))
def ps (k : Nat) : Nat := Fl.D 1 (-((k : Int) + 1))
theorem xs_zero (a : Nat) (h : a < 18446744073709551616) : xs a 0 = 0 := by
  unfold xs; rw [show a / 2 ^ (64 - 0) = 0 from Nat.div_eq_of_lt h, Fl.D_zero]
theorem ps_zero : ps 0 = 4602678819172646912 := by decide +kernel
theorem xs_end (a : Nat) : xs a 53 = Fl.D (a / 2048) (-53) := rfl
theorem ps_half (k : Nat) (h : k ≤ 53) : Fl.dbl.div (ps k) 4611686018427387904 = some (ps (k + 1)) := by
  have := Fl.div_2 (ps k) 1 (-((k : Int) + 1)) rfl (by decide) (by omega) (by omega)
  rw [this]; unfold ps; congr 2
theorem xs_lt (a k : Nat) (h : a < 18446744073709551616) (hk : k ≤ 53) : a / 2 ^ (64 - k) < 2 ^ k := by
  rw [Nat.div_lt_iff_lt_mul (Nat.two_pow_pos _), ← Nat.pow_add]
  have : k + (64 - k) = 64 := by omega
  rw [this]; exact h
theorem xs_bit (a k : Nat) (hk : k < 53) : a / 2 ^ (64 - (k + 1)) = 2 * (a / 2 ^ (64 - k)) + a / 2 ^ (63 - k) % 2 := by
  have e : 64 - k = (63 - k) + 1 := by omega
  have e2 : 64 - (k + 1) = 63 - k := by omega
  rw [e, e2, Nat.pow_succ, ← Nat.div_div_eq_div_mul]; omega
theorem xs_same (a k : Nat) (hk : k < 53) (hb : a / 2 ^ (63 - k) % 2 = 0) : xs a k = xs a (k + 1) := by
  unfold xs
  rw [xs_bit a k hk, hb]
  refine Fl.D_same _ _ _ _ (by omega) (by omega) ?_
  have : ((-(k : Int)) + 1074).toNat = (-((k + 1 : Nat) : Int) + 1074).toNat + 1 := by omega
  rw [this, Nat.pow_succ]
  generalize 2 ^ (-((k + 1 : Nat) : Int) + 1074).toNat = q
  generalize a / 2 ^ (64 - k) = b
  rw [Nat.add_zero, Nat.mul_comm 2 b, Nat.mul_assoc, Nat.mul_comm q 2]
theorem xs_add (a k : Nat) (h : a < 18446744073709551616) (hk : k < 53) (hb : a / 2 ^ (63 - k) % 2 = 1) : Fl.dbl.add (xs a k) (ps k) = some (xs a (k + 1)) := by
  have hlt := xs_lt a (k + 1) h (by omega)
  have h53 : 2 ^ (k + 1) ≤ 2 ^ 53 := Nat.pow_le_pow_right (by decide) (by omega)
  have hbit := xs_bit a k hk
  have e1 : xs a k = Fl.D (2 * (a / 2 ^ (64 - k))) (-((k + 1 : Nat) : Int)) := by
    unfold xs
    refine Fl.D_same _ _ _ _ (by omega) (by omega) ?_
    have : ((-(k : Int)) + 1074).toNat = (-((k + 1 : Nat) : Int) + 1074).toNat + 1 := by omega
    rw [this, Nat.pow_succ]
    generalize 2 ^ (-((k + 1 : Nat) : Int) + 1074).toNat = q
    generalize a / 2 ^ (64 - k) = b
    rw [Nat.mul_comm 2 b, Nat.mul_assoc, Nat.mul_comm q 2]
  have e2 : ps k = Fl.D 1 (-((k + 1 : Nat) : Int)) := by unfold ps; congr 1
  rw [e1, e2, Fl.add_D _ _ _ (by omega) (by omega) (by omega)]
  unfold xs
  rw [hbit, hb]

theorem bit_one (a k : Nat) (h : a < 18446744073709551616) : (bits BinOp.and IntKind.u64 ((a : Int) / 2 ^ k) 1) = ((a / 2 ^ k % 2 : Nat) : Int) := by
  have : ((a : Int) / 2 ^ k) = ((a / 2 ^ k : Nat) : Int) := by push_cast; rfl
  have hl := Nat.div_le_self a (2 ^ k)
  rw [this]
  clear this
  generalize a / 2 ^ k = b at *
  rw [and_one_u64 _ (by omega) (by omega)]
  omega

theorem refunit_any (a : Nat) (w : World) (ha' : a < 18446744073709551616):
    Calls Try.prog 14 #[.int .u64 a] w fun e w' => e = .returned (.float .f64 (xs a 53)) ∧ w = w' := by
  go_enter Try.func14, Try.ntmps14
  go_wp2
  go_loop [3, 4, 5] (fun x p i => ∃ k : Nat, k ≤ 53 ∧ i = .int .i64 (63 - k) ∧ x = .float .f64 (xs a k) ∧ p = .float .f64 (ps k))
    (fun _ _ i => (intOf i).toNat)
  case atStart => exact ⟨0, by omega, rfl, by rw [xs_zero a ha'], by rw [ps_zero]⟩
  case round =>
    obtain ⟨k, hk, rfl, rfl, rfl⟩ := hrel
    by_cases hlt : k < 53
    · have hd : ∀ w, (binOp .quo 29 (.float .f64 (ps k)) (.float .f64 4611686018427387904)).run Try.prog w = .ok (.float .f64 (ps (k + 1))) w := fun w => run_float_arith w _ _ _ _ _ _ (ps_half k hk)
      by_cases hb : a / 2 ^ (63 - k) % 2 = 1
      · have hs : ∀ w, (binOp .add 29 (.float .f64 (xs a k)) (.float .f64 (ps k))).run Try.prog w = .ok (.float .f64 (xs a (k + 1))) w := fun w => run_float_arith w _ _ _ _ _ _ (xs_add a k ha' hlt hb)
        have ht : (bits BinOp.and IntKind.u64 ((a : Int) / 2 ^ (63 - k)) 1 == 1) = true := by rw [bit_one _ _ ha', hb]; rfl
        clear hb
        go_wp2
        go_round
        case rel => exact ⟨k + 1, by omega, by go_num, rfl, rfl⟩
        case measure => simp [intOf]; omega
      · have hb' : a / 2 ^ (63 - k) % 2 = 0 := by omega
        have ht : (bits BinOp.and IntKind.u64 ((a : Int) / 2 ^ (63 - k)) 1 == 1) = false := by rw [bit_one _ _ ha', hb']; rfl
        have hsame := Lib.hid (xs_same a k hlt hb')
        clear hb hb'
        go_wp2
        go_round
        case rel => exact ⟨k + 1, by omega, by go_num, by rw [hsame.out], rfl⟩
        case measure => simp [intOf]; omega
    · obtain rfl : k = 53 := by omega
      go_wp2
      go_ret
      exact ⟨rfl, rfl⟩


theorem below_ok (a n : Int) (w : World) (h : 1 ≤ n) (hn : n < 9223372036854775808) (ha : 0 ≤ a) (ha' : a < 18446744073709551616):
    Calls Try.prog 10 #[.int .u64 a, .int .i64 n] w fun e w' => e = .returned (.tuple #[.int .i64 (a % n), .int .i64 0]) ∧ w = w' := by
  have h1 := Int.emod_nonneg a (show n ≠ 0 by omega)
  have h2 := Int.emod_lt_of_pos a (show 0 < n by omega)
  go_enter Try.func10, Try.ntmps10
  go_wp2
  go_ret2
  exact ⟨rfl, rfl⟩
theorem refbelow_bad (a n : Int) (w : World) (h : n < 1) :
    Calls Try.prog 11 #[.int .u64 a, .int .i64 n] w fun e w' => e = .returned (.tuple #[.int .i64 0, .int .i64 2]) ∧ w = w' := by
  go_enter Try.func11, Try.ntmps11
  go_wp2
  go_ret2
  exact ⟨rfl, rfl⟩
theorem refbelow_ok (a n : Int) (w : World) (h : 1 ≤ n) (hn : n < 9223372036854775808) (ha : 0 ≤ a) (ha' : a < 18446744073709551616):
    Calls Try.prog 11 #[.int .u64 a, .int .i64 n] w fun e w' => e = .returned (.tuple #[.int .i64 (a % n), .int .i64 0]) ∧ w = w' := by
  have h1 := Int.emod_nonneg a (show n ≠ 0 by omega)
  have h2 := Int.emod_lt_of_pos a (show 0 < n by omega)
  have h3 : 0 ≤ a / n * n := Int.mul_nonneg (Int.ediv_nonneg ha (by omega)) (by omega)
  have h4 : a / n * n ≤ a := Int.ediv_mul_le a (by omega)
  have h5 : a - a / n * n = a % n := by have := Int.emod_add_ediv_mul a n; omega
  go_enter Try.func11, Try.ntmps11
  go_wp2
  go_ret2
  exact ⟨rfl, rfl⟩

theorem unit_nat (a : Nat) (w : World) (ha' : a < 18446744073709551616):
    Calls Try.prog 13 #[.int .u64 a] w fun e w' => e = .returned (.float .f64 (Fl.D (a / 2048) (-53))) ∧ w = w' := by
  have := unit_any a w (by omega) (by omega)
  have e : ((a : Int) / 2048).toNat = a / 2048 := by omega
  rw [e] at this; exact this

theorem numbers (a n : Int) (w0 : (Lit.int .u64 a).wf = true) (w1 : (Lit.int .i64 n).wf = true) (w : World) :
    Calls Try.prog 3 #[.int .u64 a, .int .i64 n] w fun e w' => e = .returned (.bool true) ∧ w = w' := by
  have ha := bounds_u64 w0
  have hn := bounds_i64 w1
  obtain ⟨b, rfl⟩ := Int.eq_ofNat_of_zero_le ha.1
  obtain ⟨ha1, ha2⟩ := ha
  have hr := fun w => refunit_any b w (by omega)
  rw [xs_end b] at hr
  replace hr := Lib.hid hr
  clear w0 w1
  by_cases h : 1 ≤ n
  · go_enter Try.func3, Try.ntmps3
    go_wp2_with (first | (go_at_call 10; refine (below_ok _ _ _ h (by omega) ha1 (by omega)).mono ?_; rintro e w' ⟨rfl, rfl⟩) | (go_at_call 11; refine (refbelow_ok _ _ _ h (by omega) ha1 (by omega)).mono ?_; rintro e w' ⟨rfl, rfl⟩) | (go_at_call 13; refine (unit_nat _ _ (by omega)).mono ?_; rintro e w' ⟨rfl, rfl⟩) | (go_at_call 14; refine (hr.out _).mono ?_; rintro e w' ⟨rfl, rfl⟩) | (go_at_call 12; refine (alike_same _ _).mono ?_; rintro e w' ⟨rfl, rfl⟩))
    go_ret
    exact ⟨rfl, rfl⟩
  · have h' : n < 1 := by omega
    go_enter Try.func3, Try.ntmps3
    go_wp2_with (first | (go_at_call 10; refine (below_bad _ _ _ h').mono ?_; rintro e w' ⟨rfl, rfl⟩) | (go_at_call 11; refine (refbelow_bad _ _ _ h').mono ?_; rintro e w' ⟨rfl, rfl⟩) | (go_at_call 13; refine (unit_nat _ _ (by omega)).mono ?_; rintro e w' ⟨rfl, rfl⟩) | (go_at_call 14; refine (hr.out _).mono ?_; rintro e w' ⟨rfl, rfl⟩) | (go_at_call 12; refine (alike_same _ _).mono ?_; rintro e w' ⟨rfl, rfl⟩))
    go_ret
    exact ⟨rfl, rfl⟩
end Go.Proofs.Ytfdmfihifjlidaa
