/- The walk of the law on shares, for every word and every number. -/
import Derived.Test.YtfdmfihifjlidaaShares
import Derived.Test.YtfdmfihifjlidaaAwake
import Derived.Test.YtfdmfihifjlidaaFrame
namespace Go.Proofs.Ytfdmfihifjlidaa.drawShares
open Go.ChangeShapes Go.WideShapes Go.ChangeAt Go.RowKit
open Shares (P W pow_le)

theorem half_run {j : Nat} (hj : j ≤ 20) (w : World) : (binOp .quo 29 (.float .f64 (P j)) (.float .f64 4611686018427387904)).run Try.prog w = .ok (.float .f64 (P (j + 1))) w := by
  have h := Fl.div_2 (P j) 1 (-(j : Int)) rfl (by decide) (by omega) (by omega)
  have e : Fl.D 1 (-(j : Int) - 1) = P (j + 1) := by unfold P; congr 1; omega
  rw [e] at h
  exact run_float_arith w .quo 29 .f64 _ _ _ h
theorem W_64 {k : Nat} (hk : k ≤ 10) : ∀ x ∈ W k, x < 18446744073709551616 := by
  intro x hx
  have hx' : x = P k := List.eq_of_mem_replicate hx
  rw [hx']; exact Shares.P_64 hk
theorem P0 : P 0 = 4607182418800017408 := Fl.one_eq.symm

theorem tmod_bd (n : Int) : -11 < n.tmod 11 ∧ n.tmod 11 < 11 := by
  rcases Int.le_total 0 n with h | h
  · rw [Int.tmod_eq_emod_of_nonneg h]; omega
  · obtain ⟨m, rfl⟩ : ∃ m, n = -m := ⟨-n, by omega⟩
    rw [Int.neg_tmod, Int.tmod_eq_emod_of_nonneg (show 0 ≤ m by omega)]; omega

theorem pick_rep (a j : Nat) (hk : j ≤ 10) (ha : a < 18446744073709551616) (v : Value) (wr : World) (base : Nat) (hown : wr.ownsRow base 29 1 v (2 ^ j) ((List.replicate (2 ^ j) (P j)).map (Value.float .f64))) :
    Calls Try.prog 25 #[.int .u64 a, v] wr fun e w' => e = .returned (.tuple #[.int .i64 ((a / 2 ^ (64 - j) : Nat) : Int), .int .i64 0]) ∧ Below wr.heap.size wr w' := by
  have hl : (W j).length = 2 ^ j := List.length_replicate
  have hr : Tp.RdF wr v (W j) := Tp.RdF.own (by rw [hl]; exact hown)
  have h8 : (W j).length * 8 ≤ 140737488351232 := by
    have := pow_le hk
    rw [hl]
    exact Nat.le_trans (Nat.mul_le_mul_right 8 this) (by decide)
  have h := pick_any a ha (W j) (W_64 hk) v wr hr h8
  rw [Shares.pick_W hk a ha] at h
  exact h

set_option maxHeartbeats 1000000 in
theorem shares (a : Nat) (n : Int) (k : Nat) (ha : a < 18446744073709551616) (hk : k ≤ 10) (hn : n.tmod 11 < 0 ∧ n.tmod 11 + 11 = (k : Int) ∨ 0 ≤ n.tmod 11 ∧ n.tmod 11 = (k : Int)) (hn2 : -9223372036854775808 ≤ n) (hn3 : n ≤ 9223372036854775807) (w : World) :
    Calls Try.prog 7 #[.int .u64 a, .int .i64 n] w fun e w' => e = .returned (.bool true) ∧ Below w.heap.size w w' := by
  obtain ⟨b1, b2⟩ := tmod_bd n
  have hpw := pow_le hk
  have hpw0 := Nat.two_pow_pos k
  obtain ⟨i0, hi, hz0, hz1, hz2⟩ := info_parts Try.info29
  go_enter Try.func7, Try.ntmps7
  go_wp2_with (first | (go_at_call 31; refine (awake_any _).mono ?_; rintro e w1 ⟨rfl, hb1⟩))
  all_goals
    first | rw [show n.tmod 11 + 11 = (k : Int) from by omega] | rw [show n.tmod 11 = (k : Int) from by omega]
    clear hn b1 b2
    go_loop [5, 6] (fun p i => ∃ j : Nat, j ≤ k ∧ i = .int .i64 j ∧ p = .float .f64 (P j)) (fun _ i => k - (intOf i).toNat)
    case atStart => exact ⟨0, by omega, rfl, by rw [P0]⟩
    case round =>
      obtain ⟨j, hj, rfl, rfl⟩ := hrel
      by_cases hlt : j < k
      · have hq := fun w => half_run (j := j) (by omega) w
        go_wp2
        go_round
        case rel => exact ⟨j + 1, by omega, by go_num, rfl⟩
        case measure => simp [intOf]; omega
      · obtain rfl : j = k := by omega
        go_wp2
        have hs := hb1.size
        obtain ⟨N, hN⟩ : ∃ N, N = 2 ^ j := ⟨_, rfl⟩
        rw [← hN] at hpw hpw0
        have hsh : wrap64 ((2 : Int) ^ j) = (N : Int) := by
          have e : ((2 : Int) ^ j) = (N : Int) := by rw [hN]; exact (Int.natCast_pow 2 j).symm
          rw [e]; exact IntWalk.wrap64_in _ (by omega)
        have hpick := Lib.hid (pick_rep a j hk ha)
        rw [← hN] at hpick
        have hq : ((a : Int) / 2 ^ (64 - j) == wrap64 ((a : Int) / 2 ^ (64 - j))) = true := by
          have e : ((a : Int) / 2 ^ (64 - j)) = ((a / 2 ^ (64 - j) : Nat) : Int) := by push_cast; rfl
          have hlt2 := Nat.div_lt_of_lt_mul (show a < 2 ^ (64 - j) * 1024 from Nat.lt_of_lt_of_le ha (by
            have h1 : 2 ^ 54 ≤ 2 ^ (64 - j) := Nat.pow_le_pow_right (by decide) (by omega)
            omega))
          rw [e]
          generalize a / 2 ^ (64 - j) = q at hlt2
          rw [IntWalk.wrap64_in _ (by omega)]; simp
        clear hN hlt
        go_loopw [7, 8] (fun v i wr => ∃ m : Nat, m ≤ N ∧ i = .int .i64 m ∧ wr.ownsRow w.heap.size 29 1 v m ((List.replicate m (P j)).map (Value.float .f64)) ∧ Below w.heap.size w wr) (fun _ i _ => N - (intOf i).toNat)
        case atStart => exact ⟨0, by omega, rfl, World.ownsRow_nil _ _ _ _, hb1⟩
        case round =>
          obtain ⟨m, hm, rfl, hown, hbel⟩ := hrel
          have hs2 := hbel.size
          by_cases hmm : m < N
          · go_wp2_with (at_builtin; refine Tp.wpList_append_one rfl _ _ 47 rfl w.heap.size 29 i0 (.float .f64 0) 8 Try.underlying47 hi hz0 hz1 hz2 rfl _ _ _ rfl hown 1 rfl rfl (by unfold maxLen; omega) (by omega) hs2 ?_; intro v' w1 hown' hg' hbel' _)
            have hbel2 := hbel' _ _ hbel (Nat.le_refl _)
            clear hbel' hbel hown hg'
            go_roundw
            case rel => exact ⟨m + 1, by omega, by go_num, by rw [List.replicate_succ', List.map_append]; exact hown', hbel2⟩
            case measure => simp [intOf]; omega
          · obtain rfl : m = N := by omega
            replace hpick := hpick.out u7 wr _ hown
            clear hown
            by_cases hj0 : j = 0
            · subst hj0
              have hz : a / 2 ^ (64 - 0) = 0 := Nat.div_eq_of_lt ha
              rw [hz] at hpick
              replace hpick := Lib.hid hpick
              clear hz hq
              go_wp2_with (go_at_call 25; refine hpick.out.mono ?_; rintro e w' ⟨rfl, hb2⟩)
              go_ret
              exact ⟨rfl, Tp.Below_seq hbel hb2⟩
            · replace hpick := Lib.hid hpick
              go_wp2_with (go_at_call 25; refine hpick.out.mono ?_; rintro e w' ⟨rfl, hb2⟩)
              go_ret
              exact ⟨rfl, Tp.Below_seq hbel hb2⟩
theorem walk {H : Type} (enc : TypeId × Value → H) (W : World) (base : Nat) (args : Array Value) (ds : List (DataW H)) (p : List MemPlace)
    (hval0 : ∀ (j : Nat) t v, Try.f7.params[j]? = some t → args[j]? = some v → Value.okWide Try.prog W .any base t v)
    (hA : DataW.TrodAll enc Try.prog W 0 (fun _ => true) true Try.f7.params.toList args.toList ds p)
    (_ : (DataW.weightsEach Try.prog Try.f7.params.toList ds).all (· ≤ reachBytes) = true) :
    Calls Try.prog 7 args W fun e w' => e = .returned (.bool true) ∧ Below W.heap.size W w' := by
  have hval : ∀ (j : Nat) t v, Try.f7.params[j]? = some t → args[j]? = some v → Value.okWide Try.prog W .any base t v := hval0
  rw [Try.params7] at hA hval
  obtain ⟨v0, v1, d0, d1, p0, p1, rfl, rfl, rfl, h0, h1⟩ := trodAll_two hA
  obtain ⟨a0, rfl, rfl, rfl, w0⟩ := open_int Try.underlying22 (hval 0 22 v0 rfl rfl) h0
  obtain ⟨a1, rfl, rfl, rfl, w1⟩ := open_int Try.underlying3 (hval 1 3 v1 rfl rfl) h1
  have b0 := bounds_u64 w0
  have b1 := bounds_i64 w1
  obtain ⟨a, rfl⟩ := Int.eq_ofNat_of_zero_le b0.1
  have bd := tmod_bd a1
  by_cases h : a1.tmod 11 < 0
  · obtain ⟨k, hk⟩ := Int.eq_ofNat_of_zero_le (show 0 ≤ a1.tmod 11 + 11 by omega)
    exact shares a a1 k (by omega) (by omega) (.inl ⟨h, hk⟩) b1.1 b1.2 W
  · obtain ⟨k, hk⟩ := Int.eq_ofNat_of_zero_le (show 0 ≤ a1.tmod 11 by omega)
    exact shares a a1 k (by omega) (by omega) (.inr ⟨by omega, hk⟩) b1.1 b1.2 W
end Go.Proofs.Ytfdmfihifjlidaa.drawShares
