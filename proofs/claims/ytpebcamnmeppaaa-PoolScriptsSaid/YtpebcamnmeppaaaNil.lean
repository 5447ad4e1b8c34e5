/- The calls at a pool that is nil; num; ints at one list. -/
import Derived.Test.YtpebcamnmeppaaaRexp
namespace Go.Proofs.Ytpebcamnmeppaaa
open Go.RowKit Go.Mp Go.Po
set_option linter.unusedVariables false
theorem ntake {w : World} (e : ByteArray) : Calls Try.prog 8 #[.pointer none, .string e] w fun e' w' => e' = .returned (.tuple #[.int .i64 (-1), .bool false, .int .i64 1]) ∧ w = w' := by
  go_enter Try.func8, Try.ntmps8
  go_wp2
  go_ret3
  exact ⟨rfl, rfl⟩
theorem rntake {w : World} (e : ByteArray) : Calls Try.prog 26 #[.pointer none, .string e] w fun e' w' => e' = .returned (.tuple #[.int .i64 (-1), .bool false, .int .i64 1]) ∧ w = w' := by
  go_enter Try.func26, Try.ntmps26
  go_wp2
  go_ret3
  exact ⟨rfl, rfl⟩
theorem ndial {w : World} (e : ByteArray) (i : Int) : Calls Try.prog 9 #[.pointer none, .string e, .int .i64 i] w fun e' w' => e' = .returned (.int .i64 1) ∧ w = w' := by
  go_enter Try.func9, Try.ntmps9
  go_wp2
  go_ret
  exact ⟨rfl, rfl⟩
theorem rndial {w : World} (e : ByteArray) (i : Int) : Calls Try.prog 27 #[.pointer none, .string e, .int .i64 i] w fun e' w' => e' = .returned (.int .i64 1) ∧ w = w' := by
  go_enter Try.func27, Try.ntmps27
  go_wp2
  go_ret
  exact ⟨rfl, rfl⟩
theorem nfail {w : World} (e : ByteArray) : Calls Try.prog 15 #[.pointer none, .string e] w fun e' w' => e' = .returned (.int .i64 1) ∧ w = w' := by
  go_enter Try.func15, Try.ntmps15
  go_wp2
  go_ret
  exact ⟨rfl, rfl⟩
theorem rnfail {w : World} (e : ByteArray) : Calls Try.prog 28 #[.pointer none, .string e] w fun e' w' => e' = .returned (.int .i64 1) ∧ w = w' := by
  go_enter Try.func28, Try.ntmps28
  go_wp2
  go_ret
  exact ⟨rfl, rfl⟩
theorem nput {w : World} (i j : Int) : Calls Try.prog 10 #[.pointer none, .int .i64 i, .int .i64 j] w fun e' w' => e' = .returned (.int .i64 1) ∧ w = w' := by
  go_enter Try.func10, Try.ntmps10
  go_wp2
  go_ret
  exact ⟨rfl, rfl⟩
theorem rnput {w : World} (i j : Int) : Calls Try.prog 29 #[.pointer none, .int .i64 i, .int .i64 j] w fun e' w' => e' = .returned (.int .i64 1) ∧ w = w' := by
  go_enter Try.func29, Try.ntmps29
  go_wp2
  go_ret
  exact ⟨rfl, rfl⟩
theorem npoison {w : World} (i : Int) : Calls Try.prog 16 #[.pointer none, .int .i64 i] w fun e' w' => e' = .returned (.int .i64 1) ∧ w = w' := by
  go_enter Try.func16, Try.ntmps16
  go_wp2
  go_ret
  exact ⟨rfl, rfl⟩
theorem rnpoison {w : World} (i : Int) : Calls Try.prog 30 #[.pointer none, .int .i64 i] w fun e' w' => e' = .returned (.int .i64 1) ∧ w = w' := by
  go_enter Try.func30, Try.ntmps30
  go_wp2
  go_ret
  exact ⟨rfl, rfl⟩
theorem nexpire {w : World} (i : Int) : Calls Try.prog 11 #[.pointer none, .int .i64 i] w fun e' w' => e' = .returned (.slice none 0 0) ∧ w = w' := by
  go_enter Try.func11, Try.ntmps11
  go_wp2
  go_ret
  exact ⟨rfl, rfl⟩
theorem rnexpire {w : World} (i : Int) : Calls Try.prog 32 #[.pointer none, .int .i64 i] w fun e' w' => e' = .returned (.slice none 0 0) ∧ w = w' := by
  go_enter Try.func32, Try.ntmps32
  go_wp2
  go_ret
  exact ⟨rfl, rfl⟩
theorem ncounts {w : World} (e : ByteArray) : Calls Try.prog 13 #[.pointer none, .string e] w fun e' w' => e' = .returned (.tuple #[.int .i64 0, .int .i64 0, .int .i64 0]) ∧ w = w' := by
  go_enter Try.func13, Try.ntmps13
  go_wp2
  go_ret3
  exact ⟨rfl, rfl⟩
theorem rncounts {w : World} (e : ByteArray) : Calls Try.prog 20 #[.pointer none, .string e] w fun e' w' => e' = .returned (.tuple #[.int .i64 0, .int .i64 0, .int .i64 0]) ∧ w = w' := by
  go_enter Try.func20, Try.ntmps20
  go_wp2
  go_ret3
  exact ⟨rfl, rfl⟩
theorem nwhere {w : World} (i : Int) : Calls Try.prog 21 #[.pointer none, .int .i64 i] w fun e' w' => e' = .returned (.tuple #[.string ⟨#[]⟩, .bool false]) ∧ w = w' := by
  go_enter Try.func21, Try.ntmps21
  go_wp2
  go_ret2
  exact ⟨rfl, rfl⟩
theorem rnwhere {w : World} (i : Int) : Calls Try.prog 22 #[.pointer none, .int .i64 i] w fun e' w' => e' = .returned (.tuple #[.string ⟨#[]⟩, .bool false]) ∧ w = w' := by
  go_enter Try.func22, Try.ntmps22
  go_wp2
  go_ret2
  exact ⟨rfl, rfl⟩
theorem num_any {w : World} (i : Int) : Calls Try.prog 18 #[.int .i64 i] w fun e' w' => e' = .returned (.int .i64 i) ∧ w = w' := by
  go_enter Try.func18, Try.ntmps18
  go_wp2
  go_ret
  exact ⟨rfl, rfl⟩
theorem drewN_add (w : World) (m n : Nat) : (w.drewN m).drewN n = w.drewN (m + n) := by unfold World.drewN; simp [Nat.add_assoc]
theorem RI.drewN {w : World} {v : Value} {l : List Int} (h : RI w v l) (m : Nat) : RI (w.drewN m) v l := ri_keep h (fun _ _ => rfl)
theorem ints_same {w : World} {v1 v2 : Value} {l : List Int} (h1 : RI w v1 l) (h2 : RI w v2 l) (hl : l.length < 4611686018427387904) : Calls Try.prog 31 #[v1, v2] w fun e w' => e = .returned (.bool true) ∧ Tch No w w' := by
  obtain ⟨a1, c1, rfl, _⟩ := id h1
  obtain ⟨a2, c2, rfl, _⟩ := id h2
  replace h1 := Lib.hid h1
  replace h2 := Lib.hid h2
  have he : (((l.length : Int)) != ((l.length : Int))) = false := by simp
  go_enter Try.func31, Try.ntmps31
  go_wp2
  go_loopg [5] l.length (fun gg kc wr => ∃ k : Nat, k ≤ l.length ∧ gg = l.length - k ∧ kc = .int .i64 k ∧ ∃ m, wr = w.drewN m)
  case atStart => exact ⟨0, by omega, by omega, rfl, 0, rfl⟩
  case round =>
    obtain ⟨k, hk, rfl, rfl, m, rfl⟩ := hrel
    by_cases hkl : k < l.length
    · have hx := List.getElem?_eq_getElem hkl
      obtain ⟨b1, o1, r1, d1⟩ := ri_at h1.out hx
      obtain ⟨b2, o2, r2, d2⟩ := ri_at h2.out hx
      subst r1
      subst r2
      have k0 := nn_lt hkl
      generalize l[k] = x at *
      have kx : (x != x) = false := by simp
      have kx' : (x == x) = true := by simp
      replace hx := Lib.hid hx
      go_upto_region 6 with fail
      go_quiet (fail)
      go_wp2
      go_roundg (l.length - (k + 1))
      case rel => exact ⟨k + 1, hkl, rfl, by first | rfl | rw [nn_succ hkl (by omega)] | (push_cast; rfl), m + nq, by first | rfl | exact drewN_add w m nq⟩
      case measure => exact nn_sub hkl
    · have k0 := nn_ge hkl
      go_wp2
      go_ret
      exact ⟨rfl, Tch.drewN No w m⟩
end Go.Proofs.Ytpebcamnmeppaaa
