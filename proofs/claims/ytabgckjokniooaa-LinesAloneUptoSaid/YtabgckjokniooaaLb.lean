/- name: behind a name. -/
import Derived.Test.YtabgckjokniooaaLa
namespace Go.Ln
open Go.RowKit
theorem letter_iff (c : UInt8) {x : Int} (hx : x = (c.toNat : Int)) : letter c = true ↔ (97 ≤ x ∧ x ≤ 122) ∨ (65 ≤ x ∧ x ≤ 90) ∨ (48 ≤ x ∧ x ≤ 57) ∨ x = 95 ∨ x = 45 ∨ x = 46 := by
  subst hx
  unfold letter
  simp only [Bool.or_eq_true, Bool.and_eq_true, decide_eq_true_eq]
  refine or_congr (and_congr (u8_lo (n := 97) (by decide)) (u8_hi (n := 122) (by decide))) (or_congr (and_congr (u8_lo (n := 65) (by decide)) (u8_hi (n := 90) (by decide))) (or_congr (and_congr (u8_lo (n := 48) (by decide)) (u8_hi (n := 57) (by decide))) (or_congr (u8_eq (n := 95) (by decide)) (or_congr (u8_eq (n := 45) (by decide)) (u8_eq (n := 46) (by decide))))))
theorem letter_true {c : UInt8} {x : Int} (hx : x = (c.toNat : Int)) (h : (97 ≤ x ∧ x ≤ 122) ∨ (65 ≤ x ∧ x ≤ 90) ∨ (48 ≤ x ∧ x ≤ 57) ∨ x = 95 ∨ x = 45 ∨ x = 46) : letter c = true := (letter_iff c hx).2 h
theorem letter_false {c : UInt8} {x : Int} (hx : x = (c.toNat : Int)) (h : ¬ ((97 ≤ x ∧ x ≤ 122) ∨ (65 ≤ x ∧ x ≤ 90) ∨ (48 ≤ x ∧ x ≤ 57) ∨ x = 95 ∨ x = 45 ∨ x = 46)) : letter c = false := by
  rw [Bool.eq_false_iff]; exact fun e => h ((letter_iff c hx).1 e)
end Go.Ln
namespace Go.Proofs.Ytabgckjokniooaa
open Go.RowKit Go.Ln
set_option linter.unusedVariables false
set_option maxRecDepth 100000
set_option maxHeartbeats 2000000
theorem name_any (s : ByteArray) (i : Nat) (w : World) (hs : s.size < 8796093022208) (hi : i ≤ s.size) :
    Calls Try.prog 19 #[.string s, .int .i64 i] w fun e w' => e = .returned (.int .i64 (behind s.data.toList i)) ∧ w = w' := by
  obtain ⟨r, hr⟩ : ∃ r, r = behind s.data.toList i := ⟨_, rfl⟩
  rw [← hr]
  replace hs := Lib.hid hs
  replace hi := Lib.hid hi
  go_enter Try.func19, Try.ntmps19
  go_wp2
  go_loopg [1] (s.size - i + 1) (fun gg iv wr => ∃ j : Nat, gg = s.size - j + 1 ∧ iv = .int .i64 j ∧ j ≤ s.size ∧ r = behind s.data.toList j ∧ w = wr)
  case atStart => exact ⟨i, rfl, rfl, hi.out, hr, rfl⟩
  case round =>
    obtain ⟨j, rfl, rfl, hj, hb, rfl⟩ := hrel
    clear hr
    by_cases hlt : j < s.size
    · have k0 := nn_lt2 hlt
      have hb2 := behind_at s hlt
      have hwk := Lib.hid (nn_wrap hlt hs.out)
      obtain ⟨x, h9⟩ : ∃ x : Int, x = (s[j].toNat : Int) := ⟨_, rfl⟩
      have h9' : (s[j].toNat : Int) = x := h9.symm
      obtain ⟨lt, hlt2⟩ : ∃ b, b = letter s[j] := ⟨_, rfl⟩
      replace h9 : x = (s[j].toNat : Int) := h9
      replace hb2 := Lib.hid hb2
      replace hb := Lib.hid hb
      replace hj := Lib.hid hj
      replace hlt2 := Lib.hid hlt2
      have hx0 : 0 ≤ x ∧ x ≤ 255 := by rw [h9]; have := UInt8.toNat_lt s[j]; omega
      replace h9 := Lib.hid h9
      by_cases g0 : 97 ≤ x
      · by_cases g1 : x ≤ 122
        · have d0 : decide ((97 ≤ x : Prop)) = true := by first | exact decide_eq_true (by omega) | exact decide_eq_false (by omega)
          have d1 : decide ((x ≤ 122 : Prop)) = true := by first | exact decide_eq_true (by omega) | exact decide_eq_false (by omega)
          have d2 : decide ((65 ≤ x : Prop)) = true := by first | exact decide_eq_true (by omega) | exact decide_eq_false (by omega)
          have d3 : decide ((x ≤ 90 : Prop)) = false := by first | exact decide_eq_true (by omega) | exact decide_eq_false (by omega)
          have d4 : decide ((48 ≤ x : Prop)) = true := by first | exact decide_eq_true (by omega) | exact decide_eq_false (by omega)
          have d5 : decide ((x ≤ 57 : Prop)) = false := by first | exact decide_eq_true (by omega) | exact decide_eq_false (by omega)
          have d6 : ((x : Int) == 95) = false := by first | exact beq_iff_eq.2 (by omega) | exact beq_eq_false_iff_ne.2 (by omega)
          have d7 : ((x : Int) == 45) = false := by first | exact beq_iff_eq.2 (by omega) | exact beq_eq_false_iff_ne.2 (by omega)
          have d8 : ((x : Int) == 46) = false := by first | exact beq_iff_eq.2 (by omega) | exact beq_eq_false_iff_ne.2 (by omega)
          have hv := Lib.hid (letter_true h9.out (by omega))
          replace g0 := Lib.hid g0
          replace g1 := Lib.hid g1
          go_wp2
          go_roundg (s.size - (j + 1) + 1)
          case rel => exact ⟨j + 1, rfl, by rw [hwk.out], hlt, by rw [hb.out, hb2.out, hv.out]; rfl, rfl⟩
          case measure => exact nn_down hlt
        · have d0 : decide ((97 ≤ x : Prop)) = true := by first | exact decide_eq_true (by omega) | exact decide_eq_false (by omega)
          have d1 : decide ((x ≤ 122 : Prop)) = false := by first | exact decide_eq_true (by omega) | exact decide_eq_false (by omega)
          have d2 : decide ((65 ≤ x : Prop)) = true := by first | exact decide_eq_true (by omega) | exact decide_eq_false (by omega)
          have d3 : decide ((x ≤ 90 : Prop)) = false := by first | exact decide_eq_true (by omega) | exact decide_eq_false (by omega)
          have d4 : decide ((48 ≤ x : Prop)) = true := by first | exact decide_eq_true (by omega) | exact decide_eq_false (by omega)
          have d5 : decide ((x ≤ 57 : Prop)) = false := by first | exact decide_eq_true (by omega) | exact decide_eq_false (by omega)
          have d6 : ((x : Int) == 95) = false := by first | exact beq_iff_eq.2 (by omega) | exact beq_eq_false_iff_ne.2 (by omega)
          have d7 : ((x : Int) == 45) = false := by first | exact beq_iff_eq.2 (by omega) | exact beq_eq_false_iff_ne.2 (by omega)
          have d8 : ((x : Int) == 46) = false := by first | exact beq_iff_eq.2 (by omega) | exact beq_eq_false_iff_ne.2 (by omega)
          have hv := Lib.hid (letter_false h9.out (by omega))
          replace g0 := Lib.hid g0
          replace g1 := Lib.hid g1
          go_wp2
          go_ret
          exact ⟨by rw [hb.out, hb2.out, hv.out]; rfl, rfl⟩
      · by_cases g1 : 65 ≤ x
        · by_cases g2 : x ≤ 90
          · have d0 : decide ((97 ≤ x : Prop)) = false := by first | exact decide_eq_true (by omega) | exact decide_eq_false (by omega)
            have d1 : decide ((x ≤ 122 : Prop)) = true := by first | exact decide_eq_true (by omega) | exact decide_eq_false (by omega)
            have d2 : decide ((65 ≤ x : Prop)) = true := by first | exact decide_eq_true (by omega) | exact decide_eq_false (by omega)
            have d3 : decide ((x ≤ 90 : Prop)) = true := by first | exact decide_eq_true (by omega) | exact decide_eq_false (by omega)
            have d4 : decide ((48 ≤ x : Prop)) = true := by first | exact decide_eq_true (by omega) | exact decide_eq_false (by omega)
            have d5 : decide ((x ≤ 57 : Prop)) = false := by first | exact decide_eq_true (by omega) | exact decide_eq_false (by omega)
            have d6 : ((x : Int) == 95) = false := by first | exact beq_iff_eq.2 (by omega) | exact beq_eq_false_iff_ne.2 (by omega)
            have d7 : ((x : Int) == 45) = false := by first | exact beq_iff_eq.2 (by omega) | exact beq_eq_false_iff_ne.2 (by omega)
            have d8 : ((x : Int) == 46) = false := by first | exact beq_iff_eq.2 (by omega) | exact beq_eq_false_iff_ne.2 (by omega)
            have hv := Lib.hid (letter_true h9.out (by omega))
            replace g0 := Lib.hid g0
            replace g1 := Lib.hid g1
            replace g2 := Lib.hid g2
            go_wp2
            go_roundg (s.size - (j + 1) + 1)
            case rel => exact ⟨j + 1, rfl, by rw [hwk.out], hlt, by rw [hb.out, hb2.out, hv.out]; rfl, rfl⟩
            case measure => exact nn_down hlt
          · by_cases g3 : x = 95
            · have d0 : decide ((97 ≤ x : Prop)) = false := by first | exact decide_eq_true (by omega) | exact decide_eq_false (by omega)
              have d1 : decide ((x ≤ 122 : Prop)) = true := by first | exact decide_eq_true (by omega) | exact decide_eq_false (by omega)
              have d2 : decide ((65 ≤ x : Prop)) = true := by first | exact decide_eq_true (by omega) | exact decide_eq_false (by omega)
              have d3 : decide ((x ≤ 90 : Prop)) = false := by first | exact decide_eq_true (by omega) | exact decide_eq_false (by omega)
              have d4 : decide ((48 ≤ x : Prop)) = true := by first | exact decide_eq_true (by omega) | exact decide_eq_false (by omega)
              have d5 : decide ((x ≤ 57 : Prop)) = false := by first | exact decide_eq_true (by omega) | exact decide_eq_false (by omega)
              have d6 : ((x : Int) == 95) = true := by first | exact beq_iff_eq.2 (by omega) | exact beq_eq_false_iff_ne.2 (by omega)
              have d7 : ((x : Int) == 45) = false := by first | exact beq_iff_eq.2 (by omega) | exact beq_eq_false_iff_ne.2 (by omega)
              have d8 : ((x : Int) == 46) = false := by first | exact beq_iff_eq.2 (by omega) | exact beq_eq_false_iff_ne.2 (by omega)
              have hv := Lib.hid (letter_true h9.out (by omega))
              replace g0 := Lib.hid g0
              replace g1 := Lib.hid g1
              replace g2 := Lib.hid g2
              replace g3 := Lib.hid g3
              go_wp2
              go_roundg (s.size - (j + 1) + 1)
              case rel => exact ⟨j + 1, rfl, by rw [hwk.out], hlt, by rw [hb.out, hb2.out, hv.out]; rfl, rfl⟩
              case measure => exact nn_down hlt
            · have d0 : decide ((97 ≤ x : Prop)) = false := by first | exact decide_eq_true (by omega) | exact decide_eq_false (by omega)
              have d1 : decide ((x ≤ 122 : Prop)) = true := by first | exact decide_eq_true (by omega) | exact decide_eq_false (by omega)
              have d2 : decide ((65 ≤ x : Prop)) = true := by first | exact decide_eq_true (by omega) | exact decide_eq_false (by omega)
              have d3 : decide ((x ≤ 90 : Prop)) = false := by first | exact decide_eq_true (by omega) | exact decide_eq_false (by omega)
              have d4 : decide ((48 ≤ x : Prop)) = true := by first | exact decide_eq_true (by omega) | exact decide_eq_false (by omega)
              have d5 : decide ((x ≤ 57 : Prop)) = false := by first | exact decide_eq_true (by omega) | exact decide_eq_false (by omega)
              have d6 : ((x : Int) == 95) = false := by first | exact beq_iff_eq.2 (by omega) | exact beq_eq_false_iff_ne.2 (by omega)
              have d7 : ((x : Int) == 45) = false := by first | exact beq_iff_eq.2 (by omega) | exact beq_eq_false_iff_ne.2 (by omega)
              have d8 : ((x : Int) == 46) = false := by first | exact beq_iff_eq.2 (by omega) | exact beq_eq_false_iff_ne.2 (by omega)
              have hv := Lib.hid (letter_false h9.out (by omega))
              replace g0 := Lib.hid g0
              replace g1 := Lib.hid g1
              replace g2 := Lib.hid g2
              replace g3 := Lib.hid g3
              go_wp2
              go_ret
              exact ⟨by rw [hb.out, hb2.out, hv.out]; rfl, rfl⟩
        · by_cases g2 : 48 ≤ x
          · by_cases g3 : x ≤ 57
            · have d0 : decide ((97 ≤ x : Prop)) = false := by first | exact decide_eq_true (by omega) | exact decide_eq_false (by omega)
              have d1 : decide ((x ≤ 122 : Prop)) = true := by first | exact decide_eq_true (by omega) | exact decide_eq_false (by omega)
              have d2 : decide ((65 ≤ x : Prop)) = false := by first | exact decide_eq_true (by omega) | exact decide_eq_false (by omega)
              have d3 : decide ((x ≤ 90 : Prop)) = true := by first | exact decide_eq_true (by omega) | exact decide_eq_false (by omega)
              have d4 : decide ((48 ≤ x : Prop)) = true := by first | exact decide_eq_true (by omega) | exact decide_eq_false (by omega)
              have d5 : decide ((x ≤ 57 : Prop)) = true := by first | exact decide_eq_true (by omega) | exact decide_eq_false (by omega)
              have d6 : ((x : Int) == 95) = false := by first | exact beq_iff_eq.2 (by omega) | exact beq_eq_false_iff_ne.2 (by omega)
              have d7 : ((x : Int) == 45) = false := by first | exact beq_iff_eq.2 (by omega) | exact beq_eq_false_iff_ne.2 (by omega)
              have d8 : ((x : Int) == 46) = false := by first | exact beq_iff_eq.2 (by omega) | exact beq_eq_false_iff_ne.2 (by omega)
              have hv := Lib.hid (letter_true h9.out (by omega))
              replace g0 := Lib.hid g0
              replace g1 := Lib.hid g1
              replace g2 := Lib.hid g2
              replace g3 := Lib.hid g3
              go_wp2
              go_roundg (s.size - (j + 1) + 1)
              case rel => exact ⟨j + 1, rfl, by rw [hwk.out], hlt, by rw [hb.out, hb2.out, hv.out]; rfl, rfl⟩
              case measure => exact nn_down hlt
            · have d0 : decide ((97 ≤ x : Prop)) = false := by first | exact decide_eq_true (by omega) | exact decide_eq_false (by omega)
              have d1 : decide ((x ≤ 122 : Prop)) = true := by first | exact decide_eq_true (by omega) | exact decide_eq_false (by omega)
              have d2 : decide ((65 ≤ x : Prop)) = false := by first | exact decide_eq_true (by omega) | exact decide_eq_false (by omega)
              have d3 : decide ((x ≤ 90 : Prop)) = true := by first | exact decide_eq_true (by omega) | exact decide_eq_false (by omega)
              have d4 : decide ((48 ≤ x : Prop)) = true := by first | exact decide_eq_true (by omega) | exact decide_eq_false (by omega)
              have d5 : decide ((x ≤ 57 : Prop)) = false := by first | exact decide_eq_true (by omega) | exact decide_eq_false (by omega)
              have d6 : ((x : Int) == 95) = false := by first | exact beq_iff_eq.2 (by omega) | exact beq_eq_false_iff_ne.2 (by omega)
              have d7 : ((x : Int) == 45) = false := by first | exact beq_iff_eq.2 (by omega) | exact beq_eq_false_iff_ne.2 (by omega)
              have d8 : ((x : Int) == 46) = false := by first | exact beq_iff_eq.2 (by omega) | exact beq_eq_false_iff_ne.2 (by omega)
              have hv := Lib.hid (letter_false h9.out (by omega))
              replace g0 := Lib.hid g0
              replace g1 := Lib.hid g1
              replace g2 := Lib.hid g2
              replace g3 := Lib.hid g3
              go_wp2
              go_ret
              exact ⟨by rw [hb.out, hb2.out, hv.out]; rfl, rfl⟩
          · by_cases g3 : x = 45
            · have d0 : decide ((97 ≤ x : Prop)) = false := by first | exact decide_eq_true (by omega) | exact decide_eq_false (by omega)
              have d1 : decide ((x ≤ 122 : Prop)) = true := by first | exact decide_eq_true (by omega) | exact decide_eq_false (by omega)
              have d2 : decide ((65 ≤ x : Prop)) = false := by first | exact decide_eq_true (by omega) | exact decide_eq_false (by omega)
              have d3 : decide ((x ≤ 90 : Prop)) = true := by first | exact decide_eq_true (by omega) | exact decide_eq_false (by omega)
              have d4 : decide ((48 ≤ x : Prop)) = false := by first | exact decide_eq_true (by omega) | exact decide_eq_false (by omega)
              have d5 : decide ((x ≤ 57 : Prop)) = true := by first | exact decide_eq_true (by omega) | exact decide_eq_false (by omega)
              have d6 : ((x : Int) == 95) = false := by first | exact beq_iff_eq.2 (by omega) | exact beq_eq_false_iff_ne.2 (by omega)
              have d7 : ((x : Int) == 45) = true := by first | exact beq_iff_eq.2 (by omega) | exact beq_eq_false_iff_ne.2 (by omega)
              have d8 : ((x : Int) == 46) = false := by first | exact beq_iff_eq.2 (by omega) | exact beq_eq_false_iff_ne.2 (by omega)
              have hv := Lib.hid (letter_true h9.out (by omega))
              replace g0 := Lib.hid g0
              replace g1 := Lib.hid g1
              replace g2 := Lib.hid g2
              replace g3 := Lib.hid g3
              go_wp2
              go_roundg (s.size - (j + 1) + 1)
              case rel => exact ⟨j + 1, rfl, by rw [hwk.out], hlt, by rw [hb.out, hb2.out, hv.out]; rfl, rfl⟩
              case measure => exact nn_down hlt
            · by_cases g4 : x = 46
              · have d0 : decide ((97 ≤ x : Prop)) = false := by first | exact decide_eq_true (by omega) | exact decide_eq_false (by omega)
                have d1 : decide ((x ≤ 122 : Prop)) = true := by first | exact decide_eq_true (by omega) | exact decide_eq_false (by omega)
                have d2 : decide ((65 ≤ x : Prop)) = false := by first | exact decide_eq_true (by omega) | exact decide_eq_false (by omega)
                have d3 : decide ((x ≤ 90 : Prop)) = true := by first | exact decide_eq_true (by omega) | exact decide_eq_false (by omega)
                have d4 : decide ((48 ≤ x : Prop)) = false := by first | exact decide_eq_true (by omega) | exact decide_eq_false (by omega)
                have d5 : decide ((x ≤ 57 : Prop)) = true := by first | exact decide_eq_true (by omega) | exact decide_eq_false (by omega)
                have d6 : ((x : Int) == 95) = false := by first | exact beq_iff_eq.2 (by omega) | exact beq_eq_false_iff_ne.2 (by omega)
                have d7 : ((x : Int) == 45) = false := by first | exact beq_iff_eq.2 (by omega) | exact beq_eq_false_iff_ne.2 (by omega)
                have d8 : ((x : Int) == 46) = true := by first | exact beq_iff_eq.2 (by omega) | exact beq_eq_false_iff_ne.2 (by omega)
                have hv := Lib.hid (letter_true h9.out (by omega))
                replace g0 := Lib.hid g0
                replace g1 := Lib.hid g1
                replace g2 := Lib.hid g2
                replace g3 := Lib.hid g3
                replace g4 := Lib.hid g4
                go_wp2
                go_roundg (s.size - (j + 1) + 1)
                case rel => exact ⟨j + 1, rfl, by rw [hwk.out], hlt, by rw [hb.out, hb2.out, hv.out]; rfl, rfl⟩
                case measure => exact nn_down hlt
              · have d0 : decide ((97 ≤ x : Prop)) = false := by first | exact decide_eq_true (by omega) | exact decide_eq_false (by omega)
                have d1 : decide ((x ≤ 122 : Prop)) = true := by first | exact decide_eq_true (by omega) | exact decide_eq_false (by omega)
                have d2 : decide ((65 ≤ x : Prop)) = false := by first | exact decide_eq_true (by omega) | exact decide_eq_false (by omega)
                have d3 : decide ((x ≤ 90 : Prop)) = true := by first | exact decide_eq_true (by omega) | exact decide_eq_false (by omega)
                have d4 : decide ((48 ≤ x : Prop)) = false := by first | exact decide_eq_true (by omega) | exact decide_eq_false (by omega)
                have d5 : decide ((x ≤ 57 : Prop)) = true := by first | exact decide_eq_true (by omega) | exact decide_eq_false (by omega)
                have d6 : ((x : Int) == 95) = false := by first | exact beq_iff_eq.2 (by omega) | exact beq_eq_false_iff_ne.2 (by omega)
                have d7 : ((x : Int) == 45) = false := by first | exact beq_iff_eq.2 (by omega) | exact beq_eq_false_iff_ne.2 (by omega)
                have d8 : ((x : Int) == 46) = false := by first | exact beq_iff_eq.2 (by omega) | exact beq_eq_false_iff_ne.2 (by omega)
                have hv := Lib.hid (letter_false h9.out (by omega))
                replace g0 := Lib.hid g0
                replace g1 := Lib.hid g1
                replace g2 := Lib.hid g2
                replace g3 := Lib.hid g3
                replace g4 := Lib.hid g4
                go_wp2
                go_ret
                exact ⟨by rw [hb.out, hb2.out, hv.out]; rfl, rfl⟩
    · have k0 := nn_ge2 hlt
      have k1 : decide (j < s.size) = false := decide_eq_false hlt
      have hv : r = j := by rw [hb, behind_end s hlt]
      replace hb := Lib.hid hb
      replace hj := Lib.hid hj
      replace hv := Lib.hid hv
      replace hlt := Lib.hid hlt
      go_wp2
      go_ret
      exact ⟨by rw [hv.out]; rfl, rfl⟩
end Go.Proofs.Ytabgckjokniooaa
