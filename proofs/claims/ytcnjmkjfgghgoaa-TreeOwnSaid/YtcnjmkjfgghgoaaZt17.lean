/- How many bytes a quoted text takes. -/
import Derived.Test.YtcnjmkjfgghgoaaZt5
import Derived.Test.YtcnjmkjfgghgoaaZt11
import Derived.Test.YtcnjmkjfgghgoaaZt14
import Derived.Test.YtcnjmkjfgghgoaaZt15
import Derived.Test.YtcnjmkjfgghgoaaZt16
import Derived.Test.YtcnjmkjfgghgoaaZt10
section
/- sound: has a line bytes alone that may be there? -/
namespace Go.Ln
open Go.RowKit
def badc (c : UInt8) : Bool := decide (c < 32) || decide (c = 127)
theorem badc_eq (c : UInt8) {x : Int} (hx : x = (c.toNat : Int)) : badc c = (decide (x < 32) || (x == 127)) := by
  subst hx
  unfold badc
  rw [show ((c.toNat : Int) == 127) = decide (c = 127) from (u8_beq c 127 (by decide)).symm]
  congr 1
  rw [Bool.eq_iff_iff, decide_eq_true_eq, decide_eq_true_eq]
  exact u8_lt (n := 32) (by decide)
theorem sound_tab {l : List UInt8} (h : 0 ≤ Lib.indexByte l 9) : sound l = 80 := by unfold sound; rw [if_pos h]
theorem sound_bad {s : ByteArray} (h : ¬ 0 ≤ Lib.indexByte s.data.toList 9) {i : Nat} (hi : i < s.size) (hb : badc s[i] = true) : sound s.data.toList = 83 := by
  unfold sound; rw [if_neg h, if_pos]
  exact List.any_eq_true.2 ⟨s[i], List.mem_of_getElem? (at_data s hi), hb⟩
theorem sound_ok {s : ByteArray} (h : ¬ 0 ≤ Lib.indexByte s.data.toList 9) {i : Nat} (hi : ¬ i < s.size) (hall : ∀ j (hj : j < s.size), j < i → badc s[j] = false) : sound s.data.toList = 0 := by
  unfold sound; rw [if_neg h, if_neg]
  rw [Bool.not_eq_true, List.any_eq_false]
  intro c hc
  obtain ⟨j, hj⟩ := List.getElem?_of_mem hc
  have hjl : j < s.size := by have := (List.getElem?_eq_some_iff.1 hj).1; rwa [len_data] at this
  rw [at_data s hjl] at hj
  cases hj
  have := hall j hjl (by omega)
  unfold badc at this
  simpa using this
end Go.Ln
namespace Go.Proofs.Ytcnjmkjfgghgoaa
open Go.RowKit Go.Ln
set_option linter.unusedVariables false
set_option maxRecDepth 20000
theorem all_next {s : ByteArray} {i : Nat} (hall : ∀ j (hj : j < s.size), j < i → badc s[j] = false) (hi : i < s.size) (h : badc s[i] = false) : ∀ j (hj : j < s.size), j < i + 1 → badc s[j] = false := fun j hj hji => by
  by_cases e : j = i
  · subst e; exact h
  · exact hall j hj (by omega)
theorem not_neg {x : Int} (h : Hid (x < 0)) : ¬ 0 ≤ x := Int.not_le.2 h
theorem sound_any (s : ByteArray) (w : World) (hs : s.size < 8796093022208) :
    Calls Try.prog 67 #[.string s] w fun e w' => e = .returned (.int .i64 (sound s.data.toList)) ∧ w = w' := by
  have hC := Try.strings_IndexByte s 9 w
  obtain ⟨ix, hix⟩ : ∃ ix, ix = Lib.indexByte s.data.toList 9 := ⟨_, rfl⟩
  rw [show Lib.indexByte s.data.toList (9 : Int).toNat.toUInt8 = ix from hix.symm] at hC
  replace hC := Lib.hid hC
  replace hs := Lib.hid hs
  by_cases h0 : 0 ≤ ix
  · have q0 : decide (0 ≤ ix) = true := decide_eq_true h0
    have hv := Lib.hid (sound_tab (hix ▸ h0))
    replace hix := Lib.hid hix
    go_enter Try.func67, Try.ntmps67
    go_wp2_with (first
      | (go_at_call 82; refine hC.out.mono ?_; clear hC; rintro e w2 ⟨rfl, hw2⟩; replace hw2 := hw2.symm; subst hw2)
      | fail)
    go_ret
    exact ⟨by rw [hv.out]; rfl, rfl⟩
  · have q0 : decide (0 ≤ ix) = false := decide_eq_false h0
    have hn : Hid (¬ 0 ≤ Lib.indexByte s.data.toList 9) := Lib.hid (hix ▸ h0)
    replace hix := Lib.hid hix
    go_enter Try.func67, Try.ntmps67
    go_wp2_with (first
      | (go_at_call 82; refine hC.out.mono ?_; clear hC; rintro e w2 ⟨rfl, hw2⟩; replace hw2 := hw2.symm; subst hw2)
      | fail)
    go_loopg [9] (s.size + 1) (fun gg iv wr => ∃ i : Nat, gg = s.size - i + 1 ∧ iv = .int .i64 i ∧ i ≤ s.size ∧ w = wr ∧ ∀ j (hj : j < s.size), j < i → badc s[j] = false)
    case atStart => exact ⟨0, rfl, rfl, Nat.zero_le _, rfl, fun j hj h => absurd h (Nat.not_lt_zero j)⟩
    case round =>
      obtain ⟨i, rfl, rfl, hi, rfl, hall⟩ := hrel
      by_cases hlt : i < s.size
      · have k0 := nn_lt2 hlt
        have hwk := Lib.hid (nn_wrap hlt hs.out)
        obtain ⟨x, h9⟩ : ∃ x : Int, x = (s[i].toNat : Int) := ⟨_, rfl⟩
        have h9' : (s[i].toNat : Int) = x := h9.symm
        have hbq := badc_eq s[i] h9
        replace h9 := Lib.hid h9
        replace hall := Lib.hid hall
        replace hi := Lib.hid hi
        by_cases ka : x < 32
        · have qa : decide (x < 32) = true := decide_eq_true ka
          rw [qa] at hbq
          have hv := Lib.hid (sound_bad (not_neg hn) hlt hbq)
          replace hbq := Lib.hid hbq
          replace ka := Lib.hid ka
          go_wp2
          go_ret
          exact ⟨by rw [hv.out]; rfl, rfl⟩
        · have qa : decide (x < 32) = false := decide_eq_false ka
          rw [qa] at hbq
          cases hq : (x == 127) with
          | true =>
            rw [hq] at hbq
            have hv := Lib.hid (sound_bad (not_neg hn) hlt hbq)
            replace hbq := Lib.hid hbq
            replace ka := Lib.hid ka
            go_wp2
            go_ret
            exact ⟨by rw [hv.out]; rfl, rfl⟩
          | false =>
            rw [hq] at hbq
            replace hbq := Lib.hid hbq
            replace ka := Lib.hid ka
            go_wp2
            go_roundg (s.size - (i + 1) + 1)
            case rel => exact ⟨i + 1, rfl, by rw [hwk.out], hlt, rfl, all_next hall.out hlt hbq.out⟩
            case measure => exact nn_down hlt
      · have k0 := nn_ge2 hlt
        have k1 : decide (i < s.size) = false := decide_eq_false hlt
        have hv := Lib.hid (sound_ok (not_neg hn) hlt hall)
        replace hall := Lib.hid hall
        replace hi := Lib.hid hi
        replace hlt := Lib.hid hlt
        go_wp2
        go_ret
        exact ⟨by rw [hv.out]; rfl, rfl⟩
end Go.Proofs.Ytcnjmkjfgghgoaa
end

section
/- name: behind a name. -/
namespace Go.Ln
open Go.RowKit
theorem letter_iff (c : UInt8) {x : Int} (hx : x = (c.toNat : Int)) : letter c = true ↔ (97 ≤ x ∧ x ≤ 122) ∨ (65 ≤ x ∧ x ≤ 90) ∨ (48 ≤ x ∧ x ≤ 57) ∨ x = 95 ∨ x = 45 ∨ x = 46 := by
  subst hx
  unfold letter
  simp only [Bool.or_eq_true, Bool.and_eq_true, decide_eq_true_eq]
  refine or_congr (and_congr (u8_lo (n := 97) (by decide)) (u8_hi (n := 122) (by decide))) (or_congr (and_congr (u8_lo (n := 65) (by decide)) (u8_hi (n := 90) (by decide))) (or_congr (and_congr (u8_lo (n := 48) (by decide)) (u8_hi (n := 57) (by decide))) (or_congr (u8_eq (n := 95) (by decide)) (or_congr (u8_eq (n := 45) (by decide)) (u8_eq (n := 46) (by decide))))))
theorem letter_true {c : UInt8} {x : Int} (hx : x = (c.toNat : Int)) (h : (97 ≤ x ∧ x ≤ 122) ∨ (65 ≤ x ∧ x ≤ 90) ∨ (48 ≤ x ∧ x ≤ 57) ∨ x = 95 ∨ x = 45 ∨ x = 46) : letter c = true := (letter_iff c hx).2 h
theorem letter_false {c : UInt8} {x : Int} (hx : x = (c.toNat : Int)) (h : ¬ ((97 ≤ x ∧ x ≤ 122) ∨ (65 ≤ x ∧ x ≤ 90) ∨ (48 ≤ x ∧ x ≤ 57) ∨ x = 95 ∨ x = 45 ∨ x = 46)) : letter c = false := by
  rw [Bool.eq_false_iff]; exact fun e => h ((letter_iff c hx).1 e)
end Go.Ln
namespace Go.Proofs.Ytcnjmkjfgghgoaa
open Go.RowKit Go.Ln
set_option linter.unusedVariables false
set_option maxRecDepth 100000
set_option maxHeartbeats 2000000
theorem name_any (s : ByteArray) (i : Nat) (w : World) (hs : s.size < 8796093022208) (hi : i ≤ s.size) :
    Calls Try.prog 72 #[.string s, .int .i64 i] w fun e w' => e = .returned (.int .i64 (behind s.data.toList i)) ∧ w = w' := by
  obtain ⟨r, hr⟩ : ∃ r, r = behind s.data.toList i := ⟨_, rfl⟩
  rw [← hr]
  replace hs := Lib.hid hs
  replace hi := Lib.hid hi
  go_enter Try.func72, Try.ntmps72
  go_wp2
  go_loopg [1] (s.size - i + 1) (fun gg iv wr => ∃ j : Nat, gg = s.size - j + 1 ∧ iv = .int .i64 j ∧ j ≤ s.size ∧ r = behind s.data.toList j ∧ w = wr)
  case atStart => exact ⟨i, rfl, rfl, hi.out, hr, rfl⟩
  case round =>
    obtain ⟨j, rfl, rfl, hj, hb, rfl⟩ := hrel
    clear hr
    by_cases hlt : j < s.size
    · have k0 := nn_lt2 hlt
      have hb2 := behind_at s hlt
      have hwk := Lib.hid (nn_wrap hlt hs.out)
      obtain ⟨x, h9⟩ : ∃ x : Int, x = (s[j].toNat : Int) := ⟨_, rfl⟩
      have h9' : (s[j].toNat : Int) = x := h9.symm
      obtain ⟨lt, hlt2⟩ : ∃ b, b = letter s[j] := ⟨_, rfl⟩
      replace h9 : x = (s[j].toNat : Int) := h9
      replace hb2 := Lib.hid hb2
      replace hb := Lib.hid hb
      replace hj := Lib.hid hj
      replace hlt2 := Lib.hid hlt2
      have hx0 : 0 ≤ x ∧ x ≤ 255 := by rw [h9]; have := UInt8.toNat_lt s[j]; omega
      replace h9 := Lib.hid h9
      by_cases g0 : 97 ≤ x
      · by_cases g1 : x ≤ 122
        · have d0 : decide ((97 ≤ x : Prop)) = true := by first | exact decide_eq_true (by omega) | exact decide_eq_false (by omega)
          have d1 : decide ((x ≤ 122 : Prop)) = true := by first | exact decide_eq_true (by omega) | exact decide_eq_false (by omega)
          have d2 : decide ((65 ≤ x : Prop)) = true := by first | exact decide_eq_true (by omega) | exact decide_eq_false (by omega)
          have d3 : decide ((x ≤ 90 : Prop)) = false := by first | exact decide_eq_true (by omega) | exact decide_eq_false (by omega)
          have d4 : decide ((48 ≤ x : Prop)) = true := by first | exact decide_eq_true (by omega) | exact decide_eq_false (by omega)
          have d5 : decide ((x ≤ 57 : Prop)) = false := by first | exact decide_eq_true (by omega) | exact decide_eq_false (by omega)
          have d6 : ((x : Int) == 95) = false := by first | exact beq_iff_eq.2 (by omega) | exact beq_eq_false_iff_ne.2 (by omega)
          have d7 : ((x : Int) == 45) = false := by first | exact beq_iff_eq.2 (by omega) | exact beq_eq_false_iff_ne.2 (by omega)
          have d8 : ((x : Int) == 46) = false := by first | exact beq_iff_eq.2 (by omega) | exact beq_eq_false_iff_ne.2 (by omega)
          have hv := Lib.hid (letter_true h9.out (by omega))
          replace g0 := Lib.hid g0
          replace g1 := Lib.hid g1
          go_wp2
          go_roundg (s.size - (j + 1) + 1)
          case rel => exact ⟨j + 1, rfl, by rw [hwk.out], hlt, by rw [hb.out, hb2.out, hv.out]; rfl, rfl⟩
          case measure => exact nn_down hlt
        · have d0 : decide ((97 ≤ x : Prop)) = true := by first | exact decide_eq_true (by omega) | exact decide_eq_false (by omega)
          have d1 : decide ((x ≤ 122 : Prop)) = false := by first | exact decide_eq_true (by omega) | exact decide_eq_false (by omega)
          have d2 : decide ((65 ≤ x : Prop)) = true := by first | exact decide_eq_true (by omega) | exact decide_eq_false (by omega)
          have d3 : decide ((x ≤ 90 : Prop)) = false := by first | exact decide_eq_true (by omega) | exact decide_eq_false (by omega)
          have d4 : decide ((48 ≤ x : Prop)) = true := by first | exact decide_eq_true (by omega) | exact decide_eq_false (by omega)
          have d5 : decide ((x ≤ 57 : Prop)) = false := by first | exact decide_eq_true (by omega) | exact decide_eq_false (by omega)
          have d6 : ((x : Int) == 95) = false := by first | exact beq_iff_eq.2 (by omega) | exact beq_eq_false_iff_ne.2 (by omega)
          have d7 : ((x : Int) == 45) = false := by first | exact beq_iff_eq.2 (by omega) | exact beq_eq_false_iff_ne.2 (by omega)
          have d8 : ((x : Int) == 46) = false := by first | exact beq_iff_eq.2 (by omega) | exact beq_eq_false_iff_ne.2 (by omega)
          have hv := Lib.hid (letter_false h9.out (by omega))
          replace g0 := Lib.hid g0
          replace g1 := Lib.hid g1
          go_wp2
          go_ret
          exact ⟨by rw [hb.out, hb2.out, hv.out]; rfl, rfl⟩
      · by_cases g1 : 65 ≤ x
        · by_cases g2 : x ≤ 90
          · have d0 : decide ((97 ≤ x : Prop)) = false := by first | exact decide_eq_true (by omega) | exact decide_eq_false (by omega)
            have d1 : decide ((x ≤ 122 : Prop)) = true := by first | exact decide_eq_true (by omega) | exact decide_eq_false (by omega)
            have d2 : decide ((65 ≤ x : Prop)) = true := by first | exact decide_eq_true (by omega) | exact decide_eq_false (by omega)
            have d3 : decide ((x ≤ 90 : Prop)) = true := by first | exact decide_eq_true (by omega) | exact decide_eq_false (by omega)
            have d4 : decide ((48 ≤ x : Prop)) = true := by first | exact decide_eq_true (by omega) | exact decide_eq_false (by omega)
            have d5 : decide ((x ≤ 57 : Prop)) = false := by first | exact decide_eq_true (by omega) | exact decide_eq_false (by omega)
            have d6 : ((x : Int) == 95) = false := by first | exact beq_iff_eq.2 (by omega) | exact beq_eq_false_iff_ne.2 (by omega)
            have d7 : ((x : Int) == 45) = false := by first | exact beq_iff_eq.2 (by omega) | exact beq_eq_false_iff_ne.2 (by omega)
            have d8 : ((x : Int) == 46) = false := by first | exact beq_iff_eq.2 (by omega) | exact beq_eq_false_iff_ne.2 (by omega)
            have hv := Lib.hid (letter_true h9.out (by omega))
            replace g0 := Lib.hid g0
            replace g1 := Lib.hid g1
            replace g2 := Lib.hid g2
            go_wp2
            go_roundg (s.size - (j + 1) + 1)
            case rel => exact ⟨j + 1, rfl, by rw [hwk.out], hlt, by rw [hb.out, hb2.out, hv.out]; rfl, rfl⟩
            case measure => exact nn_down hlt
          · by_cases g3 : x = 95
            · have d0 : decide ((97 ≤ x : Prop)) = false := by first | exact decide_eq_true (by omega) | exact decide_eq_false (by omega)
              have d1 : decide ((x ≤ 122 : Prop)) = true := by first | exact decide_eq_true (by omega) | exact decide_eq_false (by omega)
              have d2 : decide ((65 ≤ x : Prop)) = true := by first | exact decide_eq_true (by omega) | exact decide_eq_false (by omega)
              have d3 : decide ((x ≤ 90 : Prop)) = false := by first | exact decide_eq_true (by omega) | exact decide_eq_false (by omega)
              have d4 : decide ((48 ≤ x : Prop)) = true := by first | exact decide_eq_true (by omega) | exact decide_eq_false (by omega)
              have d5 : decide ((x ≤ 57 : Prop)) = false := by first | exact decide_eq_true (by omega) | exact decide_eq_false (by omega)
              have d6 : ((x : Int) == 95) = true := by first | exact beq_iff_eq.2 (by omega) | exact beq_eq_false_iff_ne.2 (by omega)
              have d7 : ((x : Int) == 45) = false := by first | exact beq_iff_eq.2 (by omega) | exact beq_eq_false_iff_ne.2 (by omega)
              have d8 : ((x : Int) == 46) = false := by first | exact beq_iff_eq.2 (by omega) | exact beq_eq_false_iff_ne.2 (by omega)
              have hv := Lib.hid (letter_true h9.out (by omega))
              replace g0 := Lib.hid g0
              replace g1 := Lib.hid g1
              replace g2 := Lib.hid g2
              replace g3 := Lib.hid g3
              go_wp2
              go_roundg (s.size - (j + 1) + 1)
              case rel => exact ⟨j + 1, rfl, by rw [hwk.out], hlt, by rw [hb.out, hb2.out, hv.out]; rfl, rfl⟩
              case measure => exact nn_down hlt
            · have d0 : decide ((97 ≤ x : Prop)) = false := by first | exact decide_eq_true (by omega) | exact decide_eq_false (by omega)
              have d1 : decide ((x ≤ 122 : Prop)) = true := by first | exact decide_eq_true (by omega) | exact decide_eq_false (by omega)
              have d2 : decide ((65 ≤ x : Prop)) = true := by first | exact decide_eq_true (by omega) | exact decide_eq_false (by omega)
              have d3 : decide ((x ≤ 90 : Prop)) = false := by first | exact decide_eq_true (by omega) | exact decide_eq_false (by omega)
              have d4 : decide ((48 ≤ x : Prop)) = true := by first | exact decide_eq_true (by omega) | exact decide_eq_false (by omega)
              have d5 : decide ((x ≤ 57 : Prop)) = false := by first | exact decide_eq_true (by omega) | exact decide_eq_false (by omega)
              have d6 : ((x : Int) == 95) = false := by first | exact beq_iff_eq.2 (by omega) | exact beq_eq_false_iff_ne.2 (by omega)
              have d7 : ((x : Int) == 45) = false := by first | exact beq_iff_eq.2 (by omega) | exact beq_eq_false_iff_ne.2 (by omega)
              have d8 : ((x : Int) == 46) = false := by first | exact beq_iff_eq.2 (by omega) | exact beq_eq_false_iff_ne.2 (by omega)
              have hv := Lib.hid (letter_false h9.out (by omega))
              replace g0 := Lib.hid g0
              replace g1 := Lib.hid g1
              replace g2 := Lib.hid g2
              replace g3 := Lib.hid g3
              go_wp2
              go_ret
              exact ⟨by rw [hb.out, hb2.out, hv.out]; rfl, rfl⟩
        · by_cases g2 : 48 ≤ x
          · by_cases g3 : x ≤ 57
            · have d0 : decide ((97 ≤ x : Prop)) = false := by first | exact decide_eq_true (by omega) | exact decide_eq_false (by omega)
              have d1 : decide ((x ≤ 122 : Prop)) = true := by first | exact decide_eq_true (by omega) | exact decide_eq_false (by omega)
              have d2 : decide ((65 ≤ x : Prop)) = false := by first | exact decide_eq_true (by omega) | exact decide_eq_false (by omega)
              have d3 : decide ((x ≤ 90 : Prop)) = true := by first | exact decide_eq_true (by omega) | exact decide_eq_false (by omega)
              have d4 : decide ((48 ≤ x : Prop)) = true := by first | exact decide_eq_true (by omega) | exact decide_eq_false (by omega)
              have d5 : decide ((x ≤ 57 : Prop)) = true := by first | exact decide_eq_true (by omega) | exact decide_eq_false (by omega)
              have d6 : ((x : Int) == 95) = false := by first | exact beq_iff_eq.2 (by omega) | exact beq_eq_false_iff_ne.2 (by omega)
              have d7 : ((x : Int) == 45) = false := by first | exact beq_iff_eq.2 (by omega) | exact beq_eq_false_iff_ne.2 (by omega)
              have d8 : ((x : Int) == 46) = false := by first | exact beq_iff_eq.2 (by omega) | exact beq_eq_false_iff_ne.2 (by omega)
              have hv := Lib.hid (letter_true h9.out (by omega))
              replace g0 := Lib.hid g0
              replace g1 := Lib.hid g1
              replace g2 := Lib.hid g2
              replace g3 := Lib.hid g3
              go_wp2
              go_roundg (s.size - (j + 1) + 1)
              case rel => exact ⟨j + 1, rfl, by rw [hwk.out], hlt, by rw [hb.out, hb2.out, hv.out]; rfl, rfl⟩
              case measure => exact nn_down hlt
            · have d0 : decide ((97 ≤ x : Prop)) = false := by first | exact decide_eq_true (by omega) | exact decide_eq_false (by omega)
              have d1 : decide ((x ≤ 122 : Prop)) = true := by first | exact decide_eq_true (by omega) | exact decide_eq_false (by omega)
              have d2 : decide ((65 ≤ x : Prop)) = false := by first | exact decide_eq_true (by omega) | exact decide_eq_false (by omega)
              have d3 : decide ((x ≤ 90 : Prop)) = true := by first | exact decide_eq_true (by omega) | exact decide_eq_false (by omega)
              have d4 : decide ((48 ≤ x : Prop)) = true := by first | exact decide_eq_true (by omega) | exact decide_eq_false (by omega)
              have d5 : decide ((x ≤ 57 : Prop)) = false := by first | exact decide_eq_true (by omega) | exact decide_eq_false (by omega)
              have d6 : ((x : Int) == 95) = false := by first | exact beq_iff_eq.2 (by omega) | exact beq_eq_false_iff_ne.2 (by omega)
              have d7 : ((x : Int) == 45) = false := by first | exact beq_iff_eq.2 (by omega) | exact beq_eq_false_iff_ne.2 (by omega)
              have d8 : ((x : Int) == 46) = false := by first | exact beq_iff_eq.2 (by omega) | exact beq_eq_false_iff_ne.2 (by omega)
              have hv := Lib.hid (letter_false h9.out (by omega))
              replace g0 := Lib.hid g0
              replace g1 := Lib.hid g1
              replace g2 := Lib.hid g2
              replace g3 := Lib.hid g3
              go_wp2
              go_ret
              exact ⟨by rw [hb.out, hb2.out, hv.out]; rfl, rfl⟩
          · by_cases g3 : x = 45
            · have d0 : decide ((97 ≤ x : Prop)) = false := by first | exact decide_eq_true (by omega) | exact decide_eq_false (by omega)
              have d1 : decide ((x ≤ 122 : Prop)) = true := by first | exact decide_eq_true (by omega) | exact decide_eq_false (by omega)
              have d2 : decide ((65 ≤ x : Prop)) = false := by first | exact decide_eq_true (by omega) | exact decide_eq_false (by omega)
              have d3 : decide ((x ≤ 90 : Prop)) = true := by first | exact decide_eq_true (by omega) | exact decide_eq_false (by omega)
              have d4 : decide ((48 ≤ x : Prop)) = false := by first | exact decide_eq_true (by omega) | exact decide_eq_false (by omega)
              have d5 : decide ((x ≤ 57 : Prop)) = true := by first | exact decide_eq_true (by omega) | exact decide_eq_false (by omega)
              have d6 : ((x : Int) == 95) = false := by first | exact beq_iff_eq.2 (by omega) | exact beq_eq_false_iff_ne.2 (by omega)
              have d7 : ((x : Int) == 45) = true := by first | exact beq_iff_eq.2 (by omega) | exact beq_eq_false_iff_ne.2 (by omega)
              have d8 : ((x : Int) == 46) = false := by first | exact beq_iff_eq.2 (by omega) | exact beq_eq_false_iff_ne.2 (by omega)
              have hv := Lib.hid (letter_true h9.out (by omega))
              replace g0 := Lib.hid g0
              replace g1 := Lib.hid g1
              replace g2 := Lib.hid g2
              replace g3 := Lib.hid g3
              go_wp2
              go_roundg (s.size - (j + 1) + 1)
              case rel => exact ⟨j + 1, rfl, by rw [hwk.out], hlt, by rw [hb.out, hb2.out, hv.out]; rfl, rfl⟩
              case measure => exact nn_down hlt
            · by_cases g4 : x = 46
              · have d0 : decide ((97 ≤ x : Prop)) = false := by first | exact decide_eq_true (by omega) | exact decide_eq_false (by omega)
                have d1 : decide ((x ≤ 122 : Prop)) = true := by first | exact decide_eq_true (by omega) | exact decide_eq_false (by omega)
                have d2 : decide ((65 ≤ x : Prop)) = false := by first | exact decide_eq_true (by omega) | exact decide_eq_false (by omega)
                have d3 : decide ((x ≤ 90 : Prop)) = true := by first | exact decide_eq_true (by omega) | exact decide_eq_false (by omega)
                have d4 : decide ((48 ≤ x : Prop)) = false := by first | exact decide_eq_true (by omega) | exact decide_eq_false (by omega)
                have d5 : decide ((x ≤ 57 : Prop)) = true := by first | exact decide_eq_true (by omega) | exact decide_eq_false (by omega)
                have d6 : ((x : Int) == 95) = false := by first | exact beq_iff_eq.2 (by omega) | exact beq_eq_false_iff_ne.2 (by omega)
                have d7 : ((x : Int) == 45) = false := by first | exact beq_iff_eq.2 (by omega) | exact beq_eq_false_iff_ne.2 (by omega)
                have d8 : ((x : Int) == 46) = true := by first | exact beq_iff_eq.2 (by omega) | exact beq_eq_false_iff_ne.2 (by omega)
                have hv := Lib.hid (letter_true h9.out (by omega))
                replace g0 := Lib.hid g0
                replace g1 := Lib.hid g1
                replace g2 := Lib.hid g2
                replace g3 := Lib.hid g3
                replace g4 := Lib.hid g4
                go_wp2
                go_roundg (s.size - (j + 1) + 1)
                case rel => exact ⟨j + 1, rfl, by rw [hwk.out], hlt, by rw [hb.out, hb2.out, hv.out]; rfl, rfl⟩
                case measure => exact nn_down hlt
              · have d0 : decide ((97 ≤ x : Prop)) = false := by first | exact decide_eq_true (by omega) | exact decide_eq_false (by omega)
                have d1 : decide ((x ≤ 122 : Prop)) = true := by first | exact decide_eq_true (by omega) | exact decide_eq_false (by omega)
                have d2 : decide ((65 ≤ x : Prop)) = false := by first | exact decide_eq_true (by omega) | exact decide_eq_false (by omega)
                have d3 : decide ((x ≤ 90 : Prop)) = true := by first | exact decide_eq_true (by omega) | exact decide_eq_false (by omega)
                have d4 : decide ((48 ≤ x : Prop)) = false := by first | exact decide_eq_true (by omega) | exact decide_eq_false (by omega)
                have d5 : decide ((x ≤ 57 : Prop)) = true := by first | exact decide_eq_true (by omega) | exact decide_eq_false (by omega)
                have d6 : ((x : Int) == 95) = false := by first | exact beq_iff_eq.2 (by omega) | exact beq_eq_false_iff_ne.2 (by omega)
                have d7 : ((x : Int) == 45) = false := by first | exact beq_iff_eq.2 (by omega) | exact beq_eq_false_iff_ne.2 (by omega)
                have d8 : ((x : Int) == 46) = false := by first | exact beq_iff_eq.2 (by omega) | exact beq_eq_false_iff_ne.2 (by omega)
                have hv := Lib.hid (letter_false h9.out (by omega))
                replace g0 := Lib.hid g0
                replace g1 := Lib.hid g1
                replace g2 := Lib.hid g2
                replace g3 := Lib.hid g3
                replace g4 := Lib.hid g4
                go_wp2
                go_ret
                exact ⟨by rw [hb.out, hb2.out, hv.out]; rfl, rfl⟩
    · have k0 := nn_ge2 hlt
      have k1 : decide (j < s.size) = false := decide_eq_false hlt
      have hv : r = j := by rw [hb, behind_end s hlt]
      replace hb := Lib.hid hb
      replace hj := Lib.hid hj
      replace hv := Lib.hid hv
      replace hlt := Lib.hid hlt
      go_wp2
      go_ret
      exact ⟨by rw [hv.out]; rfl, rfl⟩
end Go.Proofs.Ytcnjmkjfgghgoaa
end

section
/- The frame of line at its labels. -/
namespace Go.Proofs.Ytcnjmkjfgghgoaa
open Go.RowKit Go.Ln Go.Mp
set_option linter.unusedVariables false
def Fr60 (S N O I : Value) (a : Act) : Prop :=
  ∃ f : Nat → Value, a = { tmps := #[S, N, f 2, f 3, O, f 5, I, f 7, f 8, f 9, f 10, f 11, f 12, f 13, f 14, f 15, f 16, f 17, f 18, f 19, f 20, f 21, f 22, f 23, f 24, f 25, f 26, f 27, f 28, f 29, f 30, f 31, f 32, f 33, f 34, f 35, f 36, f 37, f 38, f 39, f 40, f 41, f 42, f 43, f 44, f 45, f 46, f 47, f 48, f 49, f 50, f 51, f 52, f 53, f 54, f 55, f 56, f 57, f 58, f 59, f 60, f 61, f 62, f 63, f 64, f 65, f 66, f 67, f 68, f 69, f 70, f 71, f 72, f 73, f 74, f 75, f 76, f 77, f 78, f 79, f 80, f 81, f 82, f 83, f 84, f 85, f 86, f 87, f 88, f 89, f 90, f 91, f 92, f 93, f 94, f 95, f 96, f 97, f 98, f 99, f 100, f 101, f 102, f 103, f 104, f 105, f 106, f 107, f 108, f 109, f 110, f 111, f 112, f 113, f 114, f 115, f 116, f 117, f 118, f 119, f 120, f 121, f 122, f 123, f 124, f 125, f 126, f 127, f 128, f 129, f 130, f 131, f 132, f 133, f 134, f 135, f 136, f 137, f 138, f 139, f 140, f 141, f 142, f 143, f 144, f 145, f 146, f 147, f 148, f 149, f 150, f 151, f 152, f 153, f 154, f 155, f 156, f 157, f 158, f 159, f 160, f 161, f 162, f 163, f 164, f 165, f 166, f 167, f 168, f 169, f 170, f 171, f 172, f 173, f 174, f 175, f 176, f 177, f 178, f 179, f 180, f 181, f 182, f 183, f 184, f 185, f 186, f 187, f 188, f 189, f 190, f 191, f 192, f 193, f 194, f 195, f 196, f 197, f 198, f 199, f 200, f 201, f 202, f 203, f 204, f 205, f 206, f 207, f 208, f 209, f 210, f 211, f 212, f 213, f 214, f 215, f 216, f 217, f 218, f 219, f 220, f 221, f 222, f 223, f 224, f 225, f 226, f 227, f 228, f 229, f 230, f 231, f 232, f 233, f 234, f 235, f 236, f 237, f 238, f 239, f 240, f 241, f 242, f 243, f 244], defers := [] }
set_option maxRecDepth 100000 in
theorem fr60 (S N O I : Value) (u2 u3 u5 u7 u8 u9 u10 u11 u12 u13 u14 u15 u16 u17 u18 u19 u20 u21 u22 u23 u24 u25 u26 u27 u28 u29 u30 u31 u32 u33 u34 u35 u36 u37 u38 u39 u40 u41 u42 u43 u44 u45 u46 u47 u48 u49 u50 u51 u52 u53 u54 u55 u56 u57 u58 u59 u60 u61 u62 u63 u64 u65 u66 u67 u68 u69 u70 u71 u72 u73 u74 u75 u76 u77 u78 u79 u80 u81 u82 u83 u84 u85 u86 u87 u88 u89 u90 u91 u92 u93 u94 u95 u96 u97 u98 u99 u100 u101 u102 u103 u104 u105 u106 u107 u108 u109 u110 u111 u112 u113 u114 u115 u116 u117 u118 u119 u120 u121 u122 u123 u124 u125 u126 u127 u128 u129 u130 u131 u132 u133 u134 u135 u136 u137 u138 u139 u140 u141 u142 u143 u144 u145 u146 u147 u148 u149 u150 u151 u152 u153 u154 u155 u156 u157 u158 u159 u160 u161 u162 u163 u164 u165 u166 u167 u168 u169 u170 u171 u172 u173 u174 u175 u176 u177 u178 u179 u180 u181 u182 u183 u184 u185 u186 u187 u188 u189 u190 u191 u192 u193 u194 u195 u196 u197 u198 u199 u200 u201 u202 u203 u204 u205 u206 u207 u208 u209 u210 u211 u212 u213 u214 u215 u216 u217 u218 u219 u220 u221 u222 u223 u224 u225 u226 u227 u228 u229 u230 u231 u232 u233 u234 u235 u236 u237 u238 u239 u240 u241 u242 u243 u244 : Value) : Fr60 S N O I { tmps := #[S, N, u2, u3, O, u5, I, u7, u8, u9, u10, u11, u12, u13, u14, u15, u16, u17, u18, u19, u20, u21, u22, u23, u24, u25, u26, u27, u28, u29, u30, u31, u32, u33, u34, u35, u36, u37, u38, u39, u40, u41, u42, u43, u44, u45, u46, u47, u48, u49, u50, u51, u52, u53, u54, u55, u56, u57, u58, u59, u60, u61, u62, u63, u64, u65, u66, u67, u68, u69, u70, u71, u72, u73, u74, u75, u76, u77, u78, u79, u80, u81, u82, u83, u84, u85, u86, u87, u88, u89, u90, u91, u92, u93, u94, u95, u96, u97, u98, u99, u100, u101, u102, u103, u104, u105, u106, u107, u108, u109, u110, u111, u112, u113, u114, u115, u116, u117, u118, u119, u120, u121, u122, u123, u124, u125, u126, u127, u128, u129, u130, u131, u132, u133, u134, u135, u136, u137, u138, u139, u140, u141, u142, u143, u144, u145, u146, u147, u148, u149, u150, u151, u152, u153, u154, u155, u156, u157, u158, u159, u160, u161, u162, u163, u164, u165, u166, u167, u168, u169, u170, u171, u172, u173, u174, u175, u176, u177, u178, u179, u180, u181, u182, u183, u184, u185, u186, u187, u188, u189, u190, u191, u192, u193, u194, u195, u196, u197, u198, u199, u200, u201, u202, u203, u204, u205, u206, u207, u208, u209, u210, u211, u212, u213, u214, u215, u216, u217, u218, u219, u220, u221, u222, u223, u224, u225, u226, u227, u228, u229, u230, u231, u232, u233, u234, u235, u236, u237, u238, u239, u240, u241, u242, u243, u244], defers := [] } :=
  ⟨fun n => (([S, N, u2, u3, O, u5, I, u7, u8, u9, u10, u11, u12, u13, u14, u15, u16, u17, u18, u19, u20, u21, u22, u23, u24, u25, u26, u27, u28, u29, u30, u31, u32, u33, u34, u35, u36, u37, u38, u39, u40, u41, u42, u43, u44, u45, u46, u47, u48, u49, u50, u51, u52, u53, u54, u55, u56, u57, u58, u59, u60, u61, u62, u63, u64, u65, u66, u67, u68, u69, u70, u71, u72, u73, u74, u75, u76, u77, u78, u79, u80, u81, u82, u83, u84, u85, u86, u87, u88, u89, u90, u91, u92, u93, u94, u95, u96, u97, u98, u99, u100, u101, u102, u103, u104, u105, u106, u107, u108, u109, u110, u111, u112, u113, u114, u115, u116, u117, u118, u119, u120, u121, u122, u123, u124, u125, u126, u127, u128, u129, u130, u131, u132, u133, u134, u135, u136, u137, u138, u139, u140, u141, u142, u143, u144, u145, u146, u147, u148, u149, u150, u151, u152, u153, u154, u155, u156, u157, u158, u159, u160, u161, u162, u163, u164, u165, u166, u167, u168, u169, u170, u171, u172, u173, u174, u175, u176, u177, u178, u179, u180, u181, u182, u183, u184, u185, u186, u187, u188, u189, u190, u191, u192, u193, u194, u195, u196, u197, u198, u199, u200, u201, u202, u203, u204, u205, u206, u207, u208, u209, u210, u211, u212, u213, u214, u215, u216, u217, u218, u219, u220, u221, u222, u223, u224, u225, u226, u227, u228, u229, u230, u231, u232, u233, u234, u235, u236, u237, u238, u239, u240, u241, u242, u243, u244] : List Value)[n]?).getD undef, rfl⟩
theorem wp_rest {c : Code} {l : Nat} {rest rest2 : Code} {Q : Exit → Act → World → Prop} {a : Act} {w : World} (h : findLabel c l = some rest) (h2 : findLabel c l = some rest2) (hw : rest2.wp Try.prog Q a w) : rest.wp Try.prog Q a w := by
  cases h.symm.trans h2; exact hw
noncomputable def c60 : Code := match Try.f60.body with
  | some (.seq _ (.scope c)) => c
  | some (.scope c) => c
  | _ => .skip
noncomputable def r60 (l : Nat) : Code := (findLabel c60 l).getD .skip
theorem has60 : (findLabel c60 0).isSome = true ∧ (findLabel c60 1).isSome = true := by constructor <;> kernel_rfl
theorem rest60 {l : Nat} (h : (findLabel c60 l).isSome = true) : findLabel c60 l = some (r60 l) := by
  unfold r60
  cases e : findLabel c60 l with
  | none => rw [e] at h; cases h
  | some r => rfl
end Go.Proofs.Ytcnjmkjfgghgoaa
end

section

namespace Go.Ln
open Go.RowKit
theorem more_some {c : UInt8} {m : Nat} {o : Option (List UInt8 × Nat)} {r : List UInt8 × Nat} (h : more c m o = some r) : ∃ t n, o = some (t, n) ∧ r = (c :: t, n + m) := by
  cases o with
  | none => cases h
  | some p => exact ⟨p.1, p.2, rfl, (Option.some.inj h).symm⟩
theorem q_le_aux (e : UInt8) (N : Nat) : ∀ l : List UInt8, l.length ≤ N → ∀ r, qread e l = some r → r.2 ≤ l.length := by
  induction N with
  | zero =>
    intro l hl r h
    cases l with
    | nil => rw [q_nil] at h; cases h
    | cons a b => simp at hl
  | succ N ih =>
    intro l hl r h
    unfold qread at h
    split at h
    · cases h
    · split at h
      · cases h; simp
      · cases h
    · rename_i c d l2
      simp only [List.length_cons] at hl ⊢
      split at h
      · split at h
        · obtain ⟨t, n, ho, rfl⟩ := more_some h
          have := ih l2 (by omega) _ ho
          simp only at this ⊢; omega
        · cases h; simp
      · split at h
        · obtain ⟨t, n, ho, rfl⟩ := more_some h
          have := ih (d :: l2) (by simp only [List.length_cons]; omega) _ ho
          simp only [List.length_cons] at this ⊢; omega
        · split at h
          · obtain ⟨t, n, ho, rfl⟩ := more_some h
            have := ih l2 (by omega) _ ho
            simp only at this ⊢; omega
          · split at h
            · obtain ⟨t, n, ho, rfl⟩ := more_some h
              have := ih l2 (by omega) _ ho
              simp only at this ⊢; omega
            · split at h
              · obtain ⟨t, n, ho, rfl⟩ := more_some h
                have := ih l2 (by omega) _ ho
                simp only at this ⊢; omega
              · split at h
                · split at h
                  · split at h
                    · cases h
                    · obtain ⟨t, n, ho, rfl⟩ := more_some h
                      rename_i hh xx r3 _ _ _
                      have := ih r3 (by simp only [List.length_cons] at hl; omega) _ ho
                      simp only [List.length_cons] at this ⊢; omega
                  · cases h
                · cases h
theorem q_le {e : UInt8} {l : List UInt8} {t : List UInt8} {k : Nat} (h : qread e l = some (t, k)) : k ≤ l.length := q_le_aux e l.length l (Nat.le_refl _) _ h
end Go.Ln
end
