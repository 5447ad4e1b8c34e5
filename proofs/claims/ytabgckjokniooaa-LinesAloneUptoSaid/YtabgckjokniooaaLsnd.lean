/- sound: has a line bytes alone that may be there? -/
import Derived.Test.YtabgckjokniooaaLa
import Derived.Test.YtabgckjokniooaaShelf
namespace Go.Ln
open Go.RowKit
def badc (c : UInt8) : Bool := decide (c < 32) || decide (c = 127)
theorem badc_eq (c : UInt8) {x : Int} (hx : x = (c.toNat : Int)) : badc c = (decide (x < 32) || (x == 127)) := by
  subst hx
  unfold badc
  rw [show ((c.toNat : Int) == 127) = decide (c = 127) from (u8_beq c 127 (by decide)).symm]
  congr 1
  rw [Bool.eq_iff_iff, decide_eq_true_eq, decide_eq_true_eq]
  exact u8_lt (n := 32) (by decide)
theorem sound_tab {l : List UInt8} (h : 0 ≤ Lib.indexByte l 9) : sound l = 80 := by unfold sound; rw [if_pos h]
theorem sound_bad {s : ByteArray} (h : ¬ 0 ≤ Lib.indexByte s.data.toList 9) {i : Nat} (hi : i < s.size) (hb : badc s[i] = true) : sound s.data.toList = 83 := by
  unfold sound; rw [if_neg h, if_pos]
  exact List.any_eq_true.2 ⟨s[i], List.mem_of_getElem? (at_data s hi), hb⟩
theorem sound_ok {s : ByteArray} (h : ¬ 0 ≤ Lib.indexByte s.data.toList 9) {i : Nat} (hi : ¬ i < s.size) (hall : ∀ j (hj : j < s.size), j < i → badc s[j] = false) : sound s.data.toList = 0 := by
  unfold sound; rw [if_neg h, if_neg]
  rw [Bool.not_eq_true, List.any_eq_false]
  intro c hc
  obtain ⟨j, hj⟩ := List.getElem?_of_mem hc
  have hjl : j < s.size := by have := (List.getElem?_eq_some_iff.1 hj).1; rwa [len_data] at this
  rw [at_data s hjl] at hj
  cases hj
  have := hall j hjl (by omega)
  unfold badc at this
  simpa using this
end Go.Ln
namespace Go.Proofs.Ytabgckjokniooaa
open Go.RowKit Go.Ln
set_option linter.unusedVariables false
set_option maxRecDepth 20000
theorem all_next {s : ByteArray} {i : Nat} (hall : ∀ j (hj : j < s.size), j < i → badc s[j] = false) (hi : i < s.size) (h : badc s[i] = false) : ∀ j (hj : j < s.size), j < i + 1 → badc s[j] = false := fun j hj hji => by
  by_cases e : j = i
  · subst e; exact h
  · exact hall j hj (by omega)
theorem not_neg {x : Int} (h : Hid (x < 0)) : ¬ 0 ≤ x := Int.not_le.2 h
theorem sound_any (s : ByteArray) (w : World) (hs : s.size < 8796093022208) :
    Calls Try.prog 14 #[.string s] w fun e w' => e = .returned (.int .i64 (sound s.data.toList)) ∧ w = w' := by
  have hC := Try.strings_IndexByte s 9 w
  obtain ⟨ix, hix⟩ : ∃ ix, ix = Lib.indexByte s.data.toList 9 := ⟨_, rfl⟩
  rw [show Lib.indexByte s.data.toList (9 : Int).toNat.toUInt8 = ix from hix.symm] at hC
  replace hC := Lib.hid hC
  replace hs := Lib.hid hs
  by_cases h0 : 0 ≤ ix
  · have q0 : decide (0 ≤ ix) = true := decide_eq_true h0
    have hv := Lib.hid (sound_tab (hix ▸ h0))
    replace hix := Lib.hid hix
    go_enter Try.func14, Try.ntmps14
    go_wp2_with (first
      | (go_at_call 22; refine hC.out.mono ?_; clear hC; rintro e w2 ⟨rfl, hw2⟩; replace hw2 := hw2.symm; subst hw2)
      | fail)
    go_ret
    exact ⟨by rw [hv.out]; rfl, rfl⟩
  · have q0 : decide (0 ≤ ix) = false := decide_eq_false h0
    have hn : Hid (¬ 0 ≤ Lib.indexByte s.data.toList 9) := Lib.hid (hix ▸ h0)
    replace hix := Lib.hid hix
    go_enter Try.func14, Try.ntmps14
    go_wp2_with (first
      | (go_at_call 22; refine hC.out.mono ?_; clear hC; rintro e w2 ⟨rfl, hw2⟩; replace hw2 := hw2.symm; subst hw2)
      | fail)
    go_loopg [9] (s.size + 1) (fun gg iv wr => ∃ i : Nat, gg = s.size - i + 1 ∧ iv = .int .i64 i ∧ i ≤ s.size ∧ w = wr ∧ ∀ j (hj : j < s.size), j < i → badc s[j] = false)
    case atStart => exact ⟨0, rfl, rfl, Nat.zero_le _, rfl, fun j hj h => absurd h (Nat.not_lt_zero j)⟩
    case round =>
      obtain ⟨i, rfl, rfl, hi, rfl, hall⟩ := hrel
      by_cases hlt : i < s.size
      · have k0 := nn_lt2 hlt
        have hwk := Lib.hid (nn_wrap hlt hs.out)
        obtain ⟨x, h9⟩ : ∃ x : Int, x = (s[i].toNat : Int) := ⟨_, rfl⟩
        have h9' : (s[i].toNat : Int) = x := h9.symm
        have hbq := badc_eq s[i] h9
        replace h9 := Lib.hid h9
        replace hall := Lib.hid hall
        replace hi := Lib.hid hi
        by_cases ka : x < 32
        · have qa : decide (x < 32) = true := decide_eq_true ka
          rw [qa] at hbq
          have hv := Lib.hid (sound_bad (not_neg hn) hlt hbq)
          replace hbq := Lib.hid hbq
          replace ka := Lib.hid ka
          go_wp2
          go_ret
          exact ⟨by rw [hv.out]; rfl, rfl⟩
        · have qa : decide (x < 32) = false := decide_eq_false ka
          rw [qa] at hbq
          cases hq : (x == 127) with
          | true =>
            rw [hq] at hbq
            have hv := Lib.hid (sound_bad (not_neg hn) hlt hbq)
            replace hbq := Lib.hid hbq
            replace ka := Lib.hid ka
            go_wp2
            go_ret
            exact ⟨by rw [hv.out]; rfl, rfl⟩
          | false =>
            rw [hq] at hbq
            replace hbq := Lib.hid hbq
            replace ka := Lib.hid ka
            go_wp2
            go_roundg (s.size - (i + 1) + 1)
            case rel => exact ⟨i + 1, rfl, by rw [hwk.out], hlt, rfl, all_next hall.out hlt hbq.out⟩
            case measure => exact nn_down hlt
      · have k0 := nn_ge2 hlt
        have k1 : decide (i < s.size) = false := decide_eq_false hlt
        have hv := Lib.hid (sound_ok (not_neg hn) hlt hall)
        replace hall := Lib.hid hall
        replace hi := Lib.hid hi
        replace hlt := Lib.hid hlt
        go_wp2
        go_ret
        exact ⟨by rw [hv.out]; rfl, rfl⟩
end Go.Proofs.Ytabgckjokniooaa
