/- The small functions of lines: blanks, over, name. -/
import Derived.Test.YtabgckjokniooaaLn
import Derived.Test.YtabgckjokniooaaProg
import Derived.WalkLawsBesides
import Derived.WalkSpells
import Derived.Lib.Hide
import Derived.Deep.LoopGhost
import Derived.Deep.DeepCutAuto
import Derived.Outline
namespace Go.Ln
open Go.RowKit
theorem len_data (s : ByteArray) : s.data.toList.length = s.size := by simp only [Array.length_toList]; rfl
theorem at_data (s : ByteArray) {i : Nat} (h : i < s.size) : s.data.toList[i]? = some s[i] := by
  rw [List.getElem?_eq_getElem (by rw [len_data]; exact h)]; rfl
theorem no_data (s : ByteArray) {i : Nat} (h : ¬ i < s.size) : s.data.toList[i]? = none := List.getElem?_eq_none (by rw [len_data]; omega)
theorem drop_data (s : ByteArray) {i : Nat} (h : i < s.size) : s.data.toList.drop i = s[i] :: s.data.toList.drop (i + 1) := by
  rw [List.drop_eq_getElem_cons (by rw [len_data]; exact h)]; rfl
theorem drop_no (s : ByteArray) {i : Nat} (h : ¬ i < s.size) : s.data.toList.drop i = [] := List.drop_eq_nil_of_le (by rw [len_data]; omega)
theorem u8_eq {c : UInt8} {n : Nat} (hn : n < 256) : c = UInt8.ofNat n ↔ (c.toNat : Int) = (n : Int) := by
  constructor
  · rintro rfl; rw [UInt8.toNat_ofNat_of_lt' (by simpa using hn)]
  · intro h
    apply UInt8.toNat_inj.1
    rw [UInt8.toNat_ofNat_of_lt' (by simpa using hn)]; omega
theorem u8_lo {c : UInt8} {n : Nat} (hn : n < 256) : (UInt8.ofNat n ≤ c) ↔ ((n : Int) ≤ (c.toNat : Int)) := by
  rw [UInt8.le_iff_toNat_le, UInt8.toNat_ofNat_of_lt' (by simpa using hn)]; omega
theorem u8_hi {c : UInt8} {n : Nat} (hn : n < 256) : (c ≤ UInt8.ofNat n) ↔ ((c.toNat : Int) ≤ (n : Int)) := by
  rw [UInt8.le_iff_toNat_le, UInt8.toNat_ofNat_of_lt' (by simpa using hn)]; omega
theorem u8_lt {c : UInt8} {n : Nat} (hn : n < 256) : (c < UInt8.ofNat n) ↔ ((c.toNat : Int) < (n : Int)) := by
  rw [UInt8.lt_iff_toNat_lt, UInt8.toNat_ofNat_of_lt' (by simpa using hn)]; omega
/-- A byte is told as the walk tells it. -/
theorem u8_beq (c : UInt8) (n : Nat) (hn : n < 256) : decide (c = UInt8.ofNat n) = ((c.toNat : Int) == (n : Int)) := by
  rw [Bool.eq_iff_iff, decide_eq_true_eq, beq_iff_eq]; exact u8_eq hn
theorem blanks_at (s : ByteArray) {i : Nat} (h : i < s.size) : blanks s.data.toList i = if ((s[i].toNat : Int) == 32) = true then blanks s.data.toList (i + 1) else i := by
  unfold blanks
  rw [drop_data s h, show ((s[i].toNat : Int) == 32) = decide (s[i] = 32) from (u8_beq s[i] 32 (by decide)).symm]
  simp only [spaces, decide_eq_true_eq]
  split <;> omega
theorem blanks_end (s : ByteArray) {i : Nat} (h : ¬ i < s.size) : blanks s.data.toList i = i := by
  unfold blanks; rw [drop_no s h]; rfl
theorem spaces_le (l : List UInt8) : spaces l ≤ l.length := by
  induction l with
  | nil => exact Nat.le_refl _
  | cons c r ih => simp only [spaces]; split <;> simp <;> omega
theorem blanks_le (l : List UInt8) {i : Nat} (h : i ≤ l.length) : blanks l i ≤ l.length := by
  have := spaces_le (l.drop i)
  unfold blanks; rw [List.length_drop] at this; omega
theorem blanks_ge (l : List UInt8) (i : Nat) : i ≤ blanks l i := Nat.le_add_right _ _
theorem letters_le (l : List UInt8) : letters l ≤ l.length := by
  induction l with
  | nil => exact Nat.le_refl _
  | cons c r ih => simp only [letters]; split <;> simp <;> omega
theorem behind_le (l : List UInt8) {i : Nat} (h : i ≤ l.length) : behind l i ≤ l.length := by
  have := letters_le (l.drop i)
  unfold behind; rw [List.length_drop] at this; omega
theorem behind_ge (l : List UInt8) (i : Nat) : i ≤ behind l i := Nat.le_add_right _ _
theorem behind_at (s : ByteArray) {i : Nat} (h : i < s.size) : behind s.data.toList i = if letter s[i] = true then behind s.data.toList (i + 1) else i := by
  unfold behind
  rw [drop_data s h]
  simp only [letters]
  split <;> omega
theorem behind_end (s : ByteArray) {i : Nat} (h : ¬ i < s.size) : behind s.data.toList i = i := by
  unfold behind; rw [drop_no s h]; rfl
theorem over_at (s : ByteArray) {i : Nat} (h : i < s.size) : over s.data.toList i = ((s[i].toNat : Int) == 35) := by
  unfold over
  rw [len_data, at_data s h, show ((s[i].toNat : Int) == 35) = decide (s[i] = 35) from (u8_beq s[i] 35 (by decide)).symm]
  have : ¬ i = s.size := by omega
  simp [this]
theorem over_end (s : ByteArray) : over s.data.toList s.size = true := by
  unfold over; rw [len_data]; simp
end Go.Ln
namespace Go.Proofs.Ytabgckjokniooaa
open Go.RowKit Go.Ln
set_option linter.unusedVariables false
set_option maxRecDepth 20000
theorem nn_lt2 {a b : Nat} (h : a < b) : (a : Int) < (b : Int) := by omega
theorem nn_ge2 {a b : Nat} (h : ¬ a < b) : decide ((a : Int) < (b : Int)) = false := decide_eq_false (by omega)
theorem nn_wrap {k m : Nat} (hk : k < m) (hm : m < 8796093022208) : wrap64 ((k : Int) + 1) = ((k + 1 : Nat) : Int) := by unfold wrap64; omega
theorem nn_down {k m : Nat} (h : k < m) : m - (k + 1) + 1 < m - k + 1 := by omega
theorem blanks_any (s : ByteArray) (i : Nat) (w : World) (hs : s.size < 8796093022208) (hi : i ≤ s.size) :
    Calls Try.prog 16 #[.string s, .int .i64 i] w fun e w' => e = .returned (.int .i64 (blanks s.data.toList i)) ∧ w = w' := by
  obtain ⟨r, hr⟩ : ∃ r, r = blanks s.data.toList i := ⟨_, rfl⟩
  rw [← hr]
  replace hs := Lib.hid hs
  replace hi := Lib.hid hi
  go_enter Try.func16, Try.ntmps16
  go_wp2
  go_loopg [1] (s.size - i + 1) (fun gg iv wr => ∃ j : Nat, gg = s.size - j + 1 ∧ iv = .int .i64 j ∧ j ≤ s.size ∧ r = blanks s.data.toList j ∧ w = wr)
  case atStart => exact ⟨i, rfl, rfl, hi.out, hr, rfl⟩
  case round =>
    obtain ⟨j, rfl, rfl, hj, hb, rfl⟩ := hrel
    clear hr
    by_cases hlt : j < s.size
    · have k0 := nn_lt2 hlt
      have hb2 := blanks_at s hlt
      have hwk := Lib.hid (nn_wrap hlt hs.out)
      cases hq : ((s[j].toNat : Int) == 32) with
      | true =>
        rw [hq] at hb2
        replace hb2 := Lib.hid hb2
        replace hb := Lib.hid hb
        replace hj := Lib.hid hj
        go_wp2
        go_roundg (s.size - (j + 1) + 1)
        case rel => exact ⟨j + 1, rfl, by rw [hwk.out], hlt, by rw [hb.out, hb2.out]; rfl, rfl⟩
        case measure => exact nn_down hlt
      | false =>
        rw [hq] at hb2
        have hv : r = j := by rw [hb, hb2]; rfl
        replace hb2 := Lib.hid hb2
        replace hb := Lib.hid hb
        replace hj := Lib.hid hj
        replace hv := Lib.hid hv
        go_wp2
        go_ret
        exact ⟨by rw [hv.out]; rfl, rfl⟩
    · have k0 := nn_ge2 hlt
      have k1 : decide (j < s.size) = false := decide_eq_false hlt
      have hv : r = j := by rw [hb, blanks_end s hlt]
      replace hb := Lib.hid hb
      replace hj := Lib.hid hj
      replace hv := Lib.hid hv
      replace hlt := Lib.hid hlt
      go_wp2
      go_ret
      exact ⟨by rw [hv.out]; rfl, rfl⟩
theorem over_any (s : ByteArray) (i : Nat) (w : World) (hs : s.size < 8796093022208) (hi : i ≤ s.size) :
    Calls Try.prog 17 #[.string s, .int .i64 i] w fun e w' => e = .returned (.bool (over s.data.toList i)) ∧ w = w' := by
  by_cases hlt : i < s.size
  · have k0 := nn_lt2 hlt
    have k1 : ((i : Int) == (s.size : Int)) = false := by rw [beq_eq_false_iff_ne]; omega
    have hv := Lib.hid (over_at s hlt)
    replace hi := Lib.hid hi
    replace hs := Lib.hid hs
    go_enter Try.func17, Try.ntmps17
    go_wp2
    go_ret
    exact ⟨by rw [hv.out]; rfl, rfl⟩
  · have e : i = s.size := by omega
    subst e
    have hv := Lib.hid (over_end s)
    replace hi := Lib.hid hi
    replace hs := Lib.hid hs
    replace hlt := Lib.hid hlt
    go_enter Try.func17, Try.ntmps17
    go_wp2
    go_ret
    exact ⟨by rw [hv.out]; rfl, rfl⟩
end Go.Proofs.Ytabgckjokniooaa
