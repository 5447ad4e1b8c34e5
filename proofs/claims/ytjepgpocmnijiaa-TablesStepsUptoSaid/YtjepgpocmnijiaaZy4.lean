/- The walks of the tests whether a text is a path. -/
import Derived.Test.YtjepgpocmnijiaaZy3
section

namespace Go.Proofs.Ytjepgpocmnijiaa
open Go.ChangeShapes Go.WideShapes Go.ChangeAt Go.RowKit
open Go.Pa
set_option linter.unusedVariables false

theorem head_at (s : ByteArray) (h : 0 < s.size) : s.data.toList.head? = some s[0] := by
  have hl : 0 < s.data.toList.length := by rw [len_data]; exact h
  rw [List.head?_eq_getElem?, List.getElem?_eq_getElem hl]; rfl
theorem path_eq (s : ByteArray) (h : 0 < s.size) (ha : s.data.toList.all pathc = true) : isPath s.data.toList = (decide (s.size ≤ 256) && (s[0] == 47)) := by
  unfold isPath
  rw [ha, len_data, head_at s h]
  have : (1 : Nat) ≤ s.size := h
  simp [this]
theorem path_no (s : ByteArray) (h : s.data.toList.all pathc = false) : isPath s.data.toList = false := by
  unfold isPath; rw [h]; simp
theorem path_short (s : ByteArray) (h : ¬ 1 ≤ s.size) : isPath s.data.toList = false := by
  unfold isPath; rw [len_data]; simp [h]
theorem path_long (s : ByteArray) (h : ¬ s.size ≤ 256) : isPath s.data.toList = false := by
  unfold isPath; rw [len_data]; simp [h]
theorem path_head (s : ByteArray) (h : 0 < s.size) (h2 : (s[0] == 47) = false) : isPath s.data.toList = false := by
  unfold isPath; rw [head_at s h]
  have : ((some s[0] == some 47) = false) := by simpa using h2
  rw [this]; simp
theorem u8_eq {c : UInt8} {n : Nat} (hn : n < 256) : (c == UInt8.ofNat n) = ((c.toNat : Int) == (n : Int)) := by
  rw [Bool.eq_iff_iff, beq_iff_eq, beq_iff_eq]
  constructor
  · rintro rfl; rw [UInt8.toNat_ofNat_of_lt' (by simpa using hn)]
  · intro h
    apply UInt8.toNat_inj.1
    rw [UInt8.toNat_ofNat_of_lt' (by simpa using hn)]; omega
theorem at47 (c : UInt8) : (c == 47) = ((c.toNat : Int) == 47) := u8_eq (n := 47) (by decide)

theorem path_any (s : ByteArray) (w : World) (hs : s.size ≤ maxLen) :
    Calls Try.prog 160 #[.string s] w fun e w' => e = .returned (.bool (isPath s.data.toList)) ∧ w = w' := by
  unfold maxLen at hs
  rcases (show (s.size : Int) < 1 ∨ (1 ≤ s.size ∧ (256 : Int) < s.size) ∨ (1 ≤ s.size ∧ s.size ≤ 256) from by omega) with h | ⟨h, h2⟩ | ⟨h, h2⟩
  · have hr := Lib.hid (path_short s (by omega))
    go_enter Try.func160, Try.ntmps160
    go_wp2
    go_ret
    exact ⟨ret_bool hr.out.symm, rfl⟩
  · have hr := Lib.hid (path_long s (by omega))
    go_enter Try.func160, Try.ntmps160
    go_wp2
    go_ret
    exact ⟨ret_bool hr.out.symm, rfl⟩
  · by_cases h47 : ((s[0]'h).toNat : Int) = 47
    · have hq : (((s[0]'h).toNat : Int) == 47) = true := by simpa using h47
      have hq2 : (((s[0]'h).toNat : Int) != 47) = false := by simpa using h47
      have hyes := fun ha => path_eq s h ha
      rw [at47, hq, decide_eq_true h2] at hyes
      replace hyes := Lib.hid hyes
      clear h47
      go_enter Try.func160, Try.ntmps160
      go_wp2
      go_loopg [19] s.size (fun g i wr => ∃ k : Nat, k ≤ s.size ∧ g = s.size - k ∧ i = .int .i64 k ∧ (s.data.toList.take k).all pathc = true ∧ w = wr)
      case atStart => exact ⟨0, by omega, rfl, rfl, rfl, rfl⟩
      case round =>
        obtain ⟨k, hk, rfl, rfl, ha, rfl⟩ := hrel
        by_cases hlt : k < s.size
        · by_cases hc : pathc s[k] = true
          · obtain ⟨c1, c2⟩ := (pathc_iff _).1 hc
            have ha2 := Lib.hid (all_step s k hlt ha hc)
            clear ha hc
            go_wp2
            go_roundg (s.size - (k + 1))
            case measure => omega
            case rel => exact ⟨k + 1, by omega, rfl, by go_num, ha2.out, rfl⟩
          · have hno := path_no s (all_no s k hlt (by simpa using hc))
            have hc2 : ¬ ((33 : Int) ≤ (s[k].toNat : Int) ∧ (s[k].toNat : Int) ≤ 126) := fun h => hc ((pathc_iff _).2 h)
            replace hno := Lib.hid hno
            clear hc ha
            by_cases h65 : (33 : Int) ≤ (s[k].toNat : Int)
            · have h90 : (126 : Int) < (s[k].toNat : Int) := by omega
              clear hc2
              go_wp2
              go_ret
              exact ⟨ret_bool hno.out.symm, rfl⟩
            · have h65' : (s[k].toNat : Int) < 33 := by omega
              clear hc2
              go_wp2
              go_ret
              exact ⟨ret_bool hno.out.symm, rfl⟩
        · rw [take_all s (by omega)] at ha
          have hd := Lib.hid (hyes.out ha)
          clear ha
          go_wp2
          go_ret
          exact ⟨ret_bool hd.out.symm, rfl⟩
    · have hq : (((s[0]'h).toNat : Int) == 47) = false := by simpa using h47
      have hq2 : (((s[0]'h).toNat : Int) != 47) = true := by simpa using h47
      have hr := Lib.hid (path_head s h (by rw [at47]; exact hq))
      clear h47
      go_enter Try.func160, Try.ntmps160
      go_wp2
      go_ret
      exact ⟨ret_bool hr.out.symm, rfl⟩
end Go.Proofs.Ytjepgpocmnijiaa
end
