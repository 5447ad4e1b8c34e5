/- The walks of the small predicates on texts. -/
import Derived.Test.YtndbnomhhfhdfaaPl
import Derived.Test.YtndbnomhhfhdfaaRows
import Derived.WalkKit
import Derived.ProofKit
import Derived.OpenShut
import Derived.WalkLawsBesides
import Derived.WalkSpells
import Derived.Lib.Hide
import Derived.Deep.LoopGhost
import Derived.Deep.DeepCutAuto
import Derived.Outline
namespace Go.Proofs.Ytndbnomhhfhdfaa
open Go.ChangeShapes Go.WideShapes Go.ChangeAt Go.RowKit
open Go.Pa
set_option linter.unusedVariables false

theorem take_snoc (s : ByteArray) (k : Nat) (h : k < s.size) : s.data.toList.take (k + 1) = s.data.toList.take k ++ [s[k]] := by
  rw [List.take_succ_eq_append_getElem (by simpa using h)]; rfl
theorem len_data (s : ByteArray) : s.data.toList.length = s.size := by simp only [Array.length_toList]; rfl
theorem take_all (s : ByteArray) {k : Nat} (h : s.size ≤ k) : s.data.toList.take k = s.data.toList := List.take_of_length_le (by rw [len_data]; exact h)
theorem all_step {f : UInt8 → Bool} (s : ByteArray) (k : Nat) (h : k < s.size) (ha : (s.data.toList.take k).all f = true) (hf : f s[k] = true) : (s.data.toList.take (k + 1)).all f = true := by
  rw [take_snoc s k h, List.all_append, ha]; simp [hf]
theorem all_no {f : UInt8 → Bool} (s : ByteArray) (k : Nat) (h : k < s.size) (hf : f s[k] = false) : s.data.toList.all f = false := by
  rw [Bool.eq_false_iff]
  intro ha
  have := List.all_eq_true.1 ha s[k] (by
    have e : s[k] = s.data.toList[k]'(by rw [len_data]; exact h) := rfl
    rw [e]; exact List.getElem_mem _)
  rw [hf] at this; cases this
theorem u8_lo {c : UInt8} {n : Nat} (hn : n < 256) : (UInt8.ofNat n ≤ c) ↔ ((n : Int) ≤ (c.toNat : Int)) := by
  rw [UInt8.le_iff_toNat_le, UInt8.toNat_ofNat_of_lt' (by simpa using hn)]; omega
theorem u8_hi {c : UInt8} {n : Nat} (hn : n < 256) : (c ≤ UInt8.ofNat n) ↔ ((c.toNat : Int) ≤ (n : Int)) := by
  rw [UInt8.le_iff_toNat_le, UInt8.toNat_ofNat_of_lt' (by simpa using hn)]; omega
theorem methc_iff (c : UInt8) : methc c = true ↔ (65 : Int) ≤ (c.toNat : Int) ∧ (c.toNat : Int) ≤ 90 := by
  unfold methc; rw [Bool.and_eq_true, decide_eq_true_eq, decide_eq_true_eq]
  exact and_congr (u8_lo (n := 65) (by decide)) (u8_hi (n := 90) (by decide))
theorem pathc_iff (c : UInt8) : pathc c = true ↔ (33 : Int) ≤ (c.toNat : Int) ∧ (c.toNat : Int) ≤ 126 := by
  unfold pathc; rw [Bool.and_eq_true, decide_eq_true_eq, decide_eq_true_eq]
  exact and_congr (u8_lo (n := 33) (by decide)) (u8_hi (n := 126) (by decide))
theorem ret_bool {a b : Bool} (h : a = b) : Ending.returned (.bool a) = Ending.returned (.bool b) := by rw [h]
theorem pre_yes {s p : ByteArray} (h : p.size ≤ s.size) : ((s.extract 0 p.size).toList == p.toList) = Lib.hasPrefix s.data.toList p.data.toList := by
  rw [← Lib.hasPrefix_of_take, Lib.extract_toList, Lib.toList_data, len_data, len_data]
  simp [h]
theorem pre_no {s p : ByteArray} (h : ¬ p.size ≤ s.size) : false = Lib.hasPrefix s.data.toList p.data.toList := by
  rw [← Lib.hasPrefix_of_take, len_data, len_data]
  simp [h]
theorem suf_yes {s p : ByteArray} (h : p.size ≤ s.size) : ((s.extract (s.size - p.size) s.size).toList == p.toList) = Lib.hasSuffix s.data.toList p.data.toList := by
  rw [← Lib.hasSuffix_of_drop, Lib.extract_toList, Lib.toList_data, len_data, len_data]
  have : (s.data.toList.drop (s.size - p.size)).take (s.size - (s.size - p.size)) = s.data.toList.drop (s.size - p.size) := List.take_of_length_le (by rw [List.length_drop, len_data]; omega)
  rw [this]
  simp [h]
theorem suf_no {s p : ByteArray} (h : ¬ p.size ≤ s.size) : false = Lib.hasSuffix s.data.toList p.data.toList := by
  rw [← Lib.hasSuffix_of_drop, len_data, len_data]
  simp [h]

theorem hassuf_any (s p : ByteArray) (w : World) (hs : s.size ≤ maxLen) (hp : p.size ≤ maxLen) :
    Calls Try.prog 44 #[.string s, .string p] w fun e w' => e = .returned (.bool (Lib.hasSuffix s.data.toList p.data.toList)) ∧ w = w' := by
  unfold maxLen at hs hp
  by_cases h : p.size ≤ s.size
  · have h1 := Lib.hid (suf_yes h)
    go_enter Try.func44, Try.ntmps44
    go_wp2
    go_ret
    exact ⟨ret_bool h1.out, rfl⟩
  · have h1 := Lib.hid (suf_no h)
    go_enter Try.func44, Try.ntmps44
    go_wp2
    go_ret
    exact ⟨ret_bool h1.out, rfl⟩
theorem ends_any (s p : ByteArray) (w : World) (hs : s.size ≤ maxLen) (hp : p.size ≤ maxLen) :
    Calls Try.prog 45 #[.string s, .string p] w fun e w' => e = .returned (.bool (Lib.hasSuffix s.data.toList p.data.toList)) ∧ w = w' := by
  unfold maxLen at hs hp
  by_cases h : p.size ≤ s.size
  · have h1 := Lib.hid (suf_yes h)
    go_enter Try.func45, Try.ntmps45
    go_wp2
    go_ret
    exact ⟨ret_bool h1.out, rfl⟩
  · have h1 := Lib.hid (suf_no h)
    go_enter Try.func45, Try.ntmps45
    go_wp2
    go_ret
    exact ⟨ret_bool h1.out, rfl⟩
theorem haspre_any (s p : ByteArray) (w : World) (hs : s.size ≤ maxLen) (hp : p.size ≤ maxLen) :
    Calls Try.prog 46 #[.string s, .string p] w fun e w' => e = .returned (.bool (Lib.hasPrefix s.data.toList p.data.toList)) ∧ w = w' := by
  unfold maxLen at hs hp
  by_cases h : p.size ≤ s.size
  · have h1 := Lib.hid (pre_yes h)
    go_enter Try.func46, Try.ntmps46
    go_wp2
    go_ret
    exact ⟨ret_bool h1.out, rfl⟩
  · have h1 := Lib.hid (pre_no h)
    go_enter Try.func46, Try.ntmps46
    go_wp2
    go_ret
    exact ⟨ret_bool h1.out, rfl⟩
theorem begins_any (s p : ByteArray) (w : World) (hs : s.size ≤ maxLen) (hp : p.size ≤ maxLen) :
    Calls Try.prog 47 #[.string s, .string p] w fun e w' => e = .returned (.bool (Lib.hasPrefix s.data.toList p.data.toList)) ∧ w = w' := by
  unfold maxLen at hs hp
  by_cases h : p.size ≤ s.size
  · have h1 := Lib.hid (pre_yes h)
    go_enter Try.func47, Try.ntmps47
    go_wp2
    go_ret
    exact ⟨ret_bool h1.out, rfl⟩
  · have h1 := Lib.hid (pre_no h)
    go_enter Try.func47, Try.ntmps47
    go_wp2
    go_ret
    exact ⟨ret_bool h1.out, rfl⟩
theorem method_any (s : ByteArray) (w : World) (hs : s.size ≤ maxLen) :
    Calls Try.prog 42 #[.string s] w fun e w' => e = .returned (.bool (isMethod s.data.toList)) ∧ w = w' := by
  unfold maxLen at hs
  go_enter Try.func42, Try.ntmps42
  go_wp2
  go_loopg [6] s.size (fun g i wr => ∃ k : Nat, k ≤ s.size ∧ g = s.size - k ∧ i = .int .i64 k ∧ (s.data.toList.take k).all methc = true ∧ w = wr)
  case atStart => exact ⟨0, by omega, rfl, rfl, rfl, rfl⟩
  case round =>
    obtain ⟨k, hk, rfl, rfl, ha, rfl⟩ := hrel
    by_cases hlt : k < s.size
    · by_cases hc : methc s[k] = true
      · obtain ⟨c1, c2⟩ := (methc_iff _).1 hc
        have ha2 := Lib.hid (all_step s k hlt ha hc)
        clear ha hc
        go_wp2
        go_roundg (s.size - (k + 1))
        case measure => omega
        case rel => exact ⟨k + 1, by omega, rfl, by go_num, ha2.out, rfl⟩
      · have hno : isMethod s.data.toList = false := by
          unfold isMethod; rw [all_no s k hlt (by simpa using hc)]; simp
        have hc2 : ¬ ((65 : Int) ≤ (s[k].toNat : Int) ∧ (s[k].toNat : Int) ≤ 90) := fun h => hc ((methc_iff _).2 h)
        replace hno := Lib.hid hno
        clear hc ha
        by_cases h65 : (65 : Int) ≤ (s[k].toNat : Int)
        · have h90 : (90 : Int) < (s[k].toNat : Int) := by omega
          clear hc2
          go_wp2
          go_ret
          exact ⟨ret_bool hno.out.symm, rfl⟩
        · have h65' : (s[k].toNat : Int) < 65 := by omega
          clear hc2
          go_wp2
          go_ret
          exact ⟨ret_bool hno.out.symm, rfl⟩
    · have hm : isMethod s.data.toList = (decide (1 ≤ s.size) && decide (s.size ≤ 64)) := by
        rw [take_all s (by omega)] at ha
        unfold isMethod; rw [ha, len_data]; simp
      replace hm := Lib.hid hm
      clear ha
      rcases (show s.size = 0 ∨ (1 ≤ s.size ∧ s.size ≤ 64) ∨ 64 < s.size from by omega) with h | ⟨h, h2⟩ | h
      · have h1 : ¬ 1 ≤ s.size := by omega
        have hd : false = isMethod s.data.toList := by rw [hm.out]; simp [h1]
        replace hd := Lib.hid hd
        have h' : (s.size : Int) < 1 := by omega
        clear h
        go_wp2
        go_ret
        first | exact ⟨ret_bool hd.out, rfl⟩ | exact ⟨ret_bool (by rw [← hd.out]; simp; omega), rfl⟩
      · have hd : true = isMethod s.data.toList := by rw [hm.out]; simp [h, h2]
        replace hd := Lib.hid hd
        go_wp2
        go_ret
        first | exact ⟨ret_bool hd.out, rfl⟩ | exact ⟨ret_bool (by rw [← hd.out]; simp; omega), rfl⟩
      · have hd : false = isMethod s.data.toList := by rw [hm.out]; simp; omega
        replace hd := Lib.hid hd
        go_wp2
        go_ret
        first | exact ⟨ret_bool hd.out, rfl⟩ | exact ⟨ret_bool (by rw [← hd.out]; simp; omega), rfl⟩
theorem ismethod_any (s : ByteArray) (w : World) (hs : s.size ≤ maxLen) :
    Calls Try.prog 43 #[.string s] w fun e w' => e = .returned (.bool (isMethod s.data.toList)) ∧ w = w' := by
  unfold maxLen at hs
  go_enter Try.func43, Try.ntmps43
  go_wp2
  go_loopg [3] s.size (fun g i wr => ∃ k : Nat, k ≤ s.size ∧ g = s.size - k ∧ i = .int .i64 k ∧ (s.data.toList.take k).all methc = true ∧ w = wr)
  case atStart => exact ⟨0, by omega, rfl, rfl, rfl, rfl⟩
  case round =>
    obtain ⟨k, hk, rfl, rfl, ha, rfl⟩ := hrel
    by_cases hlt : k < s.size
    · by_cases hc : methc s[k] = true
      · obtain ⟨c1, c2⟩ := (methc_iff _).1 hc
        have ha2 := Lib.hid (all_step s k hlt ha hc)
        clear ha hc
        go_wp2
        go_roundg (s.size - (k + 1))
        case measure => omega
        case rel => exact ⟨k + 1, by omega, rfl, by go_num, ha2.out, rfl⟩
      · have hno : isMethod s.data.toList = false := by
          unfold isMethod; rw [all_no s k hlt (by simpa using hc)]; simp
        have hc2 : ¬ ((65 : Int) ≤ (s[k].toNat : Int) ∧ (s[k].toNat : Int) ≤ 90) := fun h => hc ((methc_iff _).2 h)
        replace hno := Lib.hid hno
        clear hc ha
        by_cases h65 : (65 : Int) ≤ (s[k].toNat : Int)
        · have h90 : (90 : Int) < (s[k].toNat : Int) := by omega
          clear hc2
          go_wp2
          go_ret
          exact ⟨ret_bool hno.out.symm, rfl⟩
        · have h65' : (s[k].toNat : Int) < 65 := by omega
          clear hc2
          go_wp2
          go_ret
          exact ⟨ret_bool hno.out.symm, rfl⟩
    · have hm : isMethod s.data.toList = (decide (1 ≤ s.size) && decide (s.size ≤ 64)) := by
        rw [take_all s (by omega)] at ha
        unfold isMethod; rw [ha, len_data]; simp
      replace hm := Lib.hid hm
      clear ha
      rcases (show s.size = 0 ∨ (1 ≤ s.size ∧ s.size ≤ 64) ∨ 64 < s.size from by omega) with h | ⟨h, h2⟩ | h
      · have h1 : ¬ 1 ≤ s.size := by omega
        have hd : false = isMethod s.data.toList := by rw [hm.out]; simp [h1]
        replace hd := Lib.hid hd
        have h' : (s.size : Int) < 1 := by omega
        clear h
        go_wp2
        go_ret
        first | exact ⟨ret_bool hd.out, rfl⟩ | exact ⟨ret_bool (by rw [← hd.out]; simp; omega), rfl⟩
      · have hd : true = isMethod s.data.toList := by rw [hm.out]; simp [h, h2]
        replace hd := Lib.hid hd
        go_wp2
        go_ret
        first | exact ⟨ret_bool hd.out, rfl⟩ | exact ⟨ret_bool (by rw [← hd.out]; simp; omega), rfl⟩
      · have hd : false = isMethod s.data.toList := by rw [hm.out]; simp; omega
        replace hd := Lib.hid hd
        go_wp2
        go_ret
        first | exact ⟨ret_bool hd.out, rfl⟩ | exact ⟨ret_bool (by rw [← hd.out]; simp; omega), rfl⟩
end Go.Proofs.Ytndbnomhhfhdfaa
