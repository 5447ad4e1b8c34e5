/- The walks of the small predicates on texts. -/
import Derived.Test.YtjepgpocmnijiaaPl
import Derived.Test.YtjepgpocmnijiaaRows
import Derived.WalkKit
import Derived.ProofKit
import Derived.OpenShut
import Derived.WalkLawsBesides
import Derived.WalkSpells
import Derived.Lib.Hide
import Derived.Deep.LoopGhost
import Derived.Deep.DeepCutAuto
import Derived.Outline
namespace Go.Proofs.Ytjepgpocmnijiaa
open Go.ChangeShapes Go.WideShapes Go.ChangeAt Go.RowKit
open Go.Pa
set_option linter.unusedVariables false

theorem take_snoc (s : ByteArray) (k : Nat) (h : k < s.size) : s.data.toList.take (k + 1) = s.data.toList.take k ++ [s[k]] := by
  rw [List.take_succ_eq_append_getElem (by simpa using h)]; rfl
theorem len_data (s : ByteArray) : s.data.toList.length = s.size := by simp only [Array.length_toList]; rfl
theorem take_all (s : ByteArray) {k : Nat} (h : s.size ≤ k) : s.data.toList.take k = s.data.toList := List.take_of_length_le (by rw [len_data]; exact h)
theorem all_step {f : UInt8 → Bool} (s : ByteArray) (k : Nat) (h : k < s.size) (ha : (s.data.toList.take k).all f = true) (hf : f s[k] = true) : (s.data.toList.take (k + 1)).all f = true := by
  rw [take_snoc s k h, List.all_append, ha]; simp [hf]
theorem all_no {f : UInt8 → Bool} (s : ByteArray) (k : Nat) (h : k < s.size) (hf : f s[k] = false) : s.data.toList.all f = false := by
  rw [Bool.eq_false_iff]
  intro ha
  have := List.all_eq_true.1 ha s[k] (by
    have e : s[k] = s.data.toList[k]'(by rw [len_data]; exact h) := rfl
    rw [e]; exact List.getElem_mem _)
  rw [hf] at this; cases this
theorem u8_lo {c : UInt8} {n : Nat} (hn : n < 256) : (UInt8.ofNat n ≤ c) ↔ ((n : Int) ≤ (c.toNat : Int)) := by
  rw [UInt8.le_iff_toNat_le, UInt8.toNat_ofNat_of_lt' (by simpa using hn)]; omega
theorem u8_hi {c : UInt8} {n : Nat} (hn : n < 256) : (c ≤ UInt8.ofNat n) ↔ ((c.toNat : Int) ≤ (n : Int)) := by
  rw [UInt8.le_iff_toNat_le, UInt8.toNat_ofNat_of_lt' (by simpa using hn)]; omega
theorem methc_iff (c : UInt8) : methc c = true ↔ (65 : Int) ≤ (c.toNat : Int) ∧ (c.toNat : Int) ≤ 90 := by
  unfold methc; rw [Bool.and_eq_true, decide_eq_true_eq, decide_eq_true_eq]
  exact and_congr (u8_lo (n := 65) (by decide)) (u8_hi (n := 90) (by decide))
theorem pathc_iff (c : UInt8) : pathc c = true ↔ (33 : Int) ≤ (c.toNat : Int) ∧ (c.toNat : Int) ≤ 126 := by
  unfold pathc; rw [Bool.and_eq_true, decide_eq_true_eq, decide_eq_true_eq]
  exact and_congr (u8_lo (n := 33) (by decide)) (u8_hi (n := 126) (by decide))
theorem ret_bool {a b : Bool} (h : a = b) : Ending.returned (.bool a) = Ending.returned (.bool b) := by rw [h]
theorem pre_yes {s p : ByteArray} (h : p.size ≤ s.size) : ((s.extract 0 p.size).toList == p.toList) = Lib.hasPrefix s.data.toList p.data.toList := by
  rw [← Lib.hasPrefix_of_take, Lib.extract_toList, Lib.toList_data, len_data, len_data]
  simp [h]
theorem pre_no {s p : ByteArray} (h : ¬ p.size ≤ s.size) : false = Lib.hasPrefix s.data.toList p.data.toList := by
  rw [← Lib.hasPrefix_of_take, len_data, len_data]
  simp [h]
theorem suf_yes {s p : ByteArray} (h : p.size ≤ s.size) : ((s.extract (s.size - p.size) s.size).toList == p.toList) = Lib.hasSuffix s.data.toList p.data.toList := by
  rw [← Lib.hasSuffix_of_drop, Lib.extract_toList, Lib.toList_data, len_data, len_data]
  have : (s.data.toList.drop (s.size - p.size)).take (s.size - (s.size - p.size)) = s.data.toList.drop (s.size - p.size) := List.take_of_length_le (by rw [List.length_drop, len_data]; omega)
  rw [this]
  simp [h]
theorem suf_no {s p : ByteArray} (h : ¬ p.size ≤ s.size) : false = Lib.hasSuffix s.data.toList p.data.toList := by
  rw [← Lib.hasSuffix_of_drop, len_data, len_data]
  simp [h]

theorem hassuf_any (s p : ByteArray) (w : World) (hs : s.size ≤ maxLen) (hp : p.size ≤ maxLen) :
    Calls Try.prog 126 #[.string s, .string p] w fun e w' => e = .returned (.bool (Lib.hasSuffix s.data.toList p.data.toList)) ∧ w = w' := by
  unfold maxLen at hs hp
  by_cases h : p.size ≤ s.size
  · have h1 := Lib.hid (suf_yes h)
    go_enter Try.func126, Try.ntmps126
    go_wp2
    go_ret
    exact ⟨ret_bool h1.out, rfl⟩
  · have h1 := Lib.hid (suf_no h)
    go_enter Try.func126, Try.ntmps126
    go_wp2
    go_ret
    exact ⟨ret_bool h1.out, rfl⟩
theorem ends_any (s p : ByteArray) (w : World) (hs : s.size ≤ maxLen) (hp : p.size ≤ maxLen) :
    Calls Try.prog 129 #[.string s, .string p] w fun e w' => e = .returned (.bool (Lib.hasSuffix s.data.toList p.data.toList)) ∧ w = w' := by
  unfold maxLen at hs hp
  by_cases h : p.size ≤ s.size
  · have h1 := Lib.hid (suf_yes h)
    go_enter Try.func129, Try.ntmps129
    go_wp2
    go_ret
    exact ⟨ret_bool h1.out, rfl⟩
  · have h1 := Lib.hid (suf_no h)
    go_enter Try.func129, Try.ntmps129
    go_wp2
    go_ret
    exact ⟨ret_bool h1.out, rfl⟩
theorem haspre_any (s p : ByteArray) (w : World) (hs : s.size ≤ maxLen) (hp : p.size ≤ maxLen) :
    Calls Try.prog 140 #[.string s, .string p] w fun e w' => e = .returned (.bool (Lib.hasPrefix s.data.toList p.data.toList)) ∧ w = w' := by
  unfold maxLen at hs hp
  by_cases h : p.size ≤ s.size
  · have h1 := Lib.hid (pre_yes h)
    go_enter Try.func140, Try.ntmps140
    go_wp2
    go_ret
    exact ⟨ret_bool h1.out, rfl⟩
  · have h1 := Lib.hid (pre_no h)
    go_enter Try.func140, Try.ntmps140
    go_wp2
    go_ret
    exact ⟨ret_bool h1.out, rfl⟩
theorem begins_any (s p : ByteArray) (w : World) (hs : s.size ≤ maxLen) (hp : p.size ≤ maxLen) :
    Calls Try.prog 120 #[.string s, .string p] w fun e w' => e = .returned (.bool (Lib.hasPrefix s.data.toList p.data.toList)) ∧ w = w' := by
  unfold maxLen at hs hp
  by_cases h : p.size ≤ s.size
  · have h1 := Lib.hid (pre_yes h)
    go_enter Try.func120, Try.ntmps120
    go_wp2
    go_ret
    exact ⟨ret_bool h1.out, rfl⟩
  · have h1 := Lib.hid (pre_no h)
    go_enter Try.func120, Try.ntmps120
    go_wp2
    go_ret
    exact ⟨ret_bool h1.out, rfl⟩
end Go.Proofs.Ytjepgpocmnijiaa
