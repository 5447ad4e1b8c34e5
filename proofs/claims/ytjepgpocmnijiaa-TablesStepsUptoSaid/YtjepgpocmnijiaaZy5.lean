/- The walks of path and method patterns: which texts they are, what they take, what they cover. -/
import Derived.Test.YtjepgpocmnijiaaZy4
section

namespace Go.Proofs.Ytjepgpocmnijiaa
open Go.ChangeShapes Go.WideShapes Go.ChangeAt Go.RowKit
open Go.Pa
set_option linter.unusedVariables false

def B (l : Bs) : ByteArray := ⟨l.toArray⟩
theorem B_data (l : Bs) : (B l).data.toList = l := by simp [B]
theorem B_self (s : ByteArray) : B s.data.toList = s := Lib.mk_data s
theorem B_size (l : Bs) : (B l).size = l.length := by rw [← len_data, B_data]
theorem star_size {s : ByteArray} (h : starred s.data.toList = true) : 1 ≤ s.size := by
  have h2 := (List.isSuffixOf_iff_suffix.1 h).length_le
  rw [len_data] at h2
  exact h2
theorem aheadS_yes {s : ByteArray} (h : starred s.data.toList = true) : B (aheadS s.data.toList) = s.extract 0 (s.size - 1) := by
  unfold aheadS
  rw [if_pos h, Lib.extract_eq, len_data]
  simp [B]
theorem aheadS_no {s : ByteArray} (h : starred s.data.toList = false) : B (aheadS s.data.toList) = s := by
  unfold aheadS
  rw [if_neg (by simp [h])]
  exact B_self s
theorem aheadS_le (l : Bs) : (aheadS l).length ≤ l.length := by
  unfold aheadS
  split
  · rw [List.length_take]; omega
  · exact Nat.le_refl _

theorem star_list : (⟨#[42]⟩ : ByteArray).toList = [42] := by decide +kernel
theorem star_yes {s : ByteArray} (h : starred s.data.toList = true) : ((s.extract (s.size - 1) s.size).toList == [42]) = true := by
  have := suf_yes (s := s) (p := ⟨#[42]⟩) (star_size h)
  rw [show (⟨#[42]⟩ : ByteArray).size = 1 from rfl, star_list] at this
  rw [this]; exact h
theorem star_no {s : ByteArray} (h1 : 1 ≤ s.size) (h : starred s.data.toList = false) : ((s.extract (s.size - 1) s.size).toList == [42]) = false := by
  have := suf_yes (s := s) (p := ⟨#[42]⟩) h1
  rw [show (⟨#[42]⟩ : ByteArray).size = 1 from rfl, star_list] at this
  rw [this]; exact h
def StarV (s : ByteArray) : Value := .tuple #[.string (B (aheadS s.data.toList)), .bool (starred s.data.toList)]
theorem begins38 (s : ByteArray) (w : World) (hs : s.size ≤ maxLen) :
    Calls Try.prog 144 #[.string s] w fun e w' => e = .returned (StarV s) ∧ w = w' := by
  unfold maxLen at hs
  by_cases h : starred s.data.toList = true
  · have h1 := star_size h
    have hv : Value.tuple #[.string (s.extract 0 (s.size - 1)), .bool true] = StarV s := by unfold StarV; rw [aheadS_yes h, h]
    have h4 := star_yes h
    replace hv := Lib.hid hv
    clear h
    go_enter Try.func144, Try.ntmps144
    go_wp2
    go_ret2
    exact ⟨congrArg Ending.returned hv.out, rfl⟩
  · have h' : starred s.data.toList = false := by simpa using h
    have hv : Value.tuple #[.string s, .bool false] = StarV s := by unfold StarV; rw [aheadS_no h', h']
    replace hv := Lib.hid hv
    clear h
    by_cases h1 : 1 ≤ s.size
    · have h4 := star_no h1 h'
      clear h'
      go_enter Try.func144, Try.ntmps144
      go_wp2
      go_ret2
      exact ⟨congrArg Ending.returned hv.out, rfl⟩
    · have h1' : (s.size : Int) < 1 := by omega
      clear h'
      go_enter Try.func144, Try.ntmps144
      go_wp2
      go_ret2
      exact ⟨congrArg Ending.returned hv.out, rfl⟩
/-! ### The patterns -/
theorem B_le {l : Bs} {s : ByteArray} (h : l.length ≤ s.data.toList.length) (hs : s.size ≤ maxLen) : (B l).size ≤ maxLen := by rw [B_size]; rw [len_data] at h; omega
theorem eq_lists (a b : ByteArray) : (a.toList == b.toList) = (a.data.toList == b.data.toList) := by rw [Lib.toList_data, Lib.toList_data]
theorem eq_const (a : ByteArray) (l : Bs) : (a.toList == l) = (a.data.toList == l) := by rw [Lib.toList_data]
theorem pathpat15 (s : ByteArray) (w : World) (hs : s.size ≤ maxLen) :
    Calls Try.prog 145 #[.string s] w fun e w' => e = .returned (.bool (pathPat s.data.toList)) ∧ w = w' := by
  have hdef : pathPat s.data.toList = (starred s.data.toList && (aheadS s.data.toList).isEmpty || isPath (aheadS s.data.toList)) := by rfl
  rw [hdef]
  have c1 := begins38 s w hs
  have c2 := path_any (B (aheadS s.data.toList)) w (B_le (aheadS_le _) hs)
  rw [B_data] at c2
  unfold StarV at c1
  have e1 : (B (aheadS s.data.toList)).toList.isEmpty = (aheadS s.data.toList).isEmpty := by rw [Lib.toList_data, B_data]
  clear hdef
  generalize B (aheadS s.data.toList) = p at *
  generalize (aheadS s.data.toList).isEmpty = b2 at *
  generalize isPath (aheadS s.data.toList) = b3 at *
  generalize starred s.data.toList = b1 at *
  replace c1 := Lib.hid c1
  replace c2 := Lib.hid c2
  cases b2 <;> cases b3 <;> cases b1
  all_goals
    go_enter Try.func145, Try.ntmps145
    go_wp2_with (first | (go_at_call 144; (with_reducible refine c1.out.mono ?_); rintro e w' ⟨rfl, rfl⟩) | (go_at_call 160; (with_reducible refine c2.out.mono ?_); rintro e w' ⟨rfl, rfl⟩))
    go_ret
    exact ⟨rfl, rfl⟩
set_option maxHeartbeats 2000000 in
theorem covpath29 (a : ByteArray) (b : ByteArray) (w : World) (ha : a.size ≤ maxLen) (hb : b.size ≤ maxLen) :
    Calls Try.prog 117 #[.string a, .string b] w fun e w' => e = .returned (.bool (pathCovers a.data.toList b.data.toList)) ∧ w = w' := by
  have hdef : pathCovers a.data.toList b.data.toList = (pathPat a.data.toList && (pathPat b.data.toList && (a.data.toList == b.data.toList || (starred a.data.toList && Lib.hasPrefix (aheadS b.data.toList) (aheadS a.data.toList))))) := by rfl
  rw [hdef]
  have c1 := begins38 a w ha
  have c2 := begins38 b w hb
  have c3 := pathpat15 a w ha
  have c4 := pathpat15 b w hb
  have c5 := haspre_any (B (aheadS b.data.toList)) (B (aheadS a.data.toList)) w (B_le (aheadS_le _) hb) (B_le (aheadS_le _) ha)
  rw [B_data, B_data] at c5
  unfold StarV at c1 c2
  have e1 : (a.toList == b.toList) = (a.data.toList == b.data.toList) := eq_lists a b
  clear hdef
  generalize B (aheadS a.data.toList) = q at *
  generalize B (aheadS b.data.toList) = r at *
  generalize pathPat a.data.toList = b1 at *
  generalize pathPat b.data.toList = b2 at *
  generalize (a.data.toList == b.data.toList) = b3 at *
  generalize Lib.hasPrefix (aheadS b.data.toList) (aheadS a.data.toList) = b5 at *
  generalize starred a.data.toList = b4 at *
  generalize starred b.data.toList = x at *
  replace c1 := Lib.hid c1
  replace c2 := Lib.hid c2
  replace c3 := Lib.hid c3
  replace c4 := Lib.hid c4
  replace c5 := Lib.hid c5
  cases b1 <;> cases b2 <;> cases b3 <;> cases b5 <;> cases b4
  all_goals
    go_enter Try.func117, Try.ntmps117
    go_wp2_with (first | (go_at_call 144; (with_reducible refine c1.out.mono ?_); rintro e w' ⟨rfl, rfl⟩) | (go_at_call 144; (with_reducible refine c2.out.mono ?_); rintro e w' ⟨rfl, rfl⟩) | (go_at_call 145; (with_reducible refine c3.out.mono ?_); rintro e w' ⟨rfl, rfl⟩) | (go_at_call 145; (with_reducible refine c4.out.mono ?_); rintro e w' ⟨rfl, rfl⟩) | (go_at_call 140; (with_reducible refine c5.out.mono ?_); rintro e w' ⟨rfl, rfl⟩))
    go_ret
    exact ⟨rfl, rfl⟩
end Go.Proofs.Ytjepgpocmnijiaa
end
