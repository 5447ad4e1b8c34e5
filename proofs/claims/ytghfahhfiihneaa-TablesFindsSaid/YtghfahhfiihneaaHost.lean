/- The walks that tell a host pattern's sort, the program's and the document's. -/
import Derived.Test.YtghfahhfiihneaaFolded
import Derived.RegionTactic
import Derived.ChangeAlike
namespace Go.Proofs.Ytghfahhfiihneaa
open Go.ChangeShapes Go.WideShapes Go.ChangeAt Go.RowKit
open Go.Pa
set_option linter.unusedVariables false

def HostV (l : Bs) : Value := .tuple #[.int .i64 (sortH l).1, .string (B (sortH l).2)]
def SortV (l : Bs) : Value := .tuple #[.int .i64 ((sortH l).1 + 1), .string (B (sortH l).2)]
theorem foldV_none {l : Bs} (h : foldH l = none) : FoldV l = .tuple #[.string ⟨#[]⟩, .bool false] := by unfold FoldV; rw [h]; rfl
theorem foldV_some {l h : Bs} (e : foldH l = some h) : FoldV l = .tuple #[.string (B h), .bool true] := by unfold FoldV; rw [e]
theorem data_from2 (s : ByteArray) : (s.extract 2 s.size).data.toList = s.data.toList.drop 2 := by
  rw [Lib.extract_data]
  exact List.take_of_length_le (by rw [List.length_drop, len_data]; omega)
theorem pre2_list : (⟨#[42, 46]⟩ : ByteArray).data.toList = [42, 46] := rfl
theorem extract_le (s : ByteArray) (a b : Nat) (h : s.size ≤ maxLen) : (s.extract a b).size ≤ maxLen := by
  rw [← len_data, Lib.extract_data, List.length_take, List.length_drop, len_data]; omega
theorem pre2_size {s : ByteArray} (h : Lib.hasPrefix s.data.toList [42, 46] = true) : 2 ≤ s.size := by
  have h2 := (List.isPrefixOf_iff_prefix.1 h).length_le
  rw [len_data] at h2
  exact h2
theorem below_drewN {B : Nat} {w w' : World} (h : Below B w w') (n : Nat) : Below B w (w'.drewN n) := h.trans (Tp.Below_drewN n)

theorem sort_us {l h : Bs} (h1 : ¬ l = [42]) (h2 : Lib.hasPrefix l [42, 46] = true) (h3 : foldH (l.drop 2) = some h) : sortH l = (1, h) := by unfold sortH; rw [if_neg h1, if_pos h2, h3]
theorem sort_un {l : Bs} (h1 : ¬ l = [42]) (h2 : Lib.hasPrefix l [42, 46] = true) (h3 : foldH (l.drop 2) = none) : sortH l = (3, l) := by unfold sortH; rw [if_neg h1, if_pos h2, h3]
theorem sort_s {l h : Bs} (h1 : ¬ l = [42]) (h2 : Lib.hasPrefix l [42, 46] = false) (h3 : foldH l = some h) : sortH l = (0, h) := by unfold sortH; rw [if_neg h1, if_neg (by simp [h2]), h3]
theorem sort_n {l : Bs} (h1 : ¬ l = [42]) (h2 : Lib.hasPrefix l [42, 46] = false) (h3 : foldH l = none) : sortH l = (3, l) := by unfold sortH; rw [if_neg h1, if_neg (by simp [h2]), h3]

set_option maxHeartbeats 1000000 in
theorem host36 (s : ByteArray) (w : World) (hs : s.size ≤ maxLen) :
    Calls Try.prog 70 #[.string s] w fun e w' => e = .returned (HostV s.data.toList) ∧ Below w.heap.size w w' := by
  have e1 := eq_const s [42]
  by_cases h1 : s.data.toList = [42]
  · have hv : HostV s.data.toList = .tuple #[.int .i64 2, .string ⟨#[]⟩] := by unfold HostV sortH; rw [if_pos h1]; rfl
    rw [show (s.data.toList == [42]) = true from by simpa using h1] at e1
    replace hv := Lib.hid hv
    clear h1
    go_enter Try.func70, Try.ntmps70
    go_wp2
    go_ret2
    exact ⟨by rw [hv.out]; rfl, Below.refl _ _⟩
  · rw [show (s.data.toList == [42]) = false from by simpa using h1] at e1
    have hpre := haspre_any s ⟨#[42, 46]⟩ w hs (by decide)
    rw [pre2_list] at hpre
    by_cases h2 : Lib.hasPrefix s.data.toList [42, 46] = true
    · have hsz := pre2_size h2
      rw [h2] at hpre
      have hf := fun w => fold_any (s.extract 2 s.size) w (extract_le s _ _ hs)
      rw [data_from2] at hf
      replace hpre := Lib.hid hpre
      cases hfo : foldH (s.data.toList.drop 2) with
      | none =>
        rw [foldV_none hfo] at hf
        have hv : HostV s.data.toList = .tuple #[.int .i64 3, .string s] := by unfold HostV; rw [sort_un h1 h2 hfo, B_self]
        replace hv := Lib.hid hv
        replace hf := Lib.hid hf
        clear h1 h2 hfo
        unfold maxLen at hs
        go_enter Try.func70, Try.ntmps70
        go_wp2_with (go_at_call 100; refine hpre.out.mono ?_; rintro e w' ⟨rfl, rfl⟩)
        go_quiet (fail)
        go_wp2_with fail
        refine (hf.out _).mono ?_
        rintro e w1 ⟨rfl, hb1⟩
        replace hb1 := Lib.hid hb1
        go_wp2
        go_ret2
        exact ⟨by rw [hv.out]; rfl, (below_drewN (Below.refl _ _) nq).trans hb1.out⟩
      | some h =>
        rw [foldV_some hfo] at hf
        have hv : HostV s.data.toList = .tuple #[.int .i64 1, .string (B h)] := by unfold HostV; rw [sort_us h1 h2 hfo]
        replace hv := Lib.hid hv
        replace hf := Lib.hid hf
        clear h1 h2 hfo
        unfold maxLen at hs
        go_enter Try.func70, Try.ntmps70
        go_wp2_with (go_at_call 100; refine hpre.out.mono ?_; rintro e w' ⟨rfl, rfl⟩)
        go_quiet (fail)
        go_wp2_with fail
        refine (hf.out _).mono ?_
        rintro e w1 ⟨rfl, hb1⟩
        replace hb1 := Lib.hid hb1
        go_wp2
        go_ret2
        exact ⟨by rw [hv.out]; rfl, (below_drewN (Below.refl _ _) nq).trans hb1.out⟩
    · have h2' : Lib.hasPrefix s.data.toList [42, 46] = false := by simpa using h2
      rw [h2'] at hpre
      have hf := fold_any s w hs
      replace hpre := Lib.hid hpre
      cases hfo : foldH s.data.toList with
      | none =>
        rw [foldV_none hfo] at hf
        have hv : HostV s.data.toList = .tuple #[.int .i64 3, .string s] := by unfold HostV; rw [sort_n h1 h2' hfo, B_self]
        replace hv := Lib.hid hv
        replace hf := Lib.hid hf
        clear h1 h2 h2' hfo
        go_enter Try.func70, Try.ntmps70
        go_wp2_with (go_at_call 100; refine hpre.out.mono ?_; rintro e w' ⟨rfl, rfl⟩)
        refine (hf.out).mono ?_
        rintro e w1 ⟨rfl, hb1⟩
        replace hb1 := Lib.hid hb1
        go_wp2
        go_ret2
        exact ⟨by rw [hv.out]; rfl, hb1.out⟩
      | some h =>
        rw [foldV_some hfo] at hf
        have hv : HostV s.data.toList = .tuple #[.int .i64 0, .string (B h)] := by unfold HostV; rw [sort_s h1 h2' hfo]
        replace hv := Lib.hid hv
        replace hf := Lib.hid hf
        clear h1 h2 h2' hfo
        go_enter Try.func70, Try.ntmps70
        go_wp2_with (go_at_call 100; refine hpre.out.mono ?_; rintro e w' ⟨rfl, rfl⟩)
        refine (hf.out).mono ?_
        rintro e w1 ⟨rfl, hb1⟩
        replace hb1 := Lib.hid hb1
        go_wp2
        go_ret2
        exact ⟨by rw [hv.out]; rfl, hb1.out⟩

theorem not_long {l : Bs} (h1 : ¬ l = [42]) (h2 : Lib.hasPrefix l [42, 46] = true) (h3 : ¬ 2 < l.length) : l = [42, 46] := by
  have h4 := List.isPrefixOf_iff_prefix.1 h2
  have h5 := h4.length_le
  obtain ⟨t, rfl⟩ := h4
  simp at h3 ⊢
  exact h3
theorem take2 {s : ByteArray} (h : 2 ≤ s.size) : ((s.extract 0 2).toList == [42, 46]) = Lib.hasPrefix s.data.toList [42, 46] := by
  have := pre_yes (s := s) (p := ⟨#[42, 46]⟩) h
  rw [show (⟨#[42, 46]⟩ : ByteArray).size = 2 from rfl, show (⟨#[42, 46]⟩ : ByteArray).toList = [42, 46] from by decide +kernel] at this
  exact this
set_option maxHeartbeats 1000000 in
theorem sort37 (s : ByteArray) (w : World) (hs : s.size ≤ maxLen) :
    Calls Try.prog 84 #[.string s] w fun e w' => e = .returned (SortV s.data.toList) ∧ Below w.heap.size w w' := by
  have e1 := eq_const s [42]
  have hs0 := hs
  unfold maxLen at hs
  by_cases h1 : s.data.toList = [42]
  · have hv : SortV s.data.toList = .tuple #[.int .i64 3, .string ⟨#[]⟩] := by unfold SortV sortH; rw [if_pos h1]; rfl
    rw [show (s.data.toList == [42]) = true from by simpa using h1] at e1
    replace hv := Lib.hid hv
    clear h1
    go_enter Try.func84, Try.ntmps84
    go_wp2
    go_ret2
    exact ⟨by rw [hv.out]; rfl, Below.refl _ _⟩
  · rw [show (s.data.toList == [42]) = false from by simpa using h1] at e1
    by_cases h2 : 2 < s.size ∧ Lib.hasPrefix s.data.toList [42, 46] = true
    · obtain ⟨hsz, h2⟩ := h2
      have e2 := take2 (s := s) (by omega)
      rw [h2] at e2
      have hf := fun w => folded_any (s.extract 2 s.size) w (extract_le s _ _ hs0)
      rw [data_from2] at hf
      cases hfo : foldH (s.data.toList.drop 2) with
      | none =>
        rw [foldV_none hfo] at hf
        have hv : SortV s.data.toList = .tuple #[.int .i64 4, .string s] := by unfold SortV; rw [sort_un h1 h2 hfo, B_self]; rfl
        replace hv := Lib.hid hv
        replace hf := Lib.hid hf
        clear h1 h2 hfo
        go_enter Try.func84, Try.ntmps84
        go_wp2_with fail
        refine (hf.out _).mono ?_
        rintro e w1 ⟨rfl, hb1⟩
        replace hb1 := Lib.hid hb1
        go_wp2
        go_ret2
        exact ⟨by rw [hv.out]; rfl, hb1.out⟩
      | some h =>
        rw [foldV_some hfo] at hf
        have hv : SortV s.data.toList = .tuple #[.int .i64 2, .string (B h)] := by unfold SortV; rw [sort_us h1 h2 hfo]; rfl
        replace hv := Lib.hid hv
        replace hf := Lib.hid hf
        clear h1 h2 hfo
        go_enter Try.func84, Try.ntmps84
        go_wp2_with fail
        refine (hf.out _).mono ?_
        rintro e w1 ⟨rfl, hb1⟩
        replace hb1 := Lib.hid hb1
        go_wp2
        go_ret2
        exact ⟨by rw [hv.out]; rfl, hb1.out⟩
    · have hf := folded_any s w hs0
      -- what does not go on behind a star and a dot is folded whole
      have hv : SortV s.data.toList = match foldH s.data.toList with | some h => .tuple #[.int .i64 1, .string (B h)] | none => .tuple #[.int .i64 4, .string s] := by
        by_cases hp : Lib.hasPrefix s.data.toList [42, 46] = true
        · have h3 := not_long h1 hp (by rw [len_data]; intro h; exact h2 ⟨h, hp⟩)
          have k1 : sortH [42, 46] = (3, [42, 46]) := by decide +kernel
          have k2 : foldH [42, 46] = none := by decide +kernel
          unfold SortV
          have hB : B [42, 46] = s := by rw [← h3]; exact B_self s
          rw [h3, k1, k2]
          show Value.tuple #[.int .i64 4, .string (B [42, 46])] = _
          rw [hB]
        · have hp' : Lib.hasPrefix s.data.toList [42, 46] = false := by simpa using hp
          cases hfo : foldH s.data.toList with
          | none => unfold SortV; rw [sort_n h1 hp' hfo, B_self]; rfl
          | some h => unfold SortV; rw [sort_s h1 hp' hfo]; rfl
      have hcase : (s.size : Int) ≤ 2 ∨ (2 < s.size ∧ ((s.extract 0 2).toList == [42, 46]) = false) := by
        by_cases hl : 2 < s.size
        · right
          refine ⟨hl, ?_⟩
          rw [take2 (by omega)]
          simpa using fun h => h2 ⟨hl, h⟩
        · left; omega
      cases hfo : foldH s.data.toList with
      | none =>
        rw [hfo] at hv
        rw [foldV_none hfo] at hf
        replace hv := Lib.hid hv
        replace hf := Lib.hid hf
        clear h1 h2 hfo
        rcases hcase with hc | ⟨hc, e2⟩
        all_goals
          go_enter Try.func84, Try.ntmps84
          go_wp2_with fail
          refine (hf.out).mono ?_
          rintro e w1 ⟨rfl, hb1⟩
          replace hb1 := Lib.hid hb1
          go_wp2
          go_ret2
          exact ⟨by rw [hv.out]; rfl, hb1.out⟩
      | some h =>
        rw [hfo] at hv
        rw [foldV_some hfo] at hf
        replace hv := Lib.hid hv
        replace hf := Lib.hid hf
        clear h1 h2 hfo
        rcases hcase with hc | ⟨hc, e2⟩
        all_goals
          go_enter Try.func84, Try.ntmps84
          go_wp2_with fail
          refine (hf.out).mono ?_
          rintro e w1 ⟨rfl, hb1⟩
          replace hb1 := Lib.hid hb1
          go_wp2
          go_ret2
          exact ⟨by rw [hv.out]; rfl, hb1.out⟩
end Go.Proofs.Ytghfahhfiihneaa
