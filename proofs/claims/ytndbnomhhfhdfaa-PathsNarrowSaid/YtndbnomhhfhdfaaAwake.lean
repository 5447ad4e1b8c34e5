/- The walk of the laws' own awake: some patterns; it answers true. -/
import Derived.Test.YtndbnomhhfhdfaaBest
import Derived.Test.YtndbnomhhfhdfaaCovers
namespace Go.Proofs.Ytndbnomhhfhdfaa
open Go.ChangeShapes Go.WideShapes Go.ChangeAt Go.RowKit
open Go.Pa
set_option linter.unusedVariables false

def awl : List ByteArray := [(⟨#[42]⟩ : ByteArray), (⟨#[42, 46, 97]⟩ : ByteArray), (⟨#[42, 46, 98, 46, 97]⟩ : ByteArray)]
theorem aw_best : BestIs (bl awl) (⟨#[120, 46, 98, 46, 97]⟩ : ByteArray).data.toList 3 2 true :=
  best_first (by decide) (by decide +kernel) (by decide +kernel)
theorem rds_lit (w : World) (a b c : ByteArray) : RdS (w.alloc (.cells #[.string a, .string b, .string c] 9)) (.slice (some ⟨w.heap.size, 0, none⟩) 3 3) [a, b, c] := by
  refine ⟨_, _, rfl, .inr ⟨_, 0, rfl, by simp, fun i hi => ?_⟩⟩
  rw [cell_of_row _ _ _ _ _ _ (heap_alloc_new w _)]
  match i, hi with
  | 0, _ => rfl
  | 1, _ => rfl
  | 2, _ => rfl
theorem aw13a (w : World) : Calls Try.prog 13 #[.string (⟨#[42, 46, 97]⟩ : ByteArray)] w fun e w' => e = .returned (.bool true) ∧ Below w.heap.size w w' := by
  have h := hostpat13 (⟨#[42, 46, 97]⟩ : ByteArray) w (by decide)
  have e : hostPat (⟨#[42, 46, 97]⟩ : ByteArray).data.toList = true := by decide +kernel
  rw [e] at h
  exact h
theorem aw13b (w : World) : Calls Try.prog 13 #[.string (⟨#[42, 97]⟩ : ByteArray)] w fun e w' => e = .returned (.bool false) ∧ Below w.heap.size w w' := by
  have h := hostpat13 (⟨#[42, 97]⟩ : ByteArray) w (by decide)
  have e : hostPat (⟨#[42, 97]⟩ : ByteArray).data.toList = false := by decide +kernel
  rw [e] at h
  exact h
theorem aw21a (w : World) : Calls Try.prog 21 #[.string (⟨#[47, 97, 42]⟩ : ByteArray), .string (⟨#[47, 97, 98]⟩ : ByteArray)] w fun e w' => e = .returned (.bool true) ∧ w = w' := by
  have h := path21 (⟨#[47, 97, 42]⟩ : ByteArray) (⟨#[47, 97, 98]⟩ : ByteArray) w (by decide) (by decide)
  have e : pathTakes (⟨#[47, 97, 42]⟩ : ByteArray).data.toList (⟨#[47, 97, 98]⟩ : ByteArray).data.toList = true := by decide +kernel
  rw [e] at h
  exact h
theorem aw21b (w : World) : Calls Try.prog 21 #[.string (⟨#[47, 97]⟩ : ByteArray), .string (⟨#[47, 97, 47]⟩ : ByteArray)] w fun e w' => e = .returned (.bool false) ∧ w = w' := by
  have h := path21 (⟨#[47, 97]⟩ : ByteArray) (⟨#[47, 97, 47]⟩ : ByteArray) w (by decide) (by decide)
  have e : pathTakes (⟨#[47, 97]⟩ : ByteArray).data.toList (⟨#[47, 97, 47]⟩ : ByteArray).data.toList = false := by decide +kernel
  rw [e] at h
  exact h
theorem aw19a (w : World) : Calls Try.prog 19 #[.string (⟨#[42, 46, 65]⟩ : ByteArray), .string (⟨#[120, 46, 97]⟩ : ByteArray)] w fun e w' => e = .returned (.bool true) ∧ Below w.heap.size w w' := by
  have h := host19 (⟨#[42, 46, 65]⟩ : ByteArray) (⟨#[120, 46, 97]⟩ : ByteArray) w (by decide) (by decide)
  have e : hostTakes (⟨#[42, 46, 65]⟩ : ByteArray).data.toList (⟨#[120, 46, 97]⟩ : ByteArray).data.toList = true := by decide +kernel
  rw [e] at h
  exact h
theorem aw19b (w : World) : Calls Try.prog 19 #[.string (⟨#[42, 46, 97]⟩ : ByteArray), .string (⟨#[97]⟩ : ByteArray)] w fun e w' => e = .returned (.bool false) ∧ Below w.heap.size w w' := by
  have h := host19 (⟨#[42, 46, 97]⟩ : ByteArray) (⟨#[97]⟩ : ByteArray) w (by decide) (by decide)
  have e : hostTakes (⟨#[42, 46, 97]⟩ : ByteArray).data.toList (⟨#[97]⟩ : ByteArray).data.toList = false := by decide +kernel
  rw [e] at h
  exact h
theorem aw27 (w : World) : Calls Try.prog 27 #[.string (⟨#[42, 46, 97]⟩ : ByteArray), .string (⟨#[42, 46, 98, 46, 97]⟩ : ByteArray)] w fun e w' => e = .returned (.bool true) ∧ Below w.heap.size w w' := by
  have h := covhost27 (⟨#[42, 46, 97]⟩ : ByteArray) (⟨#[42, 46, 98, 46, 97]⟩ : ByteArray) w (by decide) (by decide)
  have e : hostCovers (⟨#[42, 46, 97]⟩ : ByteArray).data.toList (⟨#[42, 46, 98, 46, 97]⟩ : ByteArray).data.toList = true := by decide +kernel
  rw [e] at h
  exact h
theorem aw33 (w : World) : Calls Try.prog 33 #[.string (⟨#[98]⟩ : ByteArray), .string (⟨#[42, 46, 122]⟩ : ByteArray)] w fun e w' => e = .returned (.int .i64 (-1)) ∧ Below w.heap.size w w' := by
  have h := order33 (⟨#[98]⟩ : ByteArray) (⟨#[42, 46, 122]⟩ : ByteArray) w (by decide) (by decide)
  have e : orderH (⟨#[98]⟩ : ByteArray).data.toList (⟨#[42, 46, 122]⟩ : ByteArray).data.toList = -1 := by decide +kernel
  rw [e] at h
  exact h
theorem aw11 (w : World) : Calls Try.prog 11 #[.string (⟨#[83, 104, 111, 112, 46, 69, 120, 97, 109, 112, 108, 101]⟩ : ByteArray)] w fun e w' => e = .returned (.tuple #[.string (⟨#[115, 104, 111, 112, 46, 101, 120, 97, 109, 112, 108, 101]⟩ : ByteArray), .bool true]) ∧ Below w.heap.size w w' := by
  have h := fold_any (⟨#[83, 104, 111, 112, 46, 69, 120, 97, 109, 112, 108, 101]⟩ : ByteArray) w (by decide)
  have e : foldH (⟨#[83, 104, 111, 112, 46, 69, 120, 97, 109, 112, 108, 101]⟩ : ByteArray).data.toList = some [115, 104, 111, 112, 46, 101, 120, 97, 109, 112, 108, 101] := by decide +kernel
  rw [foldV_some e] at h
  exact h
theorem aw25 (w : World) : Calls Try.prog 25 #[.slice (some ⟨w.heap.size, 0, none⟩) 3 3, .string (⟨#[120, 46, 98, 46, 97]⟩ : ByteArray)] (w.alloc (.cells #[.string (⟨#[42]⟩ : ByteArray), .string (⟨#[42, 46, 97]⟩ : ByteArray), .string (⟨#[42, 46, 98, 46, 97]⟩ : ByteArray)] 9)) fun e w' => e = .returned (.tuple #[.int .i64 2, .bool true]) ∧ Below w.heap.size w w' := by
  refine (best25 awl (by decide +kernel) (⟨#[120, 46, 98, 46, 97]⟩ : ByteArray) (by decide) _ _ (rds_lit w _ _ _) (by decide)).mono ?_
  rintro e w' ⟨i, f, rfl, hB, hb⟩
  obtain ⟨rfl, rfl⟩ := best_unique hB aw_best
  exact ⟨rfl, Tp.Below_seq (Tp.Below_alloc w _) hb⟩
set_option maxHeartbeats 1000000 in
theorem awake_any (w : World) : Calls Try.prog 35 #[] w fun e w' => e = .returned (.bool true) ∧ Below w.heap.size w w' := by
  have hb := Lib.hid (Below.refl w.heap.size w)
  have e1 : ((⟨#[115, 104, 111, 112, 46, 101, 120, 97, 109, 112, 108, 101]⟩ : ByteArray).toList == [115, 104, 111, 112, 46, 101, 120, 97, 109, 112, 108, 101]) = true := by decide +kernel
  go_enter Try.func35, Try.ntmps35
  go_wp2_with fail
  refine (aw11 _).mono ?_
  rintro e w' ⟨rfl, hb'⟩
  replace hb := Lib.hid (Tp.Below_seq hb.out hb')
  clear hb'
  go_wp2_with fail
  refine (aw25 _).mono ?_
  rintro e w' ⟨rfl, hb'⟩
  replace hb := Lib.hid (Tp.Below_seq hb.out hb')
  clear hb'
  go_wp2_with fail
  refine (aw13a _).mono ?_
  rintro e w' ⟨rfl, hb'⟩
  replace hb := Lib.hid (Tp.Below_seq hb.out hb')
  clear hb'
  go_wp2_with fail
  refine (aw13b _).mono ?_
  rintro e w' ⟨rfl, hb'⟩
  replace hb := Lib.hid (Tp.Below_seq hb.out hb')
  clear hb'
  go_wp2_with fail
  refine (aw21a _).mono ?_
  rintro e w' ⟨rfl, rfl⟩
  go_wp2_with fail
  refine (aw21b _).mono ?_
  rintro e w' ⟨rfl, rfl⟩
  go_wp2_with fail
  refine (aw19a _).mono ?_
  rintro e w' ⟨rfl, hb'⟩
  replace hb := Lib.hid (Tp.Below_seq hb.out hb')
  clear hb'
  go_wp2_with fail
  refine (aw19b _).mono ?_
  rintro e w' ⟨rfl, hb'⟩
  replace hb := Lib.hid (Tp.Below_seq hb.out hb')
  clear hb'
  go_wp2_with fail
  refine (aw27 _).mono ?_
  rintro e w' ⟨rfl, hb'⟩
  replace hb := Lib.hid (Tp.Below_seq hb.out hb')
  clear hb'
  go_wp2_with fail
  refine (aw33 _).mono ?_
  rintro e w' ⟨rfl, hb'⟩
  replace hb := Lib.hid (Tp.Below_seq hb.out hb')
  clear hb'
  go_wp2
  go_ret
  exact ⟨rfl, hb.out⟩
end Go.Proofs.Ytndbnomhhfhdfaa
