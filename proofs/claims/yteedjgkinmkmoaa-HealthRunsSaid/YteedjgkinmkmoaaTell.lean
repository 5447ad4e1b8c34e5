/- The walks of Copy, Slower and of the laws' own alike. -/
import Derived.Test.YteedjgkinmkmoaaNew
namespace Go.Proofs.Yteedjgkinmkmoaa
open Go.ChangeShapes Go.WideShapes Go.ChangeAt Go.RowKit
open Go.Tp
set_option linter.unusedVariables false

theorem copy_nil (w : World) : Calls Try.prog 23 #[.pointer none] w fun e w' => e = .returned (.pointer none) ∧ w = w' := by
  go_enter Try.func23, Try.ntmps23
  go_wp2
  go_ret
  exact ⟨rfl, rfl⟩
theorem copy_any (b : Nat) (s : St) (w : World) (hb : w.heap[b]? = some (blk s)) : Calls Try.prog 23 #[.pointer (some ⟨b, 0, none⟩)] w fun e w' => e = .returned (.pointer (some ⟨w.heap.size, 0, none⟩)) ∧ w.alloc (blk s) = w' := by
  obtain ⟨c0, c1, c2, c3, c4, c5, c6, fr⟩ := cells_of hb
  clear fr hb
  go_enter Try.func23, Try.ntmps23
  go_wp2
  go_ret
  exact ⟨rfl, rfl⟩

theorem call29 (x : Nat) (w : World) : (callFunc 29 #[.float .f64 x]).run Try.prog w = .ok (.value (.int .u64 x)) w := by
  rw [run_callFunc_extern (fn := Try.f29) (e := Extern.MathFloatBits.float64bits) Try.func29 (by kernel_rfl) (by kernel_rfl) (by kernel_rfl) (by kernel_rfl)]
  rfl
theorem alike_same (x : Nat) (w : World) :
    Calls Try.prog 25 #[.float .f64 x, .float .f64 x] w fun e w' => e = .returned (.bool true) ∧ w = w' := by
  have h33 := call29
  go_enter Try.func25, Try.ntmps25
  go_wp2
  go_ret
  exact ⟨rfl, rfl⟩
/-- A state or none, behind a pointer. -/
def PtrIs (w : World) (v : Value) : Option St → Prop
  | none => v = .pointer none
  | some s => ∃ b, v = .pointer (some ⟨b, 0, none⟩) ∧ w.heap[b]? = some (blk s)
def timedOf : Option St → Int | none => 0 | some s => s.timed
def tookOf : Option St → Nat | none => 0 | some s => s.took
theorem timed_ptr {w : World} {v : Value} {o : Option St} (h : PtrIs w v o) : Calls Try.prog 16 #[v] w fun e w' => e = .returned (.int .i64 (timedOf o)) ∧ w = w' := by
  cases o with
  | none => obtain rfl := h; exact timed_nil w
  | some s => obtain ⟨b, rfl, hb⟩ := h; exact timed_any b s w hb
def slowerB (a b : Option St) : Bool := decide (0 < timedOf a) && (decide (0 < timedOf b) && (FloatKind.f64.format.order (tookOf a) (tookOf b) == some Ordering.gt))
theorem slower_ptr {w : World} {u v : Value} {a b : Option St} (hu : PtrIs w u a) (hv : PtrIs w v b) : Calls Try.prog 18 #[u, v] w fun e w' => e = .returned (.bool (slowerB a b)) ∧ ∃ n, w.drewN n = w' := by
  have ht : ∀ m, Calls Try.prog 16 #[u] (w.drewN m) fun e w' => e = .returned (.int .i64 (timedOf a)) ∧ w.drewN m = w' := fun m => timed_ptr (w := w.drewN m) (by cases a with | none => exact hu | some s => exact hu)
  have hs : ∀ m, Calls Try.prog 16 #[v] (w.drewN m) fun e w' => e = .returned (.int .i64 (timedOf b)) ∧ w.drewN m = w' := fun m => timed_ptr (w := w.drewN m) (by cases b with | none => exact hv | some s => exact hv)
  have hd : slowerB a b = (decide (0 < timedOf a) && (decide (0 < timedOf b) && (FloatKind.f64.format.order (tookOf a) (tookOf b) == some Ordering.gt))) := rfl
  by_cases h1 : 0 < timedOf a
  · by_cases h2 : 0 < timedOf b
    · cases a with
      | none => exact absurd h1 (by decide)
      | some s =>
        cases b with
        | none => exact absurd h2 (by decide)
        | some t =>
          obtain ⟨p, rfl, hp⟩ := hu
          obtain ⟨q, rfl, hq⟩ := hv
          have c4 := (cells_of hp).c4
          have d4 := (cells_of hq).c4
          rw [decide_eq_true h1, decide_eq_true h2] at hd
          simp only [Bool.true_and] at hd
          have e1 : tookOf (some s) = s.took := rfl
          have e2 : tookOf (some t) = t.took := rfl
          rw [e1, e2] at hd
          generalize timedOf (some s) = ta at *
          generalize timedOf (some t) = tb at *
          replace ht := Lib.hid ht
          replace hs := Lib.hid hs
          replace hd := Lib.hid hd
          clear hp hq e1 e2
          go_enter Try.func18, Try.ntmps18
          go_wp2_with fail
          go_quiet ((first | (go_at_call 16; with_reducible exact Tp.quiet_same (ht.out _)) | (go_at_call 16; with_reducible exact Tp.quiet_same (hs.out _))))
          go_wp2
          go_ret
          exact ⟨by rw [hd.out]; rfl, nq, rfl⟩
    · rw [decide_eq_true h1, decide_eq_false h2] at hd
      simp only [Bool.true_and, Bool.false_and] at hd
      have h2' : decide (0 < timedOf b) = false := decide_eq_false h2
      generalize timedOf a = ta at *
      generalize timedOf b = tb at *
      replace ht := Lib.hid ht
      replace hs := Lib.hid hs
      replace hd := Lib.hid hd
      clear hu hv
      go_enter Try.func18, Try.ntmps18
      go_wp2_with fail
      go_quiet ((first | (go_at_call 16; with_reducible exact Tp.quiet_same (ht.out _)) | (go_at_call 16; with_reducible exact Tp.quiet_same (hs.out _))))
      go_wp2
      go_ret
      exact ⟨by rw [hd.out]; rfl, nq, rfl⟩
  · rw [decide_eq_false h1] at hd
    simp only [Bool.false_and] at hd
    have h1' : decide (0 < timedOf a) = false := decide_eq_false h1
    generalize timedOf a = ta at *
    replace ht := Lib.hid ht
    replace hs := Lib.hid hs
    replace hd := Lib.hid hd
    clear hu hv
    go_enter Try.func18, Try.ntmps18
    go_wp2_with fail
    go_quiet ((first | (go_at_call 16; with_reducible exact Tp.quiet_same (ht.out _)) | (go_at_call 16; with_reducible exact Tp.quiet_same (hs.out _))))
    go_wp2
    go_ret
    exact ⟨by rw [hd.out]; rfl, nq, rfl⟩
end Go.Proofs.Yteedjgkinmkmoaa
