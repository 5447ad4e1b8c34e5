/- The walks of health.New and of the laws' own awake. -/
import Derived.Test.YteedjgkinmkmoaaProbe
namespace Go.Proofs.Yteedjgkinmkmoaa
open Go.ChangeShapes Go.WideShapes Go.ChangeAt Go.RowKit
open Go.Tp
set_option linter.unusedVariables false

def newS (rise fall : Int) : St := ⟨rise, fall, 1, 0, 0, 0, 0⟩
theorem newS_ok {rise fall : Int} (h1 : 1 ≤ rise ∧ rise ≤ 100) (h2 : 1 ≤ fall ∧ fall ≤ 100) : Ok (newS rise fall) 0 := ⟨h1, h2, .inr rfl, ⟨by unfold newS; dsimp only; decide, by unfold newS; dsimp only; decide⟩, by unfold newS; dsimp only; decide, ⟨by unfold newS; dsimp only; decide, by unfold newS; dsimp only; decide⟩, ⟨by unfold newS; dsimp only; decide, by unfold newS; dsimp only; decide⟩⟩
theorem idx0 (a b : Int) (w : World) : (Instr.index 51 (.agg #[.int .i64 a, .int .i64 b]) (.int .i64 0)).run Try.prog w = .ok (.int .i64 a) w := by kernel_rfl
theorem idx1 (a b : Int) (w : World) : (Instr.index 51 (.agg #[.int .i64 a, .int .i64 b]) (.int .i64 1)).run Try.prog w = .ok (.int .i64 b) w := by kernel_rfl

theorem new_ok (rise fall : Int) (w : World) (h1 : 1 ≤ rise ∧ rise ≤ 100) (h2 : 1 ≤ fall ∧ fall ≤ 100) :
    Calls Try.prog 10 #[.int .i64 rise, .int .i64 fall] w fun e w' => e = .returned (.tuple #[.pointer (some ⟨w.heap.size, 0, none⟩), .int .i64 0]) ∧ w.alloc (blk (newS rise fall)) = w' := by
  have i0 := idx0 rise fall
  have i1 := idx1 rise fall
  obtain ⟨a1, a2⟩ := h1
  obtain ⟨b1, b2⟩ := h2
  go_enter Try.func10, Try.ntmps10
  go_wp2
  refine wp_loop_rounds 3 ?_
  rw [rounds_succ]
  go_wp2
  rw [rounds_succ]
  go_wp2
  rw [rounds_succ]
  go_wp2
  go_ret2
  exact ⟨rfl, rfl⟩
theorem new_bad (rise fall : Int) (w : World) (h : ¬ (1 ≤ rise ∧ rise ≤ 100) ∨ ¬ (1 ≤ fall ∧ fall ≤ 100)) :
    Calls Try.prog 10 #[.int .i64 rise, .int .i64 fall] w fun e w' => e = .returned (.tuple #[.pointer none, .int .i64 2]) ∧ Below w.heap.size w w' := by
  have i0 := idx0 rise fall
  have i1 := idx1 rise fall
  rcases (show rise < 1 ∨ (1 ≤ rise ∧ 100 < rise) ∨ (1 ≤ rise ∧ rise ≤ 100 ∧ fall < 1) ∨ (1 ≤ rise ∧ rise ≤ 100 ∧ 1 ≤ fall ∧ 100 < fall) from by omega) with h1 | ⟨h1, h2⟩ | ⟨h1, h2, h3⟩ | ⟨h1, h2, h3, h4⟩
  all_goals
    clear h
    go_enter Try.func10, Try.ntmps10
    go_wp2
    refine wp_loop_rounds 3 ?_
    rw [rounds_succ]
    go_wp2
    try (rw [rounds_succ]; go_wp2)
    go_ret2
    exact ⟨rfl, Tp.Below_alloc _ _⟩

abbrev ONE : Nat := 4607182418800017408
abbrev EIGHT : Nat := 4620693217682128896
abbrev FOUR : Nat := 4616189618054758400
def sA : St := probeS (newS 2 1) false ONE
def sB : St := probeS sA true EIGHT
def sC : St := probeS sB true FOUR
theorem sB_pl : (sB.pl == 1) = false := by decide +kernel
theorem sB_row : sB.row = 1 := by decide +kernel
theorem sC_pl : (sC.pl == 1) = true := by decide +kernel
theorem sC_row : sC.row = 0 := by decide +kernel
theorem sC_turns : sC.turns = 2 := by decide +kernel
theorem sC_timed : sC.timed = 2 := by decide +kernel
theorem sC_took : sC.took = 4619567317775286272 := by decide +kernel
theorem took7 : (FloatKind.f64.format.order 4619567317775286272 4619567317775286272 == some Ordering.eq) = true := by decide +kernel

theorem only_below {b : Nat} {w w1 w2 : World} (h : Below w.heap.size w w1) (hb : w.heap.size ≤ b) (ho : Only b w1 w2) : Below w.heap.size w w2 := h.trans (ho.below hb)

set_option maxHeartbeats 2000000 in
theorem awake_any (w : World) : Calls Try.prog 9 #[] w fun e w' => e = .returned (.bool true) ∧ Below w.heap.size w w' := by
  have k0 := newS_ok (rise := 2) (fall := 1) (by decide) (by decide)
  have kA := probeS_ok k0 false ONE (by decide)
  have kB := probeS_ok kA true EIGHT (by decide)
  have hn := new_ok 2 1 w (by decide) (by decide)
  go_enter Try.func9, Try.ntmps9
  go_wp2_with fail
  refine hn.mono ?_
  rintro e w1 ⟨rfl, rfl⟩
  have hb1 : (w.alloc (blk (newS 2 1))).heap[w.heap.size]? = some (blk (newS 2 1)) := heap_alloc_new w _
  have hbel1 := Tp.Below_alloc w (blk (newS 2 1))
  generalize w.alloc (blk (newS 2 1)) = w1 at *
  clear hn
  go_wp2_with fail
  refine (new_bad 0 1 w1 (by omega)).mono ?_
  rintro e w2 ⟨rfl, hbel2⟩
  have hlt : w.heap.size < w1.heap.size := (Array.getElem?_eq_some_iff.1 hb1).1
  have hb2 : w2.heap[w.heap.size]? = some (blk (newS 2 1)) := (hbel2.block _ hlt).trans hb1
  have hbel := Tp.Below_seq hbel1 hbel2
  clear hb1 hbel1 hbel2 hlt
  obtain ⟨b, hbn⟩ : ∃ b, b = w.heap.size := ⟨_, rfl⟩
  rw [← hbn] at hb2 ⊢
  have hbn' : w.heap.size ≤ b := by omega
  have hh := healthy_any b _ w2 hb2
  have hpA := probe_any b (newS 2 1) false ONE 0 w2 hb2 (by decide) k0 (by decide)
  have e0 : ((newS 2 1).pl == 1) = true := by decide +kernel
  rw [e0] at hh
  replace hbn := Lib.hid hbn
  replace hh := Lib.hid hh
  replace hpA := Lib.hid hpA
  clear e0 hb2
  go_wp2_with (go_at_call 11; refine hh.out.mono ?_; rintro e w' ⟨rfl, rfl⟩)
  refine hpA.out.mono ?_
  rintro e w3 ⟨rfl, hb3, ho3⟩
  have hbel3 := only_below hbel hbn' ho3
  have hpB := Lib.hid (probe_any b sA true EIGHT 1 w3 hb3 (by decide) kA (by decide))
  clear hpA hb3 ho3 hbel hh
  go_wp2_with fail
  refine hpB.out.mono ?_
  rintro e w4 ⟨rfl, hb4, ho4⟩
  have hbel4 := only_below hbel3 hbn' ho4
  have hpC := Lib.hid (probe_any b sB true FOUR 2 w4 hb4 (by decide) kB (by decide))
  have hh4 := healthy_any b _ w4 hb4
  have hr4 := row_any b _ w4 hb4
  have x1 := sB_pl
  have x2 := sB_row
  unfold sB sA at x1 x2
  rw [show (probeS sA true EIGHT) = probeS (probeS (newS 2 1) false ONE) true EIGHT from rfl, x1] at hh4
  rw [show (probeS sA true EIGHT) = probeS (probeS (newS 2 1) false ONE) true EIGHT from rfl, x2] at hr4
  replace hh4 := Lib.hid hh4
  replace hr4 := Lib.hid hr4
  clear hpB hb4 ho4 hbel3 x1 x2
  go_wp2_with (first | (go_at_call 11; refine hh4.out.mono ?_; rintro e w' ⟨rfl, rfl⟩) | (go_at_call 14; refine hr4.out.mono ?_; rintro e w' ⟨rfl, rfl⟩))
  refine hpC.out.mono ?_
  rintro e w5 ⟨rfl, hb5, ho5⟩
  have hbel5 := only_below hbel4 hbn' ho5
  have hb5' : w5.heap[b]? = some (blk sC) := hb5
  have g1 := healthy_any b _ w5 hb5'
  have g2 := row_any b _ w5 hb5'
  have g3 := turns_any b _ w5 hb5'
  have g4 := took_any b _ w5 hb5'
  have g5 := timed_any b _ w5 hb5'
  rw [sC_pl] at g1
  rw [sC_row] at g2
  rw [sC_turns] at g3
  rw [sC_took] at g4
  rw [sC_timed] at g5
  have g6 := took7
  replace g1 := Lib.hid g1
  replace g2 := Lib.hid g2
  replace g3 := Lib.hid g3
  replace g4 := Lib.hid g4
  replace g5 := Lib.hid g5
  clear hpC hb5 hb5' ho5 hbel4 hh4 hr4 k0 kA kB
  go_wp2_with (first | (go_at_call 11; refine g1.out.mono ?_; rintro e w' ⟨rfl, rfl⟩) | (go_at_call 14; refine g2.out.mono ?_; rintro e w' ⟨rfl, rfl⟩) | (go_at_call 12; refine g3.out.mono ?_; rintro e w' ⟨rfl, rfl⟩) | (go_at_call 15; refine g4.out.mono ?_; rintro e w' ⟨rfl, rfl⟩) | (go_at_call 16; refine g5.out.mono ?_; rintro e w' ⟨rfl, rfl⟩))
  go_ret
  exact ⟨rfl, hbel5⟩
end Go.Proofs.Yteedjgkinmkmoaa
