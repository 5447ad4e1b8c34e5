/- An endpoint's health in plain words, its block in memory, and the walks of the methods that turn it. -/
import Derived.Test.YteedjgkinmkmoaaRows
import Derived.Test.YteedjgkinmkmoaaFl4
import Derived.Test.YteedjgkinmkmoaaMem
import Derived.ProofKit
import Derived.OpenShut
import Derived.WalkLawsBesides
import Derived.Laws.Externs
import Derived.RegionTactic
import Derived.ChangeAlike
import Derived.OneCell
namespace Go.Proofs.Yteedjgkinmkmoaa
open Go.ChangeShapes Go.WideShapes Go.ChangeAt Go.RowKit
open Go.Tp (Fl.ge Fl.INF)
open Go.Tp
set_option linter.unusedVariables false

structure St where
  rise : Int
  fall : Int
  pl : Int
  row : Int
  took : Nat
  timed : Int
  turns : Int

def blk (s : St) : Obj := .cells #[.int .i64 s.rise, .int .i64 s.fall, .int .i64 s.pl, .int .i64 s.row, .float .f64 s.took, .int .i64 s.timed, .int .i64 s.turns] 53 (0, 0)

/-- All but one block is as it was. -/
structure Only (b : Nat) (w w' : World) : Prop where
  os : w'.os = w.os
  tape : w'.tape = w.tape
  output : w'.output = w.output
  size : w'.heap.size = w.heap.size
  block : ∀ k, k ≠ b → w'.heap[k]? = w.heap[k]?
theorem Only.refl (b : Nat) (w : World) : Only b w w := ⟨rfl, rfl, rfl, rfl, fun _ _ => rfl⟩
theorem Only.trans {b : Nat} {w1 w2 w3 : World} (h : Only b w1 w2) (k : Only b w2 w3) : Only b w1 w3 :=
  ⟨k.os.trans h.os, k.tape.trans h.tape, k.output.trans h.output, k.size.trans h.size, fun i hi => (k.block i hi).trans (h.block i hi)⟩
theorem Only.setCell (b i : Nat) (v : Value) (w : World) : Only b w (w.setCell ⟨b, i, none⟩ v) :=
  ⟨rfl, rfl, rfl, by simp [World.setCell], fun k hk => Below.heap_setCell _ _ _ _ hk⟩
theorem Only.drewN (b : Nat) (w : World) (n : Nat) : Only b w (w.drewN n) := ⟨rfl, rfl, rfl, rfl, fun _ _ => rfl⟩
theorem Only.below {b B : Nat} {w w' : World} (h : Only b w w') (hb : B ≤ b) : Below B w w' := ⟨h.os, h.tape, h.output, Nat.le_of_eq h.size.symm, fun k hk => h.block k (by omega)⟩

theorem heap_set {w : World} {b i : Nat} {c : Array Value} {T : TypeId} (v : Value) (h : w.heap[b]? = some (.cells c T (0, 0))) : (w.setCell ⟨b, i, none⟩ v).heap[b]? = some (.cells (c.setIfInBounds i v) T (0, 0)) := by
  simp [World.setCell, Array.getElem?_modify, h]

structure Cells (w : World) (b : Nat) (s : St) : Prop where
  c0 : w.cell? ⟨b, 0, none⟩ = some (.int .i64 s.rise)
  c1 : w.cell? ⟨b, 1, none⟩ = some (.int .i64 s.fall)
  c2 : w.cell? ⟨b, 2, none⟩ = some (.int .i64 s.pl)
  c3 : w.cell? ⟨b, 3, none⟩ = some (.int .i64 s.row)
  c4 : w.cell? ⟨b, 4, none⟩ = some (.float .f64 s.took)
  c5 : w.cell? ⟨b, 5, none⟩ = some (.int .i64 s.timed)
  c6 : w.cell? ⟨b, 6, none⟩ = some (.int .i64 s.turns)
  fr : ∀ i, w.frozen? ⟨b, i, none⟩ = false
theorem cells_of {w : World} {b : Nat} {s : St} (h : w.heap[b]? = some (blk s)) : Cells w b s := by
  unfold blk at h
  refine ⟨?_, ?_, ?_, ?_, ?_, ?_, ?_, fun i => frozen_of_row w b i _ _ h⟩ <;> (rw [cell_of_row w b _ _ _ _ h]; rfl)

/-! ### count -/
def rowN (r step : Int) : Int := if (if r * step < 0 then 0 else r) * step < 1000000 then (if r * step < 0 then 0 else r) + step else (if r * step < 0 then 0 else r)
def countS (s : St) (step : Int) : St := { s with row := rowN s.row step }
theorem rowN_bd {r step : Int} (hs : step = 1 ∨ step = -1) (h : -1000000 ≤ r ∧ r ≤ 1000000) : -1000000 ≤ rowN r step ∧ rowN r step ≤ 1000000 := by
  unfold rowN
  rcases hs with rfl | rfl <;> (split <;> split <;> omega)

def CountPost (b : Nat) (s : St) (step : Int) (w : World) (e : Ending) (w' : World) : Prop := e = .returned (.tuple #[]) ∧ w'.heap[b]? = some (blk (countS s step)) ∧ Only b w w'
theorem count_up (b : Nat) (s : St) (w : World) (hb : w.heap[b]? = some (blk s)) (hr : -1000000 ≤ s.row ∧ s.row ≤ 1000000) :
    Calls Try.prog 27 #[.pointer (some ⟨b, 0, none⟩), .int .i64 1] w (CountPost b s 1 w) := by
  obtain ⟨c0, c1, c2, c3, c4, c5, c6, fr⟩ := cells_of hb
  have f3 := fr 3
  obtain ⟨hr1, hr2⟩ := hr
  clear c0 c1 c2 c4 c5 c6 fr
  replace hb := Lib.hid hb
  rcases (show s.row < 0 ∨ (0 ≤ s.row ∧ s.row < 1000000) ∨ (¬ (s.row < 0) ∧ ¬ (0 ≤ s.row ∧ s.row < 1000000)) from by omega) with h1 | h1 | h1
  · have hc : rowN s.row 1 = 1 := by unfold rowN; split <;> split <;> omega
    have hc2 : countS s 1 = { s with row := 1 } := by unfold countS; rw [hc]
    replace hc2 := Lib.hid hc2
    clear hc
    go_enter Try.func27, Try.ntmps27
    go_wp2
    go_end0
    exact ⟨rfl, by rw [hc2.out]; exact heap_set _ (heap_set _ hb.out), (Only.setCell _ _ _ _).trans (Only.setCell _ _ _ _)⟩
  · have hc : rowN s.row 1 = s.row + 1 := by unfold rowN; split <;> split <;> omega
    have hc2 : countS s 1 = { s with row := s.row + 1 } := by unfold countS; rw [hc]
    replace hc2 := Lib.hid hc2
    clear hc
    go_enter Try.func27, Try.ntmps27
    go_wp2
    go_end0
    exact ⟨rfl, by rw [hc2.out]; exact heap_set _ hb.out, Only.setCell _ _ _ _⟩
  · have hc : rowN s.row 1 = s.row := by unfold rowN; split <;> split <;> omega
    have hc2 : countS s 1 = { s with row := s.row } := by unfold countS; rw [hc]
    replace hc2 := Lib.hid hc2
    clear hc
    go_enter Try.func27, Try.ntmps27
    go_wp2
    go_end0
    exact ⟨rfl, by rw [hc2.out]; exact hb.out, Only.refl _ _⟩
theorem count_down (b : Nat) (s : St) (w : World) (hb : w.heap[b]? = some (blk s)) (hr : -1000000 ≤ s.row ∧ s.row ≤ 1000000) :
    Calls Try.prog 27 #[.pointer (some ⟨b, 0, none⟩), .int .i64 (-1)] w (CountPost b s (-1) w) := by
  obtain ⟨c0, c1, c2, c3, c4, c5, c6, fr⟩ := cells_of hb
  have f3 := fr 3
  obtain ⟨hr1, hr2⟩ := hr
  clear c0 c1 c2 c4 c5 c6 fr
  replace hb := Lib.hid hb
  rcases (show 0 < s.row ∨ (s.row ≤ 0 ∧ -1000000 < s.row) ∨ (¬ (0 < s.row) ∧ ¬ (s.row ≤ 0 ∧ -1000000 < s.row)) from by omega) with h1 | h1 | h1
  · have hc : rowN s.row (-1) = -1 := by unfold rowN; split <;> split <;> omega
    have hc2 : countS s (-1) = { s with row := -1 } := by unfold countS; rw [hc]
    replace hc2 := Lib.hid hc2
    clear hc
    go_enter Try.func27, Try.ntmps27
    go_wp2
    go_end0
    exact ⟨rfl, by rw [hc2.out]; exact heap_set _ (heap_set _ hb.out), (Only.setCell _ _ _ _).trans (Only.setCell _ _ _ _)⟩
  · have hc : rowN s.row (-1) = s.row + (-1) := by unfold rowN; split <;> split <;> omega
    have hc2 : countS s (-1) = { s with row := s.row + (-1) } := by unfold countS; rw [hc]
    replace hc2 := Lib.hid hc2
    clear hc
    go_enter Try.func27, Try.ntmps27
    go_wp2
    go_end0
    exact ⟨rfl, by rw [hc2.out]; exact heap_set _ hb.out, Only.setCell _ _ _ _⟩
  · have hc : rowN s.row (-1) = s.row := by unfold rowN; split <;> split <;> omega
    have hc2 : countS s (-1) = { s with row := s.row } := by unfold countS; rw [hc]
    replace hc2 := Lib.hid hc2
    clear hc
    go_enter Try.func27, Try.ntmps27
    go_wp2
    go_end0
    exact ⟨rfl, by rw [hc2.out]; exact hb.out, Only.refl _ _⟩
end Go.Proofs.Yteedjgkinmkmoaa
