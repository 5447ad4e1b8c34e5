/- The document's own state: the walks of its New and Probe. -/
import Derived.Test.YteedjgkinmkmoaaNew
import Derived.Test.YteedjgkinmkmoaaOpen
namespace Go.Proofs.Yteedjgkinmkmoaa
open Go.ChangeShapes Go.WideShapes Go.ChangeAt Go.RowKit
open Go.Tp
set_option linter.unusedVariables false

def rblk (rise fall : Int) (pv : Value) : Obj := .cells #[.int .i64 rise, .int .i64 fall, pv] 60 (0, 0)

theorem refnew_ok (rise fall : Int) (w : World) (h1 : 1 ≤ rise ∧ rise ≤ 100) (h2 : 1 ≤ fall ∧ fall ≤ 100) :
    Calls Try.prog 21 #[.int .i64 rise, .int .i64 fall] w fun e w' => e = .returned (.tuple #[.pointer (some ⟨w.heap.size, 0, none⟩), .int .i64 0]) ∧ w.alloc (rblk rise fall (.slice none 0 0)) = w' := by
  obtain ⟨a1, a2⟩ := h1
  obtain ⟨b1, b2⟩ := h2
  go_enter Try.func21, Try.ntmps21
  go_wp2
  go_ret2
  exact ⟨rfl, rfl⟩
theorem refnew_bad (rise fall : Int) (w : World) (h : ¬ (1 ≤ rise ∧ rise ≤ 100) ∨ ¬ (1 ≤ fall ∧ fall ≤ 100)) :
    Calls Try.prog 21 #[.int .i64 rise, .int .i64 fall] w fun e w' => e = .returned (.tuple #[.pointer none, .int .i64 2]) ∧ w = w' := by
  rcases (show rise < 1 ∨ (1 ≤ rise ∧ 100 < rise) ∨ (1 ≤ rise ∧ rise ≤ 100 ∧ fall < 1) ∨ (1 ≤ rise ∧ rise ≤ 100 ∧ 1 ≤ fall ∧ 100 < fall) from by omega) with h1 | ⟨h1, h2⟩ | ⟨h1, h2, h3⟩ | ⟨h1, h2, h3, h4⟩
  all_goals
    clear h
    go_enter Try.func21, Try.ntmps21
    go_wp2
    go_ret2
    exact ⟨rfl, rfl⟩

/-- The cells of probes. -/
def pcells (ps : List (Bool × Nat)) : List Value := ps.flatMap fun p => [.bool p.1, .float .f64 p.2]
theorem pcells_length (ps : List (Bool × Nat)) : (pcells ps).length = ps.length * 2 := by
  induction ps with
  | nil => rfl
  | cons p r ih => simp [pcells] at ih ⊢; omega
theorem pcells_snoc (ps : List (Bool × Nat)) (p : Bool × Nat) : pcells (ps ++ [p]) = pcells ps ++ [.bool p.1, .float .f64 p.2] := by simp [pcells]

/-- The document's state in memory: its block, and the probes that it keeps. -/
structure RSt (w : World) (base bd : Nat) (rise fall : Int) (ps : List (Bool × Nat)) (pv : Value) : Prop where
  blk : w.heap[bd]? = some (rblk rise fall pv)
  own : w.ownsRow base 32 2 pv ps.length (pcells ps)
/-- Blocks of other element types, and below the base, are as they were. -/
structure Rest (bd : Nat) (pv : Value) (w w' : World) : Prop where
  os : w'.os = w.os
  tape : w'.tape = w.tape
  output : w'.output = w.output
  size : w.heap.size ≤ w'.heap.size
  block : ∀ k, k < w.heap.size → k ≠ bd → pv.ownBlock ≠ some k → w'.heap[k]? = w.heap[k]?

theorem Try.info32 : (Try.prog.info? 32).map (fun i => (i.zero, i.size, i.bytes)) = some (some (.agg #[.bool false, .float .f64 0]), 2, 16) := by kernel_rfl

theorem refprobe_nil (ok : Bool) (t : Nat) (w : World) : Calls Try.prog 22 #[.pointer none, .bool ok, .float .f64 t] w fun e w' => e = .returned (.int .i64 1) ∧ w = w' := by
  go_enter Try.func22, Try.ntmps22
  go_wp2
  go_ret
  exact ⟨rfl, rfl⟩

def RefProbePost (base bd : Nat) (rise fall : Int) (ps : List (Bool × Nat)) (pv : Value) (p : Bool × Nat) (w : World) (e : Ending) (w' : World) : Prop :=
  ∃ pv', e = .returned (.int .i64 0) ∧ RSt w' base bd rise fall (ps ++ [p]) pv' ∧ Rest bd pv w w'

set_option maxHeartbeats 1000000 in
theorem refprobe_any (base bd : Nat) (rise fall : Int) (ps : List (Bool × Nat)) (pv : Value) (ok : Bool) (t : Nat) (w : World) (h : RSt w base bd rise fall ps pv) (hbase : base ≤ w.heap.size) (hlen : ps.length ≤ 100000) :
    Calls Try.prog 22 #[.pointer (some ⟨bd, 0, none⟩), .bool ok, .float .f64 t] w (RefProbePost base bd rise fall ps pv (ok, t) w) := by
  obtain ⟨i0, hi, hz0, hz1, hz2⟩ := info_parts Try.info32
  obtain ⟨hb, hown⟩ := h
  have hbd : bd < w.heap.size := (Array.getElem?_eq_some_iff.1 hb).1
  have c2 : w.cell? ⟨bd, 2, none⟩ = some pv := by rw [cell_of_row w bd _ _ _ _ hb]; rfl
  have hsl : ∃ ao n c, pv = .slice ao n c := by
    rcases hown.2 with ⟨h, _⟩ | ⟨g, cap, cur, h, _⟩
    · exact ⟨_, _, _, h⟩
    · exact ⟨_, _, _, h⟩
  have hpne : pv.ownBlock ≠ some bd := by
    intro he
    rcases hown.2 with ⟨h, _⟩ | ⟨g, cap, cur, h, _, hg, _⟩
    · rw [h] at he; cases he
    · rw [h] at he
      simp [Value.ownBlock] at he
      subst he
      rw [hb] at hg
      unfold rblk at hg
      simp at hg
  obtain ⟨ao, n0, c0, rfl⟩ := hsl
  replace hb := Lib.hid hb
  replace hpne := Lib.hid hpne
  go_enter Try.func22, Try.ntmps22
  go_wp2_with (at_builtin; refine wpList_append_own _ rfl _ _ 22 rfl base 32 i0 (.agg #[.bool false, .float .f64 0]) 2 16 Try.underlying22 hi hz0 hz1 hz2 rfl (by decide) _ ps.length (pcells ps) rfl (hown.alloc _) ⟨w.heap.size, 0, none⟩ 1 1 [.bool ok, .float .f64 t] rfl rfl ?c1 ?c2 ?c3 ?c4 ?c5 ?_)
  case c1 =>
    intro j u hj
    rw [show ((⟨w.heap.size, 0, none⟩ : Addr).add j) = ⟨w.heap.size, j, none⟩ from by unfold Addr.add; split <;> simp_all]
    rw [cell_of_row _ _ _ _ _ _ (heap_alloc_new w _)]
    simpa using hj
  case c2 =>
    intro u hu
    simp at hu
    rcases hu with rfl | rfl <;> rfl
  case c3 => unfold maxLen; omega
  case c4 => omega
  case c5 => simp; omega
  intro v' w1 hown' hg hnil
  have hne : v' ≠ .slice none 0 0 := by first | exact hnil | (intro h; have := (hnil.1 h).2; omega)
  have hg' := Tp.grownBy_alloc_left hg
  obtain ⟨g, capg, rfl, _, hbg⟩ := Tp.own_shape hown' hne
  have hb1 : w1.heap[bd]? = some (rblk rise fall (.slice ao n0 c0)) := (hg'.block bd hbd (fun h => hpne.out h.symm)).trans hb.out
  have d2 : w1.cell? ⟨bd, 2, none⟩ = some (.slice ao n0 c0) := by rw [cell_of_row w1 bd _ _ _ _ hb1]; rfl
  have f2 : w1.frozen? ⟨bd, 2, none⟩ = false := frozen_of_row w1 bd 2 _ _ hb1
  replace hg' := Lib.hid hg'
  replace hown' := Lib.hid hown'
  replace hb1 := Lib.hid hb1
  clear hg hnil hne hown c2 hi hz0 hz1 hz2
  go_wp2
  go_ret
  have hgb : g ≠ bd := by
    rintro rfl
    rcases hown'.out.2 with ⟨h, _⟩ | ⟨g', cap', cur, h, _, hg2, _⟩
    · cases h
    · simp at h
      obtain ⟨rfl, _⟩ := h
      rw [hb1.out] at hg2
      unfold rblk at hg2
      simp at hg2
  refine ⟨_, rfl, ⟨heap_set _ hb1.out, ?_⟩, ⟨hg'.out.os, hg'.out.tape, hg'.out.output, ?_, ?_⟩⟩
  · rw [List.length_append, pcells_snoc]
    have h := hown'.out
    refine h.kept (row := some bd) ?_ (.inr (by simp [Value.ownBlock]; exact hgb))
    exact ⟨rfl, rfl, rfl, by simp [World.setCell], fun k hk hne => Below.heap_setCell _ _ _ _ (fun e => hne (by rw [e]))⟩
  · have := hg'.out.size
    simpa [World.setCell] using this
  · intro k hk h1 h2
    rw [Below.heap_setCell _ _ _ _ h1]
    exact hg'.out.block k hk (fun h => h2 h.symm)
end Go.Proofs.Yteedjgkinmkmoaa
