/- The document's Probe, walked: where its row lies is told, too. -/
import Derived.Test.YteedjgkinmkmoaaRefCopy
import Derived.Maps.AppendAt
namespace Go.Proofs.Yteedjgkinmkmoaa
open Go.RowKit
set_option linter.unusedVariables false
def RefProbePost2 (base bd : Nat) (rise fall : Int) (ps : List (Bool × Nat)) (pv : Value) (p : Bool × Nat) (w : World) (e : Ending) (w' : World) : Prop :=
  ∃ pv', e = .returned (.int .i64 0) ∧ RSt w' base bd rise fall (ps ++ [p]) pv' ∧ Rest bd pv w w' ∧ (pv'.ownBlock = pv.ownBlock ∨ ∃ k, pv'.ownBlock = some k ∧ w.heap.size ≤ k)

set_option maxHeartbeats 1000000 in
theorem refprobe_at (base bd : Nat) (rise fall : Int) (ps : List (Bool × Nat)) (pv : Value) (ok : Bool) (t : Nat) (w : World) (h : RSt w base bd rise fall ps pv) (hbase : base ≤ w.heap.size) (hlen : ps.length ≤ 100000) :
    Calls Try.prog 22 #[.pointer (some ⟨bd, 0, none⟩), .bool ok, .float .f64 t] w (RefProbePost2 base bd rise fall ps pv (ok, t) w) := by
  obtain ⟨i0, hi, hz0, hz1, hz2⟩ := info_parts Try.info32
  obtain ⟨hb, hown⟩ := h
  have hbd : bd < w.heap.size := (Array.getElem?_eq_some_iff.1 hb).1
  have c2 : w.cell? ⟨bd, 2, none⟩ = some pv := by rw [cell_of_row w bd _ _ _ _ hb]; rfl
  have hsl : ∃ ao n c, pv = .slice ao n c := by
    rcases hown.2 with ⟨h, _⟩ | ⟨g, cap, cur, h, _⟩
    · exact ⟨_, _, _, h⟩
    · exact ⟨_, _, _, h⟩
  have hpne : pv.ownBlock ≠ some bd := by
    intro he
    rcases hown.2 with ⟨h, _⟩ | ⟨g, cap, cur, h, _, hg, _⟩
    · rw [h] at he; cases he
    · rw [h] at he
      simp [Value.ownBlock] at he
      subst he
      rw [hb] at hg
      unfold rblk at hg
      simp at hg
  obtain ⟨ao, n0, c0, rfl⟩ := hsl
  replace hb := Lib.hid hb
  replace hpne := Lib.hid hpne
  go_enter Try.func22, Try.ntmps22
  go_wp2_with (at_builtin; refine wpList_append_own_at _ rfl _ _ 22 rfl base 32 i0 (.agg #[.bool false, .float .f64 0]) 2 16 Try.underlying22 hi hz0 hz1 hz2 rfl (by decide) _ ps.length (pcells ps) rfl (hown.alloc _) ⟨w.heap.size, 0, none⟩ 1 1 [.bool ok, .float .f64 t] rfl rfl ?c1 ?c2 ?c3 ?c4 ?c5 ?_)
  case c1 =>
    intro j u hj
    rw [show ((⟨w.heap.size, 0, none⟩ : Addr).add j) = ⟨w.heap.size, j, none⟩ from by unfold Addr.add; split <;> simp_all]
    rw [cell_of_row _ _ _ _ _ _ (heap_alloc_new w _)]
    simpa using hj
  case c2 =>
    intro u hu
    simp at hu
    rcases hu with rfl | rfl <;> rfl
  case c3 => unfold maxLen; omega
  case c4 => omega
  case c5 => simp; omega
  intro v' w1 hown' hg hnil hat
  have hne : v' ≠ .slice none 0 0 := by first | exact hnil | (intro h; have := (hnil.1 h).2; omega)
  have hg' := Tp.grownBy_alloc_left hg
  obtain ⟨g, capg, rfl, _, hbg⟩ := Tp.own_shape hown' hne
  have hb1 : w1.heap[bd]? = some (rblk rise fall (.slice ao n0 c0)) := (hg'.block bd hbd (fun h => hpne.out h.symm)).trans hb.out
  have d2 : w1.cell? ⟨bd, 2, none⟩ = some (.slice ao n0 c0) := by rw [cell_of_row w1 bd _ _ _ _ hb1]; rfl
  have f2 : w1.frozen? ⟨bd, 2, none⟩ = false := frozen_of_row w1 bd 2 _ _ hb1
  replace hg' := Lib.hid hg'
  replace hown' := Lib.hid hown'
  replace hb1 := Lib.hid hb1
  replace hat := Lib.hid hat
  clear hg hnil hne hown c2 hi hz0 hz1 hz2
  go_wp2
  go_ret
  have hgb : g ≠ bd := by
    rintro rfl
    rcases hown'.out.2 with ⟨h, _⟩ | ⟨g', cap', cur, h, _, hg2, _⟩
    · cases h
    · simp at h
      obtain ⟨rfl, _⟩ := h
      rw [hb1.out] at hg2
      unfold rblk at hg2
      simp at hg2
  refine ⟨_, rfl, ⟨heap_set _ hb1.out, ?_⟩, ⟨hg'.out.os, hg'.out.tape, hg'.out.output, ?_, ?_⟩, ?_⟩
  · rw [List.length_append, pcells_snoc]
    have h := hown'.out
    refine h.kept (row := some bd) ?_ (.inr (by simp [Value.ownBlock]; exact hgb))
    exact ⟨rfl, rfl, rfl, by simp [World.setCell], fun k hk hne => Below.heap_setCell _ _ _ _ (fun e => hne (by rw [e]))⟩
  · have := hg'.out.size
    simpa [World.setCell] using this
  · intro k hk h1 h2
    rw [Below.heap_setCell _ _ _ _ h1]
    exact hg'.out.block k hk (fun h => h2 h.symm)
  · rcases hat.out with h | h
    · exact .inl h
    · refine .inr ⟨_, h, ?_⟩
      simp
end Go.Proofs.Yteedjgkinmkmoaa
