/- What a round of a range over a function keeps: all cells but a box and the row that it points to. Of no program. -/
import Derived.RangeFuncNested
import Derived.RangeFuncBound
import Derived.RangeFuncCalls
import Derived.RangeFuncLeaves
import Derived.RangeFuncBox
import Derived.Test.YtabgckjokniooaaBase
namespace Go.Mp
open Go.RowKit
set_option linter.unusedVariables false
/-- The block of the row that the box B points to. -/
def outB (B : Nat) (W : World) (k : Nat) : Prop := ∃ v, W.cell? ⟨B, 0, none⟩ = some v ∧ v.ownBlock = some k
def OutLt (B n0 : Nat) (W : World) : Prop := ∀ k, outB B W k → n0 ≤ k ∧ k < W.heap.size
structure Kp (B : Nat) (W W' : World) : Prop where
  size : W.heap.size ≤ W'.heap.size
  keep : ∀ k o, k ≠ B → ¬ outB B W k → W.heap[k]? = some o → o.isCells = true → W'.heap[k]? = some o
  out : ∀ k, outB B W' k → outB B W k ∨ W.heap.size ≤ k
  lt : (∀ k, outB B W k → k < W.heap.size) → ∀ k, outB B W' k → k < W'.heap.size
theorem heap_lt {W : World} {k : Nat} {o : Obj} (h : W.heap[k]? = some o) : k < W.heap.size := (Array.getElem?_eq_some_iff.1 h).1
theorem cell_obj {W : World} {k off : Nat} {x : Value} (h : W.cell? ⟨k, off, none⟩ = some x) : ∃ o, W.heap[k]? = some o ∧ o.isCells = true := by
  unfold World.cell? at h
  split at h
  · rename_i c _ _ e; exact ⟨_, e, rfl⟩
  · cases h
theorem Kp.cell {B : Nat} {W W' : World} (h : Kp B W W') {k off : Nat} {x : Value} (hx : W.cell? ⟨k, off, none⟩ = some x) (hB : k ≠ B) (ho : ¬ outB B W k) : W'.cell? ⟨k, off, none⟩ = some x := by
  obtain ⟨o, e, ec⟩ := cell_obj hx
  have := h.keep k o hB ho e ec
  rw [← hx]; exact World.cell?_of_block (this.trans e.symm)
theorem Kp.lts {B n0 : Nat} {W W' : World} (h : Kp B W W') (hn : n0 ≤ W.heap.size) (ho : OutLt B n0 W) : OutLt B n0 W' := by
  intro k hk
  refine ⟨?_, h.lt (fun k hk => (ho k hk).2) k hk⟩
  rcases h.out k hk with h1 | h1
  · exact (ho k h1).1
  · exact Nat.le_trans hn h1
theorem Kp.notOut {B : Nat} {W W' : World} (h : Kp B W W') {k : Nat} (hk : k < W.heap.size) (hn : ¬ outB B W k) : ¬ outB B W' k := by
  intro h'
  rcases h.out k h' with h1 | h1
  · exact hn h1
  · omega
theorem Kp.trans {B : Nat} {A W C : World} (h : Kp B A W) (g : Kp B W C) : Kp B A C where
  size := Nat.le_trans h.size g.size
  keep := fun k o hB hn e ec => by
    refine g.keep k o hB (fun h' => ?_) (h.keep k o hB hn e ec) ec
    rcases h.out k h' with h1 | h1
    · exact hn h1
    · have := heap_lt e; omega
  out := fun k hk => by
    rcases g.out k hk with h1 | h1
    · exact h.out k h1
    · exact .inr (Nat.le_trans h.size h1)
  lt := fun hl => g.lt (h.lt hl)
theorem outB_kept {B : Nat} {W W' : World} (hb : W'.heap[B]? = W.heap[B]?) (k : Nat) : outB B W' k ↔ outB B W k := by
  unfold outB
  rw [show W'.cell? ⟨B, 0, none⟩ = W.cell? ⟨B, 0, none⟩ from World.cell?_of_block hb]
/-- A world in which nothing but what is no cells has changed, and new blocks were laid. -/
theorem OutLt.grow {B n0 : Nat} {W W' : World} (h : OutLt B n0 W) (hb : W'.heap[B]? = W.heap[B]?) (hs : W.heap.size ≤ W'.heap.size) : OutLt B n0 W' := fun k hk => by
  have := h k ((outB_kept hb k).1 hk)
  exact ⟨this.1, by omega⟩
theorem Kp.put {B : Nat} {W : World} {l : Nat} {o o' : Obj} (hB : B ≠ l) (h : W.heap[l]? = some o) (hc : o.isCells = false) : Kp B W (W.putObj l o') where
  size := by simp
  keep := fun k o2 hk hn e ec => by
    have : k ≠ l := fun e2 => by subst e2; rw [h] at e; cases e; rw [hc] at ec; cases ec
    rw [World.putObj_heap_other (fun e => this e)]; exact e
  out := fun k hk => .inl ((outB_kept (B := B) (World.putObj_heap_other (fun e => hB e)) k).1 hk)
  lt := fun hl k hk => by
    have := hl k ((outB_kept (B := B) (World.putObj_heap_other (fun e => hB e)) k).1 hk)
    simpa using this
theorem Tch.grownNone {w w' : World} (t : Tch No w w') : w.grownBy w' none := ⟨t.os, t.tape, t.output, t.size, fun k hk _ => t.block k hk id⟩
theorem Kp.of_none {B : Nat} {W W' : World} (t : Tch No W W') (hB : B < W.heap.size) : Kp B W W' where
  size := t.size
  keep := fun k o _ _ e _ => (t.block k (heap_lt e) id).trans e
  out := fun k hk => .inl ((outB_kept (t.block B hB id) k).1 hk)
  lt := fun hl k hk => Nat.lt_of_lt_of_le (hl k ((outB_kept (t.block B hB id) k).1 hk)) t.size
theorem Kp.of_append {B : Nat} {W W' : World} {v' : Value} (t : Tch (fun k => k = B ∨ outB B W k) W W') (hc : W'.cell? ⟨B, 0, none⟩ = some v') (h1 : ∀ g, v'.ownBlock = some g → outB B W g ∨ W.heap.size ≤ g) (h2 : ∀ g, v'.ownBlock = some g → g < W'.heap.size) : Kp B W W' where
  size := t.size
  keep := fun k o hB hn e _ => (t.block k (heap_lt e) (fun h => h.elim hB hn)).trans e
  out := fun k ⟨v, hv, hk⟩ => by rw [hc] at hv; cases hv; exact h1 k hk
  lt := fun _ k ⟨v, hv, hk⟩ => by rw [hc] at hv; cases hv; exact h2 k hk
theorem set3 {w : World} {cb : Nat} {e : TypeId} {x0 x1 x2 : Value} (h : w.heap[cb]? = some (.cells #[x0, x1, x2] e)) (y0 y1 y2 : Value) :
    (((w.setCell ⟨cb, 0, none⟩ y0).setCell ⟨cb, 1, none⟩ y1).setCell ⟨cb, 2, none⟩ y2).heap[cb]? = some (.cells #[y0, y1, y2] e) ∧
    Tch (fun k => k = cb) w (((w.setCell ⟨cb, 0, none⟩ y0).setCell ⟨cb, 1, none⟩ y1).setCell ⟨cb, 2, none⟩ y2) := by
  refine ⟨by simp [World.setCell, Array.getElem?_modify, h], ?_⟩
  exact ((Tch.setCell (S := fun k => k = cb) w (p := ⟨cb, 0, none⟩) rfl y0).trans (Tch.setCell (S := fun k => k = cb) _ (p := ⟨cb, 1, none⟩) rfl y1) (fun _ h => .inl h)).trans (Tch.setCell (S := fun k => k = cb) _ (p := ⟨cb, 2, none⟩) rfl y2) (fun _ h => .inl h)
end Go.Mp
