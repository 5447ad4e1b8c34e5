/- stay: tokens are as they were lent, the mark too. -/
import Derived.Test.YtcnjmkjfgghgoaaOwn
namespace Go.Proofs.Ytcnjmkjfgghgoaa
open Go.RowKit Go.Mp Go.Tr
set_option linter.unusedVariables false
set_option maxRecDepth 100000
set_option maxHeartbeats 1000000
theorem stay_any {w : World} {B gb cap kb : Nat} {lv : Value} {l : List Tok} (hO : OwnM w B gb cap l) (tk : TokS w kb lv l) (hk : kb < w.heap.size ∨ l = []) (hll : l.length < 2932031007400) :
    Calls Try.prog 14 #[.slice (some ⟨gb, 0, none⟩) l.length cap, lv] w fun e w' => e = .returned (.bool true) ∧ Tch No w w' := by
  obtain ⟨ao, cp, rfl, _⟩ := id tk
  have hc := hO.cap
  have hcc : (l.length : Int) + 1 ≤ (cap : Int) := by omega
  have m0 := (hO.cells (i := l.length) (t := mark) (by simp) 0 _ (by omega) rfl).1
  have hwl : wrap64 ((l.length : Int) + 1) = (l.length : Int) + 1 := by unfold wrap64; omega
  rw [Nat.add_zero] at m0
  have hTn := Lib.hid (show (((l.length : Int) + 1).toNat) = l.length + 1 by omega)
  have hlt1 : (l.length : Int) < (l.length : Int) + 1 := by omega
  replace hc := Lib.hid hc
  replace tk := Lib.hid tk
  replace hk := Lib.hid hk
  replace hll := Lib.hid hll
  replace hO := Lib.hid hO
  go_enter Try.func14, Try.ntmps14
  go_wp2
  go_loopg [5] (l.length + 1) (fun gg iv wr => ∃ i : Nat, gg = l.length - i + 1 ∧ iv = .int .i64 i ∧ i ≤ l.length ∧ Tch No w wr)
  case atStart => exact ⟨0, rfl, rfl, Nat.zero_le _, Tch.refl _ _⟩
  case round =>
    obtain ⟨i, rfl, rfl, hil, tr⟩ := hrel
    clear m0 hcc hwl hlt1
    by_cases hlt : i < l.length
    · have k0 := nn_lt hlt
      have hx := List.getElem?_eq_getElem hlt
      generalize l[i] = t at *
      have hkw : kb < w.heap.size := by rcases hk.out with h | h; exact h; rw [h] at hx; simp at hx
      have tkr := tk.out.keep (tr.block kb hkw id)
      obtain ⟨off, rfl, _, d0, d1, d2, d3, d4⟩ := tkr.at hx
      obtain ⟨_, e2, _, b0, b1, b2, b3, b4⟩ := (hO.out.tch tr id).tok.1.at hx
      cases e2
      rw [Nat.zero_add] at b0 b1 b2 b3 b4
      have hwk := nn_succ hlt (Nat.lt_trans hll.out (by decide))
      obtain ⟨w1, hw1⟩ : ∃ w1, w1 = wr.alloc (tokO t 39) := ⟨_, rfl⟩
      have t1 : Tch No wr w1 := by rw [hw1]; exact Tch.alloc No wr _
      obtain ⟨c1, hc1⟩ : ∃ c1, c1 = wr.heap.size := ⟨_, rfl⟩
      have g1 : w1.heap[c1]? = some (tokO t 39) := by rw [hw1, hc1]; exact heap_alloc_new wr _
      obtain ⟨w2, hw2⟩ : ∃ w2, w2 = w1.alloc (tokO t 48) := ⟨_, rfl⟩
      have t2 : Tch No w1 w2 := by rw [hw2]; exact Tch.alloc No w1 _
      obtain ⟨c2, hc2⟩ : ∃ c2, c2 = w1.heap.size := ⟨_, rfl⟩
      have g2 : w2.heap[c2]? = some (tokO t 48) := by rw [hw2, hc2]; exact heap_alloc_new w1 _
      have g1' : w2.heap[c1]? = some (tokO t 39) := (t2.block c1 (Array.getElem?_eq_some_iff.1 g1).1 id).trans g1
      have d0' := t1.cell_some d0 id
      have d1' := t1.cell_some d1 id
      have d2' := t1.cell_some d2 id
      have d3' := t1.cell_some d3 id
      have d4' := t1.cell_some d4 id
      obtain ⟨x0, x1, x2, x3, x4⟩ := tokO_cells g1'
      obtain ⟨y0, y1, y2, y3, y4⟩ := tokO_cells g2
      have tt := Lib.hid ((tr.trans t1 (fun _ h => h.elim)).trans t2 (fun _ h => h.elim))
      replace tkr := Lib.hid tkr
      replace hx := Lib.hid hx
      replace tr := Lib.hid tr
      replace t1 := Lib.hid t1
      replace t2 := Lib.hid t2
      replace g1 := Lib.hid g1
      replace g2 := Lib.hid g2
      replace g1' := Lib.hid g1'
      replace hkw := Lib.hid hkw
      replace hil := Lib.hid hil
      go_upto_region 7 with fail
      rw [show (wr.alloc (tokO t 39)) = w1 from hw1.symm, ← hc1]
      replace hw1 := Lib.hid hw1
      replace hc1 := Lib.hid hc1
      go_upto_region 8 with fail
      rw [show (w1.alloc (tokO t 48)) = w2 from hw2.symm, ← hc2]
      replace hw2 := Lib.hid hw2
      replace hc2 := Lib.hid hc2
      go_wp2
      go_roundg (l.length - (i + 1) + 1)
      case rel => exact ⟨i + 1, rfl, by rw [nn_cast], hlt, tt.out⟩
      case measure => exact Nat.succ_lt_succ (nn_sub hlt)
    · have k0 := nn_ge hlt
      have k1 : decide (i < l.length) = false := decide_eq_false hlt
      replace tr := Lib.hid tr
      replace hlt := Lib.hid hlt
      replace hil := Lib.hid hil
      go_wp2
      go_ret
      exact ⟨rfl, tr.out⟩
end Go.Proofs.Ytcnjmkjfgghgoaa
