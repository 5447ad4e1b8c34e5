/- next, has. -/
import Derived.Test.YtcnjmkjfgghgoaaMem
namespace Go.Proofs.Ytcnjmkjfgghgoaa
open Go.RowKit Go.Mp Go.Tr
set_option linter.unusedVariables false
set_option maxRecDepth 20000
theorem set5 {w : World} {cb : Nat} {e : TypeId} {x0 x1 x2 x3 x4 : Value} (h : w.heap[cb]? = some (.cells #[x0, x1, x2, x3, x4] e)) (y0 y1 y2 y3 y4 : Value) :
    (((((w.setCell ⟨cb, 0, none⟩ y0).setCell ⟨cb, 1, none⟩ y1).setCell ⟨cb, 2, none⟩ y2).setCell ⟨cb, 3, none⟩ y3).setCell ⟨cb, 4, none⟩ y4).heap[cb]? = some (.cells #[y0, y1, y2, y3, y4] e) ∧
    Tch (fun k => k = cb) w (((((w.setCell ⟨cb, 0, none⟩ y0).setCell ⟨cb, 1, none⟩ y1).setCell ⟨cb, 2, none⟩ y2).setCell ⟨cb, 3, none⟩ y3).setCell ⟨cb, 4, none⟩ y4) := by
  refine ⟨by simp [World.setCell, Array.getElem?_modify, h], ?_⟩
  exact ((((Tch.setCell (S := fun k => k = cb) w (p := ⟨cb, 0, none⟩) rfl y0).trans (Tch.setCell (S := fun k => k = cb) _ (p := ⟨cb, 1, none⟩) rfl y1) (fun _ h => .inl h)).trans (Tch.setCell (S := fun k => k = cb) _ (p := ⟨cb, 2, none⟩) rfl y2) (fun _ h => .inl h)).trans (Tch.setCell (S := fun k => k = cb) _ (p := ⟨cb, 3, none⟩) rfl y3) (fun _ h => .inl h)).trans (Tch.setCell (S := fun k => k = cb) _ (p := ⟨cb, 4, none⟩) rfl y4) (fun _ h => .inl h)
theorem tokO_cells {w : World} {cb : Nat} {e : TypeId} {t : Tok} (h : w.heap[cb]? = some (tokO t e)) : w.cell? ⟨cb, 0, none⟩ = some (.int .i64 t.kind) ∧ w.cell? ⟨cb, 1, none⟩ = some (.int .i64 t.line) ∧ w.cell? ⟨cb, 2, none⟩ = some (.int .i64 t.col) ∧ w.cell? ⟨cb, 3, none⟩ = some (.string t.text) ∧ w.cell? ⟨cb, 4, none⟩ = some (.bool t.quoted) :=
  ⟨(cell_of_row _ _ 0 _ _ _ h).trans rfl, (cell_of_row _ _ 1 _ _ _ h).trans rfl, (cell_of_row _ _ 2 _ _ _ h).trans rfl, (cell_of_row _ _ 3 _ _ _ h).trans rfl, (cell_of_row _ _ 4 _ _ _ h).trans rfl⟩
theorem next_any {w : World} {b kb at' : Nat} {lv v : Value} {l : List Tok} (hb : w.heap[b]? = some (.cells #[lv, .int .i64 at', v] 89)) (tk : TokS w kb lv l) (hk : kb < w.heap.size) :
    Calls Try.prog 47 #[.pointer (some ⟨b, 0, none⟩)] w fun e w' => e = .returned (tokA ((l[at']?).getD zero)) ∧ Tch No w w' := by
  obtain ⟨w1, hw1⟩ : ∃ w1, w1 = w.alloc (tokO zero 39) := ⟨_, rfl⟩
  have t1 : Tch No w w1 := by rw [hw1]; exact Tch.alloc No w _
  obtain ⟨cb, hcb⟩ : ∃ cb, cb = w.heap.size := ⟨_, rfl⟩
  have hc1 : w1.heap[cb]? = some (tokO zero 39) := by rw [hw1, hcb]; exact heap_alloc_new w _
  have hb1 : w1.heap[b]? = some (.cells #[lv, .int .i64 at', v] 89) := (t1.block b (Array.getElem?_eq_some_iff.1 hb).1 id).trans hb
  have tk1 := tk.keep (t1.block kb hk id)
  have c0 : w1.cell? ⟨b, 0, none⟩ = some lv := (cell_of_row _ _ 0 _ _ _ hb1).trans rfl
  have c1 : w1.cell? ⟨b, 1, none⟩ = some (.int .i64 at') := (cell_of_row _ _ 1 _ _ _ hb1).trans rfl
  obtain ⟨ao, cap, rfl, _⟩ := id tk
  by_cases hl : at' < l.length
  · have hx := List.getElem?_eq_getElem hl
    rw [hx]
    generalize l[at'] = t at *
    obtain ⟨off, rfl, _, d0, d1, d2, d3, d4⟩ := tk1.at hx
    have k0 := nn_lt hl
    have e0 : w1.cell? ⟨cb, 0, none⟩ = some (.int .i64 0) := (cell_of_row _ _ 0 _ _ _ hc1).trans rfl
    have e1 : w1.cell? ⟨cb, 1, none⟩ = some (.int .i64 0) := (cell_of_row _ _ 1 _ _ _ hc1).trans rfl
    have e2 : w1.cell? ⟨cb, 2, none⟩ = some (.int .i64 0) := (cell_of_row _ _ 2 _ _ _ hc1).trans rfl
    have e3 : w1.cell? ⟨cb, 3, none⟩ = some (.string ⟨#[]⟩) := (cell_of_row _ _ 3 _ _ _ hc1).trans rfl
    have e4 : w1.cell? ⟨cb, 4, none⟩ = some (.bool false) := (cell_of_row _ _ 4 _ _ _ hc1).trans rfl
    have f0 : w1.frozen? ⟨cb, 0, none⟩ = false := frozen_of_row _ _ _ _ _ hc1
    have f1 : w1.frozen? ⟨cb, 1, none⟩ = false := frozen_of_row _ _ _ _ _ hc1
    have f2 : w1.frozen? ⟨cb, 2, none⟩ = false := frozen_of_row _ _ _ _ _ hc1
    have f3 : w1.frozen? ⟨cb, 3, none⟩ = false := frozen_of_row _ _ _ _ _ hc1
    have f4 : w1.frozen? ⟨cb, 4, none⟩ = false := frozen_of_row _ _ _ _ _ hc1
    replace hx := Lib.hid hx
    replace hb := Lib.hid hb
    replace hb1 := Lib.hid hb1
    replace hc1 := Lib.hid hc1
    replace tk := Lib.hid tk
    replace tk1 := Lib.hid tk1
    replace t1 := Lib.hid t1
    replace hk := Lib.hid hk
    go_enter Try.func47, Try.ntmps47
    go_upto_region 1 with fail
    rw [show (w.alloc (.cells #[.int .i64 0, .int .i64 0, .int .i64 0, .string ⟨#[]⟩, .bool false] 39)) = w1 from hw1.symm, ← hcb]
    replace hw1 := Lib.hid hw1
    replace hcb := Lib.hid hcb
    go_quiet (fail)
    go_upto_region 2 with fail
    go_region
    obtain ⟨h5, t5⟩ := set5 (w := w1.drewN (nq + 1)) hc1.out (.int .i64 t.kind) (.int .i64 t.line) (.int .i64 t.col) (.string t.text) (.bool t.quoted)
    obtain ⟨w5, hw5⟩ : ∃ w5, w5 = ((((((w1.drewN (nq + 1)).setCell ⟨cb, 0, none⟩ (.int .i64 t.kind)).setCell ⟨cb, 1, none⟩ (.int .i64 t.line)).setCell ⟨cb, 2, none⟩ (.int .i64 t.col)).setCell ⟨cb, 3, none⟩ (.string t.text)).setCell ⟨cb, 4, none⟩ (.bool t.quoted)) := ⟨_, rfl⟩
    rw [← hw5] at h5 t5 ⊢
    obtain ⟨m0, m1, m2, m3, m4⟩ := tokO_cells h5
    have tt : Tch No w w5 := (t1.out.trans (Tch.drewN No w1 (nq + 1)) (fun _ h => h.elim)).trans t5 (fun k hk => .inr (by rw [hk, hcb.out]; exact Nat.le_refl _))
    replace hw5 := Lib.hid hw5
    go_wp2
    exact bodyPost_ret (v := tokA t) (by simp [results, Try.results47, go_sem, m0, m1, m2, m3, m4]) rfl ⟨rfl, tt⟩
  · have hx : l[at']? = none := List.getElem?_eq_none (by omega)
    rw [hx]
    have k0 := nn_ge hl
    have e0 : w1.cell? ⟨cb, 0, none⟩ = some (.int .i64 0) := (cell_of_row _ _ 0 _ _ _ hc1).trans rfl
    have e1 : w1.cell? ⟨cb, 1, none⟩ = some (.int .i64 0) := (cell_of_row _ _ 1 _ _ _ hc1).trans rfl
    have e2 : w1.cell? ⟨cb, 2, none⟩ = some (.int .i64 0) := (cell_of_row _ _ 2 _ _ _ hc1).trans rfl
    have e3 : w1.cell? ⟨cb, 3, none⟩ = some (.string ⟨#[]⟩) := (cell_of_row _ _ 3 _ _ _ hc1).trans rfl
    have e4 : w1.cell? ⟨cb, 4, none⟩ = some (.bool false) := (cell_of_row _ _ 4 _ _ _ hc1).trans rfl
    have f0 : w1.frozen? ⟨cb, 0, none⟩ = false := frozen_of_row _ _ _ _ _ hc1
    have f1 : w1.frozen? ⟨cb, 1, none⟩ = false := frozen_of_row _ _ _ _ _ hc1
    have f2 : w1.frozen? ⟨cb, 2, none⟩ = false := frozen_of_row _ _ _ _ _ hc1
    have f3 : w1.frozen? ⟨cb, 3, none⟩ = false := frozen_of_row _ _ _ _ _ hc1
    have f4 : w1.frozen? ⟨cb, 4, none⟩ = false := frozen_of_row _ _ _ _ _ hc1
    replace hx := Lib.hid hx
    replace hb := Lib.hid hb
    replace hb1 := Lib.hid hb1
    replace hc1 := Lib.hid hc1
    replace tk := Lib.hid tk
    replace tk1 := Lib.hid tk1
    replace t1 := Lib.hid t1
    replace hk := Lib.hid hk
    go_enter Try.func47, Try.ntmps47
    go_upto_region 1 with fail
    rw [show (w.alloc (.cells #[.int .i64 0, .int .i64 0, .int .i64 0, .string ⟨#[]⟩, .bool false] 39)) = w1 from hw1.symm, ← hcb]
    replace hw1 := Lib.hid hw1
    replace hcb := Lib.hid hcb
    go_quiet (fail)
    go_wp2
    obtain ⟨h5, t5⟩ := set5 (w := w1.drewN nq) hc1.out (.int .i64 0) (.int .i64 0) (.int .i64 0) (.string ⟨#[]⟩) (.bool false)
    obtain ⟨w5, hw5⟩ : ∃ w5, w5 = ((((((w1.drewN nq).setCell ⟨cb, 0, none⟩ (.int .i64 0)).setCell ⟨cb, 1, none⟩ (.int .i64 0)).setCell ⟨cb, 2, none⟩ (.int .i64 0)).setCell ⟨cb, 3, none⟩ (.string ⟨#[]⟩)).setCell ⟨cb, 4, none⟩ (.bool false)) := ⟨_, rfl⟩
    rw [← hw5] at h5 t5 ⊢
    obtain ⟨m0, m1, m2, m3, m4⟩ := tokO_cells (t := zero) h5
    have tt : Tch No w w5 := (t1.out.trans (Tch.drewN No w1 nq) (fun _ h => h.elim)).trans t5 (fun k hk => .inr (by rw [hk, hcb.out]; exact Nat.le_refl _))
    replace hw5 := Lib.hid hw5
    exact bodyPost_ret (v := tokA zero) (by simp [results, Try.results47, go_sem, m0, m1, m2, m3, m4]) rfl ⟨rfl, tt⟩
theorem has_any {w : World} (t : Tok) : Calls Try.prog 46 #[tokA t] w fun e w' => e = .returned (.bool (has t)) ∧ Tch No w w' := by
  obtain ⟨w1, hw1⟩ : ∃ w1, w1 = w.alloc (tokO t 39) := ⟨_, rfl⟩
  have t1 : Tch No w w1 := by rw [hw1]; exact Tch.alloc No w _
  obtain ⟨cb, hcb⟩ : ∃ cb, cb = w.heap.size := ⟨_, rfl⟩
  have hc1 : w1.heap[cb]? = some (tokO t 39) := by rw [hw1, hcb]; exact heap_alloc_new w _
  have c0 := (tokO_cells hc1).1
  have hh : has t = (t.kind == 2 || (t.kind == 3 || t.kind == 4)) := by
    unfold has
    rw [Bool.or_assoc]
    rfl
  replace hc1 := Lib.hid hc1
  replace t1 := Lib.hid t1
  replace hh := Lib.hid hh
  by_cases k2 : t.kind = 2
  · have q2 : (t.kind == 2) = true := by rw [beq_iff_eq]; exact k2
    replace k2 := Lib.hid k2
    go_enter Try.func46, Try.ntmps46
    go_upto_region 1 with fail
    rw [show (w.alloc (tokO t 39)) = w1 from hw1.symm, ← hcb]
    replace hw1 := Lib.hid hw1
    replace hcb := Lib.hid hcb
    go_wp2
    go_ret
    exact ⟨by rw [hh.out, q2]; rfl, t1.out⟩
  have q2 : (t.kind == 2) = false := by rw [beq_eq_false_iff_ne]; exact k2
  replace k2 := Lib.hid k2
  by_cases k3 : t.kind = 3
  · have q3 : (t.kind == 3) = true := by rw [beq_iff_eq]; exact k3
    replace k3 := Lib.hid k3
    go_enter Try.func46, Try.ntmps46
    go_upto_region 1 with fail
    rw [show (w.alloc (tokO t 39)) = w1 from hw1.symm, ← hcb]
    replace hw1 := Lib.hid hw1
    replace hcb := Lib.hid hcb
    go_wp2
    go_ret
    exact ⟨by rw [hh.out, q2, q3]; rfl, t1.out⟩
  have q3 : (t.kind == 3) = false := by rw [beq_eq_false_iff_ne]; exact k3
  replace k3 := Lib.hid k3
  obtain ⟨x, q4⟩ : ∃ x, (t.kind == 4) = x := ⟨_, rfl⟩
  go_enter Try.func46, Try.ntmps46
  go_upto_region 1 with fail
  rw [show (w.alloc (tokO t 39)) = w1 from hw1.symm, ← hcb]
  replace hw1 := Lib.hid hw1
  replace hcb := Lib.hid hcb
  go_wp2
  go_ret
  exact ⟨by rw [hh.out, q2, q3, q4]; rfl, t1.out⟩
end Go.Proofs.Ytcnjmkjfgghgoaa
