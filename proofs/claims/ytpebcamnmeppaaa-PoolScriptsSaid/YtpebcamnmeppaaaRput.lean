/- Put, Poison of the document's pool. -/
import Derived.Test.YtpebcamnmeppaaaRdial
import Derived.Deep.RegionLaw
namespace Go.Po
theorem but_split {l : List C} (hn : (l.map (·.id)).Nodup) {k : Nat} {c : C} (hc : l[k]? = some c) : but c.id l = l.take k ++ l.drop (k + 1) := by
  induction l generalizing k with
  | nil => simp at hc
  | cons a l ih =>
    rw [List.map_cons, List.nodup_cons] at hn
    cases k with
    | zero =>
      simp at hc; subst hc
      rw [but, List.filter_cons_of_neg (by simp)]
      simp only [List.take_zero, List.nil_append, List.drop_succ_cons, List.drop_zero]
      exact but_none (fun d hd he => hn.1 (List.mem_map.2 ⟨d, hd, he⟩))
    | succ k =>
      simp at hc
      have hm := List.mem_of_getElem? hc
      have hne : a.id ≠ c.id := fun he => hn.1 (List.mem_map.2 ⟨c, hm, he.symm⟩)
      rw [but, List.filter_cons_of_pos (by simpa using hne)]
      have := ih hn.2 hc
      rw [but] at this
      rw [this]; rfl
theorem but_length {l : List C} (i : Int) : (but i l).length ≤ l.length := List.length_filter_le _ _
end Go.Po
namespace Go.Proofs.Ytpebcamnmeppaaa
open Go.RowKit Go.Mp Go.Po
set_option linter.unusedVariables false
set_option maxRecDepth 20000
/-- A list but for one, stored where it stood. -/
theorem RM.busyBut {w w2 : World} {B : Nat} {F : Nat → Prop} {q : Nat} {s : St} {vb vf vk v' : Value} (h : RM w B F q s vb vf vk) (hB : B ≤ w.heap.size) {l : List C} (row : w2.ownsRow w.heap.size 77 3 v' l.length (ccs l)) (hb : Below w.heap.size w w2) :
    w2.frozen? ⟨q, 2, none⟩ = false ∧ w2.cell? ⟨q, 2, none⟩ = some vb ∧ RPost w B F q { s with busy := l } (w2.setCell ⟨q, 2, none⟩ v') :=
  h.busyTo hB (ownsRow_base row hB) (Tch.of_below hb) (fun g hg => .inr (ownsRow_ge row hg).1)
theorem RM.freeBut {w w2 : World} {B : Nat} {F : Nat → Prop} {q : Nat} {s : St} {vb vf vk v' : Value} (h : RM w B F q s vb vf vk) (hB : B ≤ w.heap.size) {l : List C} (row : w2.ownsRow w.heap.size 77 3 v' l.length (ccs l)) (hb : Below w.heap.size w w2) :
    w2.frozen? ⟨q, 3, none⟩ = false ∧ w2.cell? ⟨q, 3, none⟩ = some vf ∧ RPost w B F q { s with free := l } (w2.setCell ⟨q, 3, none⟩ v') :=
  h.freeTo hB (ownsRow_base row hB) (Tch.of_below hb) (fun g hg => .inr (ownsRow_ge row hg).1)
/-! ### Poison -/
theorem rpoison_any {w : World} {B : Nat} {F : Nat → Prop} {q : Nat} {s : St} (h : RefM w B F q s) (hs : Inv s) (hl : s.busy.length < 4398046511100 ∧ s.free.length < 4398046511100) (hB : B ≤ w.heap.size) (i : Int) :
    Calls Try.prog 30 #[.pointer (some ⟨q, 0, none⟩), .int .i64 i] w fun e' w' => e' = .returned (.int .i64 (poison s i).1) ∧ RPost w B F q (poison s i).2 w' := by
  obtain ⟨vb, vf, vk, hM⟩ := h
  have h : RefM w B F q s := ⟨vb, vf, vk, hM⟩
  have c2 : w.cell? ⟨q, 2, none⟩ = some vb := (cell_of_row _ _ 2 _ _ _ hM.hq).trans rfl
  have c3 : w.cell? ⟨q, 3, none⟩ = some vf := (cell_of_row _ _ 3 _ _ _ hM.hq).trans rfl
  obtain ⟨bo, bc, rfl⟩ := ownsRow_shape hM.rb
  obtain ⟨fo, fc, rfl⟩ := ownsRow_shape hM.rf
  cases hfb : fnd s.busy i with
  | some c =>
    have hf1 := find_yes hM.rb (by omega) hfb
    have ef : poison s i = (0, { s with busy := but i s.busy }) := by rw [poison, hfb]
    obtain rfl := (fnd_some hfb).2
    rw [ef]
    replace hfb := Lib.hid hfb
    replace hM := Lib.hid hM
    clear h ef c3
    go_enter Try.func30, Try.ntmps30
    go_upto_region 4 with (first
      | (go_at_call 35; refine hf1.mono ?_; clear hf1; rintro _ w1 ⟨rfl, k, hx, _, rfl⟩; have kk := nn_nonneg k)
      | fail)
    have hbs := but_split (nd_busy hs) hx
    have hw := without_ref hM.out.rb (by omega) (List.getElem?_eq_some_iff.1 hx).1 hbs
    replace hx := Lib.hid hx
    replace hbs := Lib.hid hbs
    go_wp2_with (first
      | (go_at_call 38; have _t := hw; refine hw.mono ?_; clear hw _t; rintro _ w2 ⟨v', rfl, hr, hb⟩; obtain ⟨uo, uc, rfl⟩ := ownsRow_shape hr; obtain ⟨f2, c2', hP⟩ := hM.out.busyBut hB hr hb; replace hP := Lib.hid hP; clear hr hb)
      | fail)
    go_ret
    exact ⟨rfl, hP.out⟩
  | none =>
    have hf1 := find_no hM.rb (by omega) hfb
    cases hff : fnd s.free i with
    | some c =>
      have hf2 := find_yes hM.rf (by omega) hff
      have ef : poison s i = (0, { s with free := but i s.free }) := by rw [poison, hfb]; simp only; rw [hff]
      obtain rfl := (fnd_some hff).2
      rw [ef]
      replace hfb := Lib.hid hfb
      replace hff := Lib.hid hff
      replace hM := Lib.hid hM
      clear h ef
      go_enter Try.func30, Try.ntmps30
      go_upto_region 8 with (first
        | (go_at_call 35; have _t := hf1; refine hf1.mono ?_; clear hf1 _t; rintro _ w1 ⟨rfl, rfl⟩)
        | (go_at_call 35; refine hf2.mono ?_; clear hf2; rintro _ w1 ⟨rfl, k, hx, _, rfl⟩; have kk := nn_nonneg k)
        | fail)
      have hbs := but_split (nd_free hs) hx
      have hw := without_ref hM.out.rf (by omega) (List.getElem?_eq_some_iff.1 hx).1 hbs
      replace hx := Lib.hid hx
      replace hbs := Lib.hid hbs
      go_wp2_with (first
        | (go_at_call 38; have _t := hw; refine hw.mono ?_; clear hw _t; rintro _ w2 ⟨v', rfl, hr, hb⟩; obtain ⟨uo, uc, rfl⟩ := ownsRow_shape hr; obtain ⟨f2, c2', hP⟩ := hM.out.freeBut hB hr hb; replace hP := Lib.hid hP; clear hr hb)
        | fail)
      go_ret
      exact ⟨rfl, hP.out⟩
    | none =>
      have hf2 := find_no hM.rf (by omega) hff
      have ef : poison s i = (2, s) := by rw [poison, hfb]; simp only; rw [hff]
      have hp := rpost_same h (Tch.refl No w)
      rw [ef]
      replace hp := Lib.hid hp
      replace hfb := Lib.hid hfb
      replace hff := Lib.hid hff
      clear h hM ef
      go_enter Try.func30, Try.ntmps30
      go_wp2_with (first
        | (go_at_call 35; have _t := hf1; refine hf1.mono ?_; clear hf1 _t; rintro _ w1 ⟨rfl, rfl⟩)
        | (go_at_call 35; have _t := hf2; refine hf2.mono ?_; clear hf2 _t; rintro _ w1 ⟨rfl, rfl⟩)
        | fail)
      go_ret
      exact ⟨rfl, hp.out⟩
/-! ### Put -/
theorem rput_any {w : World} {B : Nat} {F : Nat → Prop} {q : Nat} {s : St} (h : RefM w B F q s) (hs : Inv s) (hl : s.busy.length < 4398046511100 ∧ s.free.length < 4398046511100) (hB : B ≤ w.heap.size) (i now : Int) :
    Calls Try.prog 29 #[.pointer (some ⟨q, 0, none⟩), .int .i64 i, .int .i64 now] w fun e' w' => e' = .returned (.int .i64 (put s i now).1) ∧ RPost w B F q (put s i now).2 w' := by
  obtain ⟨vb, vf, vk, hM⟩ := h
  have h : RefM w B F q s := ⟨vb, vf, vk, hM⟩
  have c2 : w.cell? ⟨q, 2, none⟩ = some vb := (cell_of_row _ _ 2 _ _ _ hM.hq).trans rfl
  obtain ⟨bo, bc, rfl⟩ := ownsRow_shape hM.rb
  cases hfb : fnd s.busy i with
  | none =>
    have hf1 := find_no hM.rb (by omega) hfb
    have ef : put s i now = (2, s) := by rw [put, hfb]
    have hp := rpost_same h (Tch.refl No w)
    rw [ef]
    replace hp := Lib.hid hp
    replace hfb := Lib.hid hfb
    clear h hM ef
    go_enter Try.func29, Try.ntmps29
    go_wp2_with (first
      | (go_at_call 35; have _t := hf1; refine hf1.mono ?_; clear hf1 _t; rintro _ w1 ⟨rfl, rfl⟩)
      | fail)
    go_ret
    exact ⟨rfl, hp.out⟩
  | some c =>
    have hf1 := find_yes hM.rb (by omega) hfb
    have ef : put s i now = (0, { s with busy := but i s.busy, free := s.free ++ [{ c with since := now }] }) := by rw [put, hfb]
    obtain rfl := (fnd_some hfb).2
    rw [ef]
    replace hfb := Lib.hid hfb
    replace hM := Lib.hid hM
    clear h ef
    go_enter Try.func29, Try.ntmps29
    go_upto_region 4 with (first
      | (go_at_call 35; refine hf1.mono ?_; clear hf1; rintro _ w1 ⟨rfl, k, hx, _, rfl⟩; have kk := nn_nneg k)
      | fail)
    have hkl := (List.getElem?_eq_some_iff.1 hx).1
    have hbs := but_split (nd_busy hs) hx
    obtain ⟨g, rfl, d0, d1, d2⟩ := row_at hM.out.rb hx
    have hkb : (k : Int) < (s.busy.length : Int) := by omega
    obtain ⟨w3, hw3⟩ : ∃ w3, w3 = w.alloc (.cells #[.int .i64 c.id, .string c.ep, .int .i64 c.since] 77) := ⟨_, rfl⟩
    have hM3 := hM.out.tch (S := No) (w' := w3) (by rw [hw3]; exact Tch.alloc No w _) (fun _ _ h => h)
    have hT3 : Tch F w w3 := by rw [hw3]; exact Tch.alloc F w _
    obtain ⟨cb, hcb⟩ : ∃ cb, cb = w.heap.size := ⟨_, rfl⟩
    have hbx : w3.heap[cb]? = some (.cells #[.int .i64 c.id, .string c.ep, .int .i64 c.since] 77) := by rw [hw3, hcb]; exact heap_alloc_new w _
    replace hx := Lib.hid hx
    replace hkl := Lib.hid hkl
    replace hbs := Lib.hid hbs
    replace hM3 := Lib.hid hM3
    replace hT3 := Lib.hid hT3
    go_upto_region 7 with fail
    rw [← hw3, ← hcb]
    clear d0 d1 d2 c2
    have b2 : w3.cell? ⟨cb, 2, none⟩ = some (.int .i64 c.since) := (cell_of_row _ _ 2 _ _ _ hbx).trans rfl
    have f2 : w3.frozen? ⟨cb, 2, none⟩ = false := frozen_of_row _ _ _ _ _ hbx
    replace hw3 := Lib.hid hw3
    obtain ⟨w4, hw4⟩ : ∃ w4, w4 = w3.setCell ⟨cb, 2, none⟩ (.int .i64 now) := ⟨_, rfl⟩
    have hT4' : Tch (fun k => k = cb) w3 w4 := by rw [hw4]; exact Tch.setCell (S := fun k => k = cb) w3 (p := ⟨cb, 2, none⟩) rfl _
    have hbx4 : w4.heap[cb]? = some (.cells #[.int .i64 c.id, .string c.ep, .int .i64 now] 77) := by rw [hw4]; simp [World.setCell, Array.getElem?_modify, hbx]
    have hFc : ∀ k, F k → k < cb := fun k hk => by rw [hcb]; exact (hM.out.lt k hk).2
    have hM4 := hM3.out.tch hT4' (fun k hk he => by have := hFc k hk; omega)
    have hT4 : Tch F w w4 := hT3.out.trans hT4' (fun k hk => .inr (by rw [hk, hcb]; exact Nat.le_refl _))
    have hcb4 : cb < w4.heap.size := (Array.getElem?_eq_some_iff.1 hbx4).1
    have hB4 : B ≤ w4.heap.size := Nat.le_trans hB hT4.size
    have hw := without_ref hM4.rb (by omega) hkl.out hbs.out
    have c2 : w4.cell? ⟨q, 2, none⟩ = some (.slice (some ⟨g, 0, none⟩) s.busy.length bc) := (cell_of_row _ _ 2 _ _ _ hM4.hq).trans rfl
    replace hbx := Lib.hid hbx
    replace hbx4 := Lib.hid hbx4
    replace hT4' := Lib.hid hT4'
    replace hT4 := Lib.hid hT4
    replace hM4 := Lib.hid hM4
    replace hFc := Lib.hid hFc
    replace hcb4 := Lib.hid hcb4
    replace hB4 := Lib.hid hB4
    replace hcb := Lib.hid hcb
    go_upto_region 8 with fail
    rw [← hw4]
    replace hw4 := Lib.hid hw4
    clear b2 f2
    go_upto_region 9 with (first
      | (go_at_call 38; have _t := hw; refine hw.mono ?_; clear hw _t; rintro _ w5 ⟨v', rfl, hr, hb⟩; obtain ⟨uo, uc, rfl⟩ := ownsRow_shape hr; obtain ⟨f5, c5, hP⟩ := hM4.out.busyBut hB4.out hr hb; replace hP := Lib.hid hP; replace hr := Lib.hid hr; replace hb := Lib.hid hb)
      | fail)
    obtain ⟨F6, hM6, hT6, hF6⟩ := hP.out
    obtain ⟨w6, hw6⟩ : ∃ w6, w6 = w5.setCell ⟨q, 2, none⟩ (.slice uo (but c.id s.busy).length uc) := ⟨_, rfl⟩
    rw [← hw6] at hM6 hT6 ⊢
    have hbx6 := (hT6.block cb hcb4.out (fun h => by have := hFc.out _ h; omega)).trans hbx4.out
    obtain ⟨vb6, vf6, vk6, hM6⟩ := hM6
    have hM6d := hM6.tch (Tch.drew No w6) (fun _ _ h => h)
    have hbx6d : w6.drew.heap[cb]? = some (.cells #[.int .i64 c.id, .string c.ep, .int .i64 now] 77) := hbx6
    have hTd : Tch F w w6.drew := (hT4.out.trans hT6 (fun _ h => .inl h)).trans (Tch.drew F w6) (fun _ h => .inl h)
    have hFd : ∀ k, F6 k → F k ∨ w.heap.size ≤ k := fun k hk => (hF6 k hk).imp id (fun h => Nat.le_trans hT4.out.size h)
    have hBd : B ≤ w6.drew.heap.size := Nat.le_trans hB hTd.size
    obtain ⟨fo, fc, rfl⟩ := ownsRow_shape hM6.rf
    obtain ⟨i0, hi, hz0, hz1, hz2⟩ := info_parts info77
    have c3 : w6.drew.cell? ⟨q, 3, none⟩ = some (.slice fo s.free.length fc) := (cell_of_row _ _ 3 _ _ _ hM6d.hq).trans rfl
    have c3' : (w6.alloc (.cells #[.int .i64 c.id, .string c.ep, .int .i64 now] 77)).cell? ⟨q, 3, none⟩ = some (.slice fo s.free.length fc) := (Tch.alloc No w6 _).cell_some c3 id
    have b0 : w6.drew.cell? ⟨cb, 0, none⟩ = some (.int .i64 c.id) := (cell_of_row _ _ 0 _ _ _ hbx6d).trans rfl
    have b1 : w6.drew.cell? ⟨cb, 1, none⟩ = some (.string c.ep) := (cell_of_row _ _ 1 _ _ _ hbx6d).trans rfl
    have b2 : w6.drew.cell? ⟨cb, 2, none⟩ = some (.int .i64 now) := (cell_of_row _ _ 2 _ _ _ hbx6d).trans rfl
    replace hi := Lib.hid hi
    replace hz0 := Lib.hid hz0
    replace hz1 := Lib.hid hz1
    replace hz2 := Lib.hid hz2
    replace hw6 := Lib.hid hw6
    replace hM6 := Lib.hid hM6
    replace hM6d := Lib.hid hM6d
    replace hbx6 := Lib.hid hbx6
    replace hbx6d := Lib.hid hbx6d
    replace hTd := Lib.hid hTd
    replace hT6 := Lib.hid hT6
    replace hFd := Lib.hid hFd
    replace hBd := Lib.hid hBd
    replace hF6 := Lib.hid hF6
    clear c2 c5 f5
    go_region_law ((refine step_append_three rfl _ _ 63 (by rfl) B 77 i0 (.agg #[.int .i64 0, .string ⟨#[]⟩, .int .i64 0]) 32 Try.underlying63 hi.out hz0.out hz1.out hz2.out rfl _ s.free.length (ccs s.free) (by rfl) hM6d.out.rf 1 (by rfl) (by simp [Value.oneCell']) (by unfold maxLen; omega) (by omega) hBd.out ?_; intro v7 w7 hr7 hg7 hl7; obtain ⟨no, nc, rfl⟩ := ownsRow_shape hr7; obtain ⟨f7, e7, hP7⟩ := hM6d.out.freeTo hBd.out (l := s.free ++ [{ c with since := now }]) (by simpa [ccs, cc] using hr7) (Tch.grown hg7 (fun k hk => .inl hk)) hl7; replace hP7 := Lib.hid hP7; replace hr7 := Lib.hid hr7; clear hg7 hl7))
    all_goals
      go_wp2_with fail
      go_ret
      exact ⟨rfl, rpost_trans hTd.out hFd.out hP7.out⟩
end Go.Proofs.Ytpebcamnmeppaaa
