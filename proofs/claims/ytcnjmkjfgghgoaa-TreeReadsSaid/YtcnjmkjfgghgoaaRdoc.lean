/- The document's document. -/
import Derived.Test.YtcnjmkjfgghgoaaRbw
namespace Go.Proofs.Ytcnjmkjfgghgoaa
open Go.RowKit Go.Mp Go.Tr
set_option linter.unusedVariables false
set_option maxRecDepth 100000
set_option maxHeartbeats 1000000
theorem rblock_all {l : List Tok} (hll : l.length < 4398046511104) (f : Nat) : RBlockOK l f := by
  induction f using Nat.strongRecOn with
  | _ f ih => exact rblock_any hll fun g hg => rvalue_any hll (ih g hg)
def RDoc (w : World) (B : Nat) (l : List Tok) (e : Ending) (w' : World) : Prop :=
  match doc l with
  | .error (ln, er) => ∃ p, e = .returned (.tuple #[.pointer p, .int .i64 ln, .int .i64 er]) ∧ Tch No w w'
  | .ok t => ∃ b F, e = .returned (.tuple #[ptr b, .int .i64 0, .int .i64 0]) ∧ PT w' B t b F ∧ Tch No w w' ∧ ∀ k, F k → k < w'.heap.size
theorem has_iff (t : Tok) : has t = (decide (2 ≤ t.kind) && decide (t.kind ≤ 4)) := by
  unfold has
  rw [Bool.eq_iff_iff]; simp; omega
theorem rdocument_any {w : World} {B : Nat} {lv : Value} {l : List Tok} {kb : Nat} (tk : TokS w kb lv l) (hk : kb < w.heap.size) (hB : B ≤ w.heap.size) (hne : l ≠ []) (hll : l.length < 4398046511104) : Calls Try.prog 35 #[lv] w (RDoc w B l) := by
  obtain ⟨x, hx⟩ : ∃ x, l[0]? = some x := by cases l with
    | nil => exact absurd rfl hne
    | cons a l => exact ⟨a, rfl⟩
  have hx' : (l[0]?).getD zero = x := by rw [hx]; rfl
  have hl0 := (List.getElem?_eq_some_iff.1 hx).1
  obtain ⟨ao, cap, rfl, _⟩ := id tk
  obtain ⟨w1, hw1⟩ : ∃ w1, w1 = w.alloc (.cells #[.slice ao l.length cap, .int .i64 0, .int .i64 0, .int .i64 0, .int .i64 0] 94) := ⟨_, rfl⟩
  have t1 : Tch No w w1 := by rw [hw1]; exact Tch.alloc No w _
  obtain ⟨rb, hrb⟩ : ∃ rb, rb = w.heap.size := ⟨_, rfl⟩
  have g1 : w1.heap[rb]? = some (.cells #[.slice ao l.length cap, .int .i64 0, .int .i64 0, .int .i64 0, .int .i64 0] 94) := by rw [hw1, hrb]; exact heap_alloc_new w _
  have hR : RR w1 rb kb (.slice ao l.length cap) l 0 0 := ⟨g1, tk.keep (t1.block kb hk id), Nat.lt_of_lt_of_le hk t1.size, by omega⟩
  obtain ⟨off, rfl, _, d0, d1, d2, d3, d4⟩ := hR.tk.at hx
  rw [Nat.zero_mul, Nat.add_zero] at d0 d1
  obtain ⟨c0, c1, c2, c3, c4⟩ := hR.cells
  have k0 : (0 : Int) < (l.length : Int) := by omega
  have hh := has_iff x
  have hdh := doc_head hx
  have hC := rblock_all hll l.length w1 B rb kb _ 0 1 0 hR (Nat.le_trans hB t1.size) (by omega) (by omega)
  rw [hx'] at hC
  have ht : Tch (fun k => k = rb) w1 w1 := Tch.refl _ _
  have hnew : ∀ w2 : World, Tch (fun k => k = rb) w1 w2 → Tch No w w2 := fun w2 t => t1.trans t (fun k hk => .inr (by rw [hk, hrb]; exact Nat.le_refl _))
  replace hnew := Lib.hid hnew
  replace hC := Lib.hid hC
  replace tk := Lib.hid tk
  replace hk := Lib.hid hk
  replace hx := Lib.hid hx
  replace hx' := Lib.hid hx'
  replace hl0 := Lib.hid hl0
  replace t1 := Lib.hid t1
  replace g1 := Lib.hid g1
  replace hR := Lib.hid hR
  replace hdh := Lib.hid hdh
  replace ht := Lib.hid ht
  replace hne := Lib.hid hne
  cases hhx : has x with
  | false =>
    have hd := hdh.out hhx
    rw [hhx] at hh
    have hDo : ∀ (e : Ending) (w' : World), e = .returned (.tuple #[.pointer none, .int .i64 x.line, .int .i64 90]) → Tch No w w' → RDoc w B l e w' := fun e w' he t => by unfold RDoc; rw [hd]; exact ⟨none, he, t⟩
    replace hDo := Lib.hid hDo
    replace hhx := Lib.hid hhx
    replace hd := Lib.hid hd
    by_cases k2 : x.kind < 2
    · have q2 : decide (x.kind < 2) = true := decide_eq_true k2
      replace hh := Lib.hid hh
      go_enter Try.func35, Try.ntmps35
      go_upto_region 2 with fail
      rw [← hw1, ← hrb]
      replace hw1 := Lib.hid hw1
      replace hrb := Lib.hid hrb
      go_wp2
      go_quiet (fail)
      go_wp2
      go_ret3
      exact hDo.out _ _ rfl (t1.out.trans (Tch.drewN No w1 nq) (fun _ h => h.elim))
    · have q2 : decide (x.kind < 2) = false := decide_eq_false k2
      have q4 : decide (4 < x.kind) = true := decide_eq_true (by
        rw [show decide (2 ≤ x.kind) = true from decide_eq_true (by omega)] at hh
        simp at hh; omega)
      replace k2 := Lib.hid k2
      replace hh := Lib.hid hh
      go_enter Try.func35, Try.ntmps35
      go_upto_region 2 with fail
      rw [← hw1, ← hrb]
      replace hw1 := Lib.hid hw1
      replace hrb := Lib.hid hrb
      go_wp2
      go_quiet (fail)
      go_wp2
      go_ret3
      exact hDo.out _ _ rfl (t1.out.trans (Tch.drewN No w1 nq) (fun _ h => h.elim))
  | true =>
    rw [hhx] at hh
    have h24 : 2 ≤ x.kind ∧ x.kind ≤ 4 := by
      have := hh.symm
      simpa using this
    have q2 : decide (x.kind < 2) = false := decide_eq_false (by omega)
    have q4 : decide (4 < x.kind) = false := decide_eq_false (by omega)
    have hh' : has ((l[0]?).getD zero) = true := by rw [hx'.out]; exact hhx
    have hC2 := hC.out hhx (by omega)
    have hd1 := fun x => doc_err hh' (x := x)
    have hd2 := fun t at2 m2 n => doc_more hh' (t := t) (at2 := at2) (m2 := m2) (n := n)
    have hd3 := fun t at2 m2 => doc_ok hh' (t := t) (at2 := at2) (m2 := m2)
    clear hC
    generalize blockW (loop l l.length) l 0 1 0 ⟨#[]⟩ = r at *
    replace hC2 := Lib.hid hC2
    replace hd1 := Lib.hid hd1
    replace hd2 := Lib.hid hd2
    replace hd3 := Lib.hid hd3
    replace hh := Lib.hid hh
    replace hh' := Lib.hid hh'
    replace hhx := Lib.hid hhx
    replace h24 := Lib.hid h24
    go_enter Try.func35, Try.ntmps35
    go_upto_region 2 with fail
    rw [← hw1, ← hrb]
    replace hw1 := Lib.hid hw1
    replace hrb := Lib.hid hrb
    go_upto_region 4 with fail
    rcases r with ⟨ln, er⟩ | ⟨t, at2, m2⟩
    · have hd := hd1.out _ rfl
      have hDo : ∀ (e : Ending) (w' : World), e = .returned (.tuple #[.pointer none, .int .i64 ln, .int .i64 er]) → Tch No w w' → RDoc w B l e w' := fun e w' he t => by unfold RDoc; rw [hd]; exact ⟨none, he, t⟩
      clear hd1 hd2 hd3
      replace hd := Lib.hid hd
      replace hDo := Lib.hid hDo
      go_upto_region 7 with (first
        | (go_at_call 49; refine hC2.out.mono ?_; clear hC2; rintro e w6 ⟨rfl, ⟨a6, m6, hR6⟩, tR⟩; replace tR := Lib.hid tR)
        | fail)
      clear c0 c1 c2 c3 c4
      have c2 : w6.cell? ⟨rb, 2, none⟩ = some (.int .i64 ln) := (cell_of_row _ _ 2 _ _ _ hR6).trans rfl
      have c3 : w6.cell? ⟨rb, 3, none⟩ = some (.int .i64 er) := (cell_of_row _ _ 3 _ _ _ hR6).trans rfl
      replace hR6 := Lib.hid hR6
      go_quiet (fail)
      go_wp2
      go_ret3
      exact hDo.out _ _ rfl (hnew.out _ (tR.out.trans (Tch.drewN _ w6 nq) (fun _ h => .inl h)))
    · have hde := fun n => hd2.out t at2 m2 n rfl
      have hdo := hd3.out _ _ _ rfl
      clear hd1 hd2 hd3
      replace hde := Lib.hid hde
      replace hdo := Lib.hid hdo
      go_upto_region 5 with (first
        | (go_at_call 49; refine hC2.out.mono ?_; clear hC2; rintro e w6 ⟨b, F, rfl, hP, hR6, tR, hF⟩; replace tR := Lib.hid tR; replace hP := Lib.hid hP; replace hF := Lib.hid hF)
        | fail)
      clear c0 c1 c2 c3 c4 d0 d1 d2 d3 d4
      obtain ⟨c0, c1, c2, c3, c4⟩ := hR6.cells
      cases hn : l[at2]? with
      | some n =>
        have k3 := nn_lt (List.getElem?_eq_some_iff.1 hn).1
        obtain ⟨o2, eo, _, d0, d1, d2, d3, d4⟩ := hR6.tk.at hn
        cases eo
        have hd := hde.out n hn
        have hDo : ∀ (e : Ending) (w' : World), e = .returned (.tuple #[.pointer none, .int .i64 n.line, .int .i64 90]) → Tch No w w' → RDoc w B l e w' := fun e w' he t => by unfold RDoc; rw [hd]; exact ⟨none, he, t⟩
        have hFl := Lib.hid (fail_any hR6 n.line 90)
        replace hR6 := Lib.hid hR6
        replace hDo := Lib.hid hDo
        replace hn := Lib.hid hn
        replace hd := Lib.hid hd
        go_upto_region 7 with (first
          | (go_at_call 50; refine hFl.out.mono ?_; clear hFl; rintro e w7 ⟨rfl, ⟨a7, m7, hR7⟩, tR7⟩; replace tR7 := Lib.hid tR7)
          | fail)
        clear c0 c1 c2 c3 c4 d0 d1 d2 d3 d4
        have c2 : w7.cell? ⟨rb, 2, none⟩ = some (.int .i64 n.line) := (cell_of_row _ _ 2 _ _ _ hR7).trans rfl
        have c3 : w7.cell? ⟨rb, 3, none⟩ = some (.int .i64 90) := (cell_of_row _ _ 3 _ _ _ hR7).trans rfl
        replace hR7 := Lib.hid hR7
        go_quiet (fail)
        go_wp2
        go_ret3
        exact hDo.out _ _ rfl (hnew.out _ ((tR.out.trans tR7.out (fun _ h => .inl h)).trans (Tch.drewN _ w7 nq) (fun _ h => .inl h)))
      | none =>
        have k3 := nn_ge (Nat.not_lt.2 (List.getElem?_eq_none_iff.1 hn))
        have k4 : decide (at2 < l.length) = false := decide_eq_false (Nat.not_lt.2 (List.getElem?_eq_none_iff.1 hn))
        have hd := hdo.out hn
        have hDo : ∀ (e : Ending) (w' : World), e = .returned (.tuple #[ptr b, .int .i64 0, .int .i64 0]) → PT w' B t b F → Tch No w w' → (∀ k, F k → k < w'.heap.size) → RDoc w B l e w' := fun e w' he hp t hf => by unfold RDoc; rw [hd]; exact ⟨b, F, he, hp, t, hf⟩
        replace hR6 := Lib.hid hR6
        replace hDo := Lib.hid hDo
        replace hn := Lib.hid hn
        replace hd := Lib.hid hd
        go_upto_region 7 with fail
        go_quiet (fail)
        go_wp2
        go_ret3
        exact hDo.out _ _ rfl (PT.tch (Tch.drewN No w6 nq) _ _ _ hP.out (fun _ _ h => h)) (hnew.out _ (tR.out.trans (Tch.drewN _ w6 nq) (fun _ h => .inl h))) (fun k hk => (hF.out k hk).2)
end Go.Proofs.Ytcnjmkjfgghgoaa
