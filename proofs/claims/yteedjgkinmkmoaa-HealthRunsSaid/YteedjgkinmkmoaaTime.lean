/- The walk of (*State).time. -/
import Derived.Test.YteedjgkinmkmoaaState
import Derived.BigRegion
namespace Go.Proofs.Yteedjgkinmkmoaa
open Go.ChangeShapes Go.WideShapes Go.ChangeAt Go.RowKit
open Go.Tp
set_option linter.unusedVariables false

theorem isinf_any (x : Nat) (h : x < 18446744073709551616) (hx : Fl.ge x = true) (w : World) :
    Calls Try.prog 30 #[.float .f64 x, .int .i64 1] w fun e w' => e = .returned (.bool (decide (x = Fl.INF))) ∧ w = w' := by
  have e : (FloatKind.f64.format.order x 9218868437227405311 == some .gt) = decide (x = Fl.INF) := by
    show (Fl.dbl.order x 9218868437227405311 == some .gt) = _
    rcases (Fl.ge_iff x h).1 hx with h2 | h2
    · rcases Nat.lt_or_ge x Fl.INF with h | h
      · rw [Fl.order_eq x _ h (by decide)]
        have h1 : decide (x = Fl.INF) = false := by rw [decide_eq_false_iff_not]; omega
        rw [h1]
        have h2 : x ≤ 9218868437227405311 := by unfold Fl.INF at h; omega
        simp only [compare, compareOfLessAndEq]
        split
        · rfl
        · rw [if_pos (by omega)]; rfl
      · obtain rfl : x = Fl.INF := Nat.le_antisymm h2 h
        decide +kernel
    · subst h2; decide +kernel
  replace e := Lib.hid e
  go_enter Try.func30, Try.ntmps30
  go_wp2
  go_ret
  exact ⟨by rw [← e.out]; rfl, rfl⟩

def nz (t : Nat) : Nat := if t = 9223372036854775808 then 0 else t
def quarter (k t : Nat) : Nat := (((Fl.dbl.sub t k).bind fun d => Fl.dbl.div d 4616189618054758400).bind fun e => Fl.dbl.add k e).getD 0
theorem nz_add (t : Nat) (h : t < 18446744073709551616) (hg : Fl.ge t = true) (hi : t ≠ Fl.INF) : Fl.dbl.add t 0 = some (nz t) ∧ nz t < Fl.INF := by
  unfold nz
  rcases (Fl.ge_iff t h).1 hg with h2 | h2
  · have h3 : t < Fl.INF := by omega
    have h4 : t ≠ 9223372036854775808 := by intro e; rw [e] at h3; exact absurd h3 (by decide)
    rw [if_neg h4, Fl.add_eq t 0 h3 (by decide)]
    have : Fl.V 0 = 0 := by decide
    rw [this, Nat.add_zero, Fl.D_V t h3]
    exact ⟨rfl, h3⟩
  · subst h2
    rw [if_pos rfl]
    exact ⟨by decide +kernel, by decide⟩
theorem quarter_spec (k t : Nat) (hk : k < Fl.INF) (ht : t < Fl.INF) : ∃ d e, Fl.dbl.sub t k = some d ∧ Fl.dbl.div d 4616189618054758400 = some e ∧ Fl.dbl.add k e = some (quarter k t) ∧ min k t ≤ quarter k t ∧ quarter k t ≤ max k t := by
  obtain ⟨d, e, r, h1, h2, h3, h4, h5⟩ := Fl.step_between t k ht hk
  have : quarter k t = r := by unfold quarter; rw [h1, Option.bind_some, h2, Option.bind_some, h3]; rfl
  rw [this]
  exact ⟨d, e, h1, h2, h3, h4, h5⟩

def timeS (s : St) (t : Nat) : St := if Fl.ge t = true ∧ t ≠ Fl.INF then { s with took := if s.timed = 0 then nz t else quarter s.took (nz t), timed := s.timed + 1 } else s
theorem timeS_took {s : St} {t : Nat} (h : t < 18446744073709551616) (hs : s.took < Fl.INF) : (timeS s t).took < Fl.INF := by
  unfold timeS
  split
  · rename_i hc
    dsimp only
    have h1 := (nz_add t h hc.1 hc.2).2
    split
    · exact h1
    · obtain ⟨d, e, _, _, _, _, h5⟩ := quarter_spec s.took (nz t) hs h1
      omega
  · exact hs

def TimePost (b : Nat) (s : St) (t : Nat) (w : World) (e : Ending) (w' : World) : Prop := e = .returned (.tuple #[]) ∧ w'.heap[b]? = some (blk (timeS s t)) ∧ Only b w w'

set_option maxHeartbeats 1000000 in
theorem time_any (b : Nat) (s : St) (t : Nat) (w : World) (hb : w.heap[b]? = some (blk s)) (ht : t < 18446744073709551616) (hs : s.took < Fl.INF) (hn : 0 ≤ s.timed ∧ s.timed ≤ 1000000000) :
    Calls Try.prog 26 #[.pointer (some ⟨b, 0, none⟩), .float .f64 t] w (TimePost b s t w) := by
  obtain ⟨c0, c1, c2, c3, c4, c5, c6, fr⟩ := cells_of hb
  have f4 := fr 4
  have f5 := fr 5
  obtain ⟨hn1, hn2⟩ := hn
  clear c0 c1 c2 c3 c6 fr
  replace hb := Lib.hid hb
  by_cases hg : Fl.ge t = true
  · have hinf := isinf_any t ht hg
    have hor : (FloatKind.f64.format.order t 0 == some Ordering.gt) = true ∨ (FloatKind.f64.format.order t 0 == some Ordering.gt) = false ∧ (FloatKind.f64.format.order t 0 == some Ordering.eq) = true := by
      have h2 := hg
      unfold Fl.ge at h2
      rw [Bool.or_eq_true] at h2
      by_cases h3 : (FloatKind.f64.format.order t 0 == some Ordering.gt) = true
      · exact .inl h3
      · exact .inr ⟨Bool.eq_false_iff.2 h3, h2.resolve_left h3⟩
    by_cases hi : t = Fl.INF
    · have hT : timeS s t = s := by unfold timeS; rw [if_neg (by intro h; exact h.2 hi)]
      have hd : decide (t = Fl.INF) = true := by simpa using hi
      rw [hd] at hinf
      replace hT := Lib.hid hT
      replace hinf := Lib.hid hinf
      clear hg hi hd
      rcases hor with hA | ⟨hA, hB⟩
      all_goals
        go_enter Try.func26, Try.ntmps26
        go_wp2_with (go_at_call 30; refine (hinf.out _).mono ?_; rintro e w' ⟨rfl, rfl⟩)
        go_end0
        exact ⟨rfl, by rw [hT.out]; exact hb.out, Only.refl _ _⟩
    · obtain ⟨hz, hz2⟩ := nz_add t ht hg hi
      have hz1 : ∀ w, (binOp .add 30 (.float .f64 t) (.float .f64 0)).run Try.prog w = .ok (.float .f64 (nz t)) w := fun w => run_float_arith w _ _ _ _ _ _ hz
      have hd : decide (t = Fl.INF) = false := by simpa using hi
      rw [hd] at hinf
      replace hinf := Lib.hid hinf
      by_cases h0 : s.timed = 0
      · have hT : timeS s t = { s with took := nz t, timed := s.timed + 1 } := by unfold timeS; rw [if_pos ⟨hg, hi⟩, if_pos h0]
        have hz0 : (s.timed == 0) = true := by simpa using h0
        replace hT := Lib.hid hT
        clear hg hi hd h0 hz
        rcases hor with hA | ⟨hA, hB⟩
        all_goals
          have hsf := @Tp.run_store_float Try.prog
          go_enter Try.func26, Try.ntmps26
          go_wp2_with (go_at_call 30; refine (hinf.out _).mono ?_; rintro e w' ⟨rfl, rfl⟩)
          go_end0
          exact ⟨rfl, by rw [hT.out]; exact heap_set _ (heap_set _ hb.out), (Only.setCell _ _ _ _).trans (Only.setCell _ _ _ _)⟩
      · have hT : timeS s t = { s with took := quarter s.took (nz t), timed := s.timed + 1 } := by unfold timeS; rw [if_pos ⟨hg, hi⟩, if_neg h0]
        obtain ⟨d, e, h1, h2, h3, _, _⟩ := quarter_spec s.took (nz t) hs hz2
        have g1 : ∀ w, (binOp .sub 30 (.float .f64 (nz t)) (.float .f64 s.took)).run Try.prog w = .ok (.float .f64 d) w := fun w => run_float_arith w _ _ _ _ _ _ h1
        have g2 : ∀ w, (binOp .quo 30 (.float .f64 d) (.float .f64 4616189618054758400)).run Try.prog w = .ok (.float .f64 e) w := fun w => run_float_arith w _ _ _ _ _ _ h2
        have g3 : ∀ w, (binOp .add 30 (.float .f64 s.took) (.float .f64 e)).run Try.prog w = .ok (.float .f64 (quarter s.took (nz t))) w := fun w => run_float_arith w _ _ _ _ _ _ h3
        have hz0 : (s.timed == 0) = false := by simpa using h0
        replace hT := Lib.hid hT
        clear hg hi hd h0 hz h1 h2 h3
        rcases hor with hA | ⟨hA, hB⟩
        all_goals
          have hsf := @Tp.run_store_float Try.prog
          go_enter Try.func26, Try.ntmps26
          go_wp2_with (go_at_call 30; refine (hinf.out _).mono ?_; rintro e w' ⟨rfl, rfl⟩)
          go_region
          go_wp2
          go_end0
          exact ⟨rfl, by rw [hT.out]; exact heap_set (w := w.setCell ⟨b, 4, none⟩ (.float .f64 (quarter s.took (nz t)))) _ (heap_set _ hb.out), ((Only.setCell _ _ _ _).trans (Only.setCell _ _ _ _)).trans (Only.drewN _ _ 1)⟩
  · have hT : timeS s t = s := by unfold timeS; rw [if_neg (by intro h; exact hg h.1)]
    have hA : (FloatKind.f64.format.order t 0 == some Ordering.gt) = false := by
      rw [Bool.eq_false_iff]; intro h; apply hg; unfold Fl.ge; rw [Bool.or_eq_true]; exact .inl h
    have hB : (FloatKind.f64.format.order t 0 == some Ordering.eq) = false := by
      rw [Bool.eq_false_iff]; intro h; apply hg; unfold Fl.ge; rw [Bool.or_eq_true]; exact .inr h
    replace hT := Lib.hid hT
    clear hg
    go_enter Try.func26, Try.ntmps26
    go_wp2
    go_end0
    exact ⟨rfl, by rw [hT.out]; exact hb.out, Only.refl _ _⟩
end Go.Proofs.Yteedjgkinmkmoaa
