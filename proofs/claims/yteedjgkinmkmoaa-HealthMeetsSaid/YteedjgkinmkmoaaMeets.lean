/- So many good and then so many bad probes make any two states alike: the plain law. -/
import Derived.Test.YteedjgkinmkmoaaBoth
namespace Go.Proofs.Yteedjgkinmkmoaa
open Go.Tp
set_option linter.unusedVariables false

/-- A state that has not missed its turn. -/
structure Inv (s : St) : Prop where
  rise : 1 ≤ s.rise ∧ s.rise ≤ 100
  fall : 1 ≤ s.fall ∧ s.fall ≤ 100
  pl : s.pl = 0 ∨ s.pl = 1
  lo : s.pl = 0 → s.row < s.rise
  hi : s.pl = 1 → -s.fall < s.row
theorem mid_same (s : St) (ok : Bool) (t : Nat) : (midS s ok t).rise = s.rise ∧ (midS s ok t).fall = s.fall ∧ (midS s ok t).pl = s.pl ∧ (midS s ok t).row = rowN s.row (stepOf ok) := by
  unfold midS countS
  have h := timeS_same s t
  cases ok
  · exact ⟨rfl, rfl, rfl, rfl⟩
  · exact ⟨h.1, h.2.1, h.2.2.1, by show rowN (timeS s t).row _ = _; rw [h.2.2.2.1]⟩
theorem turn_cases (m : St) (ok : Bool) : ((turnS m ok).rise = m.rise ∧ (turnS m ok).fall = m.fall) ∧ ((turnsB m ok = true ∧ (turnS m ok).pl = 1 - m.pl ∧ (turnS m ok).row = 0) ∨ (turnsB m ok = false ∧ (turnS m ok).pl = m.pl ∧ (turnS m ok).row = m.row)) := by
  unfold turnS
  by_cases h : turnsB m ok = true
  · rw [if_pos h]; exact ⟨⟨rfl, rfl⟩, .inl ⟨h, rfl, rfl⟩⟩
  · rw [if_neg h]; exact ⟨⟨rfl, rfl⟩, .inr ⟨by simpa using h, rfl, rfl⟩⟩
/-- What a probe does to the place and the row. -/
theorem probe_good (s : St) (t : Nat) : (probeS s true t).rise = s.rise ∧ (probeS s true t).fall = s.fall ∧
    ((s.pl = 0 ∧ s.rise ≤ rowN s.row 1 ∧ (probeS s true t).pl = 1 ∧ (probeS s true t).row = 0) ∨ (¬ (s.pl = 0 ∧ s.rise ≤ rowN s.row 1) ∧ (probeS s true t).pl = s.pl ∧ (probeS s true t).row = rowN s.row 1)) := by
  obtain ⟨m1, m2, m3, m4⟩ := mid_same s true t
  obtain ⟨⟨t1, t2⟩, t3⟩ := turn_cases (midS s true t) true
  have hb : turnsB (midS s true t) true = (decide (s.pl = 0) && decide (s.rise ≤ rowN s.row 1)) := by
    show (decide ((midS s true t).pl = 0) && decide ((midS s true t).rise ≤ (midS s true t).row)) = _
    rw [m1, m3, m4]; rfl
  refine ⟨t1.trans m1, t2.trans m2, ?_⟩
  rcases t3 with ⟨h, h1, h2⟩ | ⟨h, h1, h2⟩
  · left
    rw [hb, Bool.and_eq_true, decide_eq_true_eq, decide_eq_true_eq] at h
    refine ⟨h.1, h.2, ?_, h2⟩
    have : (probeS s true t).pl = 1 - (midS s true t).pl := h1
    rw [this, m3, h.1]; rfl
  · right
    rw [hb, Bool.and_eq_false_iff, decide_eq_false_iff_not, decide_eq_false_iff_not] at h
    exact ⟨fun hh => by rcases h with h | h; exact h hh.1; exact h hh.2, h1.trans m3, h2.trans m4⟩
theorem probe_bad (s : St) (t : Nat) : (probeS s false t).rise = s.rise ∧ (probeS s false t).fall = s.fall ∧
    ((s.pl = 1 ∧ s.fall ≤ -rowN s.row (-1) ∧ (probeS s false t).pl = 0 ∧ (probeS s false t).row = 0) ∨ (¬ (s.pl = 1 ∧ s.fall ≤ -rowN s.row (-1)) ∧ (probeS s false t).pl = s.pl ∧ (probeS s false t).row = rowN s.row (-1))) := by
  obtain ⟨m1, m2, m3, m4⟩ := mid_same s false t
  obtain ⟨⟨t1, t2⟩, t3⟩ := turn_cases (midS s false t) false
  have hb : turnsB (midS s false t) false = (decide (s.pl = 1) && decide (s.fall ≤ -rowN s.row (-1))) := by
    show (decide ((midS s false t).pl = 1) && decide ((midS s false t).fall ≤ -(midS s false t).row)) = _
    rw [m2, m3, m4]; rfl
  refine ⟨t1.trans m1, t2.trans m2, ?_⟩
  rcases t3 with ⟨h, h1, h2⟩ | ⟨h, h1, h2⟩
  · left
    rw [hb, Bool.and_eq_true, decide_eq_true_eq, decide_eq_true_eq] at h
    refine ⟨h.1, h.2, ?_, h2⟩
    have : (probeS s false t).pl = 1 - (midS s false t).pl := h1
    rw [this, m3, h.1]; rfl
  · right
    rw [hb, Bool.and_eq_false_iff, decide_eq_false_iff_not, decide_eq_false_iff_not] at h
    exact ⟨fun hh => by rcases h with h | h; exact h hh.1; exact h hh.2, h1.trans m3, h2.trans m4⟩
theorem rowN_up (r : Int) (h : r < 1000000) : rowN r 1 = if r < 0 then 1 else r + 1 := by unfold rowN; repeat' split
                                                                                          all_goals omega
theorem rowN_down (r : Int) (h : -1000000 < r) : rowN r (-1) = if 0 < r then -1 else r - 1 := by unfold rowN; repeat' split
                                                                                                 all_goals omega
theorem rowN_up_pos (r : Int) : 0 ≤ rowN r 1 := by unfold rowN; repeat' split
                                                   all_goals omega
theorem rowN_down_neg (r : Int) : rowN r (-1) ≤ 0 := by unfold rowN; repeat' split
                                                        all_goals omega
theorem inv_probe {s : St} (h : Inv s) (ok : Bool) (t : Nat) : Inv (probeS s ok t) := by
  cases ok with
  | true =>
    obtain ⟨e1, e2, h3⟩ := probe_good s t
    rcases h3 with ⟨h1, h2, h3, h4⟩ | ⟨h1, h3, h4⟩
    · exact ⟨by rw [e1]; exact h.rise, by rw [e2]; exact h.fall, .inr h3, (fun e => by rw [h3] at e; cases e), fun _ => by rw [h4, e2]; have := h.fall; omega⟩
    · refine ⟨by rw [e1]; exact h.rise, by rw [e2]; exact h.fall, by rw [h3]; exact h.pl, fun e => ?_, fun _ => ?_⟩
      · rw [h3] at e; rw [h4, e1]
        rcases Int.lt_or_le (rowN s.row 1) s.rise with h5 | h5
        · exact h5
        · exact absurd ⟨e, h5⟩ h1
      · rw [h4, e2]; have := rowN_up_pos s.row; have := h.fall; omega
  | false =>
    obtain ⟨e1, e2, h3⟩ := probe_bad s t
    rcases h3 with ⟨h1, h2, h3, h4⟩ | ⟨h1, h3, h4⟩
    · exact ⟨by rw [e1]; exact h.rise, by rw [e2]; exact h.fall, .inl h3, (fun _ => by rw [h4, e1]; have := h.rise; omega), (fun e => by rw [h3] at e; cases e)⟩
    · refine ⟨by rw [e1]; exact h.rise, by rw [e2]; exact h.fall, by rw [h3]; exact h.pl, fun _ => ?_, fun e => ?_⟩
      · rw [h4, e1]; have := rowN_down_neg s.row; have := h.rise; omega
      · rw [h3] at e; rw [h4, e2]
        rcases Int.lt_or_le (-s.fall) (rowN s.row (-1)) with h5 | h5
        · exact h5
        · exact absurd ⟨e, by omega⟩ h1
theorem inv_run {s : St} (h : Inv s) (ps : List (Bool × Nat)) : Inv (runS s ps) := by
  induction ps generalizing s with
  | nil => exact h
  | cons p r ih => exact ih (inv_probe h p.1 p.2)
theorem inv_new {rise fall : Int} (h : validT rise fall) : Inv (newS rise fall) := ⟨h.1, h.2, .inr rfl, (fun e => by cases e), fun _ => by show -fall < 0; have := h.2; omega⟩
/-- A state behind k alike probes. -/
def many (s : St) (ok : Bool) (k : Nat) : St := runS s (List.replicate k (ok, ONE'))
where ONE' : Nat := 4607182418800017408
theorem many_succ (s : St) (ok : Bool) (k : Nat) : many s ok (k + 1) = probeS (many s ok k) ok 4607182418800017408 := by
  unfold many
  rw [List.replicate_succ', runS_snoc]; rfl
theorem good_many {s : St} (h : Inv s) (k : Nat) (hk : 1 ≤ k) : Inv (many s true k) ∧ (many s true k).rise = s.rise ∧ (many s true k).fall = s.fall ∧ (((many s true k).pl = 1 ∧ 0 ≤ (many s true k).row) ∨ ((many s true k).pl = 0 ∧ (k : Int) ≤ (many s true k).row)) := by
  induction k with
  | zero => omega
  | succ k ih =>
    have hprev : Inv (many s true k) ∧ (many s true k).rise = s.rise ∧ (many s true k).fall = s.fall ∧ ((many s true k).pl = 1 ∨ ((many s true k).pl = 0 ∧ (k = 0 ∨ (k : Int) ≤ (many s true k).row))) := by
      rcases Nat.eq_zero_or_pos k with h0 | h0
      · subst h0
        refine ⟨h, rfl, rfl, ?_⟩
        rcases h.pl with e | e
        · exact .inr ⟨e, .inl rfl⟩
        · exact .inl e
      · obtain ⟨a, b, c, d⟩ := ih h0
        refine ⟨a, b, c, ?_⟩
        rcases d with ⟨d, _⟩ | ⟨d, e⟩
        · exact .inl d
        · exact .inr ⟨d, .inr e⟩
    obtain ⟨a, b, c, d⟩ := hprev
    rw [many_succ]
    generalize many s true k = m at *
    obtain ⟨e1, e2, h3⟩ := probe_good m 4607182418800017408
    refine ⟨inv_probe a true _, e1.trans b, e2.trans c, ?_⟩
    rcases h3 with ⟨h1, h2, h3, h4⟩ | ⟨h1, h3, h4⟩
    · exact .inl ⟨h3, by omega⟩
    · rcases d with d | ⟨d, e⟩
      · exact .inl ⟨h3.trans d, by rw [h4]; exact rowN_up_pos _⟩
      · refine .inr ⟨h3.trans d, ?_⟩
        have hlt := a.lo d
        have hr := a.rise
        rw [h4, rowN_up _ (by omega)]
        split
        · rcases e with e | e <;> omega
        · rcases e with e | e <;> omega
theorem good_up {s : St} (h : Inv s) {k : Nat} (hk : (k : Int) = s.rise) : (many s true k).pl = 1 ∧ 0 ≤ (many s true k).row ∧ Inv (many s true k) ∧ (many s true k).fall = s.fall := by
  obtain ⟨a, b, c, d⟩ := good_many h k (by have := h.rise; omega)
  rcases d with ⟨d, e⟩ | ⟨d, e⟩
  · exact ⟨d, e, a, c⟩
  · have := a.lo d; omega
theorem bad_many {s : St} (h : Inv s) (h1 : s.pl = 1) (h2 : 0 ≤ s.row) (k : Nat) (hk : (k : Int) ≤ s.fall) : (many s false k).fall = s.fall ∧ (((k : Int) < s.fall ∧ (many s false k).pl = 1 ∧ (if k = 0 then (many s false k).row = s.row else (many s false k).row = -(k : Int))) ∨ ((k : Int) = s.fall ∧ (many s false k).pl = 0 ∧ (many s false k).row = 0)) := by
  induction k with
  | zero => exact ⟨rfl, .inl ⟨by have := h.fall; omega, h1, by rw [if_pos rfl]; rfl⟩⟩
  | succ k ih =>
    obtain ⟨b, d⟩ := ih (by omega)
    rcases d with ⟨d1, d2, d3⟩ | ⟨d1, _⟩
    · rw [many_succ]
      generalize many s false k = m at *
      obtain ⟨e1, e2, h3⟩ := probe_bad m 4607182418800017408
      have hf := h.fall
      have hrow : rowN m.row (-1) = -((k + 1 : Nat) : Int) := by
        have hm : (k = 0 ∧ m.row = s.row) ∨ (k ≠ 0 ∧ m.row = -(k : Int)) := by
          by_cases h0 : k = 0
          · rw [if_pos h0] at d3; exact .inl ⟨h0, d3⟩
          · rw [if_neg h0] at d3; exact .inr ⟨h0, d3⟩
        rw [rowN_down _ (by omega)]
        split <;> omega
      rw [hrow] at h3
      refine ⟨e2.trans b, ?_⟩
      rcases h3 with ⟨h4, h5, h6, h7⟩ | ⟨h4, h6, h7⟩
      · exact .inr ⟨by omega, h6, h7⟩
      · refine .inl ⟨?_, h6.trans d2, by rw [if_neg (by omega)]; exact h7⟩
        rcases Int.lt_or_le (((k + 1 : Nat) : Int)) s.fall with h8 | h8
        · exact h8
        · exact absurd ⟨d2, by omega⟩ h4
    · omega
theorem bad_down {s : St} (h : Inv s) (h1 : s.pl = 1) (h2 : 0 ≤ s.row) {k : Nat} (hk : (k : Int) = s.fall) : (many s false k).pl = 0 ∧ (many s false k).row = 0 := by
  obtain ⟨_, d⟩ := bad_many h h1 h2 k (by omega)
  rcases d with ⟨d, _⟩ | ⟨_, d⟩
  · omega
  · exact d
theorem probe_lim (s : St) (ok : Bool) (t : Nat) : (probeS s ok t).rise = s.rise ∧ (probeS s ok t).fall = s.fall := by
  cases ok
  · exact ⟨(probe_bad s t).1, (probe_bad s t).2.1⟩
  · exact ⟨(probe_good s t).1, (probe_good s t).2.1⟩
theorem run_lim (s : St) (ps : List (Bool × Nat)) : (runS s ps).rise = s.rise ∧ (runS s ps).fall = s.fall := by
  induction ps generalizing s with
  | nil => exact ⟨rfl, rfl⟩
  | cons p r ih =>
    have h := ih (probeS s p.1 p.2)
    have h2 := probe_lim s p.1 p.2
    exact ⟨h.1.trans h2.1, h.2.trans h2.2⟩
end Go.Proofs.Yteedjgkinmkmoaa
