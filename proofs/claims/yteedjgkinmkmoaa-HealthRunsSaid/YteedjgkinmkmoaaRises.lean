/- When a state turns, in plain words. -/
import Derived.Test.YteedjgkinmkmoaaNew
namespace Go.Proofs.Yteedjgkinmkmoaa
open Go.Tp
set_option linter.unusedVariables false

/-- How many probes in a row, since the last turn, speak against where the state is. -/
def opp (s : St) : Int := if s.pl = 1 then max 0 (-s.row) else max 0 s.row
def wasUp (s : St) : Bool := s.pl == 1
def want (s : St) : Int := if s.pl = 1 then s.fall else s.rise
def opp' (s : St) (ok : Bool) : Int := if ok != wasUp s then opp s + 1 else 0
def turned (s : St) (ok : Bool) : Bool := decide (want s ≤ opp' s ok)

theorem midS_row (s : St) (ok : Bool) (t : Nat) : (midS s ok t).row = rowN s.row (stepOf ok) ∧ (midS s ok t).pl = s.pl ∧ (midS s ok t).turns = s.turns ∧ (midS s ok t).rise = s.rise ∧ (midS s ok t).fall = s.fall := by
  obtain ⟨a1, a2, a3, a4, a5, _⟩ := timeS_same s t
  cases ok with
  | true =>
    unfold midS countS
    rw [if_pos rfl]
    exact ⟨by rw [a4], a3, a5, a1, a2⟩
  | false => exact ⟨rfl, rfl, rfl, rfl, rfl⟩

theorem rowN_up {r : Int} (h : r < 1000000) : rowN r 1 = if r < 0 then 1 else r + 1 := by unfold rowN; split <;> split <;> split <;> omega
theorem rowN_down {r : Int} (h : -1000000 < r) : rowN r (-1) = if 0 < r then -1 else r - 1 := by unfold rowN; split <;> split <;> split <;> omega

structure Turn (s : St) (ok : Bool) (s' : St) : Prop where
  up : wasUp s' = (wasUp s != turned s ok)
  turns : s'.turns = s.turns + (if turned s ok then 1 else 0)
  row : turned s ok = true → s'.row = 0
  opp : opp s' = if turned s ok then 0 else opp' s ok
  rise : s'.rise = s.rise
  fall : s'.fall = s.fall
  size : -s'.row ≤ max (-s.row) 0 + 1 ∧ s'.row ≤ max s.row 0 + 1

theorem turn_spec {s : St} {n : Int} (hok : Ok s n) (hr : -1000 ≤ s.row ∧ s.row ≤ 1000) (ok : Bool) (t : Nat) : Turn s ok (probeS s ok t) := by
  obtain ⟨m1, m2, m3, m4, m5⟩ := midS_row s ok t
  obtain ⟨hr1, hr2⟩ := hr
  have hrise := hok.rise
  have hfall := hok.fall
  unfold probeS
  generalize midS s ok t = m at *
  have hpl := hok.pl
  unfold turnS turnsB
  cases ok with
  | true =>
    have m1 : m.row = if s.row < 0 then 1 else s.row + 1 := by rw [m1]; exact rowN_up (by omega)
    rcases hpl with hp | hp
    · have w0 : wasUp s = false := by unfold wasUp; rw [hp]; rfl
      have o0 : opp s = max 0 s.row := by unfold opp; rw [hp]; rfl
      have ow : want s = s.rise := by unfold want; rw [hp]; rfl
      have o1 : opp' s true = max 0 s.row + 1 := by unfold opp'; rw [w0, o0]; rfl
      have hmo : m.row = max 0 s.row + 1 := by rw [m1]; split <;> omega
      by_cases hc : m.rise ≤ m.row
      · have ht : turned s true = true := by unfold turned; rw [ow, o1, decide_eq_true_iff]; omega
        have hcond : ((decide (m.pl = 0)) && decide (m.rise ≤ m.row)) = true := by rw [m2, hp]; simpa using hc
        simp only [if_true, hcond]
        refine ⟨?_, ?_, ?_, ?_, m4, m5, ?_⟩
        · rw [w0, ht]; unfold wasUp; dsimp only; rw [m2, hp]; rfl
        · rw [ht, if_pos rfl]; dsimp only; omega
        · intro _; rfl
        · rw [ht, if_pos rfl]; unfold opp; dsimp only; rw [m2, hp]; rfl
        · dsimp only; omega
      · have ht : turned s true = false := by unfold turned; rw [ow, o1, decide_eq_false_iff_not]; omega
        have hcond : ((decide (m.pl = 0)) && decide (m.rise ≤ m.row)) = false := by rw [m2, hp]; simpa using hc
        simp only [if_true, hcond, Bool.false_eq_true, if_false]
        refine ⟨?_, ?_, ?_, ?_, m4, m5, ?_⟩
        · rw [w0, ht]; unfold wasUp; rw [m2, hp]; rfl
        · rw [ht]; simp; omega
        · intro h; rw [ht] at h; cases h
        · rw [ht, o1]; unfold opp; rw [m2, hp]; simp; omega
        · omega
    · have w0 : wasUp s = true := by unfold wasUp; rw [hp]; rfl
      have ow : want s = s.fall := by unfold want; rw [hp]; rfl
      have o1 : opp' s true = 0 := by unfold opp'; rw [w0]; rfl
      have ht : turned s true = false := by unfold turned; rw [ow, o1, decide_eq_false_iff_not]; omega
      have hcond : ((decide (m.pl = 0)) && decide (m.rise ≤ m.row)) = false := by rw [m2, hp]; rfl
      simp only [if_true, hcond, Bool.false_eq_true, if_false]
      have hmo : 0 < m.row := by rw [m1]; split <;> omega
      refine ⟨?_, ?_, ?_, ?_, m4, m5, ?_⟩
      · rw [w0, ht]; unfold wasUp; rw [m2, hp]; rfl
      · rw [ht]; simp; omega
      · intro h; rw [ht] at h; cases h
      · rw [ht, o1]; unfold opp; rw [m2, hp]; simp; omega
      · rw [m1]; split <;> omega
  | false =>
    have m1 : m.row = if 0 < s.row then -1 else s.row - 1 := by rw [m1]; exact rowN_down (by omega)
    rcases hpl with hp | hp
    · have w0 : wasUp s = false := by unfold wasUp; rw [hp]; rfl
      have ow : want s = s.rise := by unfold want; rw [hp]; rfl
      have o1 : opp' s false = 0 := by unfold opp'; rw [w0]; rfl
      have ht : turned s false = false := by unfold turned; rw [ow, o1, decide_eq_false_iff_not]; omega
      have hcond : ((decide (m.pl = 1)) && decide (m.fall ≤ -m.row)) = false := by rw [m2, hp]; rfl
      simp only [hcond, Bool.false_eq_true, if_false]
      have hmo : m.row < 0 := by rw [m1]; split <;> omega
      refine ⟨?_, ?_, ?_, ?_, m4, m5, ?_⟩
      · rw [w0, ht]; unfold wasUp; rw [m2, hp]; rfl
      · rw [ht]; simp; omega
      · intro h; rw [ht] at h; cases h
      · rw [ht, o1]; unfold opp; rw [m2, hp]; simp; omega
      · rw [m1]; split <;> omega
    · have w0 : wasUp s = true := by unfold wasUp; rw [hp]; rfl
      have o0 : opp s = max 0 (-s.row) := by unfold opp; rw [hp]; rfl
      have ow : want s = s.fall := by unfold want; rw [hp]; rfl
      have o1 : opp' s false = max 0 (-s.row) + 1 := by unfold opp'; rw [w0, o0]; rfl
      have hmo : -m.row = max 0 (-s.row) + 1 := by rw [m1]; split <;> omega
      by_cases hc : m.fall ≤ -m.row
      · have ht : turned s false = true := by unfold turned; rw [ow, o1, decide_eq_true_iff]; omega
        have hcond : ((decide (m.pl = 1)) && decide (m.fall ≤ -m.row)) = true := by rw [m2, hp]; simpa using hc
        simp only [hcond, Bool.false_eq_true, if_true, if_false]
        refine ⟨?_, ?_, ?_, ?_, m4, m5, ?_⟩
        · rw [w0, ht]; unfold wasUp; dsimp only; rw [m2, hp]; rfl
        · rw [ht, if_pos rfl]; dsimp only; omega
        · intro _; rfl
        · rw [ht, if_pos rfl]; unfold opp; dsimp only; rw [m2, hp]; rfl
        · dsimp only; omega
      · have ht : turned s false = false := by unfold turned; rw [ow, o1, decide_eq_false_iff_not]; omega
        have hcond : ((decide (m.pl = 1)) && decide (m.fall ≤ -m.row)) = false := by rw [m2, hp]; simpa using hc
        simp only [hcond, Bool.false_eq_true, if_false]
        refine ⟨?_, ?_, ?_, ?_, m4, m5, ?_⟩
        · rw [w0, ht]; unfold wasUp; rw [m2, hp]; rfl
        · rw [ht]; simp; omega
        · intro h; rw [ht] at h; cases h
        · rw [ht, o1]; unfold opp; rw [m2, hp]; simp; omega
        · omega

/-- The probes of a list, the count from behind. -/
def tc (ps : List (Bool × Nat)) (since : Nat) (was : Bool) : Nat → Int
  | 0 => 0
  | n + 1 => if since ≤ n ∧ ((ps.getD n (false, 0)).1 != was) = true then tc ps since was n + 1 else 0
theorem tc_since (ps : List (Bool × Nat)) (since : Nat) (was : Bool) : tc ps since was since = 0 := by
  cases since with
  | zero => rfl
  | succ n => unfold tc; rw [if_neg (by omega)]
theorem tc_bd (ps : List (Bool × Nat)) (since : Nat) (was : Bool) : ∀ n, 0 ≤ tc ps since was n ∧ tc ps since was n ≤ n
  | 0 => by simp [tc]
  | n + 1 => by
    have := tc_bd ps since was n
    unfold tc
    split <;> omega
end Go.Proofs.Yteedjgkinmkmoaa
