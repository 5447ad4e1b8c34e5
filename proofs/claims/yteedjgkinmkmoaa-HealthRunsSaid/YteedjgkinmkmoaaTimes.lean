/- The time stays between the least and the greatest that counted: the plain law. -/
import Derived.Test.YteedjgkinmkmoaaRises
namespace Go.Proofs.Yteedjgkinmkmoaa
open Go.Tp
set_option linter.unusedVariables false

/-- Does a time count? -/
def counts (t : Nat) : Prop := Fl.ge t = true ∧ t ≠ Fl.INF
theorem nz_lt {t : Nat} (h : t < 18446744073709551616) (hc : counts t) : nz t < Fl.INF := (nz_add t h hc.1 hc.2).2
theorem read_nz {t : Nat} (h : t < 18446744073709551616) (hc : counts t) : ∃ (s : Bool) (m r : Nat), Fl.dbl.read t = .number s m ((r : Int) - 1074) ∧ Fl.dbl.read (nz t) = .number false m ((r : Int) - 1074) ∧ (s = true → m = 0) := by
  unfold nz
  by_cases h0 : t = 9223372036854775808
  · subst h0
    rw [if_pos rfl]
    exact ⟨true, 0, 0, Fl.readN0, Fl.read0, fun _ => rfl⟩
  · rw [if_neg h0]
    have hi : t < Fl.INF := by
      rcases (Fl.ge_iff t h).1 hc.1 with h2 | h2
      · have := hc.2; omega
      · exact absurd h2 h0
    obtain ⟨r, m, e, _⟩ := Fl.read_V t hi
    exact ⟨false, m, r, e, e, fun h => by cases h⟩
theorem order_nz {x y : Nat} (hx : x < 18446744073709551616) (hy : y < 18446744073709551616) (cx : counts x) (cy : counts y) : Fl.dbl.order x y = some (compare (nz x) (nz y)) := by
  rw [← Fl.order_eq (nz x) (nz y) (nz_lt hx cx) (nz_lt hy cy)]
  obtain ⟨s1, m1, r1, e1, f1, z1⟩ := read_nz hx cx
  obtain ⟨s2, m2, r2, e2, f2, z2⟩ := read_nz hy cy
  unfold Ieee.Format.order
  rw [e1, e2, f1, f2]
  simp only [Ieee.Datum.order]
  have hs : ∀ (s : Bool) (m k : Nat), (s = true → m = 0) → Ieee.signed s m k = Ieee.signed false m k := by
    intro s m k h
    cases s with
    | false => rfl
    | true => rw [h rfl]; simp [Ieee.signed]
  rw [hs s1 m1 _ z1, hs s2 m2 _ z2]
theorem counts_lt {t : Nat} (h : t < Fl.INF) : counts t := ⟨(Fl.ge_iff t (Nat.lt_trans h (by decide))).2 (.inl (Nat.le_of_lt h)), Nat.ne_of_lt h⟩
theorem lt64 {t : Nat} (h : t < Fl.INF) : t < 18446744073709551616 := Nat.lt_trans h (by decide)
theorem nz_id {t : Nat} (h : t < Fl.INF) : nz t = t := by
  unfold nz
  rw [if_neg (by intro e; rw [e] at h; exact absurd h (by decide))]

/-- The least and the greatest so far. -/
structure Span (s : St) (n : Int) (low high : Nat) : Prop where
  num : s.timed = n
  low64 : low < 18446744073709551616
  high64 : high < 18446744073709551616
  lowc : counts low
  highc : counts high
  between : n = 0 ∧ s.took = 0 ∨ 0 < n ∧ nz low ≤ s.took ∧ s.took ≤ nz high

theorem probe_took (s : St) (ok : Bool) (t : Nat) : (probeS s ok t).took = (if ok then timeS s t else s).took ∧ (probeS s ok t).timed = (if ok then timeS s t else s).timed := by
  have h : ∀ m : St, (turnS m ok).took = m.took ∧ (turnS m ok).timed = m.timed := by
    intro m
    unfold turnS
    split <;> exact ⟨rfl, rfl⟩
  exact h (midS s ok t)
theorem probe_uncounted (s : St) (ok : Bool) (t : Nat) (h : ok = false ∨ ¬ counts t) : (probeS s ok t).took = s.took ∧ (probeS s ok t).timed = s.timed := by
  obtain ⟨h1, h2⟩ := probe_took s ok t
  rw [h1, h2]
  rcases h with rfl | h
  · exact ⟨rfl, rfl⟩
  · have : timeS s t = s := by unfold timeS; exact if_neg h
    rw [this]; split <;> exact ⟨rfl, rfl⟩
theorem probe_counted (s : St) (t : Nat) (h : counts t) : (probeS s true t).took = (if s.timed = 0 then nz t else quarter s.took (nz t)) ∧ (probeS s true t).timed = s.timed + 1 := by
  obtain ⟨h1, h2⟩ := probe_took s true t
  rw [h1, h2, if_pos rfl]
  have : timeS s t = { s with took := if s.timed = 0 then nz t else quarter s.took (nz t), timed := s.timed + 1 } := by unfold timeS; exact if_pos h
  rw [this]
  exact ⟨rfl, rfl⟩
theorem span_step {s : St} {n : Int} {low high t : Nat} (hs : Span s n low high) (ht : t < 18446744073709551616) (hc : counts t) (hk : s.took < Fl.INF) (hn : 0 ≤ n) :
    Span (probeS s true t) (n + 1) (if n = 0 ∨ nz t < nz low then t else low) (if n = 0 ∨ nz high < nz t then t else high) := by
  obtain ⟨h1, h2⟩ := probe_counted s t hc
  obtain ⟨e1, e2, e3, e4, e5, e6⟩ := hs
  have hz := nz_lt ht hc
  refine ⟨by rw [h2, e1], by split <;> assumption, by split <;> assumption, by split <;> assumption, by split <;> assumption, .inr ⟨by omega, ?_⟩⟩
  rw [h1]
  rcases e6 with ⟨rfl, _⟩ | ⟨hn0, b1, b2⟩
  · rw [if_pos e1, if_pos (.inl rfl), if_pos (.inl rfl)]
    exact ⟨Nat.le_refl _, Nat.le_refl _⟩
  · have hs0 : ¬ s.timed = 0 := by omega
    have hn1 : ¬ n = 0 := by omega
    rw [if_neg hs0]
    obtain ⟨d, e, _, _, _, q1, q2⟩ := quarter_spec s.took (nz t) hk hz
    constructor
    · by_cases h : nz t < nz low
      · rw [if_pos (.inr h)]; omega
      · rw [if_neg (by omega)]; omega
    · by_cases h : nz high < nz t
      · rw [if_pos (.inr h)]; omega
      · rw [if_neg (by omega)]; omega
end Go.Proofs.Yteedjgkinmkmoaa
