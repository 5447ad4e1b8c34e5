/- What a forwarding is, whatever the second draw. -/
import Derived.Test.YtnnoccojjeadhaaPlace
import Derived.Test.YtnnoccojjeadhaaDcd
namespace Go.Dec
open Go.Pa
set_option linter.unusedVariables false
theorem dec_fwd {ts : List Host} {hl : List Healthy} {m h p : ByteArray} {u : Nat} {n : Int} (hk : (decOf ts hl m h p u n).kind = 1) :
    ∃ (route : ByteArray) (i : Int) (svc : ByteArray) (k : Nat) (x : Healthy), (decOf ts hl m h p u n).svc = svc ∧ firstI (isSvc svc) hl = k ∧ hl[k]? = some x ∧ x.2.1 ≠ [] ∧
      ∀ (n' : Int) (j : Nat) (ep : ByteArray), ((j : Nat) : Int) = max n' 0 % (x.2.1.length : Int) → x.2.1[j]? = some ep → decOf ts hl m h p u n' = ⟨1, 0, route, i, svc, ep⟩ := by
  rcases first_cases (takesH h.data.toList) ts with h1 | ⟨k, r, hk1, h1, _⟩
  · rw [dec_nohost h1] at hk; exact absurd hk (by intro h; cases h)
  · rcases first_cases (takesE m.data.toList p.data.toList) r.2.2.1 with h2 | ⟨i, e, hi, h2, _⟩
    · rw [dec_norule h1 hk1 h2] at hk; exact absurd hk (by intro h; cases h)
    · cases h3 : allowB (takesP m.data.toList p.data.toList) r.2.2.2.1 with
      | false => rw [dec_denied h1 hk1 h2 hi h3] at hk; exact absurd hk (by intro h; cases h)
      | true =>
        have hd : ∀ n', decOf ts hl m h p u n' = lastOf hl r.2.1 i e.2.2.1 u n' := fun n' => dec_last h1 hk1 h2 hi h3
        rw [hd] at hk ⊢
        by_cases hss : e.2.2.1 = []
        · rw [last_none (.inr hss)] at hk; exact absurd hk (by intro h; cases h)
        · rcases first_cases (isSvc (shareOf u e.2.2.1)) hl with h4 | ⟨j, x, hj, h4, _⟩
          · rw [last_none (.inl (all_none h4))] at hk; exact absurd hk (by intro h; cases h)
          · have hall := all_at h4 hj
            by_cases hx : x.2.1 = []
            · rw [last_none (.inl (by rw [hall, hx]))] at hk; exact absurd hk (by intro h; cases h)
            · refine ⟨r.2.1, i, shareOf u e.2.2.1, j, x, ?_, h4, hj, hx, fun n' q ep hq he => ?_⟩
              · unfold lastOf
                dsimp only
                split <;> rfl
              · rw [hd]
                exact last_at hss (by rw [hall]; exact hq) (by rw [hall]; exact he)
theorem first_spec {α : Type} {p : α → Bool} {l : List α} {k : Nat} (h : firstI p l = k) : (∀ (j : Nat) y, j < k → l[j]? = some y → p y = false) ∧ ∀ x, l[k]? = some x → p x = true := by
  unfold firstI at h
  cases hf : l.findIdx? p with
  | none => rw [hf] at h; dsimp only at h; omega
  | some q =>
    rw [hf] at h
    dsimp only at h
    obtain rfl : q = k := by omega
    obtain ⟨hk, hp, hno⟩ := List.findIdx?_eq_some_iff_getElem.1 hf
    refine ⟨fun j y hj hy => ?_, fun x hx => ?_⟩
    · obtain ⟨hl, rfl⟩ := List.getElem?_eq_some_iff.1 hy
      simpa using hno j hj
    · obtain ⟨hl, rfl⟩ := List.getElem?_eq_some_iff.1 hx
      exact hp
end Go.Dec
