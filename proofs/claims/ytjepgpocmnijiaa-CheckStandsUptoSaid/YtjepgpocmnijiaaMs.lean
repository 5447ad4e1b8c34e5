/- In a configuration that may stand every split leads to services, in plain words. -/
import Derived.Test.YtjepgpocmnijiaaMg
namespace Go.Ck
set_option linter.unusedVariables false
open Go.Proofs.Ytjepgpocmnijiaa (Key)
theorem stepE_ne {e : ByteArray → Nat} : ∀ {ts : List Tgt} {n : Nat}, stepE e ts n ≠ 0 → ∀ t ∈ ts, noS t.service = true → e t.split ≠ 0
  | [], _, _, t, ht, _ => by cases ht
  | x :: ts, n, h, t, ht, hs => by
    unfold stepE at h
    rcases List.mem_cons.1 ht with rfl | ht
    · rw [if_pos hs] at h
      intro h0
      rw [if_pos h0] at h
      exact h rfl
    · split at h
      · split at h
        · exact absurd rfl h
        · exact stepE_ne h t ht hs
      · exact stepE_ne h t ht hs
theorem known_sub {l : List Res} (hO : Ord l) {a : Nat} {r : Res} (ha : l[a]? = some r) (hk : r.kind = 2) {m : Nat} (h : known l (m + 1) r.name ≠ 0) {t : Tgt} (ht : t ∈ r.tgts) (hs : noS t.service = true) : known l m t.split ≠ 0 := by
  unfold known at h
  split at h
  · rw [hO.uniq a r ha hk] at h
    exact stepE_ne h t ht hs
  · exact absurd rfl h
def toKey (t : Tgt) : Key := if noS t.service = true then (2, t.split) else (1, t.service)
theorem has_fnd {l : List Res} {k : Int} {n : ByteArray} (h : has l k n = true) : fnd l (k, n) ≠ none := by
  obtain ⟨r, hr, h1, h2⟩ := has_iff.1 h
  intro h3
  exact fnd_none.1 h3 r hr (by unfold rk; rw [h1, h2])
theorem dang_t {l : List Res} {a : Nat} {r : Res} (ha : l[a]? = some r) (hD : dangIx l a = false) (hk : r.kind = 2) {t : Tgt} (ht : t ∈ r.tgts) : fnd l (toKey t) ≠ none := by
  rw [dangIx_at ha, decide_eq_false_iff_not] at hD
  unfold dangI at hD
  rw [if_pos hk] at hD
  obtain ⟨j, hj⟩ := List.mem_iff_getElem?.1 ht
  have hjl := (List.getElem?_eq_some_iff.1 hj).1
  rcases firstN_cases r.tgts.length (badTx l r) with ⟨e, h1⟩ | ⟨i, hi, e, _, _⟩
  · have h2 := h1 j hjl
    rw [badTx_at hj] at h2
    unfold badT at h2
    unfold toKey
    split at h2
    · rename_i q
      rw [if_pos q]
      exact has_fnd (by simpa using h2)
    · rename_i q
      rw [if_neg q]
      exact has_fnd (by simpa using h2)
  · rw [e] at hD
    unfold upI at hD
    rw [if_neg (by omega)] at hD
    omega
/-- The last one so far that a target names. -/
structure LastT (l : List Res) (t : Tgt) (k : Nat) (v : Int) : Prop where
  is : 0 ≤ v → ∃ (q : Nat) (r : Res), q < k ∧ v = q ∧ l[q]? = some r ∧ rk r = toKey t
  has : ∀ (q : Nat) (r : Res), q < k → l[q]? = some r → rk r = toKey t → 0 ≤ v
  ge : -1 ≤ v
theorem LastT.zero (l : List Res) (t : Tgt) : LastT l t 0 (-1) := ⟨fun h => by omega, fun q r h => absurd h (Nat.not_lt_zero q), by omega⟩
theorem LastT.yes {l : List Res} {t : Tgt} {k : Nat} {v : Int} (h : LastT l t k v) {r : Res} (hr : l[k]? = some r) (hk : rk r = toKey t) : LastT l t (k + 1) k :=
  ⟨fun _ => ⟨k, r, Nat.lt_succ_self k, rfl, hr, hk⟩, fun _ _ _ _ _ => by omega, by omega⟩
theorem LastT.no {l : List Res} {t : Tgt} {k : Nat} {v : Int} (h : LastT l t k v) {r : Res} (hr : l[k]? = some r) (hk : rk r ≠ toKey t) : LastT l t (k + 1) v :=
  ⟨fun h0 => by obtain ⟨q, x, h1, h2, h3, h4⟩ := h.is h0; exact ⟨q, x, by omega, h2, h3, h4⟩, fun q x hq hx hkx => by
    rcases Nat.lt_succ_iff_lt_or_eq.1 hq with h1 | h1
    · exact h.has q x h1 hx hkx
    · subst h1; rw [hr] at hx; cases hx; exact absurd hkx hk, h.ge⟩
theorem LastT.fin {l : List Res} {t : Tgt} {v : Int} (h : LastT l t l.length v) (hf : fnd l (toKey t) ≠ none) : ∃ (q : Nat) (r : Res), v = q ∧ l[q]? = some r ∧ rk r = toKey t := by
  have h0 : 0 ≤ v := by
    cases hx : fnd l (toKey t) with
    | none => exact absurd hx hf
    | some r =>
      obtain ⟨h1, h2⟩ := fnd_some hx
      obtain ⟨q, hq⟩ := List.mem_iff_getElem?.1 h2
      exact h.has q r (List.getElem?_eq_some_iff.1 hq).1 hq h1
  obtain ⟨q, r, _, h2, h3, h4⟩ := h.is h0
  exact ⟨q, r, h2, h3, h4⟩
theorem chk_err {l : List Res} {f : Flt} {ws : List Warn} (h : Chk l f ws) (hf : f.2.2 ≠ 0) : 0 ≤ f.1 ∧ (f.1 < l.length ∨ f.1 = 0) ∧ 0 ≤ f.2.1 := by
  cases h with
  | out h1 => exact ⟨h1, .inl (firstN_lt l.length (badIx l)).2, by show (0 : Int) ≤ 0; omega⟩
  | count _ _ => exact ⟨by show (0 : Int) ≤ 0; omega, .inr rfl, by show (0 : Int) ≤ 0; omega⟩
  | @dang i r _ _ _ h4 h5 => exact ⟨Int.natCast_nonneg i, .inl (by have := (List.getElem?_eq_some_iff.1 h4).1; show (i : Int) < l.length; omega), h5⟩
  | @twice i _ _ _ _ h5 _ => exact ⟨Int.natCast_nonneg i, .inl (by show (i : Int) < l.length; omega), by show (0 : Int) ≤ 0; omega⟩
  | @heavy i _ _ _ _ _ h6 _ => exact ⟨Int.natCast_nonneg i, .inl (by show (i : Int) < l.length; omega), by show (0 : Int) ≤ 0; omega⟩
  | @ring i _ _ _ _ _ _ h7 _ => exact ⟨Int.natCast_nonneg i, .inl (by show (i : Int) < l.length; omega), by show (0 : Int) ≤ 0; omega⟩
  | fine _ _ _ _ _ _ => exact absurd rfl hf
structure Stands (l : List Res) : Prop where
  ord : Ord l
  len : l.length ≤ 64
  dang : ∀ j, j < l.length → dangIx l j = false
  ring : ∀ j, j < l.length → ringIx l j = false
theorem chk_ok {l : List Res} {f : Flt} {ws : List Warn} (h : Chk l f ws) (hf : f.2.2 = 0) : Stands l := by
  cases h with
  | out _ => cases hf
  | count _ _ => cases hf
  | dang _ _ _ _ _ => cases hf
  | twice _ _ _ _ _ _ => cases hf
  | heavy _ _ _ _ _ _ _ => cases hf
  | ring _ _ _ _ _ _ _ _ => cases hf
  | fine h1 h2 h3 _ _ h6 => exact ⟨ord_of h1, h2, h3, h6⟩
theorem Stands.known {l : List Res} (h : Stands l) {a : Nat} {r : Res} (ha : l[a]? = some r) (hk : r.kind = 2) : known l 8 r.name ≠ 0 := by
  have h1 := h.ring a (List.getElem?_eq_some_iff.1 ha).1
  rw [ringIx_at ha, hk] at h1
  simpa using h1
/-- Where a walk stands. -/
structure AtS (l : List Res) (step : Nat) (a : Nat) (r : Res) : Prop where
  at' : l[a]? = some r
  kind : r.kind = 2
  ne : 0 < r.tgts.length
  known : Go.Ck.known l (8 - step) r.name ≠ 0
theorem AtS.step {l : List Res} {step a : Nat} {r : Res} (h : AtS l step a r) : step < 8 := by
  rcases Nat.lt_or_ge step 8 with q | q
  · exact q
  · have := h.known
    rw [show 8 - step = 0 by omega] at this
    exact absurd rfl this
theorem AtS.next {l : List Res} (hS : Stands l) {step a : Nat} {r : Res} (h : AtS l step a r) {t : Tgt} (ht : t ∈ r.tgts) {q : Nat} {x : Res} (hq : l[q]? = some x) (hx : rk x = toKey t) (h1 : x.kind ≠ 1) (hn : 0 < x.tgts.length) : AtS l (step + 1) q x := by
  have hst := h.step
  have hs : noS t.service = true := by
    cases hn : noS t.service with
    | true => rfl
    | false =>
      unfold toKey at hx
      rw [if_neg (by rw [hn]; simp)] at hx
      exact absurd (congrArg Prod.fst hx) h1
  unfold toKey at hx
  rw [if_pos hs] at hx
  have hk := h.known
  rw [show 8 - step = (8 - (step + 1)) + 1 by omega] at hk
  have h2 := known_sub hS.ord h.at' h.kind hk ht hs
  exact ⟨hq, congrArg Prod.fst hx, hn, by rw [show x.name = t.split from congrArg Prod.snd hx]; exact h2⟩
theorem tmod_in (p : Int) {n : Nat} (hn : 0 < n) : -(n : Int) < p.tmod n ∧ p.tmod n < n :=
  ⟨Int.lt_tmod_of_pos p (by omega), Int.tmod_lt_of_pos p (by omega)⟩
end Go.Ck
