/- The plain laws of patterns: to cover, to take, the order, the best one. -/
import Derived.Test.YtndbnomhhfhdfaaCmp
namespace Go.Pa
set_option linter.unusedVariables false

/-! ### Texts that end, and begin, with another -/
theorem suf_trans {a b c : Bs} (h1 : Lib.hasSuffix a b = true) (h2 : Lib.hasSuffix b c = true) : Lib.hasSuffix a c = true :=
  List.isSuffixOf_iff_suffix.2 ((List.isSuffixOf_iff_suffix.1 h2).trans (List.isSuffixOf_iff_suffix.1 h1))
theorem pre_trans {a b c : Bs} (h1 : Lib.hasPrefix a b = true) (h2 : Lib.hasPrefix b c = true) : Lib.hasPrefix a c = true :=
  List.isPrefixOf_iff_prefix.2 ((List.isPrefixOf_iff_prefix.1 h2).trans (List.isPrefixOf_iff_prefix.1 h1))
theorem suf_len {a b : Bs} (h : Lib.hasSuffix a b = true) : b.length ≤ a.length := (List.isSuffixOf_iff_suffix.1 h).length_le
theorem suf_cons (c : UInt8) (a : Bs) : Lib.hasSuffix (c :: a) a = true := List.isSuffixOf_iff_suffix.2 (List.suffix_cons c a)
theorem pre_self (a : Bs) : Lib.hasPrefix a a = true := List.isPrefixOf_iff_prefix.2 (List.prefix_refl a)

/-! ### What a sort is -/
theorem sort3 (l : Bs) : (sortH l).1 = 3 ∨ ((sortH l).1 = 2 ∧ (sortH l).2 = []) ∨ (sortH l).1 = 1 ∨ (sortH l).1 = 0 := by
  unfold sortH
  split
  · exact .inr (.inl ⟨rfl, rfl⟩)
  · split
    · split
      · exact .inr (.inr (.inl rfl))
      · exact .inl rfl
    · split
      · exact .inr (.inr (.inr rfl))
      · exact .inl rfl
theorem hostPat_iff (l : Bs) : hostPat l = true ↔ (sortH l).1 ≠ 3 := by unfold hostPat; simp
/-- To cover, as a statement. -/
theorem covers_iff (a b : Bs) : hostCovers a b = true ↔ (sortH a).1 ≠ 3 ∧ (sortH b).1 ≠ 3 ∧ ((sortH a).1 = 2 ∨ ((sortH a).1 = (sortH b).1 ∧ (sortH a).2 = (sortH b).2) ∨ ((sortH a).1 = 1 ∧ Lib.hasSuffix (sortH b).2 (46 :: (sortH a).2) = true)) := by
  unfold hostCovers
  by_cases h : (sortH a).1 = 3 ∨ (sortH b).1 = 3
  · rw [if_pos h]
    constructor
    · intro h; cases h
    · rintro ⟨h1, h2, _⟩; rcases h with h | h <;> contradiction
  · rw [if_neg h]
    have h1 : (sortH a).1 ≠ 3 := fun e => h (.inl e)
    have h2 : (sortH b).1 ≠ 3 := fun e => h (.inr e)
    by_cases h3 : (sortH a).1 = 2 ∨ ((sortH a).1 = (sortH b).1 ∧ (sortH a).2 = (sortH b).2)
    · rw [if_pos h3]
      constructor
      · intro _; exact ⟨h1, h2, by rcases h3 with h | h; exact .inl h; exact .inr (.inl h)⟩
      · intro _; rfl
    · rw [if_neg h3, Bool.and_eq_true, beq_iff_eq]
      constructor
      · rintro ⟨h4, h5⟩; exact ⟨h1, h2, .inr (.inr ⟨h4, h5⟩)⟩
      · rintro ⟨_, _, h | h | h⟩
        · exact absurd (.inl h) h3
        · exact absurd (.inr h) h3
        · exact h
/-- To take a host, as a statement. -/
theorem takes_iff (p n : Bs) : hostTakes p n = true ↔ ∃ h, foldH n = some h ∧ (((sortH p).1 = 0 ∧ (sortH p).2 = h) ∨ ((sortH p).1 = 1 ∧ Lib.hasSuffix h (46 :: (sortH p).2) = true) ∨ (sortH p).1 = 2) := by
  unfold hostTakes
  cases foldH n with
  | none =>
    constructor
    · intro h; cases h
    · rintro ⟨h, e, _⟩; cases e
  | some h =>
    dsimp only
    by_cases h0 : (sortH p).1 = 0
    · rw [if_pos h0, beq_iff_eq]
      constructor
      · intro e; exact ⟨h, rfl, .inl ⟨h0, e⟩⟩
      · rintro ⟨h', e, hh⟩; cases e
        rcases hh with hh | hh | hh
        · exact hh.2
        · omega
        · omega
    · rw [if_neg h0]
      by_cases h1 : (sortH p).1 = 1
      · rw [if_pos h1]
        constructor
        · intro e; exact ⟨h, rfl, .inr (.inl ⟨h1, e⟩)⟩
        · rintro ⟨h', e, hh⟩; cases e
          rcases hh with hh | hh | hh
          · omega
          · exact hh.2
          · omega
      · rw [if_neg h1, beq_iff_eq]
        constructor
        · intro e; exact ⟨h, rfl, .inr (.inr e)⟩
        · rintro ⟨h', e, hh⟩; cases e
          rcases hh with hh | hh | hh
          · omega
          · omega
          · exact hh
theorem within_host {a b s : Bs} (h1 : hostCovers a b = true) (h2 : hostTakes b s = true) : hostTakes a s = true := by
  obtain ⟨_, _, hc⟩ := (covers_iff a b).1 h1
  obtain ⟨h, hf, ht⟩ := (takes_iff b s).1 h2
  rw [takes_iff]
  refine ⟨h, hf, ?_⟩
  rcases hc with hc | ⟨hc, he⟩ | ⟨hc, he⟩
  · exact .inr (.inr hc)
  · rw [hc, he]; exact ht
  · right; left
    refine ⟨hc, ?_⟩
    rcases ht with ⟨_, ht⟩ | ⟨_, ht⟩ | ht
    · rw [← ht]; exact he
    · exact suf_trans ht (suf_trans (suf_cons _ _) he)
    · rcases sort3 b with h | ⟨_, h⟩ | h | h
      · omega
      · rw [h] at he
        have := suf_len he
        simp at this
      · omega
      · omega
theorem within_path {a b s : Bs} (h1 : pathCovers a b = true) (h2 : pathTakes b s = true) : pathTakes a s = true := by
  unfold pathCovers at h1
  simp only [Bool.and_eq_true, Bool.or_eq_true, beq_iff_eq] at h1
  obtain ⟨pa, pb, rfl | ⟨sa, hp⟩⟩ := h1
  · exact h2
  · unfold pathTakes at h2 ⊢
    rw [sa, pa]
    rw [if_pos (show (true && true) = true from rfl)]
    by_cases sb : starred b = true
    · rw [sb, pb, if_pos (show (true && true) = true from rfl), Bool.and_eq_true] at h2
      rw [Bool.and_eq_true]
      exact ⟨h2.1, pre_trans h2.2 hp⟩
    · have sb' : starred b = false := by simpa using sb
      rw [sb', if_neg (by simp), Bool.and_eq_true, beq_iff_eq] at h2
      obtain ⟨h3, rfl⟩ := h2
      rw [Bool.and_eq_true]
      refine ⟨h3, ?_⟩
      have : aheadS s = s := by unfold aheadS; rw [if_neg (by simp [sb'])]
      rw [this] at hp
      exact hp
theorem within_meth {a b s : Bs} (h1 : methCovers a b = true) (h2 : methTakes b s = true) : methTakes a s = true := by
  unfold methCovers at h1
  unfold methTakes at h2 ⊢
  simp only [Bool.and_eq_true, Bool.or_eq_true, beq_iff_eq] at *
  obtain ⟨_, _, rfl | rfl⟩ := h1
  · exact ⟨h2.1, .inl rfl⟩
  · exact h2

/-! ### Chains -/
theorem covers_self (a : Bs) : hostCovers a a = hostPat a := by
  rw [Bool.eq_iff_iff, covers_iff, hostPat_iff]
  constructor
  · exact fun h => h.1
  · intro h; exact ⟨h, h, .inr (.inl ⟨rfl, rfl⟩)⟩
theorem pcovers_self (a : Bs) : pathCovers a a = pathPat a := by
  unfold pathCovers; cases pathPat a <;> simp
theorem mcovers_self (a : Bs) : methCovers a a = methPat a := by
  unfold methCovers; cases methPat a <;> simp
theorem covers_trans {a b c : Bs} (h1 : hostCovers a b = true) (h2 : hostCovers b c = true) : hostCovers a c = true := by
  obtain ⟨na, nb, h1⟩ := (covers_iff a b).1 h1
  obtain ⟨_, nc, h2⟩ := (covers_iff b c).1 h2
  rw [covers_iff]
  refine ⟨na, nc, ?_⟩
  rcases h1 with h1 | ⟨h1, e1⟩ | ⟨h1, e1⟩
  · exact .inl h1
  · rw [h1, e1]; exact h2
  · rcases h2 with h2 | ⟨h2, e2⟩ | ⟨h2, e2⟩
    · rcases sort3 b with h | ⟨_, h⟩ | h | h
      · omega
      · rw [h] at e1
        have := suf_len e1
        simp at this
      · omega
      · omega
    · rw [← e2]; exact .inr (.inr ⟨h1, e1⟩)
    · exact .inr (.inr ⟨h1, suf_trans e2 (suf_trans (suf_cons _ _) e1)⟩)
theorem pcovers_trans {a b c : Bs} (h1 : pathCovers a b = true) (h2 : pathCovers b c = true) : pathCovers a c = true := by
  unfold pathCovers at *
  simp only [Bool.and_eq_true, Bool.or_eq_true, beq_iff_eq] at *
  obtain ⟨pa, pb, rfl | ⟨sa, hp⟩⟩ := h1
  · exact h2
  · obtain ⟨_, pc, rfl | ⟨sb, hq⟩⟩ := h2
    · exact ⟨pa, pc, .inr ⟨sa, hp⟩⟩
    · exact ⟨pa, pc, .inr ⟨sa, pre_trans hq hp⟩⟩
theorem starred_eq {a : Bs} (h : starred a = true) : a = aheadS a ++ [42] := by
  obtain ⟨t, rfl⟩ := List.isSuffixOf_iff_suffix.1 h
  unfold aheadS
  rw [if_pos h]
  simp
theorem pcovers_anti {a b : Bs} (h1 : pathCovers a b = true) (h2 : pathCovers b a = true) : a = b := by
  unfold pathCovers at *
  simp only [Bool.and_eq_true, Bool.or_eq_true, beq_iff_eq] at *
  obtain ⟨_, _, rfl | ⟨sa, hp⟩⟩ := h1
  · rfl
  · obtain ⟨_, _, rfl | ⟨sb, hq⟩⟩ := h2
    · rfl
    · have e : aheadS a = aheadS b := by
        have p1 := List.isPrefixOf_iff_prefix.1 hp
        have p2 := List.isPrefixOf_iff_prefix.1 hq
        exact p1.eq_of_length_le p2.length_le
      rw [starred_eq sa, starred_eq sb, e]

/-! ### The order -/
theorem cmpI_anti (x y : Int) : cmpI x y = -cmpI y x := by unfold cmpI; split <;> split <;> omega
theorem cmpL_anti (a b : Bs) : cmpL a b = -cmpL b a := by
  induction a generalizing b with
  | nil => cases b <;> rfl
  | cons x r ih =>
    cases b with
    | nil => rfl
    | cons y t =>
      unfold cmpL
      by_cases h1 : x < y
      · have h2 : ¬ y < x := by
          intro h; have a := UInt8.lt_iff_toNat_lt.1 h1; have b := UInt8.lt_iff_toNat_lt.1 h; omega
        rw [if_pos h1, if_neg h2, if_pos h1]
      · by_cases h2 : y < x
        · rw [if_neg h1, if_pos h2, if_pos h2]; rfl
        · rw [if_neg h1, if_neg h2, if_neg h2, if_neg h1]; exact ih t
theorem cmpL_trans {a b c : Bs} (h1 : cmpL a b ≤ 0) (h2 : cmpL b c ≤ 0) : cmpL a c ≤ 0 ∧ (cmpL a c = 0 → cmpL a b = 0 ∧ cmpL b c = 0) := by
  induction a generalizing b c with
  | nil =>
    cases c with
    | nil =>
      cases b with
      | nil => exact ⟨by simp [cmpL], fun _ => ⟨rfl, rfl⟩⟩
      | cons y t => simp [cmpL] at h2
    | cons z u => exact ⟨by simp [cmpL], fun h => by simp [cmpL] at h⟩
  | cons x r ih =>
    cases b with
    | nil => simp [cmpL] at h1
    | cons y t =>
      cases c with
      | nil => simp [cmpL] at h2
      | cons z u =>
        have lt : ∀ p q : UInt8, p < q ↔ p.toNat < q.toNat := fun p q => UInt8.lt_iff_toNat_lt
        unfold cmpL at h1 h2 ⊢
        by_cases a1 : x < y
        · by_cases b1 : y < z
          · have c1 : x < z := by rw [lt] at *; omega
            rw [if_pos c1]; exact ⟨by omega, fun h => by omega⟩
          · rw [if_neg b1] at h2
            by_cases b2 : z < y
            · rw [if_pos b2] at h2; omega
            · have c1 : x < z := by rw [lt] at *; omega
              rw [if_pos c1]; exact ⟨by omega, fun h => by omega⟩
        · rw [if_neg a1] at h1
          by_cases a2 : y < x
          · rw [if_pos a2] at h1; omega
          · rw [if_neg a2] at h1
            by_cases b1 : y < z
            · have c1 : x < z := by rw [lt] at *; omega
              rw [if_pos c1]; exact ⟨by omega, fun h => by omega⟩
            · rw [if_neg b1] at h2
              by_cases b2 : z < y
              · rw [if_pos b2] at h2; omega
              · rw [if_neg b2] at h2
                have c1 : ¬ x < z := by rw [lt] at *; omega
                have c2 : ¬ z < x := by rw [lt] at *; omega
                rw [if_neg c1, if_neg c2, if_neg a1, if_neg a2, if_neg b1, if_neg b2]
                exact ih h1 h2
theorem order_anti (a b : Bs) : orderH a b = -orderH b a := by
  unfold orderH
  by_cases h : (sortH a).1 = (sortH b).1
  · rw [if_pos h, if_pos h.symm]
    by_cases h1 : (sortH a).1 = 1 ∧ (sortH a).2.length ≠ (sortH b).2.length
    · rw [if_pos h1, if_pos ⟨h ▸ h1.1, fun e => h1.2 e.symm⟩, cmpI_anti]
    · rw [if_neg h1, if_neg (fun h2 => h1 ⟨h ▸ h2.1, fun e => h2.2 e.symm⟩), cmpL_anti]
  · rw [if_neg h, if_neg (fun e => h e.symm), cmpI_anti]
theorem order_self (a : Bs) : orderH a a = 0 := by have := order_anti a a; omega
/-- The order as a triple that is compared part by part. -/
theorem order_le {a b : Bs} : orderH a b ≤ 0 ↔ (sortH a).1 < (sortH b).1 ∨ ((sortH a).1 = (sortH b).1 ∧ (((sortH a).1 = 1 ∧ (sortH b).2.length < (sortH a).2.length) ∨ (((sortH a).1 = 1 → (sortH a).2.length = (sortH b).2.length) ∧ cmpL (sortH a).2 (sortH b).2 ≤ 0))) := by
  unfold orderH
  by_cases h : (sortH a).1 = (sortH b).1
  · rw [if_pos h]
    by_cases h1 : (sortH a).1 = 1 ∧ (sortH a).2.length ≠ (sortH b).2.length
    · rw [if_pos h1]
      have e : cmpI ((sortH b).2.length : Int) ((sortH a).2.length : Int) ≤ 0 ↔ (sortH b).2.length < (sortH a).2.length := by
        unfold cmpI; have := h1.2; split <;> (try split) <;> omega
      rw [e]
      constructor
      · intro h2; exact .inr ⟨h, .inl ⟨h1.1, h2⟩⟩
      · rintro (h2 | ⟨_, ⟨_, h2⟩ | ⟨h2, _⟩⟩)
        · omega
        · exact h2
        · exact absurd (h2 h1.1) h1.2
    · rw [if_neg h1]
      have hq : (sortH a).1 = 1 → (sortH a).2.length = (sortH b).2.length := fun e => by
        rcases Nat.decEq (sortH a).2.length (sortH b).2.length with h2 | h2
        · exact absurd ⟨e, h2⟩ h1
        · exact h2
      constructor
      · intro h2; exact .inr ⟨h, .inr ⟨hq, h2⟩⟩
      · rintro (h2 | ⟨_, ⟨h2, h3⟩ | ⟨_, h2⟩⟩)
        · omega
        · have := hq h2; omega
        · exact h2
  · rw [if_neg h]
    constructor
    · intro h2
      left
      unfold cmpI at h2
      split at h2
      · assumption
      · split at h2 <;> omega
    · rintro (h2 | ⟨h2, _⟩)
      · unfold cmpI; rw [if_pos h2]; omega
      · exact absurd h2 h
theorem order_trans {a b c : Bs} (h1 : orderH a b ≤ 0) (h2 : orderH b c ≤ 0) : orderH a c ≤ 0 := by
  rw [order_le] at *
  rcases h1 with h1 | ⟨h1, e1⟩
  · rcases h2 with h2 | ⟨h2, _⟩
    · left; omega
    · left; omega
  · rcases h2 with h2 | ⟨h2, e2⟩
    · left; omega
    · right
      refine ⟨h1.trans h2, ?_⟩
      rcases e1 with ⟨n1, e1⟩ | ⟨n1, e1⟩
      · rcases e2 with ⟨n2, e2⟩ | ⟨n2, e2⟩
        · exact .inl ⟨n1, by omega⟩
        · have := n2 (h1 ▸ n1); exact .inl ⟨n1, by omega⟩
      · rcases e2 with ⟨n2, e2⟩ | ⟨n2, e2⟩
        · have := n1 (h1 ▸ n2); exact .inl ⟨h1 ▸ n2, by omega⟩
        · exact .inr ⟨fun e => (n1 e).trans (n2 (h1 ▸ e)), (cmpL_trans e1 e2).1⟩
theorem order_vals (a b : Bs) : orderH a b = -1 ∨ orderH a b = 0 ∨ orderH a b = 1 := by
  have hI : ∀ x y : Int, cmpI x y = -1 ∨ cmpI x y = 0 ∨ cmpI x y = 1 := by intro x y; unfold cmpI; split <;> (try split) <;> omega
  unfold orderH
  split
  · split
    · exact hI _ _
    · exact cmpL_vals _ _
  · exact hI _ _
theorem order_none {a b : Bs} (h1 : hostPat a = true) (h2 : hostPat b = false) : orderH a b = -1 := by
  have ha := (hostPat_iff a).1 h1
  have hb : (sortH b).1 = 3 := by
    rcases Int.decEq (sortH b).1 3 with h | h
    · rw [(hostPat_iff b).2 h] at h2; cases h2
    · exact h
  unfold orderH
  rw [if_neg (by rw [hb]; exact ha)]
  unfold cmpI
  rw [if_pos]
  rcases sort3 a with h | ⟨h, _⟩ | h | h <;> omega
theorem order_covers {a b : Bs} (h : hostCovers a b = true) : orderH b a ≤ 0 := by
  obtain ⟨na, nb, hc⟩ := (covers_iff a b).1 h
  rw [order_le]
  rcases hc with hc | ⟨hc, e⟩ | ⟨hc, e⟩
  · rcases sort3 b with h | ⟨h, hb⟩ | h | h
    · omega
    · rcases sort3 a with h' | ⟨_, ha⟩ | h' | h'
      · omega
      · right
        refine ⟨by omega, .inr ⟨fun e => by omega, ?_⟩⟩
        rw [ha, hb]; simp [cmpL]
      · omega
      · omega
    · left; omega
    · left; omega
  · right
    refine ⟨hc.symm, .inr ⟨fun _ => by rw [e], ?_⟩⟩
    rw [e, cmpL_self]
    exact Int.le_refl 0
  · have hl := suf_len e
    simp only [List.length_cons] at hl
    rcases sort3 b with h | ⟨h, hb⟩ | h | h
    · omega
    · rw [hb] at hl; simp at hl
    · right; exact ⟨by omega, .inl ⟨h, by omega⟩⟩
    · left; omega
theorem order_both {a b : Bs} (h1 : hostCovers a b = true) (h2 : hostCovers b a = true) : orderH a b = 0 := by
  have e1 := order_covers h1
  have e2 := order_covers h2
  have := order_anti a b
  omega

/-! ### The best one -/
/-- Index i holds the pattern that is first among those that take the host, of the first n. -/
structure IsBest (l : List Bs) (h : Bs) (n i : Nat) : Prop where
  lt : i < n
  takes : hostTakes (l.getD i []) h = true
  least : ∀ k, k < n → hostTakes (l.getD k []) h = true → 0 ≤ orderH (l.getD k []) (l.getD i []) ∧ (orderH (l.getD k []) (l.getD i []) = 0 → i ≤ k)
def BestIs (l : List Bs) (h : Bs) (n : Nat) (i : Nat) (found : Bool) : Prop := (found = false ∧ i = 0 ∧ ∀ k, k < n → hostTakes (l.getD k []) h = false) ∨ (found = true ∧ IsBest l h n i)
theorem best_unique {l : List Bs} {h : Bs} {n i j : Nat} {f g : Bool} (h1 : BestIs l h n i f) (h2 : BestIs l h n j g) : i = j ∧ f = g := by
  rcases h1 with ⟨rfl, rfl, h1⟩ | ⟨rfl, h1⟩
  · rcases h2 with ⟨rfl, rfl, _⟩ | ⟨rfl, h2⟩
    · exact ⟨rfl, rfl⟩
    · have := h1 j h2.lt; rw [h2.takes] at this; cases this
  · rcases h2 with ⟨rfl, rfl, h2⟩ | ⟨rfl, h2⟩
    · have := h2 i h1.lt; rw [h1.takes] at this; cases this
    · have a := h1.least j h2.lt h2.takes
      have b := h2.least i h1.lt h1.takes
      have c := order_anti (l.getD i []) (l.getD j [])
      have d := a.2 (by omega)
      have e := b.2 (by omega)
      exact ⟨by omega, rfl⟩
theorem best_skip {l : List Bs} {h : Bs} {n i : Nat} {f : Bool} (h1 : BestIs l h n i f) (h2 : hostTakes (l.getD n []) h = false ∨ (f = true ∧ 0 ≤ orderH (l.getD n []) (l.getD i []))) : BestIs l h (n + 1) i f := by
  rcases h1 with ⟨rfl, rfl, h1⟩ | ⟨rfl, h1⟩
  · left
    refine ⟨rfl, rfl, fun k hk => ?_⟩
    rcases Nat.lt_or_ge k n with h3 | h3
    · exact h1 k h3
    · obtain rfl : k = n := by omega
      rcases h2 with h2 | ⟨h2, _⟩
      · exact h2
      · cases h2
  · right
    refine ⟨rfl, by have := h1.lt; omega, h1.takes, fun k hk ht => ?_⟩
    rcases Nat.lt_or_ge k n with h3 | h3
    · exact h1.least k h3 ht
    · obtain rfl : k = n := by omega
      rcases h2 with h2 | ⟨_, h2⟩
      · rw [h2] at ht; cases ht
      · exact ⟨h2, fun _ => Nat.le_of_lt h1.lt⟩
theorem best_take {l : List Bs} {h : Bs} {n i : Nat} {f : Bool} (h1 : BestIs l h n i f) (ht : hostTakes (l.getD n []) h = true) (h2 : f = false ∨ orderH (l.getD n []) (l.getD i []) < 0) : BestIs l h (n + 1) n true := by
  right
  refine ⟨rfl, by omega, ht, fun k hk hk2 => ?_⟩
  rcases Nat.lt_or_ge k n with h3 | h3
  · rcases h1 with ⟨rfl, rfl, h1⟩ | ⟨rfl, h1⟩
    · rw [h1 k h3] at hk2; cases hk2
    · have a := (h1.least k h3 hk2).1
      have b : orderH (l.getD n []) (l.getD i []) < 0 := by rcases h2 with h2 | h2; cases h2; exact h2
      have c := order_anti (l.getD k []) (l.getD n [])
      have d := order_anti (l.getD i []) (l.getD k [])
      have e := order_anti (l.getD n []) (l.getD i [])
      have hlt : 0 < orderH (l.getD k []) (l.getD n []) := by
        rcases Int.lt_or_le 0 (orderH (l.getD k []) (l.getD n [])) with h | h
        · exact h
        · exfalso
          have t := order_trans (a := l.getD i []) (b := l.getD k []) (c := l.getD n []) (by omega) h
          omega
      exact ⟨by omega, fun h => by omega⟩
  · obtain rfl : k = n := by omega
    rw [order_self]
    exact ⟨by omega, fun _ => by omega⟩
/-- The document's own: the first that takes the host and that none of all stands ahead of. -/
theorem best_first {l : List Bs} {h : Bs} {n i : Nat} (hi : i < n) (ht : hostTakes (l.getD i []) h = true) (hall : ∀ k, k < n → ¬ (hostTakes (l.getD k []) h = true ∧ (orderH (l.getD k []) (l.getD i []) < 0 ∨ (orderH (l.getD k []) (l.getD i []) = 0 ∧ k < i)))) : BestIs l h n i true := by
  right
  refine ⟨rfl, hi, ht, fun k hk hk2 => ?_⟩
  have h1 := hall k hk
  constructor
  · rcases Int.lt_or_le (orderH (l.getD k []) (l.getD i [])) 0 with h2 | h2
    · exact absurd ⟨hk2, .inl h2⟩ h1
    · exact h2
  · intro e
    rcases Nat.lt_or_ge k i with h2 | h2
    · exact absurd ⟨hk2, .inr ⟨e, h2⟩⟩ h1
    · exact h2
/-- Where one takes the host at all, one is the best. -/
theorem best_exists (l : List Bs) (h : Bs) (n : Nat) : ∃ i f, BestIs l h n i f := by
  induction n with
  | zero => exact ⟨0, false, .inl ⟨rfl, rfl, fun k hk => by omega⟩⟩
  | succ n ih =>
    obtain ⟨i, f, hb⟩ := ih
    by_cases ht : hostTakes (l.getD n []) h = true
    · by_cases h2 : f = false ∨ orderH (l.getD n []) (l.getD i []) < 0
      · exact ⟨n, true, best_take hb ht h2⟩
      · refine ⟨i, f, best_skip hb (.inr ⟨?_, ?_⟩)⟩
        · cases f with
          | false => exact absurd (.inl rfl) h2
          | true => rfl
        · rcases Int.lt_or_le (orderH (l.getD n []) (l.getD i [])) 0 with h3 | h3
          · exact absurd (.inr h3) h2
          · exact h3
    · exact ⟨i, f, best_skip hb (.inl (by simpa using ht))⟩
end Go.Pa
