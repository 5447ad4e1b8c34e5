/-
  FOR A PROOF OF AN '..UptoSaid': WHAT THE BOUND GIVES. Copy it as <Name>Bulk.lean (put your seat's Name for Ytjepgpocmnijiaa, the bound of 'uptoSmall' for 1048576), name it in GOCLAIM.json's 'order' behind <Name>Rows. By an AI agent, Sun Nov 15 2026. No person has read it. No macro, syntax, notation, axiom, sorry.
-/
import Derived.OwnWalk
import Derived.WalkKit
import Derived.ProofKit
import Derived.OpenShut
import Derived.Deep.Slices
import Derived.Deep.Fields
import Derived.WalkLawsBesides
import Derived.Test.YtjepgpocmnijiaaRows
section
/- Plain: sorting that keeps the order of equal elements: what is merged, inserted, laid in blocks. -/
namespace Go.Stab
set_option linter.unusedVariables false
open List (zipIdxLE)
variable {α : Type}
/-- A total order of what may be equal. -/
structure Tot (le : α → α → Bool) : Prop where
  trans : ∀ a b c, le a b = true → le b c = true → le a c = true
  total : ∀ a b, (le a b || le b a) = true
theorem Tot.of_false {le : α → α → Bool} (H : Tot le) {a b : α} (h : le a b = false) : le b a = true := by
  have := H.total a b; rw [h] at this; simpa using this
/-- Sorted, what is equal by its place. -/
def So (le : α → α → Bool) (A : List (α × Nat)) : Prop := A.Pairwise fun a b => zipIdxLE le a b = true
def Lw (A B : List (α × Nat)) : Prop := ∀ a ∈ A, ∀ b ∈ B, a.2 ≤ b.2
variable {le : α → α → Bool}
theorem tle_of {a b : α × Nat} (h : le a.1 b.1 = true) (ht : a.2 ≤ b.2) : zipIdxLE le a b = true := by
  unfold zipIdxLE; rw [if_pos h]
  split
  · exact decide_eq_true ht
  · rfl
theorem tle_lt (H : Tot le) {a b : α × Nat} (h : le b.1 a.1 = false) : zipIdxLE le a b = true := by
  unfold zipIdxLE; rw [if_pos (H.of_false h), if_neg (by rw [h]; decide)]
theorem le_of {a b : α × Nat} (h : zipIdxLE le a b = true) : le a.1 b.1 = true := by
  unfold zipIdxLE at h
  split at h
  · assumption
  · cases h
theorem So.mono {A : List (α × Nat)} (H : Tot le) (h : So le A) {p q : Nat} {x y : α × Nat} (hp : A[p]? = some x) (hq : A[q]? = some y) (hpq : p ≤ q) : le x.1 y.1 = true := by
  rcases Nat.lt_or_ge p q with hl | hl
  · obtain ⟨h1, rfl⟩ := List.getElem?_eq_some_iff.1 hp
    obtain ⟨h2, rfl⟩ := List.getElem?_eq_some_iff.1 hq
    exact le_of ((List.pairwise_iff_getElem.1 h) p q h1 h2 hl)
  · have : p = q := by omega
    subst this
    rw [hp] at hq; cases hq
    have := H.total x.1 x.1
    simpa using this
/-- WHAT IS SORTED SO IS ONE LIST. -/
theorem unique (H : Tot le) {L : List α} {T : List (α × Nat)} (hp : T.Perm L.zipIdx) (hs : So le T) : T.map (·.1) = L.mergeSort le := by
  rw [← List.mergeSort_zipIdx]
  congr 1
  refine List.Perm.eq_of_pairwise (le := fun a b => zipIdxLE le a b = true) ?_ hs (List.pairwise_mergeSort (List.zipIdxLE_trans H.trans) (List.zipIdxLE_total H.total) _) (hp.trans (List.mergeSort_perm _ _).symm)
  rintro ⟨a, i⟩ ⟨b, j⟩ ha hb h1 h2
  have ha' := hp.mem_iff.1 ha
  have hb' := List.mem_mergeSort.1 hb
  have l1 := le_of h1
  have l2 := le_of h2
  unfold zipIdxLE at h1 h2
  simp only at l1 l2
  rw [if_pos l1, if_pos l2] at h1
  rw [if_pos l2, if_pos l1] at h2
  have e : i = j := Nat.le_antisymm (of_decide_eq_true h1) (of_decide_eq_true h2)
  subst e
  have e1 := List.mem_zipIdx ha'
  have e2 := List.mem_zipIdx hb'
  simp_all
theorem So.app {A B : List (α × Nat)} (h1 : So le A) (h2 : So le B) (h : ∀ a ∈ A, ∀ b ∈ B, zipIdxLE le a b = true) : So le (A ++ B) := List.pairwise_append.2 ⟨h1, h2, h⟩
theorem So.split {A B : List (α × Nat)} (h : So le (A ++ B)) : So le A ∧ So le B ∧ ∀ a ∈ A, ∀ b ∈ B, zipIdxLE le a b = true := List.pairwise_append.1 h
/-- Two halves, each merged. -/
theorem halves (H : Tot le) {A1 A2 B1 B2 C1 C2 : List (α × Nat)} (hA : So le (A1 ++ A2)) (hB : So le (B1 ++ B2)) (hl : Lw (A1 ++ A2) (B1 ++ B2))
    (x12 : ∀ x ∈ A1, ∀ y ∈ B2, le x.1 y.1 = true) (x21 : ∀ x ∈ A2, ∀ y ∈ B1, le x.1 y.1 = false)
    (h1 : So le C1) (p1 : C1.Perm (A1 ++ B1)) (h2 : So le C2) (p2 : C2.Perm (A2 ++ B2)) : So le (C1 ++ C2) := by
  refine h1.app h2 fun a ha b hb => ?_
  have ha' := List.mem_append.1 (p1.mem_iff.1 ha)
  have hb' := List.mem_append.1 (p2.mem_iff.1 hb)
  rcases ha' with ha' | ha' <;> rcases hb' with hb' | hb'
  · exact hA.split.2.2 a ha' b hb'
  · exact tle_of (x12 a ha' b hb') (hl a (by simp [ha']) b (by simp [hb']))
  · exact tle_lt H (x21 b hb' a ha')
  · exact hB.split.2.2 a ha' b hb'
/-- One is put into what is sorted, behind its equals. -/
theorem ins (H : Tot le) {A : List (α × Nat)} {y : α × Nat} {k : Nat} (hA : So le A) (hl : ∀ a ∈ A, a.2 ≤ y.2) (hk : k ≤ A.length)
    (h1 : k = 0 ∨ ∀ x, A[k - 1]? = some x → le x.1 y.1 = true) (h2 : k = A.length ∨ ∀ x, A[k]? = some x → le x.1 y.1 = false) : So le (A.take k ++ y :: A.drop k) := by
  have hA' : So le (A.take k ++ A.drop k) := by rw [List.take_append_drop]; exact hA
  obtain ⟨s1, s2, s3⟩ := hA'.split
  refine s1.app (List.pairwise_cons.2 ⟨fun z hz => ?_, s2⟩) fun a ha b hb => ?_
  · obtain ⟨j, hj⟩ := List.mem_iff_getElem?.1 hz
    rw [List.getElem?_drop] at hj
    have hjl := (List.getElem?_eq_some_iff.1 hj).1
    rcases h2 with rfl | h2
    · omega
    · have hx : A[k]? = some (A[k]'(by omega)) := List.getElem?_eq_getElem _
      have := h2 _ hx
      refine tle_lt H ?_
      cases hc : le z.1 y.1 with
      | false => rfl
      | true => rw [H.trans _ _ _ (hA.mono H hx hj (by omega)) hc] at this; cases this
  · rcases List.mem_cons.1 hb with rfl | hb
    · obtain ⟨j, hj⟩ := List.mem_iff_getElem?.1 ha
      rw [List.getElem?_take] at hj
      split at hj
      · rename_i hjk
        rcases h1 with rfl | h1
        · omega
        · have hx : A[k - 1]? = some (A[k - 1]'(by omega)) := List.getElem?_eq_getElem _
          exact tle_of (H.trans _ _ _ (hA.mono H hj hx (by omega)) (h1 _ hx)) (hl a (List.mem_of_getElem? hj))
      · cases hj
    · exact s3 a ha b hb
/-- One is put into what is sorted, ahead of its equals. -/
theorem ins0 (H : Tot le) {B : List (α × Nat)} {x : α × Nat} {k : Nat} (hB : So le B) (hl : ∀ b ∈ B, x.2 ≤ b.2) (hk : k ≤ B.length)
    (h1 : k = 0 ∨ ∀ y, B[k - 1]? = some y → le x.1 y.1 = false) (h2 : k = B.length ∨ ∀ y, B[k]? = some y → le x.1 y.1 = true) : So le (B.take k ++ x :: B.drop k) := by
  have hB' : So le (B.take k ++ B.drop k) := by rw [List.take_append_drop]; exact hB
  obtain ⟨s1, s2, s3⟩ := hB'.split
  refine s1.app (List.pairwise_cons.2 ⟨fun z hz => ?_, s2⟩) fun a ha b hb => ?_
  · obtain ⟨j, hj⟩ := List.mem_iff_getElem?.1 hz
    rw [List.getElem?_drop] at hj
    have hjl := (List.getElem?_eq_some_iff.1 hj).1
    rcases h2 with rfl | h2
    · omega
    · have hx : B[k]? = some (B[k]'(by omega)) := List.getElem?_eq_getElem _
      exact tle_of (H.trans _ _ _ (h2 _ hx) (hB.mono H hx hj (by omega))) (hl z (List.mem_of_getElem? hj))
  · rcases List.mem_cons.1 hb with rfl | hb
    · obtain ⟨j, hj⟩ := List.mem_iff_getElem?.1 ha
      rw [List.getElem?_take] at hj
      split at hj
      · rename_i hjk
        rcases h1 with rfl | h1
        · omega
        · have hx : B[k - 1]? = some (B[k - 1]'(by omega)) := List.getElem?_eq_getElem _
          have := h1 _ hx
          refine tle_lt H ?_
          cases hc : le b.1 a.1 with
          | false => rfl
          | true => rw [H.trans _ _ _ hc (hB.mono H hj hx (by omega))] at this; cases this
      · cases hj
    · exact s3 a ha b hb
/-- Where two sorted lists are cut: u of the first, v of the second go ahead. -/
theorem cut (H : Tot le) {A B : List (α × Nat)} {u v : Nat} (hA : So le A) (hB : So le B) (hu : u ≤ A.length) (hv : v ≤ B.length)
    (h1 : u = 0 ∨ v = B.length ∨ ∀ x y, A[u - 1]? = some x → B[v]? = some y → le x.1 y.1 = true)
    (h2 : u = A.length ∨ v = 0 ∨ ∀ x y, A[u]? = some x → B[v - 1]? = some y → le x.1 y.1 = false) :
    (∀ x ∈ A.take u, ∀ y ∈ B.drop v, le x.1 y.1 = true) ∧ (∀ x ∈ A.drop u, ∀ y ∈ B.take v, le x.1 y.1 = false) := by
  constructor
  · intro x hx y hy
    obtain ⟨i, hi⟩ := List.mem_iff_getElem?.1 hx
    obtain ⟨j, hj⟩ := List.mem_iff_getElem?.1 hy
    rw [List.getElem?_take] at hi
    rw [List.getElem?_drop] at hj
    split at hi
    · have hjl := (List.getElem?_eq_some_iff.1 hj).1
      rcases h1 with rfl | rfl | h1
      · omega
      · omega
      · have e1 : A[u - 1]? = some (A[u - 1]'(by omega)) := List.getElem?_eq_getElem _
        have e2 : B[v]? = some (B[v]'(by omega)) := List.getElem?_eq_getElem _
        exact H.trans _ _ _ (hA.mono H hi e1 (by omega)) (H.trans _ _ _ (h1 _ _ e1 e2) (hB.mono H e2 hj (by omega)))
    · cases hi
  · intro x hx y hy
    obtain ⟨i, hi⟩ := List.mem_iff_getElem?.1 hx
    obtain ⟨j, hj⟩ := List.mem_iff_getElem?.1 hy
    rw [List.getElem?_drop] at hi
    rw [List.getElem?_take] at hj
    split at hj
    · have hil := (List.getElem?_eq_some_iff.1 hi).1
      rcases h2 with rfl | rfl | h2
      · omega
      · omega
      · have e1 : A[u]? = some (A[u]'(by omega)) := List.getElem?_eq_getElem _
        have e2 : B[v - 1]? = some (B[v - 1]'(by omega)) := List.getElem?_eq_getElem _
        have := h2 _ _ e1 e2
        cases hc : le x.1 y.1 with
        | false => rfl
        | true => rw [H.trans _ _ _ (hA.mono H e1 hi (by omega)) (H.trans _ _ _ hc (hB.mono H hj e2 (by omega)))] at this; cases this
    · cases hj
theorem perm_mid {A : List α} {y : α} (k : Nat) : (A.take k ++ y :: A.drop k).Perm (A ++ [y]) := by
  have h1 : (A.take k ++ y :: A.drop k).Perm (y :: (A.take k ++ A.drop k)) := List.perm_middle
  rw [List.take_append_drop] at h1
  exact h1.trans (List.perm_append_comm (l₁ := [y]) (l₂ := A))
theorem perm_mid0 {A : List α} {y : α} (k : Nat) : (A.take k ++ y :: A.drop k).Perm ([y] ++ A) := by
  have h1 : (A.take k ++ y :: A.drop k).Perm (y :: (A.take k ++ A.drop k)) := List.perm_middle
  rw [List.take_append_drop] at h1
  exact h1
theorem Lw.perm {A A' B B' : List (α × Nat)} (h : Lw A B) (ha : ∀ x ∈ A', x ∈ A) (hb : ∀ x ∈ B', x ∈ B) : Lw A' B' := fun a h1 b h2 => h a (ha a h1) b (hb b h2)
/-- Two elements change their places. -/
def sw (L : List α) (i j : Nat) (x y : α) : List α := (L.set i y).set j x
theorem sw_at {U V W : List α} {x y : α} {i j : Nat} (hi : i = U.length) (hj : j = U.length + 1 + V.length) : sw (U ++ x :: (V ++ y :: W)) i j x y = U ++ y :: (V ++ x :: W) := by
  unfold sw
  subst hi hj
  rw [List.set_append_right _ _ (Nat.le_refl _), Nat.sub_self, List.set_cons_zero, List.set_append_right _ _ (by omega), show U.length + 1 + V.length - U.length = V.length + 1 by omega, List.set_cons_succ, List.set_append_right _ _ (Nat.le_refl _), Nat.sub_self, List.set_cons_zero]
theorem sw_at' {U V W : List α} {x y : α} {i j : Nat} (hi : i = U.length) (hj : j = U.length + 1 + V.length) : sw (U ++ x :: (V ++ y :: W)) j i y x = U ++ y :: (V ++ x :: W) := by
  unfold sw
  subst hi hj
  rw [List.set_append_right _ _ (by omega), show U.length + 1 + V.length - U.length = V.length + 1 by omega, List.set_cons_succ, List.set_append_right _ _ (Nat.le_refl _), Nat.sub_self, List.set_cons_zero, List.set_append_right _ _ (Nat.le_refl _), Nat.sub_self, List.set_cons_zero]
/-- Block k of bs elements. -/
def seg (bs k : Nat) (T : List α) : List α := (T.drop (k * bs)).take bs
def Good (le : α → α → Bool) (bs : Nat) (T0 T : List (α × Nat)) (k : Nat) : Prop := So le (seg bs k T) ∧ (seg bs k T).Perm (seg bs k T0)
theorem seg_two (bs k : Nat) (T : List α) : seg (2 * bs) k T = seg bs (2 * k) T ++ seg bs (2 * k + 1) T := by
  unfold seg
  rw [show k * (2 * bs) = 2 * k * bs by rw [Nat.mul_left_comm, Nat.mul_assoc], show (2 * k + 1) * bs = 2 * k * bs + bs by rw [Nat.add_mul, Nat.one_mul], Nat.two_mul bs, List.take_add, List.drop_drop]
theorem seg_len (bs k : Nat) (T : List α) : (seg bs k T).length = min bs (T.length - k * bs) := by unfold seg; rw [List.length_take, List.length_drop]
/-- What lies outside of a part that turned is as it was. -/
theorem seg_out {P A A' Q : List α} (hl : A'.length = A.length) {bs k : Nat} (h : (k + 1) * bs ≤ P.length ∨ P.length + A.length ≤ k * bs) : seg bs k (P ++ A' ++ Q) = seg bs k (P ++ A ++ Q) := by
  unfold seg
  rcases h with h | h
  · have e : (k + 1) * bs = k * bs + bs := by rw [Nat.add_mul, Nat.one_mul]
    rw [List.append_assoc, List.append_assoc, List.drop_append_of_le_length (by omega), List.drop_append_of_le_length (by omega), List.take_append_of_le_length (by rw [List.length_drop]; omega), List.take_append_of_le_length (by rw [List.length_drop]; omega)]
  · have d : ∀ X : List α, X.length = P.length + A.length → (X ++ Q).drop (k * bs) = Q.drop (k * bs - (P.length + A.length)) := fun X hX => by rw [List.drop_append, List.drop_eq_nil_of_le (by omega), List.nil_append, hX]
    rw [d (P ++ A') (by rw [List.length_append, hl]), d (P ++ A) (by rw [List.length_append])]
/-- A part of several blocks of bs, sorted whole, is a block of more. -/
theorem seg_in {P A Q : List α} {bs k : Nat} (hP : P.length = k * bs) (hA : A.length ≤ bs) (hQ : A.length = bs ∨ Q = []) : seg bs k (P ++ A ++ Q) = A := by
  unfold seg
  rw [List.append_assoc, ← hP, List.drop_left]
  rcases hQ with h | rfl
  · rw [List.take_append_of_le_length (by omega), List.take_of_length_le (by omega)]
  · rw [List.append_nil, List.take_of_length_le hA]
/-- One block: all is sorted. -/
theorem good_all {T T0 : List (α × Nat)} {bs : Nat} (hb : T.length ≤ bs) (hl : T0.length = T.length) (h : Good le bs T0 T 0) : So le T ∧ T.Perm T0 := by
  unfold Good seg at h
  rw [Nat.zero_mul, List.drop_zero, List.drop_zero, List.take_of_length_le hb, List.take_of_length_le (by omega)] at h
  exact h
/-- The tags of a block lie below those of the next. -/
theorem seg_low {L : List α} {bs j : Nat} {A B : List (α × Nat)} (hA : A.Perm (seg bs j L.zipIdx)) (hB : B.Perm (seg bs (j + 1) L.zipIdx)) : Lw A B := by
  have tag : ∀ (k : Nat) (x : α × Nat), x ∈ seg bs k L.zipIdx → k * bs ≤ x.2 ∧ x.2 < (k + 1) * bs := by
    intro k x hx
    unfold seg at hx
    obtain ⟨i, hi⟩ := List.mem_iff_getElem?.1 hx
    rw [List.getElem?_take] at hi
    split at hi
    · rw [List.getElem?_drop, List.getElem?_zipIdx] at hi
      rw [Nat.add_mul, Nat.one_mul]
      cases hL : L[k * bs + i]? with
      | none => rw [hL] at hi; cases hi
      | some z => rw [hL] at hi; simp at hi; subst hi; simp; omega
    · cases hi
  intro a ha b hb
  have h1 := tag j a (hA.mem_iff.1 ha)
  have h2 := tag (j + 1) b (hB.mem_iff.1 hb)
  omega
end Go.Stab
end

section
/- How arguments with depth read: texts, numbers, lists of these, structs of these, lists of structs: one word for each, what keeps it, and how it is opened. Of no program. -/
namespace Go.Rd
open Go.ChangeShapes Go.WideShapes Go.ChangeAt Go.RowKit
set_option linter.unusedVariables false

abbrev Cells := Nat → Option Value
def cellsAt (w : World) (b off : Nat) : Cells := fun j => w.cell? ⟨b, off + j, none⟩
/-- How an element reads: how many cells it has, and what they read as. -/
structure Elem (α : Type) where
  k : Nat
  R : World → Cells → α → Prop
  up : ∀ {w w' : World} {c c' : Cells} {x : α}, R w c x → Below w.heap.size w w' → (∀ j, j < k → c' j = c j) → R w' c' x
def SliceOf {α : Type} (E : Elem α) (w : World) (v : Value) (xs : List α) : Prop :=
  xs.length ≤ 140737488351232 ∧ ∃ ao cap, v = .slice ao xs.length cap ∧ xs.length ≤ cap ∧ (xs = [] ∨ ∃ b off, ao = some ⟨b, off, none⟩ ∧ b < w.heap.size ∧ ∀ i x, xs[i]? = some x → E.R w (cellsAt w b (off + i * E.k)) x)
theorem SliceOf.below {α : Type} {E : Elem α} {w w' : World} {v : Value} {xs : List α} (h : SliceOf E w v xs) (hb : Below w.heap.size w w') : SliceOf E w' v xs := by
  obtain ⟨hl, ao, cap, rfl, hc, h⟩ := h
  refine ⟨hl, ao, cap, rfl, hc, ?_⟩
  rcases h with h | ⟨b, off, rfl, hb', hx⟩
  · exact .inl h
  · exact .inr ⟨b, off, rfl, Nat.lt_of_lt_of_le hb' hb.size, fun i x hi => E.up (hx i x hi) hb (fun j _ => hb.cell (by exact hb'))⟩
/-- The list's place in memory, where it has an element. -/
theorem SliceOf.at {α : Type} {E : Elem α} {w : World} {v : Value} {xs : List α} (h : SliceOf E w v xs) (hne : xs ≠ []) : ∃ b off cap, v = .slice (some ⟨b, off, none⟩) xs.length cap ∧ b < w.heap.size ∧ ∀ i x, xs[i]? = some x → E.R w (cellsAt w b (off + i * E.k)) x := by
  obtain ⟨_, ao, cap, rfl, _, h⟩ := h
  obtain ⟨b, off, rfl, hb, hx⟩ := h.resolve_left hne
  exact ⟨b, off, cap, rfl, hb, hx⟩

def str : Elem ByteArray := ⟨1, fun _ c s => c 0 = some (.string s) ∧ s.size ≤ maxLen, fun h _ hc => ⟨(hc 0 (by decide)).trans h.1, h.2⟩⟩
def int : Elem Int := ⟨1, fun _ c n => c 0 = some (.int .i64 n) ∧ -9223372036854775808 ≤ n ∧ n ≤ 9223372036854775807, fun h _ hc => ⟨(hc 0 (by decide)).trans h.1, h.2⟩⟩
def u64 : Elem Int := ⟨1, fun _ c n => c 0 = some (.int .u64 n) ∧ 0 ≤ n ∧ n ≤ 18446744073709551615, fun h _ hc => ⟨(hc 0 (by decide)).trans h.1, h.2⟩⟩
def bool : Elem Bool := ⟨1, fun _ c n => c 0 = some (.bool n), fun h _ hc => (hc 0 (by decide)).trans h⟩
def float : Elem Nat := ⟨1, fun _ c n => c 0 = some (.float .f64 n) ∧ n < 18446744073709551616, fun h _ hc => ⟨(hc 0 (by decide)).trans h.1, h.2⟩⟩
def slice {α : Type} (E : Elem α) : Elem (List α) := ⟨1, fun w c xs => ∃ v, c 0 = some v ∧ SliceOf E w v xs, fun ⟨v, h1, h2⟩ hb hc => ⟨v, (hc 0 (by decide)).trans h1, h2.below hb⟩⟩
def none : Elem Unit := ⟨0, fun _ _ _ => True, fun _ _ _ => trivial⟩
def pair {α β : Type} (E : Elem α) (F : Elem β) : Elem (α × β) := ⟨E.k + F.k, fun w c x => E.R w c x.1 ∧ F.R w (fun j => c (E.k + j)) x.2,
  fun h hb hc => ⟨E.up h.1 hb (fun j hj => hc j (by omega)), F.up h.2 hb (fun j hj => hc (E.k + j) (by omega))⟩⟩

/-! ### Opening -/
section
variable {P : Program}
def Fits {H : Type} (P : Program) (t : TypeId) (d : DataW H) : Prop := ∀ n ∈ d.weights P t, n ≤ reachBytes
def Opens {α : Type} (P : Program) (E : Elem α) (t : TypeId) : Prop := ∀ {H : Type} {enc : TypeId × Value → H} {w : World} {n : Nat} {cs : List Value} {x : DataW H × List MemPlace},
  DataW.trod enc P w 0 (fun _ => true) true n t cs = some x → Fits P t x.1 → ∃ y, ∀ c : Cells, (∀ j, j < E.k → c j = cs[j]?) → E.R w c y
theorem opens_int {t : TypeId} (ht : P.underlying t = some (.int .i64)) : Opens P int t := by
  intro H enc w n cs x h _
  obtain ⟨a, e0, _, wa⟩ := DataW.trod_int ht h
  subst e0
  exact ⟨a, fun c hc => ⟨by rw [hc 0 (by decide)]; rfl, bounds_i64 wa⟩⟩
theorem opens_bool {t : TypeId} (ht : P.underlying t = some .bool) : Opens P bool t := by
  intro H enc w n cs x h _
  have hb : ∃ b, cs = [.bool b] := by
    cases n with
    | zero => simp [DataW.trod] at h
    | succ n =>
      unfold DataW.trod at h
      rw [ht] at h
      split at h <;> first | exact ⟨_, rfl⟩ | simp_all
  obtain ⟨b, rfl⟩ := hb
  exact ⟨b, fun c hc => by show c 0 = some (.bool b); rw [hc 0 (by decide)]; rfl⟩
theorem opens_float {t : TypeId} (ht : P.underlying t = some (.float .f64)) : Opens P float t := by
  intro H enc w n cs x h _
  have hb : ∃ b, cs = [.float .f64 b] ∧ b < 18446744073709551616 := by
    cases n with
    | zero => simp [DataW.trod] at h
    | succ n =>
      rcases cs with _ | ⟨V, _ | ⟨V2, r⟩⟩
      · simp [DataW.trod, ht] at h
      · simp only [DataW.trod, ht] at h
        cases V <;> simp at h
        obtain ⟨⟨rfl, hw⟩, _⟩ := h
        exact ⟨_, rfl, by simpa [Lit.wf] using hw⟩
      · simp [DataW.trod, ht] at h
  obtain ⟨b, rfl, hb⟩ := hb
  exact ⟨b, fun c hc => ⟨by rw [hc 0 (by decide)]; rfl, hb⟩⟩
end
end Go.Rd
end

section

namespace Go.Proofs.Ytjepgpocmnijiaa.bulks

theorem one_le {H : Type} (d : DataW H) : 1 ≤ Rows.uptoBulk d := by
  cases d with
  | lit l => cases l <;> simp [Rows.uptoBulk]
  | nil => simp [Rows.uptoBulk]
  | ptr d => simp [Rows.uptoBulk]
  | slice elems spare => simp [Rows.uptoBulk]
  | agg parts => simp [Rows.uptoBulk]
  | iface t d => simp [Rows.uptoBulk]
  | map entries => simp [Rows.uptoBulk]
  | held h => simp [Rows.uptoBulk]

/-- a part's bulk is at most the whole's -/
theorem part_le {H : Type} {d : DataW H} {l : List (DataW H)} (h : d ∈ l) : Rows.uptoBulk d ≤ Rows.uptoBulkAll l := by
  induction l with
  | nil => cases h
  | cons x r ih =>
    simp only [Rows.uptoBulkAll]
    cases List.mem_cons.1 h with
    | inl e => subst e; omega
    | inr e => have := ih e; omega

theorem append {H : Type} (l r : List (DataW H)) : Rows.uptoBulkAll (l ++ r) = Rows.uptoBulkAll l + Rows.uptoBulkAll r := by
  induction l with
  | nil => simp [Rows.uptoBulkAll]
  | cons x l ih => simp only [List.cons_append, Rows.uptoBulkAll, ih]; omega

/-- so many values at the most -/
theorem length_le {H : Type} (l : List (DataW H)) : l.length ≤ Rows.uptoBulkAll l := by
  induction l with
  | nil => simp [Rows.uptoBulkAll]
  | cons x r ih => have := one_le x; simp only [Rows.uptoBulkAll, List.length_cons]; omega

/-- a slice's places, and what they hold -/
theorem slice_le {H : Type} (elems spare : List (DataW H)) : elems.length + spare.length + 1 ≤ Rows.uptoBulk (.slice elems spare) := by
  have h1 := length_le elems
  have h2 := length_le spare
  simp only [Rows.uptoBulk]
  omega
theorem slice_elems {H : Type} (elems spare : List (DataW H)) : Rows.uptoBulkAll elems + 1 ≤ Rows.uptoBulk (.slice elems spare) := by
  simp only [Rows.uptoBulk]
  omega

/-- a string's letters -/
theorem string_eq {H : Type} (bytes : List UInt8) : Rows.uptoBulk (DataW.lit (H := H) (.string bytes)) = bytes.length + 1 := by
  simp [Rows.uptoBulk]

/-- THE BOUND, as the builder hands it over ('hk') -/
theorem bound {H : Type} {l : List (DataW H)} (hk : Rows.uptoSmall H l = true) : Rows.uptoBulkAll l ≤ 1048576 := by
  simpa [Rows.uptoSmall] using hk

/-- ROOM: a slice of n elements of b bytes, grown by append: below the 2^48 bytes that append, make and a Builder bear. Here n up to 2^21, b up to 4,096: put your own numbers. -/
theorem room {n b : Nat} (hn : n ≤ 2097152) (hb : b ≤ 4096) : (n + n / 4 + 192) * b ≤ 281474976710656 := by
  have h : (n + n / 4 + 192) * b ≤ 2621632 * 4096 := Nat.mul_le_mul (by omega) hb
  omega

end Go.Proofs.Ytjepgpocmnijiaa.bulks
end
