/- Three lists of their own, a list of them, the grown ones: what stands through the law on own memory. -/
import Derived.Test.YtfdmfihifjlidaaOwn
namespace Go.Tp
open Go.RowKit
set_option linter.unusedVariables false
structure S1 (B : Nat) (c : Nat) (va : Value) (L : Nat → Value) (X : Nat → List Value) (w : World) : Prop where
  base : B ≤ w.heap.size
  row : viewRow w B 47 va c ((List.range c).map L)
  view : ∀ j, j < c → viewRow w B 29 (L j) (X j).length (X j)
  apart : ∀ j k, j < c → k < c → j ≠ k → Apart (L j) (L k)
  len : ∀ j, j < c → (X j).length ≤ 17592186043904
section
variable {B c : Nat} {va : Value} {L : Nat → Value} {X : Nat → List Value} {w w' : World}
theorem S1.below (h : S1 B c va L X w) (hb : Below w.heap.size w w') : S1 B c va L X w' :=
  ⟨Nat.le_trans h.base hb.size, viewRow_below h.row hb, fun j hj => viewRow_below (h.view j hj) hb, h.apart, h.len⟩
theorem range_upd (f : Nat → Value) (l : Value) (c : Nat) : (List.range (c + 1)).map (fun j => if j = c then l else f j) = (List.range c).map f ++ [l] := by
  rw [List.range_succ, List.map_append]
  congr 1
  · refine List.map_congr_left fun j hj => ?_
    have := List.mem_range.1 hj
    rw [if_neg (by omega)]
  · simp
/-- One more list. -/
theorem S1.more {w2 w3 : World} {l va' : Value} {ys : List Value} {o : Obj} (h : S1 B c va L X w) (hb : Below w.heap.size w w2) (hl : viewRow w2 w.heap.size 29 l ys.length ys) (hys : ys.length ≤ 17592186043904)
    (hr : viewRow w3 B 47 va' (c + 1) ((List.range c).map L ++ [l])) (hg : Grew (w2.alloc o) w3 va va' c 1) : S1 B (c + 1) va' (fun j => if j = c then l else L j) (fun j => if j = c then ys else X j) w3 := by
  have h2 := (h.below hb).below (Below_alloc w2 o)
  have hl2 := viewRow_below hl (Below_alloc w2 o)
  have hnew : ∀ j, j < c → Apart (L j) l := fun j hj g h1 h3 => by
    obtain ⟨_, _, _, e1⟩ := blockOf_row (h.view j hj) h1
    obtain ⟨_, _, e2, _⟩ := blockOf_row hl h3
    omega
  refine ⟨Nat.le_trans h2.base hg.size, by rw [range_upd]; exact hr, fun j hj => ?_, fun j k hj hk hne => ?_, fun j hj => ?_⟩
  · by_cases hjc : j = c
    · subst hjc
      simp only [↓reduceIte]
      exact viewRow_mono (viewRow_grew hl2 (apart_type hl2 h2.row (by decide)) hg) h.base
    · simp only [if_neg hjc]
      exact viewRow_grew (h2.view j (by omega)) (apart_type (h2.view j (by omega)) h2.row (by decide)) hg
  · by_cases hjc : j = c
    · subst hjc
      simp only [↓reduceIte, if_neg (Ne.symm hne)]
      exact (hnew k (by omega)).symm
    · by_cases hkc : k = c
      · subst hkc
        simp only [↓reduceIte, if_neg hne]
        exact hnew j (by omega)
      · simp only [if_neg hjc, if_neg hkc]
        exact h.apart j k (by omega) (by omega) hne
  · by_cases hjc : j = c
    · subst hjc; simp only [↓reduceIte]; exact hys
    · simp only [if_neg hjc]; exact h.len j (by omega)
/-- A cell of one of the lists is written. -/
theorem S1.set {i k g off n cap : Nat} {m : Value} (h : S1 B c va L X w) (hi : i < c) (hL : L i = .slice (some ⟨g, off, none⟩) n cap) (hk : k < (X i).length) :
    S1 B c va L (fun j => if j = i then (X i).set k m else X j) (w.setCell ⟨g, off + k, none⟩ m) ∧ Below B w (w.setCell ⟨g, off + k, none⟩ m) := by
  have hv := h.view i hi
  have hb : blockOf (L i) = some g := by
    rcases hv.2 with ⟨h0, h1⟩ | ⟨g', off', cap', cur, h0, _, _, h1, _⟩
    · omega
    · rw [h0]
      rw [hL] at h0
      cases h0
      cases cap with
      | zero => omega
      | succ c => rfl
  obtain ⟨_, _, hBg, _⟩ := blockOf_row hv hb
  have hc : Chg w (w.setCell ⟨g, off + k, none⟩ m) g := chg_set m
  refine ⟨⟨Nat.le_trans h.base hc.size, viewRow_chg h.row hc fun e => (apart_type hv h.row (by decide)) g hb e, fun j hj => ?_, h.apart, fun j hj => ?_⟩, hc.below hBg h.base⟩
  · by_cases hji : j = i
    · subst hji
      simp only [↓reduceIte]
      rcases hv.2 with ⟨h0, h1⟩ | ⟨g', off', cap', cur, h0, hB', hcur, h1, h2, h3, h4⟩
      · omega
      · rw [hL] at h0
        cases h0
        rw [List.length_set]
        refine ⟨by simp, .inr ⟨g, off, cap, cur.setIfInBounds (off + k) m, ?_, hB', by simp [World.setCell, Array.getElem?_modify, hcur], h1, h2, by simpa using h3, fun q u hq => ?_⟩⟩
        · have := hv.1
          rw [hL]
        · by_cases hqk : q = k
          · subst hqk
            rw [List.getElem?_set_self (by omega)] at hq
            rw [Array.getElem?_setIfInBounds_self_of_lt (by omega)]
            exact hq
          · rw [List.getElem?_set_ne (Ne.symm hqk)] at hq
            rw [Array.getElem?_setIfInBounds_ne (by omega)]
            exact h4 q u hq
    · simp only [if_neg hji]
      exact viewRow_chg (h.view j hj) hc fun e => h.apart j i hj hi hji g e hb
  · by_cases hji : j = i
    · subst hji; simp only [↓reduceIte]; rw [List.length_set]; exact h.len j hj
    · simp only [if_neg hji]; exact h.len j hj
end
/-- With the grown ones. -/
structure S3 (B : Nat) (c : Nat) (va vg : Value) (L G : Nat → Value) (X T : Nat → List Value) (w : World) : Prop where
  s1 : S1 B 3 va L X w
  row : viewRow w B 47 vg c ((List.range c).map G)
  view : ∀ j, j < c → viewRow w B 29 (G j) ((X j).length + 20) (X j ++ T j)
  lg : ∀ j k, j < c → k < 3 → k ≠ j → Apart (L k) (G j)
  gg : ∀ j k, j < c → k < c → j ≠ k → Apart (G j) (G k)
  rr : Apart va vg
/-- While one grows. -/
structure S4 (B : Nat) (c : Nat) (va vg : Value) (L G : Nat → Value) (X T : Nat → List Value) (l : Value) (k : Nat) (ts : List Value) (w : World) : Prop where
  s3 : S3 B c va vg L G X T w
  view : viewRow w B 29 l ((X c).length + k) (X c ++ ts)
  ll : Longer (L c) l (X c).length ((X c).length + k)
  la : ∀ j, j < 3 → j ≠ c → Apart (L j) l
  ga : ∀ j, j < c → Apart (G j) l
section
variable {B c : Nat} {va vg : Value} {L G : Nat → Value} {X T : Nat → List Value} {w w' : World} {l : Value} {k : Nat} {ts : List Value}
theorem S3.below (h : S3 B c va vg L G X T w) (hb : Below w.heap.size w w') : S3 B c va vg L G X T w' :=
  ⟨h.s1.below hb, viewRow_below h.row hb, fun j hj => viewRow_below (h.view j hj) hb, h.lg, h.gg, h.rr⟩
theorem S4.below (h : S4 B c va vg L G X T l k ts w) (hb : Below w.heap.size w w') : S4 B c va vg L G X T l k ts w' :=
  ⟨h.s3.below hb, viewRow_below h.view hb, h.ll, h.la, h.ga⟩
theorem S4.start (h : S3 B c va vg L G X T w) (hc : c < 3) : S4 B c va vg L G X T (L c) 0 [] w := by
  refine ⟨h, by simpa using h.s1.view c hc, ?_, fun j hj hne => h.s1.apart j c hj hc hne, fun j hj => (h.lg j c hj hc (by omega)).symm⟩
  rcases (h.s1.view c hc).2 with ⟨h0, h1⟩ | ⟨g, off, cap, cur, h0, _⟩
  · refine .inr ?_
    rw [h0]
    intro g h2
    cases h2
  · exact .inl ⟨Nat.le_refl _, _, _, h0, h0⟩
theorem S4.grow {w3 : World} {l' t : Value} {o : Obj} (hc : c < 3) (h : S4 B c va vg L G X T l k ts w) (hv : viewRow w3 B 29 l' ((X c).length + k + 1) (X c ++ ts ++ [t])) (hg : Grew (w.alloc o) w3 l l' ((X c).length + k) 1) :
    S4 B c va vg L G X T l' (k + 1) (ts ++ [t]) w3 := by
  have h2 := h.below (Below_alloc w o)
  have hL := longer_grew (h2.s3.s1.view c hc) h2.ll hg
  refine ⟨⟨⟨Nat.le_trans h2.s3.s1.base hg.size, viewRow_grew h2.s3.s1.row (apart_type h2.s3.s1.row h2.view (by decide)) hg, fun j hj => ?_, h.s3.s1.apart, h.s3.s1.len⟩, viewRow_grew h2.s3.row (apart_type h2.s3.row h2.view (by decide)) hg, fun j hj => viewRow_grew (h2.s3.view j hj) (h.ga j hj) hg, h.s3.lg, h.s3.gg, h.s3.rr⟩, ?_, ?_, fun j hj hne => apart_grew (h2.s3.s1.view j hj) (h.la j hj hne) hg, fun j hj => apart_grew (h2.s3.view j hj) (h.ga j hj) hg⟩
  · by_cases hjc : j = c
    · subst hjc; exact hL.2
    · exact viewRow_grew (h2.s3.s1.view j hj) (h.la j hj hjc) hg
  · rw [← List.append_assoc]; exact hv
  · exact hL.1
theorem S4.done {w3 : World} {vg' : Value} {o : Obj} (hc : c < 3) (h : S4 B c va vg L G X T l 20 (T c) w) (hv : viewRow w3 B 47 vg' (c + 1) ((List.range c).map G ++ [l])) (hg : Grew (w.alloc o) w3 vg vg' c 1) :
    S3 B (c + 1) va vg' L (fun j => if j = c then l else G j) X T w3 := by
  have h2 := h.below (Below_alloc w o)
  refine ⟨⟨Nat.le_trans h2.s3.s1.base hg.size, viewRow_grew h2.s3.s1.row h.s3.rr hg, fun j hj => viewRow_grew (h2.s3.s1.view j hj) (apart_type (h2.s3.s1.view j hj) h2.s3.row (by decide)) hg, h.s3.s1.apart, h.s3.s1.len⟩, by rw [range_upd]; exact hv, fun j hj => ?_, fun j q hj hq hne => ?_, fun j q hj hq hne => ?_, apart_grew h2.s3.s1.row h.s3.rr hg⟩
  · by_cases hjc : j = c
    · subst hjc
      simp only [↓reduceIte]
      exact viewRow_grew h2.view (apart_type h2.view h2.s3.row (by decide)) hg
    · simp only [if_neg hjc]
      exact viewRow_grew (h2.s3.view j (by omega)) (apart_type (h2.s3.view j (by omega)) h2.s3.row (by decide)) hg
  · by_cases hjc : j = c
    · subst hjc
      simp only [↓reduceIte]
      exact h.la q hq hne
    · simp only [if_neg hjc]
      exact h.s3.lg j q (by omega) hq hne
  · by_cases hjc : j = c
    · subst hjc
      simp only [↓reduceIte, if_neg (Ne.symm hne)]
      exact (h.ga q (by omega)).symm
    · by_cases hqc : q = c
      · subst hqc
        simp only [↓reduceIte, if_neg hjc]
        exact h.ga j (by omega)
      · simp only [if_neg hjc, if_neg hqc]
        exact h.s3.gg j q (by omega) (by omega) hne
/-- What a piece's cell holds, and its shape. -/
theorem viewRow_at {e : TypeId} {v : Value} {n : Nat} {xs : List Value} (h : viewRow w B e v n xs) {q : Nat} {u : Value} (hq : xs[q]? = some u) : ∃ g off cap, v = .slice (some ⟨g, off, none⟩) n cap ∧ w.cell? ⟨g, off + q, none⟩ = some u ∧ w.frozen? ⟨g, off + q, none⟩ = false := by
  rcases h.2 with ⟨h0, h1⟩ | ⟨g, off, cap, cur, h0, _, hc, _, _, _, h4⟩
  · have := (List.getElem?_eq_some_iff.1 hq).1
    have := h.1
    omega
  · exact ⟨g, off, cap, h0, by rw [cell_of_row _ _ _ _ _ _ hc]; exact h4 q u hq, frozen_of_row _ _ _ _ _ hc⟩
theorem viewRow_shape {e : TypeId} {v : Value} {n : Nat} {xs : List Value} (h : viewRow w B e v n xs) : ∃ ao cap, v = .slice ao n cap := by
  rcases h.2 with ⟨rfl, rfl⟩ | ⟨g, off, cap, cur, h0, _⟩
  · exact ⟨_, _, rfl⟩
  · exact ⟨_, _, h0⟩
end
end Go.Tp
namespace Go.Tp
open Go.RowKit
theorem grew_below {w w' : World} {B e n m : Nat} {v v' : Value} {xs : List Value} (h : viewRow w B e v n xs) (hg : Grew w w' v v' n m) (hB : B ≤ w.heap.size) : Below B w w' := by
  obtain ⟨g, hc, hb⟩ := hg.chg
  refine hc.below ?_ hB
  rcases hb with hb | rfl
  · exact (blockOf_row h hb).choose_spec.2.1
  · exact hB
end Go.Tp
