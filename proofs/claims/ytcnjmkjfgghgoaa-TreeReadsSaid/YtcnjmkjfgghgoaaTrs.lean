/- Trees in memory: a list of lists of nodes. -/
import Derived.Test.YtcnjmkjfgghgoaaDocs
import Derived.Test.YtcnjmkjfgghgoaaDoc
namespace Go.Proofs.Ytcnjmkjfgghgoaa
open Go.RowKit Go.Mp Go.Tr
set_option linter.unusedVariables false
abbrev TrX := T × Value × (Nat → Prop)
structure TM (w : World) (B : Nat) (F : Nat → Prop) (v : Value) (L : List TrX) : Prop where
  row : w.ownsRow B 50 1 v L.length (L.map (·.2.1))
  el : ∀ (i : Nat) (x : TrX), L[i]? = some x → ∃ R, R.map (·.1) = lay 0 x.1 ∧ NM w B x.2.2 x.2.1 R
  sub : ∀ (i : Nat) (x : TrX), L[i]? = some x → ∀ k, x.2.2 k → F k ∧ v.ownBlock ≠ some k
  apart : ∀ (i j : Nat) (x y : TrX), i ≠ j → L[i]? = some x → L[j]? = some y → ∀ k, x.2.2 k → ¬ y.2.2 k
  own : ∀ g, v.ownBlock = some g → F g
  lt : ∀ k, F k → B ≤ k ∧ k < w.heap.size
section
variable {w w2 w3 : World} {B : Nat} {F S : Nat → Prop} {v v' vx : Value} {L : List TrX} {t : T} {Fx : Nat → Prop}
theorem TM.nil (w : World) (B : Nat) : TM w B No (.slice none 0 0) [] :=
  ⟨World.ownsRow_nil _ _ _ _, (fun i x hx => by cases hx), (fun i x hx => by cases hx), (fun i j x y _ hx => by cases hx), (fun g hg => by cases hg), fun k hk => hk.elim⟩
theorem TM.tch (h : TM w B F v L) (t : Tch S w w2) (hn : ∀ k, F k → ¬ S k) : TM w2 B F v L :=
  ⟨ownsRow_tch h.row t (fun g hg => hn g (h.own g hg)), fun i x hx => by
    obtain ⟨R, h1, h2⟩ := h.el i x hx
    exact ⟨R, h1, h2.tch t (fun k hk => hn k (h.sub i x hx k hk).1)⟩, h.sub, h.apart, h.own, fun k hk => ⟨(h.lt k hk).1, Nat.lt_of_lt_of_le (h.lt k hk).2 t.size⟩⟩
theorem TM.lower {B' : Nat} (h : TM w B F v L) (hb : B' ≤ B) : TM w B' F v L :=
  ⟨ownsRow_base h.row hb, fun i x hx => by
    obtain ⟨R, h1, h2⟩ := h.el i x hx
    exact ⟨R, h1, ⟨ownsRow_base h2.row hb, fun i x hx => ownsRow_base (h2.kid i x hx) hb, h2.apart, h2.own, fun k hk => ⟨Nat.le_trans hb (h2.lt k hk).1, (h2.lt k hk).2⟩⟩⟩, h.sub, h.apart, h.own, fun k hk => ⟨Nat.le_trans hb (h.lt k hk).1, (h.lt k hk).2⟩⟩
/-- A tree more. -/
theorem TM.push (h : TM w B F v L) {R : List (Nd × Value)} (hx1 : R.map (·.1) = lay 0 t) (hx : NM w B Fx vx R) (hd : ∀ k, Fx k → ¬ F k)
    (row : w2.ownsRow B 50 1 v' (L.length + 1) (L.map (·.2.1) ++ [vx])) (tt : Tch (fun k => v.ownBlock = some k) w w2) (hloc : ∀ g, v'.ownBlock = some g → v.ownBlock = some g ∨ w.heap.size ≤ g) :
    TM w2 B (fun k => F k ∨ Fx k ∨ v'.ownBlock = some k) v' (L ++ [(t, vx, Fx)]) := by
  have hat : ∀ (i : Nat) (x : TrX), (L ++ [(t, vx, Fx)])[i]? = some x → L[i]? = some x ∨ i = L.length ∧ x = (t, vx, Fx) := fun i x hx => by
    by_cases hi : i < L.length
    · rw [List.getElem?_append_left hi] at hx; exact .inl hx
    · rw [List.getElem?_append_right (by omega)] at hx
      have h0 : i - L.length = 0 := by have := (List.getElem?_eq_some_iff.1 hx).1; simp at this; omega
      rw [h0] at hx; simp at hx
      exact .inr ⟨by omega, hx.symm⟩
  have hv : ∀ k, Fx k → v.ownBlock ≠ some k := fun k hk e => hd k hk (h.own k e)
  refine ⟨?_, fun i x hx' => ?_, fun i x hx' k hk => ?_, fun i j x y hij hx' hy k hk hk' => ?_, fun g hg => .inr (.inr hg), fun k hk => ?_⟩
  · simpa using row
  · rcases hat i x hx' with h1 | ⟨_, rfl⟩
    · obtain ⟨R', e1, e2⟩ := h.el i x h1
      exact ⟨R', e1, e2.tch tt (fun k hk e => (h.sub i x h1 k hk).2 e)⟩
    · exact ⟨R, hx1, hx.tch tt (fun k hk e => hv k hk e)⟩
  · rcases hat i x hx' with h1 | ⟨_, rfl⟩
    · refine ⟨.inl (h.sub i x h1 k hk).1, fun e => ?_⟩
      rcases hloc k e with h2 | h2
      · exact (h.sub i x h1 k hk).2 h2
      · have := (h.lt k (h.sub i x h1 k hk).1).2; omega
    · refine ⟨.inr (.inl hk), fun e => ?_⟩
      rcases hloc k e with h2 | h2
      · exact hv k hk h2
      · have := (hx.lt k hk).2; omega
  · rcases hat i x hx' with h1 | ⟨h1, rfl⟩ <;> rcases hat j y hy with h2 | ⟨h2, rfl⟩
    · exact h.apart i j x y hij h1 h2 k hk hk'
    · exact hd k hk' (h.sub i x h1 k hk).1
    · exact hd k hk (h.sub j y h2 k hk').1
    · omega
  · rcases hk with hk | hk | hk
    · exact ⟨(h.lt k hk).1, Nat.lt_of_lt_of_le (h.lt k hk).2 tt.size⟩
    · exact ⟨(hx.lt k hk).1, Nat.lt_of_lt_of_le (hx.lt k hk).2 tt.size⟩
    · exact ownsRow_ge row hk
end
/-- What 'Of' answers. -/
def OfOut (w : World) (r : Except (Nat × Fa) (List T)) (e : Ending) (w' : World) : Prop :=
  match r with
  | .error (k, ln, er) => e = .returned (.tuple #[.slice none 0 0, .agg #[.int .i64 k, .int .i64 ln, .int .i64 er]]) ∧ Tch No w w'
  | .ok ts => ∃ v F L, e = .returned (.tuple #[v, .agg #[.int .i64 0, .int .i64 0, .int .i64 0]]) ∧ L.map (·.1) = ts ∧ TM w' w.heap.size F v L ∧ Tch No w w'
theorem ofOut_err {w w' : World} {r : Except (Nat × Fa) (List T)} {k : Nat} {ln er : Int} (h : r = .error (k, ln, er)) (t : Tch No w w') : OfOut w r (.returned (.tuple #[.slice none 0 0, .agg #[.int .i64 k, .int .i64 ln, .int .i64 er]])) w' := by
  rw [h]; exact ⟨rfl, t⟩
theorem ofOut_ok {w w' : World} {r : Except (Nat × Fa) (List T)} {v : Value} {F : Nat → Prop} {L : List TrX} (h : r = .ok (L.map (·.1))) (hT : TM w' w.heap.size F v L) (t : Tch No w w') : OfOut w r (.returned (.tuple #[v, .agg #[.int .i64 0, .int .i64 0, .int .i64 0]])) w' := by
  rw [h]; exact ⟨v, F, L, rfl, rfl, hT, t⟩
/-- Tokens in memory, room and all. -/
def TokV (w : World) (kb : Nat) (v : Value) (l : List Tok) : Prop := TokS w kb v l ∧ ∃ ao cap, v = .slice ao l.length cap ∧ l.length ≤ cap
theorem TokV.take {w : World} {kb cap n : Nat} {ao : Option Addr} {l : List Tok} (h : TokV w kb (.slice ao l.length cap) l) (hn : n ≤ l.length) : TokV w kb (.slice ao n cap) (l.take n) := by
  obtain ⟨⟨ao', cap', e, h⟩, ao2, cap2, e2, hc⟩ := h
  cases e; cases e2
  have hl : (l.take n).length = n := by simp; omega
  refine ⟨⟨ao, cap, by rw [hl], fun i t ht => h i t ?_⟩, ao, cap, by rw [hl], by rw [hl]; omega⟩
  rw [List.getElem?_take] at ht
  split at ht
  · exact ht
  · cases ht
theorem TokV.drop {w : World} {kb cap n : Nat} {ao : Option Addr} {l : List Tok} (h : TokV w kb (.slice ao l.length cap) l) (hn : n ≤ l.length) : TokV w kb (.slice (ao.map (·.add (n * 5))) (l.length - n) (cap - n)) (l.drop n) := by
  obtain ⟨⟨ao', cap', e, h⟩, ao2, cap2, e2, hc⟩ := h
  cases e; cases e2
  have hl : (l.drop n).length = l.length - n := by simp
  refine ⟨⟨_, _, by rw [hl], fun i t ht => ?_⟩, _, _, by rw [hl], by rw [hl]; omega⟩
  rw [List.getElem?_drop] at ht
  obtain ⟨off, h0, h1⟩ := h (n + i) t ht
  refine ⟨off + n * 5, by rw [h0]; simp [add_at], ?_⟩
  have e : off + n * 5 + i * 5 = off + (n + i) * 5 := by omega
  rw [e]; exact h1
theorem TokV.any {w : World} {kb cap : Nat} {ao : Option Addr} {l : List Tok} (hl : l = []) : TokV w kb (.slice ao 0 cap) l := by
  subst hl
  exact ⟨⟨ao, cap, rfl, fun i t ht => by cases ht⟩, ao, cap, rfl, Nat.zero_le _⟩
theorem TokV.keep {w w' : World} {kb : Nat} {v : Value} {l : List Tok} (h : TokV w kb v l) (hb : w'.heap[kb]? = w.heap[kb]?) : TokV w' kb v l := ⟨h.1.keep hb, h.2⟩
end Go.Proofs.Ytcnjmkjfgghgoaa
