/- The document's Of: what holds at a round's head. -/
import Derived.Test.YtcnjmkjfgghgoaaLdw
import Derived.Test.YtcnjmkjfgghgoaaOwn
import Derived.Test.YtcnjmkjfgghgoaaOf
namespace Go.Tr
/-- What is left, tokens being gathered. -/
def restC (ts : List T) (cur r : List Tok) : Except (Nat × Fa) (List T) := match docsRun ts.length (segs cur r) with
  | .error x => .error x
  | .ok us => .ok (ts ++ us)
def restAt (l : List Tok) (ts : List T) (cur : List Tok) (i : Nat) : Except (Nat × Fa) (List T) := if i ≤ l.length then restC ts cur (l.drop i) else .ok ts
theorem restAt_start (l : List Tok) : ofRun l = restAt l [] [] 0 := by
  unfold restAt restC
  rw [if_pos (Nat.zero_le _), List.drop_zero]
  unfold ofRun
  rw [List.length_nil]
  split <;> simp_all
theorem restAt_end {l : List Tok} (ts : List T) (cur : List Tok) {i : Nat} (h : ¬ i ≤ l.length) : restAt l ts cur i = .ok ts := if_neg h
theorem drop_at {l : List Tok} {i : Nat} {t : Tok} (h : l[i]? = some t) : l.drop i = t :: l.drop (i + 1) := by
  have hi := (List.getElem?_eq_some_iff.1 h).1
  rw [List.drop_eq_getElem_cons hi]
  rw [List.getElem?_eq_getElem hi] at h
  cases h; rfl
theorem restAt_more {l : List Tok} {i : Nat} {t : Tok} (h : l[i]? = some t) (hk : t.kind ≠ 1) (ts : List T) (cur : List Tok) : restAt l ts cur i = restAt l ts (cur ++ [t]) (i + 1) := by
  have hi := (List.getElem?_eq_some_iff.1 h).1
  unfold restAt
  rw [if_pos (by omega), if_pos (by omega)]
  unfold restC
  rw [drop_at h, segs_cons, if_neg hk]
theorem restAt_none {l : List Tok} {i : Nat} (hi : i ≤ l.length) (h : ∀ t, l[i]? = some t → t.kind = 1) (ts : List T) : restAt l ts [] i = restAt l ts [] (i + 1) := by
  rcases Nat.lt_or_ge i l.length with h1 | h1
  · have hx := List.getElem?_eq_getElem h1
    unfold restAt
    rw [if_pos (by omega), if_pos (by omega)]
    unfold restC
    rw [drop_at hx, segs_cons, if_pos (h _ hx)]
    rfl
  · unfold restAt
    rw [if_pos hi, if_neg (by omega)]
    unfold restC
    rw [List.drop_eq_nil_of_le h1]
    simp [segs, docsRun]
theorem restAt_cut {l : List Tok} {i : Nat} (hi : i ≤ l.length) (h : ∀ t, l[i]? = some t → t.kind = 1) {cur : List Tok} (hc : cur ≠ []) (ts : List T) : restAt l ts cur i = match doc cur with
    | .error x => .error (ts.length, x)
    | .ok t => restAt l (ts ++ [t]) [] (i + 1) := by
  have hce : cur.isEmpty = false := by cases cur with
    | nil => exact absurd rfl hc
    | cons a b => rfl
  rcases Nat.lt_or_ge i l.length with h1 | h1
  · have hx := List.getElem?_eq_getElem h1
    conv => lhs; unfold restAt
    rw [if_pos (by omega)]
    unfold restC
    rw [drop_at hx, segs_cons, if_pos (h _ hx), hce]
    simp only [docsRun, Bool.false_eq_true, if_false]
    rcases doc cur with x | t
    · rfl
    · simp only
      unfold restAt
      rw [if_pos (by omega)]
      unfold restC
      simp only [List.length_append, List.length_cons, List.length_nil]
      rcases docsRun (ts.length + 1) (segs [] (l.drop (i + 1))) with x | us <;> simp
  · conv => lhs; unfold restAt
    rw [if_pos hi]
    unfold restC
    rw [List.drop_eq_nil_of_le h1]
    simp only [segs, hce, Bool.false_eq_true, if_false, docsRun]
    rcases doc cur with x | t
    · rfl
    · simp only
      rw [restAt_end _ _ (by omega)]
end Go.Tr
namespace Go.Proofs.Ytcnjmkjfgghgoaa
open Go.RowKit Go.Mp Go.Tr
set_option linter.unusedVariables false
set_option maxRecDepth 20000
theorem TokS.stay {S : Nat → Prop} {w w' : World} {kb : Nat} {v : Value} {l : List Tok} (h : TokS w kb v l) (hk : kb < w.heap.size ∨ l = []) (t : Tch S w w') (hn : ¬ S kb) : TokS w' kb v l := by
  rcases hk with hk | hk
  · exact h.keep (t.block kb hk hn)
  · subst hk
    obtain ⟨ao, cap, hv, _⟩ := h
    exact ⟨ao, cap, hv, fun i t ht => by cases ht⟩
theorem rowTok {w : World} {B n cap : Nat} {ao : Option Addr} {cur : List Tok} (h : w.ownsRow B 48 5 (.slice ao n cap) cur.length (tcs cur)) (hc : cur ≠ []) : ∃ g, ao = some ⟨g, 0, none⟩ ∧ n = cur.length ∧ g < w.heap.size ∧ TokS w g (.slice ao n cap) cur := by
  cases cur with
  | nil => exact absurd rfl hc
  | cons a r =>
    obtain ⟨g, e, e2, _, _⟩ := ownsRow_cell h (j := 0 * 5 + 0) (u := .int .i64 a.kind) (by rw [tcs_at (t := a) rfl 0 (by omega)]; rfl)
    subst e
    refine ⟨g, rfl, e2, (ownsRow_ge h rfl).2, _, cap, by rw [e2], fun i t ht => ⟨0, rfl, ?_⟩⟩
    have hcl : ∀ (j : Nat) (u : Value), j < 5 → (tc t)[j]? = some u → w.cell? ⟨g, i * 5 + j, none⟩ = some u := fun j u hj hu => by
      obtain ⟨g', e', _, _, c, _⟩ := ownsRow_cell h (j := i * 5 + j) (u := u) (by rw [tcs_at ht j hj, hu])
      cases e'
      exact c
    simp only [Nat.zero_add]
    exact ⟨hcl 0 _ (by omega) rfl, hcl 1 _ (by omega) rfl, hcl 2 _ (by omega) rfl, hcl 3 _ (by omega) rfl, hcl 4 _ (by omega) rfl⟩
structure ROf (w0 w : World) (kb fb : Nat) (lv dv ov : Value) (l : List Tok) (i : Nat) (cur : List Tok) (F : Nat → Prop) (L : List TrX) (r : Except (Nat × Fa) (List T)) : Prop where
  tk : TokS w kb lv l
  row : w.ownsRow w0.heap.size 48 5 dv cur.length (tcs cur)
  tm : TM w w0.heap.size F ov L
  t : Tch No w0 w
  fh : w.heap[fb]? = some (.cells #[.int .i64 0, .int .i64 0, .int .i64 0] 32)
  nf : ¬ F fb ∧ w0.heap.size ≤ fb
  dn : ∀ k, dv.ownBlock = some k → ¬ F k
  le : cur.length ≤ i ∧ L.length ≤ i
  run : r = restAt l (L.map (·.1)) cur i
section
variable {w0 w w2 : World} {kb fb i : Nat} {lv dv ov dv2 ov2 vx : Value} {l cur : List Tok} {F Fx : Nat → Prop} {L : List TrX} {r : Except (Nat × Fa) (List T)} {t : Tok}
theorem ROf.no (h : ROf w0 w kb fb lv dv ov l i cur F L r) (hk : kb < w0.heap.size ∨ l = []) (tt : Tch No w w2) : ROf w0 w2 kb fb lv dv ov l i cur F L r :=
  ⟨h.tk.stay (hk.imp (fun h1 => Nat.lt_of_lt_of_le h1 h.t.size) id) tt id, ownsRow_tch h.row tt (fun _ _ h => h), h.tm.tch tt (fun _ _ h => h), h.t.trans tt (fun _ h => h.elim), (tt.block fb (Array.getElem?_eq_some_iff.1 h.fh).1 id).trans h.fh, h.nf, h.dn, h.le, h.run⟩
/-- A token more is gathered. -/
theorem ROf.more (h : ROf w0 w kb fb lv dv ov l i cur F L r) (hk : kb < w0.heap.size ∨ l = []) (ht : l[i]? = some t) (hkd : t.kind ≠ 1) (row : w2.ownsRow w0.heap.size 48 5 dv2 (cur.length + 1) (tcs cur ++ tc t)) (hg : w.grownBy w2 dv.ownBlock) (hl : ∀ g, dv2.ownBlock = some g → dv.ownBlock = some g ∨ w.heap.size ≤ g) :
    ROf w0 w2 kb fb lv dv2 ov l (i + 1) (cur ++ [t]) F L r := by
  have tt : Tch (fun k => dv.ownBlock = some k) w w2 := Tch.grown hg (fun k hk => .inl hk)
  have hw0 : ∀ k, dv.ownBlock = some k → w0.heap.size ≤ k := fun k hk => (ownsRow_ge h.row hk).1
  refine ⟨?_, by rw [tcs_snoc]; simpa using row, h.tm.tch tt (fun k hk e => h.dn k e hk), h.t.trans tt (fun k hk => .inr (hw0 k hk)), (tt.block fb (Array.getElem?_eq_some_iff.1 h.fh).1 (row_not h.row h.fh (by decide))).trans h.fh, h.nf, fun k hk hf => ?_, ⟨by have := h.le.1; simp; omega, by have := h.le.2; omega⟩, by rw [h.run, restAt_more ht hkd]⟩
  · refine h.tk.stay (hk.imp (fun h1 => Nat.lt_of_lt_of_le h1 h.t.size) id) tt (fun e => ?_)
    rcases hk with h1 | h1
    · have := hw0 kb e; omega
    · rw [h1] at ht; simp at ht
  · rcases hl k hk with h1 | h1
    · exact h.dn k h1 hf
    · have := (h.tm.lt k hf).2; omega
/-- Nothing was gathered. -/
theorem ROf.skip (h : ROf w0 w kb fb lv dv ov l i [] F L r) (hi : i ≤ l.length) (hd : ∀ t, l[i]? = some t → t.kind = 1) : ROf w0 w kb fb lv dv ov l (i + 1) [] F L r :=
  ⟨h.tk, h.row, h.tm, h.t, h.fh, h.nf, h.dn, ⟨by simp, by have := h.le.2; omega⟩, by rw [h.run, restAt_none hi hd]⟩
/-- A tree more. -/
theorem ROf.push {tr : T} {R : List (Nd × Value)} (h : ROf w0 w kb fb lv dv ov l i cur F L r) (hk : kb < w0.heap.size ∨ l = []) (hx1 : R.map (·.1) = lay 0 tr) (hx : NM w w0.heap.size Fx vx R) (hd : ∀ k, Fx k → ¬ F k ∧ k ≠ fb)
    (row : w2.ownsRow w0.heap.size 50 1 ov2 (L.length + 1) (L.map (·.2.1) ++ [vx])) (hg : w.grownBy w2 ov.ownBlock) (hl : ∀ g, ov2.ownBlock = some g → ov.ownBlock = some g ∨ w.heap.size ≤ g) (hrun : r = restAt l (L.map (·.1) ++ [tr]) [] (i + 1)) :
    ROf w0 w2 kb fb lv (.slice none 0 0) ov2 l (i + 1) [] (fun k => F k ∨ Fx k ∨ ov2.ownBlock = some k) (L ++ [(tr, vx, Fx)]) r := by
  have tt : Tch (fun k => ov.ownBlock = some k) w w2 := Tch.grown hg (fun k hk => .inl hk)
  have hov : ∀ k, ov.ownBlock = some k → w0.heap.size ≤ k := fun k hk => (h.tm.lt k (h.tm.own k hk)).1
  have hfo : ov.ownBlock ≠ some fb := fun e => h.nf.1 (h.tm.own fb e)
  refine ⟨?_, World.ownsRow_nil _ _ _ _, h.tm.push hx1 hx (fun k hk => (hd k hk).1) row tt hl, h.t.trans tt (fun k hk => .inr (hov k hk)), (tt.block fb (Array.getElem?_eq_some_iff.1 h.fh).1 hfo).trans h.fh, ⟨fun hf => ?_, h.nf.2⟩, (fun k hk => by cases hk), ⟨by simp, by have := h.le.2; simp; omega⟩, by rw [hrun]; simp⟩
  · rcases hk with h1 | h1
    · exact h.tk.keep (tt.block kb (Nat.lt_of_lt_of_le h1 h.t.size) (fun e => by have := hov _ e; omega))
    · have := h.tk
      subst h1
      obtain ⟨ao, cap, hv, _⟩ := this
      exact ⟨ao, cap, hv, fun i t ht => by cases ht⟩
  · rcases hf with hf | hf | hf
    · exact h.nf.1 hf
    · exact (hd fb hf).2 rfl
    · rcases hl fb hf with h1 | h1
      · exact hfo h1
      · have := (Array.getElem?_eq_some_iff.1 h.fh).1; omega
end
end Go.Proofs.Ytcnjmkjfgghgoaa
