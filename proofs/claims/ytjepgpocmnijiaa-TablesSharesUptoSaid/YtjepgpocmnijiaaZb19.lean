/- Resources as they lie: rows whose elements share their lists with others. -/
import Derived.Test.YtjepgpocmnijiaaZb18
section

namespace Go.Proofs.Ytjepgpocmnijiaa
open Go.RowKit Go.Mp Go.Ck
set_option linter.unusedVariables false
/-- A resource and where its lists lie. -/
structure Rw where
  r : Res
  eo : Option Addr
  ec : Nat
  ta : Option Addr
  tc : Nat
  ra : Option Addr
  rc : Nat
instance : Inhabited Rw := ⟨⟨⟨0, ⟨#[]⟩, [], [], ⟨#[]⟩, [], ⟨#[]⟩, false⟩, none, 0, none, 0, none, 0⟩⟩
def Rw.cells (x : Rw) : List Value := [.int .i64 x.r.kind, .string x.r.name, .slice x.eo x.r.eps.length x.ec, .slice x.ta x.r.tgts.length x.tc, .string x.r.host, .slice x.ra x.r.rules.length x.rc, .string x.r.route, .bool x.r.del]
def rwE : Rd.Elem Rw := ⟨8, fun w c x => ∀ (j : Nat) (u : Value), x.cells[j]? = some u → c j = some u, fun {w w' c c' x} h hb hc j u hu => by
  have hj : j < 8 := by have := (List.getElem?_eq_some_iff.1 hu).1; simpa [Rw.cells] using this
  rw [hc j hj]; exact h j u hu⟩
def rwC : Rd.Enc rwE where
  enc := Rw.cells
  ok := fun _ => True
  len := fun _ => rfl
  pos := by decide
  one := fun x u hu => by
    simp only [Rw.cells, List.mem_cons, List.not_mem_nil, or_false] at hu
    rcases hu with rfl | rfl | rfl | rfl | rfl | rfl | rfl | rfl <;> rfl
  R := fun h => ⟨h, trivial⟩
  of := fun _ h => h
def Rw.P (w : World) (x : Rw) : Prop := RP w x.r (.slice x.eo x.r.eps.length x.ec) (.slice x.ta x.r.tgts.length x.tc) (.slice x.ra x.r.rules.length x.rc)
theorem slice_cap {α : Type} {E : Rd.Elem α} {w : World} {ao : Option Addr} {n cap : Nat} {xs : List α} (h : Rd.SliceOf E w (.slice ao n cap) xs) : xs.length ≤ cap := by
  obtain ⟨_, ao', cap', e, hc, _⟩ := h
  cases e
  exact hc
/-- A list that reads, as it lies. -/
theorem lies {w : World} {v : Value} {l : List Res} (h : ResS w v l) : ∃ L : List Rw, L.map Rw.r = l ∧ Rd.SliceOf rwE w v L ∧ ∀ x ∈ L, Rw.P w x := by
  obtain ⟨ao, cap, rfl⟩ := slice_shape h
  have hall : ∀ i, i < l.length → ∃ y : Rw, l[i]? = some y.r ∧ Rw.P w y ∧ ∃ b off, ao = some ⟨b, off, none⟩ ∧ b < w.heap.size ∧ RC w b (off + i * 8) y.r (.slice y.eo y.r.eps.length y.ec) (.slice y.ta y.r.tgts.length y.tc) (.slice y.ra y.r.rules.length y.rc) := fun i hi => by
    obtain ⟨b, off, eo, ec, ta, tc, ra, rc, e, hb, c, p⟩ := res_at2 h (List.getElem?_eq_getElem hi)
    exact ⟨⟨l[i], eo, ec, ta, tc, ra, rc⟩, List.getElem?_eq_getElem hi, p, b, off, e, hb, c⟩
  obtain ⟨f, hf⟩ := Deep.choose_lt hall
  refine ⟨(List.range l.length).map f, ?_, ?_, ?_⟩
  · apply List.ext_getElem?
    intro i
    by_cases hi : i < l.length
    · rw [(hf i hi).1]; simp [hi]
    · rw [List.getElem?_eq_none (l := l) (by omega)]; simp [hi]
  · refine ⟨by simpa using h.1, ao, cap, by simp, by simpa using slice_cap h, ?_⟩
    by_cases h0 : l.length = 0
    · left; simp [h0]
    · right
      obtain ⟨_, _, b, off, e, hb, _⟩ := hf 0 (by omega)
      refine ⟨b, off, e, hb, fun i x hx => ?_⟩
      have hi : i < l.length := by have := (List.getElem?_eq_some_iff.1 hx).1; simpa using this
      obtain ⟨_, _, b', off', e', _, c⟩ := hf i hi
      rw [e] at e'
      simp only [Option.some.injEq, Addr.mk.injEq, and_true] at e'
      obtain ⟨rfl, rfl⟩ := e'
      have hxi : x = f i := by simp [hi] at hx; exact hx.symm
      subst hxi
      intro j u hu
      have hj : j < 8 := by have := (List.getElem?_eq_some_iff.1 hu).1; simpa [Rw.cells] using this
      have e : off + i * rwE.k = off + i * 8 := rfl
      rw [e]
      match j, hj, hu with
      | 0, _, hu => cases hu; simpa [Rd.cellsAt] using c.c0
      | 1, _, hu => cases hu; simpa [Rd.cellsAt] using c.c1
      | 2, _, hu => cases hu; simpa [Rd.cellsAt] using c.c2
      | 3, _, hu => cases hu; simpa [Rd.cellsAt] using c.c3
      | 4, _, hu => cases hu; simpa [Rd.cellsAt] using c.c4
      | 5, _, hu => cases hu; simpa [Rd.cellsAt] using c.c5
      | 6, _, hu => cases hu; simpa [Rd.cellsAt] using c.c6
      | 7, _, hu => cases hu; simpa [Rd.cellsAt] using c.c7
  · intro x hx
    obtain ⟨i, hi, rfl⟩ := List.mem_map.1 hx
    exact (hf i (List.mem_range.1 hi)).2.1
/-- What lies and reads, as a list. -/
theorem lies_reads {w : World} {v : Value} {L : List Rw} (h : Rd.SliceOf rwE w v L) (hp : ∀ x ∈ L, Rw.P w x) : ResS w v (L.map Rw.r) := by
  obtain ⟨hl, ao, cap, rfl, hc, h⟩ := h
  refine ⟨by simpa using hl, ao, cap, by simp, by simpa using hc, ?_⟩
  rcases h with rfl | ⟨b, off, rfl, hb, hx⟩
  · exact .inl rfl
  · refine .inr ⟨b, off, rfl, hb, fun i x hi => ?_⟩
    rw [List.getElem?_map] at hi
    cases hL : L[i]? with
    | none => rw [hL] at hi; cases hi
    | some y =>
      rw [hL] at hi
      cases hi
      have c := hx i y hL
      have p := hp y (List.mem_of_getElem? hL)
      have q : ∀ (j : Nat) u, y.cells[j]? = some u → w.cell? ⟨b, off + i * 8 + j, none⟩ = some u := fun j u hu => c j u hu
      exact resE_of ⟨q 0 _ rfl, q 1 _ rfl, q 2 _ rfl, q 3 _ rfl, q 4 _ rfl, q 5 _ rfl, q 6 _ rfl, q 7 _ rfl⟩ p
end Go.Proofs.Ytjepgpocmnijiaa
end
