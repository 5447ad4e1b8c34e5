/- A key that is deleted while the map is ranged over. Of no program. -/
import Derived.Test.YtjepgpocmnijiaaMp
namespace Go.Mp
open Go.RowKit Go.MapKept Go.ChangeMaps
set_option linter.unusedVariables false
section
variable {P : Program} {K : Type} {kt : TypeId} [DecidableEq K]
omit [DecidableEq K] in
theorem Ent.mem_erase {κ : KeyOf P kt K} {es : Array MapEntry} {clock : Nat} {f : K → Option Value} (h : Ent κ es clock f) {k : K} {j : Nat} {e : MapEntry} (hj : es[j]? = some e) (he : e.key = κ.kv k) (x : MapEntry) : x ∈ (es.eraseIdxIfInBounds j).toList ↔ x ∈ es.toList ∧ x.key ≠ κ.kv k := by
  have hj' := (Array.getElem?_eq_some_iff.1 hj).1
  have e2 : es.toList[j]'(by simpa using hj') = e := by have := (Array.getElem?_eq_some_iff.1 hj).2; simpa using this
  have hlist : (es.eraseIdxIfInBounds j).toList = es.toList.eraseIdx j := by
    unfold Array.eraseIdxIfInBounds
    rw [dif_pos hj']; simp
  have hone : ∀ i y, es.toList[i]? = some y → y.key = κ.kv k → i = j := by
    intro i y hy hyk
    have hnd := h.st.2.2
    have hi := (List.getElem?_eq_some_iff.1 hy).1
    refine (List.getElem_inj (h₀ := by simpa using hi) (h₁ := by simpa using hj') hnd).1 ?_
    rw [List.getElem_map, List.getElem_map]
    have e1 := (List.getElem?_eq_some_iff.1 hy).2
    rw [e1, e2, hyk, he]
  rw [hlist, List.mem_eraseIdx_iff_getElem?]
  constructor
  · rintro ⟨i, hij, hi⟩
    exact ⟨List.mem_of_getElem? hi, fun q => hij (hone i x hi q)⟩
  · rintro ⟨hx, hk⟩
    obtain ⟨i, hi⟩ := List.mem_iff_getElem?.1 hx
    refine ⟨i, ?_, hi⟩
    rintro rfl
    rw [Array.getElem?_toList, hj] at hi
    cases hi
    exact hk he
theorem RangeS.drop {κ : KeyOf P kt K} {w : World} {b r : Nat} {f : K → Option Value} {left : K → Prop} (h : RangeS κ w b r f left) {t e : TypeId} (ht : P.underlying t = some (.map kt e)) (k : K) (ty : TypeId) :
    ∃ w', (Builtin.delete_ #[t, kt] ty #[.map (some b), κ.kv k]).run P w = .ok (.tuple #[]) w' ∧ RangeS κ w' b r (del f k) (fun j => left j ∧ j ≠ k) ∧ w.mapTurned w' b ∧ w'.rangeLeft b r ≤ w.rangeLeft b r := by
  have hk0 : f k = none → ¬ left k := fun h0 hl => by obtain ⟨v, hv⟩ := h.left_some hl; rw [h0] at hv; cases hv
  obtain ⟨hne, es, clock, since, seen, c0, hb, hE, hr, hold, hsc, hsk, hl⟩ := h
  have hck : (Instr.checkKey es.isEmpty 10000 kt (κ.kv k)).run P w = .ok () w := κ.check _ k w
  have hrk : ∀ o, (setBlock w b o).heap[r]? = w.heap[r]? := fun o => by
    show (w.heap.setIfInBounds b _)[r]? = _
    rw [Array.getElem?_setIfInBounds, if_neg hne]
  rcases hE.find k w with ⟨h0, h1, h2⟩ | ⟨j, x, h0, h1, h2, h3⟩
  · have hdel : del f k = f := funext fun l => by
      by_cases hlk : l = k
      · subst hlk; simp [del, h0]
      · simp [del, hlk]
    refine ⟨setBlock w b (.map es clock), ?_, ⟨hne, es, clock, since, seen, c0, heap_setBlock_same hb _, by rw [hdel]; exact hE, (hrk _).trans hr, hold, hsc, hsk, fun i => ?_⟩, ⟨es, clock, _, _, hb, rfl⟩, ?_⟩
    · simp [Builtin.delete_, run_underlying ht, MapKept.run_getObj_map hb, hck, h1, run_setObj_map _ hb, Result.andThen, setBlock]
    · show (left i ∧ i ≠ k) ↔ _
      rw [← hl i]
      exact ⟨fun q => q.1, fun q => ⟨q, fun e => hk0 h0 (e ▸ q)⟩⟩
    · simp only [World.rangeLeft, heap_setBlock_same hb, hrk, hb, hr]
      exact Nat.le_refl _
  · refine ⟨setBlock w b (.map (es.eraseIdxIfInBounds j) clock), ?_, ⟨hne, _, clock, since, seen, c0, heap_setBlock_same hb _, hE.erase h2 h3, (hrk _).trans hr, fun y hy => hold y ((hE.mem_erase h2 h3 y).1 hy).1, hsc, hsk, fun i => ?_⟩, ⟨es, clock, _, _, hb, rfl⟩, ?_⟩
    · simp [Builtin.delete_, run_underlying ht, MapKept.run_getObj_map hb, hck, h1, run_setObj_map _ hb, Result.andThen, setBlock]
    · show (left i ∧ i ≠ k) ↔ _
      rw [hl i]
      constructor
      · rintro ⟨⟨y, hy, e1, e2⟩, hik⟩
        exact ⟨y, (hE.mem_erase h2 h3 y).2 ⟨hy, fun q => hik (κ.inj (e1.symm.trans q))⟩, e1, e2⟩
      · rintro ⟨y, hy, e1, e2⟩
        obtain ⟨hy1, hy2⟩ := (hE.mem_erase h2 h3 y).1 hy
        exact ⟨⟨y, hy1, e1, e2⟩, fun q => hy2 (by rw [e1, q])⟩
    · simp only [World.rangeLeft, heap_setBlock_same hb, hrk, hb, hr]
      unfold leftOf
      have hfl : ∀ (l : Array MapEntry) (p : MapEntry → Bool), (l.filter p).size = (l.toList.filter p).length := fun l p => by rw [← Array.length_toList, Array.toList_filter]
      rw [hfl, hfl]
      refine (List.Sublist.filter _ ?_).length_le
      unfold Array.eraseIdxIfInBounds
      split
      · simp only [Array.toList_eraseIdx]; exact List.eraseIdx_sublist _ _
      · exact List.Sublist.refl _
variable {w : World} {ops : Array Oper} {rest : List Oper} {o : Oper} {a : Act} {Q : Exit → Act → World → Prop}
/-- delete while the map is ranged over. -/
theorem wp_delete_range (hg : o.guard = none) (m x : Operand) (t : TypeId) (hop : o.op = Op.call { callee := Callee.builtin Builtin.delete, args := #[m, x], argTypes := #[t, kt] }) (κ : KeyOf P kt K) (e : TypeId) (ht : P.underlying t = some (.map kt e)) (b r : Nat) (f : K → Option Value) (left : K → Prop) (k : K)
    (hm : a.eval m = .map (some b)) (h : RangeS κ w b r f left) (hx : a.eval x = κ.kv k) (hK : ∀ w', RangeS κ w' b r (del f k) (fun j => left j ∧ j ≠ k) → w.mapTurned w' b → w'.rangeLeft b r ≤ w.rangeLeft b r → wpList P ops Q rest (a.put o.dst (.tuple #[])) w') : wpList P ops Q (o :: rest) a w := by
  refine wpList_plain hg fun K' hK' => ?_
  obtain ⟨w', hrun, r1, r2, r3⟩ := h.drop ht k o.type
  unfold Oper.wp
  simp [execOp, hop, resolve, invoke, builtin, hm, hx, hrun, Result.andThen]
  exact hK' _ _ (hK w' r1 r2 r3)
end
end Go.Mp
