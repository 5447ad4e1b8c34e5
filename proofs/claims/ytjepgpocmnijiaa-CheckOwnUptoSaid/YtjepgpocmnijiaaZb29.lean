/- What the two loops of the program's Diff make of its maps: no program in sight. -/
import Derived.Test.YtjepgpocmnijiaaZb1
import Derived.Test.YtjepgpocmnijiaaZb27
import Derived.Test.YtjepgpocmnijiaaZb26
section
/- A key that is deleted while the map is ranged over. Of no program. -/
namespace Go.Mp
open Go.RowKit Go.MapKept Go.ChangeMaps
set_option linter.unusedVariables false
section
variable {P : Program} {K : Type} {kt : TypeId} [DecidableEq K]
omit [DecidableEq K] in
theorem Ent.mem_erase {κ : KeyOf P kt K} {es : Array MapEntry} {clock : Nat} {f : K → Option Value} (h : Ent κ es clock f) {k : K} {j : Nat} {e : MapEntry} (hj : es[j]? = some e) (he : e.key = κ.kv k) (x : MapEntry) : x ∈ (es.eraseIdxIfInBounds j).toList ↔ x ∈ es.toList ∧ x.key ≠ κ.kv k := by
  have hj' := (Array.getElem?_eq_some_iff.1 hj).1
  have e2 : es.toList[j]'(by simpa using hj') = e := by have := (Array.getElem?_eq_some_iff.1 hj).2; simpa using this
  have hlist : (es.eraseIdxIfInBounds j).toList = es.toList.eraseIdx j := by
    unfold Array.eraseIdxIfInBounds
    rw [dif_pos hj']; simp
  have hone : ∀ i y, es.toList[i]? = some y → y.key = κ.kv k → i = j := by
    intro i y hy hyk
    have hnd := h.st.2.2
    have hi := (List.getElem?_eq_some_iff.1 hy).1
    refine (List.getElem_inj (h₀ := by simpa using hi) (h₁ := by simpa using hj') hnd).1 ?_
    rw [List.getElem_map, List.getElem_map]
    have e1 := (List.getElem?_eq_some_iff.1 hy).2
    rw [e1, e2, hyk, he]
  rw [hlist, List.mem_eraseIdx_iff_getElem?]
  constructor
  · rintro ⟨i, hij, hi⟩
    exact ⟨List.mem_of_getElem? hi, fun q => hij (hone i x hi q)⟩
  · rintro ⟨hx, hk⟩
    obtain ⟨i, hi⟩ := List.mem_iff_getElem?.1 hx
    refine ⟨i, ?_, hi⟩
    rintro rfl
    rw [Array.getElem?_toList, hj] at hi
    cases hi
    exact hk he
theorem RangeS.drop {κ : KeyOf P kt K} {w : World} {b r : Nat} {f : K → Option Value} {left : K → Prop} (h : RangeS κ w b r f left) {t e : TypeId} (ht : P.underlying t = some (.map kt e)) (k : K) (ty : TypeId) :
    ∃ w', (Builtin.delete_ #[t, kt] ty #[.map (some b), κ.kv k]).run P w = .ok (.tuple #[]) w' ∧ RangeS κ w' b r (del f k) (fun j => left j ∧ j ≠ k) ∧ w.mapTurned w' b ∧ w'.rangeLeft b r ≤ w.rangeLeft b r := by
  have hk0 : f k = none → ¬ left k := fun h0 hl => by obtain ⟨v, hv⟩ := h.left_some hl; rw [h0] at hv; cases hv
  obtain ⟨hne, es, clock, since, seen, c0, hb, hE, hr, hold, hsc, hsk, hl⟩ := h
  have hck : (Instr.checkKey es.isEmpty 10000 kt (κ.kv k)).run P w = .ok () w := κ.check _ k w
  have hrk : ∀ o, (setBlock w b o).heap[r]? = w.heap[r]? := fun o => by
    show (w.heap.setIfInBounds b _)[r]? = _
    rw [Array.getElem?_setIfInBounds, if_neg hne]
  rcases hE.find k w with ⟨h0, h1, h2⟩ | ⟨j, x, h0, h1, h2, h3⟩
  · have hdel : del f k = f := funext fun l => by
      by_cases hlk : l = k
      · subst hlk; simp [del, h0]
      · simp [del, hlk]
    refine ⟨setBlock w b (.map es clock), ?_, ⟨hne, es, clock, since, seen, c0, heap_setBlock_same hb _, by rw [hdel]; exact hE, (hrk _).trans hr, hold, hsc, hsk, fun i => ?_⟩, ⟨es, clock, _, _, hb, rfl⟩, ?_⟩
    · simp [Builtin.delete_, run_underlying ht, MapKept.run_getObj_map hb, hck, h1, run_setObj_map _ hb, Result.andThen, setBlock]
    · show (left i ∧ i ≠ k) ↔ _
      rw [← hl i]
      exact ⟨fun q => q.1, fun q => ⟨q, fun e => hk0 h0 (e ▸ q)⟩⟩
    · simp only [World.rangeLeft, heap_setBlock_same hb, hrk, hb, hr]
      exact Nat.le_refl _
  · refine ⟨setBlock w b (.map (es.eraseIdxIfInBounds j) clock), ?_, ⟨hne, _, clock, since, seen, c0, heap_setBlock_same hb _, hE.erase h2 h3, (hrk _).trans hr, fun y hy => hold y ((hE.mem_erase h2 h3 y).1 hy).1, hsc, hsk, fun i => ?_⟩, ⟨es, clock, _, _, hb, rfl⟩, ?_⟩
    · simp [Builtin.delete_, run_underlying ht, MapKept.run_getObj_map hb, hck, h1, run_setObj_map _ hb, Result.andThen, setBlock]
    · show (left i ∧ i ≠ k) ↔ _
      rw [hl i]
      constructor
      · rintro ⟨⟨y, hy, e1, e2⟩, hik⟩
        exact ⟨y, (hE.mem_erase h2 h3 y).2 ⟨hy, fun q => hik (κ.inj (e1.symm.trans q))⟩, e1, e2⟩
      · rintro ⟨y, hy, e1, e2⟩
        obtain ⟨hy1, hy2⟩ := (hE.mem_erase h2 h3 y).1 hy
        exact ⟨⟨y, hy1, e1, e2⟩, fun q => hy2 (by rw [e1, q])⟩
    · simp only [World.rangeLeft, heap_setBlock_same hb, hrk, hb, hr]
      unfold leftOf
      have hfl : ∀ (l : Array MapEntry) (p : MapEntry → Bool), (l.filter p).size = (l.toList.filter p).length := fun l p => by rw [← Array.length_toList, Array.toList_filter]
      rw [hfl, hfl]
      refine (List.Sublist.filter _ ?_).length_le
      unfold Array.eraseIdxIfInBounds
      split
      · simp only [Array.toList_eraseIdx]; exact List.eraseIdx_sublist _ _
      · exact List.Sublist.refl _
variable {w : World} {ops : Array Oper} {rest : List Oper} {o : Oper} {a : Act} {Q : Exit → Act → World → Prop}
/-- delete while the map is ranged over. -/
theorem wp_delete_range (hg : o.guard = none) (m x : Operand) (t : TypeId) (hop : o.op = Op.call { callee := Callee.builtin Builtin.delete, args := #[m, x], argTypes := #[t, kt] }) (κ : KeyOf P kt K) (e : TypeId) (ht : P.underlying t = some (.map kt e)) (b r : Nat) (f : K → Option Value) (left : K → Prop) (k : K)
    (hm : a.eval m = .map (some b)) (h : RangeS κ w b r f left) (hx : a.eval x = κ.kv k) (hK : ∀ w', RangeS κ w' b r (del f k) (fun j => left j ∧ j ≠ k) → w.mapTurned w' b → w'.rangeLeft b r ≤ w.rangeLeft b r → wpList P ops Q rest (a.put o.dst (.tuple #[])) w') : wpList P ops Q (o :: rest) a w := by
  refine wpList_plain hg fun K' hK' => ?_
  obtain ⟨w', hrun, r1, r2, r3⟩ := h.drop ht k o.type
  unfold Oper.wp
  simp [execOp, hop, resolve, invoke, builtin, hm, hx, hrun, Result.andThen]
  exact hK' _ _ (hK w' r1 r2 r3)
end
end Go.Mp
end

section

namespace Go.Proofs.Ytjepgpocmnijiaa
open Go.RowKit Go.Mp Go.Ck
set_option linter.unusedVariables false
/-- A key's resource is the same in both. -/
def eqK (g gn : Key → Option Rw) (k : Key) : Prop := ∃ o r, g k = some o ∧ gn k = some r ∧ sameR o.r r.r = true
structure Er (g gn gO gW : Key → Option Rw) (left : Key → Prop) : Prop where
  o1 : ∀ k, left k → gO k = g k
  w1 : ∀ k, left k → gW k = gn k
  o2 : ∀ k, ¬ left k → eqK g gn k → gO k = none ∧ gW k = none
  o3 : ∀ k, ¬ left k → ¬ eqK g gn k → gO k = g k ∧ gW k = gn k
theorem Er.zero (g gn : Key → Option Rw) {F : Key → Option Value} (hF : F = valR gn) : Er g gn g gn (fun k => F k ≠ none) :=
  ⟨fun _ _ => rfl, fun _ _ => rfl, fun k h ⟨o, r, _, h2, _⟩ => (h (by rw [hF]; unfold valR; rw [h2]; simp)).elim, fun _ _ _ => ⟨rfl, rfl⟩⟩
theorem Er.same {g gn gO gW : Key → Option Rw} {left : Key → Prop} (h : Er g gn gO gW left) {k : Key} (hk : left k) {o r : Rw} (ho : g k = some o) (hr : gn k = some r) (hs : sameR o.r r.r = true) : Er g gn (delK gO k) (delK gW k) (fun j => left j ∧ j ≠ k) := by
  have heq : eqK g gn k := ⟨o, r, ho, hr, hs⟩
  refine ⟨fun j hj => ?_, fun j hj => ?_, fun j hj he => ?_, fun j hj he => ?_⟩
  · unfold delK; rw [if_neg hj.2]; exact h.o1 j hj.1
  · unfold delK; rw [if_neg hj.2]; exact h.w1 j hj.1
  · unfold delK
    by_cases e : j = k
    · rw [if_pos e, if_pos e]; exact ⟨rfl, rfl⟩
    · rw [if_neg e, if_neg e]; exact h.o2 j (fun q => hj ⟨q, e⟩) he
  · have e : j ≠ k := fun e => he (e ▸ heq)
    unfold delK
    rw [if_neg e, if_neg e]; exact h.o3 j (fun q => hj ⟨q, e⟩) he
theorem Er.differ {g gn gO gW : Key → Option Rw} {left : Key → Prop} (h : Er g gn gO gW left) {k : Key} (hk : left k) (hn : ¬ eqK g gn k) : Er g gn gO gW (fun j => left j ∧ j ≠ k) := by
  refine ⟨fun j hj => h.o1 j hj.1, fun j hj => h.w1 j hj.1, fun j hj he => ?_, fun j hj he => ?_⟩
  · by_cases e : j = k
    · exact absurd (e ▸ he) hn
    · exact h.o2 j (fun q => hj ⟨q, e⟩) he
  · by_cases e : j = k
    · rw [e]; exact ⟨h.o1 k hk, h.w1 k hk⟩
    · exact h.o3 j (fun q => hj ⟨q, e⟩) he
/-- A resource to be deleted. -/
def delW (k : Key) : Rw := ⟨delR k, none, 0, none, 0, none, 0⟩
theorem delW_fine (w : World) (k : Key) (hk : -9223372036854775808 ≤ k.1 ∧ k.1 ≤ 9223372036854775807) (hn : k.2.size ≤ maxLen) : Fine w (delW k) :=
  ⟨⟨hk, hn, ⟨Nat.zero_le _, none, 0, rfl, Nat.zero_le _, .inl rfl⟩, ⟨Nat.zero_le _, none, 0, rfl, Nat.zero_le _, .inl rfl⟩, Nat.zero_le _, ⟨Nat.zero_le _, none, 0, rfl, Nat.zero_le _, .inl rfl⟩, Nat.zero_le _⟩, ⟨by simp [delW, delR], by simp [delW, delR], by simp [delW, delR]⟩⟩
/-- What is old and no longer there is to be deleted. -/
structure Pu (gO gW gV : Key → Option Rw) (left : Key → Prop) : Prop where
  l : ∀ k, left k → gV k = gW k
  y : ∀ k, ¬ left k → gO k ≠ none → gW k = none → gV k = some (delW k)
  n : ∀ k, ¬ left k → (gO k = none ∨ gW k ≠ none) → gV k = gW k
theorem Pu.zero (gO gW : Key → Option Rw) {F : Key → Option Value} (hF : F = valR gO) : Pu gO gW gW (fun k => F k ≠ none) :=
  ⟨fun _ _ => rfl, fun k h1 h2 _ => (h1 (by rw [hF]; unfold valR; intro q; exact h2 (Option.map_eq_none_iff.1 q))).elim, fun _ _ _ => rfl⟩
theorem Pu.put {gO gW gV : Key → Option Rw} {left : Key → Prop} (h : Pu gO gW gV left) {k : Key} (hk : left k) (hO : gO k ≠ none) (hW : gW k = none) : Pu gO gW (updK gV k (delW k)) (fun j => left j ∧ j ≠ k) := by
  refine ⟨fun j hj => ?_, fun j hj h1 h2 => ?_, fun j hj h1 => ?_⟩
  · unfold updK; rw [if_neg hj.2]; exact h.l j hj.1
  · unfold updK
    by_cases e : j = k
    · rw [if_pos e, e]
    · rw [if_neg e]; exact h.y j (fun q => hj ⟨q, e⟩) h1 h2
  · unfold updK
    by_cases e : j = k
    · subst e
      rcases h1 with h1 | h1
      · exact absurd h1 hO
      · exact absurd hW h1
    · rw [if_neg e]; exact h.n j (fun q => hj ⟨q, e⟩) h1
theorem Pu.stay {gO gW gV : Key → Option Rw} {left : Key → Prop} (h : Pu gO gW gV left) {k : Key} (hk : left k) (hW : gW k ≠ none) : Pu gO gW gV (fun j => left j ∧ j ≠ k) := by
  refine ⟨fun j hj => h.l j hj.1, fun j hj h1 h2 => ?_, fun j hj h1 => ?_⟩
  · by_cases e : j = k
    · subst e; exact absurd h2 hW
    · exact h.y j (fun q => hj ⟨q, e⟩) h1 h2
  · by_cases e : j = k
    · subst e; exact h.l _ hk
    · exact h.n j (fun q => hj ⟨q, e⟩) h1
/-- What is left over is the difference. -/
theorem diff_of {A B : List Res} {g gn gO gW gV : Key → Option Rw} (hA : ∀ k, (g k).map Rw.r = fnd A k) (hB : ∀ k, (gn k).map Rw.r = fnd B k) {l1 l2 : Key → Prop} (h1 : Er g gn gO gW l1) (h0 : ∀ k, ¬ l1 k) (h2 : Pu gO gW gV l2) (h3 : ∀ k, ¬ l2 k) (k : Key) : (gV k).map Rw.r = diffK A B k := by
  unfold diffK newK goneK
  rw [← hA k, ← hB k]
  by_cases he : eqK g gn k
  · obtain ⟨e1, e2⟩ := h1.o2 k (h0 k) he
    rw [h2.n k (h3 k) (.inl e1), e2]
    obtain ⟨o, r, ho, hr, hs⟩ := he
    rw [ho, hr]
    simp [hs]
  · obtain ⟨e1, e2⟩ := h1.o3 k (h0 k) he
    cases hr : gn k with
    | none =>
      rw [hr] at e2
      cases ho : g k with
      | none =>
        rw [ho] at e1
        rw [h2.n k (h3 k) (.inl e1), e2]; rfl
      | some o =>
        rw [ho] at e1
        rw [h2.y k (h3 k) (by rw [e1]; simp) e2]; rfl
    | some r =>
      rw [hr] at e2
      rw [h2.n k (h3 k) (.inr (by rw [e2]; simp)), e2]
      cases ho : g k with
      | none => rfl
      | some o =>
        have hs : sameR o.r r.r = false := by
          cases hs : sameR o.r r.r with
          | false => rfl
          | true => exact absurd ⟨o, r, ho, hr, hs⟩ he
        simp [hs]
theorem Er.el {g gn gO gW : Key → Option Rw} {left : Key → Prop} (h : Er g gn gO gW left) (k : Key) : (gO k = none ∨ gO k = g k) ∧ (gW k = none ∨ gW k = gn k) := by
  by_cases hl : left k
  · exact ⟨.inr (h.o1 k hl), .inr (h.w1 k hl)⟩
  · by_cases he : eqK g gn k
    · obtain ⟨a, b⟩ := h.o2 k hl he; exact ⟨.inl a, .inl b⟩
    · obtain ⟨a, b⟩ := h.o3 k hl he; exact ⟨.inr a, .inr b⟩
theorem Pu.el {gO gW gV : Key → Option Rw} {left : Key → Prop} (h : Pu gO gW gV left) (k : Key) : gV k = gW k ∨ gV k = some (delW k) ∧ gO k ≠ none := by
  by_cases hl : left k
  · exact .inl (h.l k hl)
  · by_cases h1 : gO k = none
    · exact .inl (h.n k hl (.inl h1))
    · by_cases h2 : gW k = none
      · exact .inr ⟨h.y k hl h1 h2, h1⟩
      · exact .inl (h.n k hl (.inr h2))
end Go.Proofs.Ytjepgpocmnijiaa
end
