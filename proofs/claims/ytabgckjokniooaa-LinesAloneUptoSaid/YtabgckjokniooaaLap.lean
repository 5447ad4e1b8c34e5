/- Bytes copied onto a row of our own. -/
import Derived.Test.YtabgckjokniooaaLsn
import Derived.Outline
import Derived.Deep.QuietTactic
import Derived.BigQuiet
namespace Go.Proofs.Ytabgckjokniooaa
open Go.RowKit Go.Ln Go.Mp Go.Tr
set_option linter.unusedVariables false
/-- 'append(v, x...)', v the call's own bytes, x whatever bytes. -/
theorem run_append_byts (w : World) (base b : Nat) (i : TypeInfo) (hi : Try.prog.info? 5 = some i) (hz : i.zero = some (.int .u8 0)) (hsize : i.size = 1) (hby : i.bytes = 1)
    (v : Value) (a : List UInt8) (hown : w.ownsRow base 5 1 v a.length (vbs a)) (x : Value) (l : List UInt8) (hx : BytS w b x l)
    (hb : a.length + l.length ≤ 140737488355328) (hbase : base ≤ w.heap.size) (ty : TypeId) :
    ∃ v' w', (Builtin.append_ #[22, 22] ty #[v, x]).run Try.prog w = .ok v' w' ∧ w'.ownsRow base 5 1 v' (a.length + l.length) (vbs (a ++ l)) ∧ w.grownBy w' v.ownBlock ∧
      (∀ g, v'.ownBlock = some g → v.ownBlock = some g ∨ w.heap.size ≤ g) := by
  obtain ⟨ao, cap, rfl, h1, h2, h3⟩ := hx
  have hv : vbs (a ++ l) = vbs a ++ vbs l := by simp [vbs]
  have hsrc : ∀ j u, (vbs l)[j]? = some u → ∃ ad, ao = some ad ∧ w.cell? (ad.add j) = some u := fun j u hj => by
    unfold vbs at hj
    rw [List.getElem?_map] at hj
    obtain ⟨c, hc, rfl⟩ := Option.map_eq_some_iff.1 hj
    obtain ⟨off, e, hx⟩ := h3 j c hc
    exact ⟨_, e, by rw [add_at]; exact hx⟩
  have h1c : ∀ u ∈ vbs l, u.oneCell' = true := fun u hu => by
    obtain ⟨c, _, rfl⟩ := List.mem_map.1 hu
    rfl
  cases ao with
  | some ad =>
    obtain ⟨v', w', hr, q1, q2, q3, q4⟩ := run_append_own_at (P := Try.prog) w base 22 ty 5 i (.int .u8 0) 1 1 Try.underlying22 hi hz hsize hby rfl (by decide) v a.length (vbs a) hown ad l.length cap (vbs l) (by rw [vbs_length, Nat.mul_one]) (fun j u hj => by
      obtain ⟨ad', e, h⟩ := hsrc j u hj
      cases e; exact h) h1c (by unfold maxLen; omega) (by omega) hbase
    refine ⟨v', w', hr, by rw [hv]; exact q1, q2, fun g hg => ?_⟩
    rcases q4 with h | h
    · exact .inl (by rw [← h]; exact hg)
    · rw [h] at hg; cases hg; exact .inr (Nat.le_refl _)
  | none =>
    have hn : l = [] := by
      cases l with
      | nil => rfl
      | cons u r => obtain ⟨ad, e, _⟩ := h3 0 u rfl; cases e
    subst hn
    refine ⟨v, w, ?_, by rw [List.append_nil]; exact hown, ⟨rfl, rfl, rfl, Nat.le_refl _, fun _ _ _ => rfl⟩, fun g hg => .inl hg⟩
    rcases hown.2 with ⟨rfl, e⟩ | ⟨g, cap, cur, rfl, _, _, hnc, _⟩
    · simp [Builtin.append_, run_underlying Try.underlying22, sizeOf, typeInfo, hi, Builtin.lenOf, Builtin.firstCells]
    · simp [Builtin.append_, run_underlying Try.underlying22, sizeOf, typeInfo, hi, Builtin.lenOf, Builtin.firstCells, hnc, storeCells]
theorem wp_append_byts {w : World} {ops : Array Oper} {rest : List Oper} {o : Oper} {act : Act} {Q : Exit → Act → World → Prop} (hgd : o.guard = none) (s x : Operand)
    (ho : o.op = .call { callee := .builtin .append, args := #[s, x], argTypes := #[22, 22] }) (base b : Nat) (i : TypeInfo) (hi : Try.prog.info? 5 = some i) (hz : i.zero = some (.int .u8 0)) (hsize : i.size = 1) (hby : i.bytes = 1)
    (v : Value) (a : List UInt8) (hs : act.eval s = v) (hown : w.ownsRow base 5 1 v a.length (vbs a)) (xv : Value) (l : List UInt8) (hxv : act.eval x = xv) (hx : BytS w b xv l)
    (hb : a.length + l.length ≤ 140737488355328) (hbase : base ≤ w.heap.size)
    (h : ∀ v' w', w'.ownsRow base 5 1 v' (a.length + l.length) (vbs (a ++ l)) → w.grownBy w' v.ownBlock → (∀ g, v'.ownBlock = some g → v.ownBlock = some g ∨ w.heap.size ≤ g) → wpList Try.prog ops Q rest (act.put o.dst v') w') : wpList Try.prog ops Q (o :: rest) act w :=
  wpList_plain hgd fun _ hK => by
    obtain ⟨v', w', hr, h2, h3, h4⟩ := run_append_byts w base b i hi hz hsize hby v a hown xv l hx hb hbase o.type
    unfold Oper.wp execOp
    simp only [ho, resolve, invoke, builtin, Sem.run_bind, Sem.run_pure, Result.andThen_ok, List.map_toArray, List.map_cons, List.map_nil, hs, hxv, hr]
    exact hK _ _ (h v' w' h2 h3 h4)
theorem vbs_at {l : List UInt8} {i : Nat} {c : UInt8} (h : l[i]? = some c) : (vbs l)[i]? = some (.int .u8 (c.toNat : Int)) := by
  unfold vbs; rw [List.getElem?_map, h]; rfl
/-- A row of our own as bytes in memory. -/
theorem row_byts {w : World} {base n : Nat} {v : Value} {l : List UInt8} (h : w.ownsRow base 5 1 v n (vbs l)) (hn : n = l.length) : ∃ b, BytS w b v l ∧ (b < w.heap.size ∨ l = []) ∧ (∀ g, v.ownBlock = some g → g = b) := by
  subst hn
  rcases h.2 with ⟨rfl, e⟩ | ⟨g, cap, cur, rfl, hb, hg, hnc, hcm, hcs, ht⟩
  · have : l = [] := List.length_eq_zero_iff.1 e
    subst this
    exact ⟨0, byts_nil w 0, .inr rfl, fun g hg => by cases hg⟩
  · refine ⟨g, ⟨_, cap, rfl, hnc, (fun h => by cases h), fun i c hc => ⟨0, rfl, ?_⟩⟩, .inl (heap_lt hg), fun g' hg' => by cases hg'; rfl⟩
    obtain ⟨g', e, _, _, hx, _⟩ := ownsRow_cell h (vbs_at hc)
    cases e
    rw [Nat.zero_add]; exact hx
theorem row_empty (w : World) (base : Nat) (hb : base ≤ w.heap.size) : (w.alloc (.cells #[] 5)).ownsRow base 5 1 (.slice (some ⟨w.heap.size, 0, none⟩) 0 0) ([] : List UInt8).length (vbs []) :=
  ⟨rfl, .inr ⟨w.heap.size, 0, _, rfl, hb, heap_alloc_new w _, Nat.le_refl _, by unfold maxLen; omega, rfl, rfl⟩⟩
end Go.Proofs.Ytabgckjokniooaa
