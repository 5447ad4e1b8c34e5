/- Tokens told one by one, in plain words: no program in sight. -/
import Derived.Test.YtcnjmkjfgghgoaaZt11
import Derived.Test.YtcnjmkjfgghgoaaZt8
import Derived.RangeFuncNested
import Derived.RangeFuncBound
import Derived.RangeFuncCalls
import Derived.RangeFuncLeaves
import Derived.RangeFuncBox
import Derived.Test.YtcnjmkjfgghgoaaZt0
import Derived.Test.YtcnjmkjfgghgoaaZt5
section
/- twin: nodes in memory of their own, a mark behind them. -/
namespace Go.Proofs.Ytcnjmkjfgghgoaa
open Go.RowKit Go.Mp Go.Tr
set_option linter.unusedVariables false
set_option maxRecDepth 100000
set_option maxHeartbeats 4000000
theorem run_append_kids (w : World) (base : Nat) (i : TypeInfo) (hi : Try.prog.info? 3 = some i) (hz : i.zero = some (.int .i64 0)) (hsize : i.size = 1) (hby : i.bytes = 8)
    (v : Value) (a : List Int) (hown : w.ownsRow base 3 1 v a.length (icells a)) (x : Value) (l : List Int) (hx : KidV w x l)
    (hb : (a.length + l.length) * 8 ≤ 140737488355328) (hbase : base ≤ w.heap.size) (ty : TypeId) :
    ∃ v' w', (Builtin.append_ #[56, 56] ty #[v, x]).run Try.prog w = .ok v' w' ∧ w'.ownsRow base 3 1 v' (a.length + l.length) (icells (a ++ l)) ∧ w.grownBy w' v.ownBlock ∧
      (∀ g, v'.ownBlock = some g → v.ownBlock = some g ∨ w.heap.size ≤ g) := by
  obtain ⟨ao, cap, rfl, h2, h3⟩ := hx
  have hv : icells (a ++ l) = icells a ++ icells l := by simp [icells]
  cases ao with
  | some ad =>
    obtain ⟨v', w', hr, q1, q2, q3, q4⟩ := run_append_own_at (P := Try.prog) w base 56 ty 3 i (.int .i64 0) 1 8 Try.underlying56 hi hz hsize hby rfl (by decide) v a.length (icells a) hown ad l.length cap (icells l) (by simp [icells]) (fun j u hj => by
      unfold icells at hj
      rw [List.getElem?_map] at hj
      obtain ⟨c, hc, rfl⟩ := Option.map_eq_some_iff.1 hj
      obtain ⟨g, off, e, _, hx⟩ := h3 j c hc
      cases e
      rw [add_at]; exact hx) (fun u hu => by
      obtain ⟨c, _, rfl⟩ := List.mem_map.1 hu
      rfl) (by unfold maxLen; omega) (by omega) hbase
    refine ⟨v', w', hr, by rw [hv]; exact q1, q2, fun g hg => ?_⟩
    rcases q4 with h | h
    · exact .inl (by rw [← h]; exact hg)
    · rw [h] at hg; cases hg; exact .inr (Nat.le_refl _)
  | none =>
    have hn : l = [] := by
      cases l with
      | nil => rfl
      | cons u r => obtain ⟨g, off, e, _⟩ := h3 0 u rfl; cases e
    subst hn
    refine ⟨v, w, ?_, by rw [List.append_nil]; exact hown, ⟨rfl, rfl, rfl, Nat.le_refl _, fun _ _ _ => rfl⟩, fun g hg => .inl hg⟩
    rcases hown.2 with ⟨rfl, e⟩ | ⟨g, cap, cur, rfl, _, _, hnc, _⟩
    · simp [Builtin.append_, run_underlying Try.underlying56, sizeOf, typeInfo, hi, Builtin.lenOf, Builtin.firstCells]
    · simp [Builtin.append_, run_underlying Try.underlying56, sizeOf, typeInfo, hi, Builtin.lenOf, Builtin.firstCells, hnc, storeCells]
theorem wp_append_kids {w : World} {ops : Array Oper} {rest : List Oper} {o : Oper} {act : Act} {Q : Exit → Act → World → Prop} (hgd : o.guard = none) (s x : Operand)
    (ho : o.op = .call { callee := .builtin .append, args := #[s, x], argTypes := #[56, 56] }) (base : Nat) (i : TypeInfo) (hi : Try.prog.info? 3 = some i) (hz : i.zero = some (.int .i64 0)) (hsize : i.size = 1) (hby : i.bytes = 8)
    (v : Value) (a : List Int) (hs : act.eval s = v) (hown : w.ownsRow base 3 1 v a.length (icells a)) (xv : Value) (l : List Int) (hxv : act.eval x = xv) (hx : KidV w xv l)
    (hb : (a.length + l.length) * 8 ≤ 140737488355328) (hbase : base ≤ w.heap.size)
    (h : ∀ v' w', w'.ownsRow base 3 1 v' (a.length + l.length) (icells (a ++ l)) → w.grownBy w' v.ownBlock → (∀ g, v'.ownBlock = some g → v.ownBlock = some g ∨ w.heap.size ≤ g) → wpList Try.prog ops Q rest (act.put o.dst v') w') : wpList Try.prog ops Q (o :: rest) act w :=
  wpList_plain hgd fun _ hK => by
    obtain ⟨v', w', hr, h2, h3, h4⟩ := run_append_kids w base i hi hz hsize hby v a hown xv l hx hb hbase o.type
    unfold Oper.wp execOp
    simp only [ho, resolve, invoke, builtin, Sem.run_bind, Sem.run_pure, Result.andThen_ok, List.map_toArray, List.map_cons, List.map_nil, hs, hxv, hr]
    exact hK _ _ (h v' w' h2 h3 h4)
def markN : Nd := ⟨-77, ⟨#[]⟩, ⟨#[]⟩, false, 0, []⟩
section
variable {w w2 : World} {B : Nat} {F : Nat → Prop} {v v' kv : Value} {R : List (Nd × Value)}
/-- One node more, its kids with it. -/
theorem NM.add (h : NM w B F v R) {n : Nd} (hkr : w.ownsRow B 3 1 kv n.kids.length (icells n.kids)) (hd : ∀ k, kv.ownBlock = some k → ¬ F k) (row : w2.ownsRow B 58 6 v' (R.length + 1) (ncs R ++ nc (n, kv))) (t : Tch (fun k => v.ownBlock = some k) w w2) :
    NM w2 B (fun k => F k ∨ kv.ownBlock = some k ∨ v'.ownBlock = some k) v' (R ++ [(n, kv)]) := by
  have hat : ∀ (i : Nat) (x : Nd × Value), (R ++ [(n, kv)])[i]? = some x → R[i]? = some x ∨ i = R.length ∧ x = (n, kv) := fun i x hx => by
    by_cases hi : i < R.length
    · rw [List.getElem?_append_left hi] at hx; exact .inl hx
    · rw [List.getElem?_append_right (by omega)] at hx
      have h0 : i - R.length = 0 := by have := (List.getElem?_eq_some_iff.1 hx).1; simp at this; omega
      rw [h0] at hx; simp at hx
      exact .inr ⟨by omega, hx.symm⟩
  have hkr2 : w2.ownsRow B 3 1 kv n.kids.length (icells n.kids) := ownsRow_tch hkr t (fun g hg he => rows_apart h.row hkr (by decide) g he hg)
  refine ⟨?_, fun i x hx => ?_, fun i j x y hij hx hy g hg => ?_, ⟨fun g hg => .inr (.inr hg), fun i x hx g hg => ?_⟩, fun k hk => ?_⟩
  · rw [ncs_append, List.length_append]; simpa [ncs] using row
  · rcases hat i x hx with hx | ⟨_, rfl⟩
    · exact ownsRow_tch (h.kid i x hx) t (fun g hg he => rows_apart h.row (h.kid i x hx) (by decide) g he hg)
    · exact hkr2
  · rcases hat i x hx with h1 | ⟨h1, rfl⟩ <;> rcases hat j y hy with h2 | ⟨h2, rfl⟩
    · exact h.apart i j x y hij h1 h2 g hg
    · exact fun he => hd g he (h.own.2 i x h1 g hg)
    · exact fun he => hd g hg (h.own.2 j y h2 g he)
    · omega
  · rcases hat i x hx with hx | ⟨_, rfl⟩
    · exact .inl (h.own.2 i x hx g hg)
    · exact .inr (.inl hg)
  · rcases hk with hk | hk | hk
    · exact ⟨(h.lt k hk).1, Nat.lt_of_lt_of_le (h.lt k hk).2 t.size⟩
    · exact ⟨(ownsRow_ge hkr2 hk).1, (ownsRow_ge hkr2 hk).2⟩
    · exact ownsRow_ge row hk
theorem NM.nil (w : World) (B : Nat) : NM w B No (.slice none 0 0) [] :=
  ⟨World.ownsRow_nil _ _ _ _, (fun i x hx => by cases hx), (fun i j x y _ hx => by cases hx), ⟨(fun g hg => by cases hg), (fun i x hx => by cases hx)⟩, fun k hk => hk.elim⟩
end
theorem ndO_cells {w : World} {c : Nat} {n : Nd} {kv : Value} (h : w.heap[c]? = some (ndO n kv)) : w.cell? ⟨c, 0, none⟩ = some (.int .i64 n.kind) ∧ w.cell? ⟨c, 1, none⟩ = some (.string n.key) ∧ w.cell? ⟨c, 2, none⟩ = some (.string n.text) ∧ w.cell? ⟨c, 3, none⟩ = some (.bool n.quoted) ∧ w.cell? ⟨c, 4, none⟩ = some (.int .i64 n.line) ∧ w.cell? ⟨c, 5, none⟩ = some kv ∧ w.frozen? ⟨c, 5, none⟩ = false :=
  ⟨(cell_of_row _ _ 0 _ _ _ h).trans rfl, (cell_of_row _ _ 1 _ _ _ h).trans rfl, (cell_of_row _ _ 2 _ _ _ h).trans rfl, (cell_of_row _ _ 3 _ _ _ h).trans rfl, (cell_of_row _ _ 4 _ _ _ h).trans rfl, (cell_of_row _ _ 5 _ _ _ h).trans rfl, frozen_of_row _ _ _ _ _ h⟩
theorem kids_empty (w : World) (base : Nat) (hb : base ≤ w.heap.size) : (w.alloc (.cells #[] 3)).ownsRow base 3 1 (.slice (some ⟨w.heap.size, 0, none⟩) 0 0) ([] : List Int).length (icells []) :=
  ⟨rfl, .inr ⟨w.heap.size, 0, _, rfl, hb, heap_alloc_new w _, Nat.le_refl _, by unfold maxLen; omega, rfl, rfl⟩⟩
/-- What 'twin' leaves. -/
def TwinOut (w : World) (ns : List Nd) (e : Ending) (w' : World) : Prop := ∃ g cap F R, e = .returned (.slice (some ⟨g, 0, none⟩) ns.length cap) ∧ ns.length + 1 ≤ cap ∧ R.map (·.1) = ns ++ [markN] ∧ NM w' w.heap.size F (.slice (some ⟨g, 0, none⟩) (ns.length + 1) cap) R ∧ Tch No w w'
theorem twin_run {g cap n : Nat} (hc : n + 1 ≤ cap) (N : Int) (hN : N = (n : Int)) {L : Nat} :
    (∀ w, (Instr.sliceAt 50 (.slice (some ⟨g, 0, none⟩) L cap) none (some (.int .i64 N)) none).run Try.prog w = .ok (.slice (some ⟨g, 0, none⟩) n cap) w) ∧ (∀ w, (Instr.slice 50 (.slice (some ⟨g, 0, none⟩) L cap) none (some (.int .i64 N)) none).run Try.prog w = .ok (.slice (some ⟨g, 0, none⟩) n cap) w) := by
  have e : Try.prog.underlying 50 = some (.slice (Try.prog.elem 50)) := by kernel_rfl
  have run2 : ∀ w, (Instr.slice 50 (.slice (some ⟨g, 0, none⟩) L cap) none (some (.int .i64 N)) none).run Try.prog w = .ok (.slice (some ⟨g, 0, none⟩) n cap) w := fun w => by
    have z : (sizeOf (Try.prog.elem 50)).run Try.prog w = .ok 6 w := by kernel_rfl
    rw [run_slice_h (ht := e) (h0 := by omega) (h2 := by omega), z]
    rw [show N.toNat = n by omega]
    simp only [Result.andThen_ok, sliced, if_neg (show ¬ cap = 0 by omega), Option.map_some, Nat.zero_mul, Nat.sub_zero, add_at, Nat.zero_add]
  refine ⟨fun w => ?_, run2⟩
  rw [run_sliceAt_slice (h := e)]; exact run2 w
theorem nd_one {n : Nd} {ao : Option Addr} {k c : Nat} : ∀ u ∈ nc (n, .slice ao k c), u.oneCell' = true := nc_one rfl
theorem twin_any {w : World} {v : Value} {ns : List Nd} (hN : NdV w v ns) (hkb : ∀ n ∈ ns, n.kids.length * 8 ≤ 140737488351232) (hlb : (ns.length + 1) * 80 ≤ 140737488355328) : Calls Try.prog 22 #[v] w (TwinOut w ns) := by
  obtain ⟨ao, cp, rfl⟩ := hN.shape
  obtain ⟨i0, hi, hz0, hz1, hz2⟩ := info_parts info58
  obtain ⟨i3, hj, hy0, hy1, hy2⟩ := info_parts info3
  have hll : ns.length ≤ 4000000000000 := by omega
  replace hi := Lib.hid hi
  replace hz0 := Lib.hid hz0
  replace hz1 := Lib.hid hz1
  replace hz2 := Lib.hid hz2
  replace hj := Lib.hid hj
  replace hy0 := Lib.hid hy0
  replace hy1 := Lib.hid hy1
  replace hy2 := Lib.hid hy2
  replace hN := Lib.hid hN
  replace hkb := Lib.hid hkb
  replace hlb := Lib.hid hlb
  replace hll := Lib.hid hll
  go_enter Try.func22, Try.ntmps22
  go_wp2
  go_loopg [3, 4] (ns.length + 1) (fun gg ov iv wr => ∃ (i : Nat) (F : Nat → Prop) (R : List (Nd × Value)), gg = ns.length - i + 1 ∧ iv = .int .i64 i ∧ i ≤ ns.length ∧ R.map (·.1) = ns.take i ∧ Hid (NM wr w.heap.size F ov R) ∧ Tch No w wr)
  case atStart => exact ⟨0, No, [], rfl, rfl, Nat.zero_le _, rfl, Lib.hid (NM.nil _ _), Tch.refl _ _⟩
  case round =>
    obtain ⟨i, F, R, rfl, rfl, hil, hR, hM, tr⟩ := hrel
    obtain ⟨oo, oc, hov⟩ := ownsRow_shape hM.out.row
    have hRl : R.length = i := by
      have := congrArg List.length hR
      rw [List.length_map, List.length_take] at this
      omega
    rw [hRl] at hov
    subst hov
    have hB := Lib.hid (show w.heap.size ≤ wr.heap.size from tr.size)
    by_cases hlt : i < ns.length
    · have k0 := nn_lt hlt
      obtain ⟨n, hn⟩ : ∃ n, ns[i]? = some n := ⟨_, List.getElem?_eq_getElem hlt⟩
      obtain ⟨g0, off, kv0, rfl, hg0, d0, d1, d2, d3, d4, d5, hk⟩ := (hN.out.tch tr).at hn
      obtain ⟨ko, kc, rfl⟩ := hk.shape
      have hkn := Lib.hid (hkb.out n (List.mem_of_getElem? hn))
      obtain ⟨w1, hw1⟩ : ∃ w1, w1 = wr.alloc (ndO n (.slice ko n.kids.length kc)) := ⟨_, rfl⟩
      have t1 : Tch No wr w1 := by rw [hw1]; exact Tch.alloc No wr _
      obtain ⟨c1, hc1⟩ : ∃ c1, c1 = wr.heap.size := ⟨_, rfl⟩
      have g1 : w1.heap[c1]? = some (ndO n (.slice ko n.kids.length kc)) := by rw [hw1, hc1]; exact heap_alloc_new wr _
      obtain ⟨_, _, _, _, _, x5, f5⟩ := ndO_cells g1
      have hc1w : c1 < w1.heap.size := (Array.getElem?_eq_some_iff.1 g1).1
      have hk1 := hk.tch t1
      have hM1 := hM.out.tch t1 (fun _ _ h => h)
      have tr1 : Tch No w w1 := tr.trans t1 (fun _ h => h.elim)
      have hcF : ¬ F c1 := fun h => by have := (hM.out.lt c1 h).2; omega
      have hcB : w.heap.size ≤ c1 := by rw [hc1]; exact tr.size
      replace hn := Lib.hid hn
      replace hk := Lib.hid hk
      replace hil := Lib.hid hil
      replace hR := Lib.hid hR
      replace tr := Lib.hid tr
      replace t1 := Lib.hid t1
      replace g1 := Lib.hid g1
      replace f5 := Lib.hid f5
      replace hk1 := Lib.hid hk1
      replace hM1 := Lib.hid hM1
      replace tr1 := Lib.hid tr1
      replace hcF := Lib.hid hcF
      replace hcB := Lib.hid hcB
      replace hRl := Lib.hid hRl
      go_upto_region 6 with fail
      rw [show (wr.alloc (.cells #[.int .i64 n.kind, .string n.key, .string n.text, .bool n.quoted, .int .i64 n.line, .slice ko n.kids.length kc] 58)) = w1 from hw1.symm, ← hc1]
      replace hw1 := Lib.hid hw1
      replace hc1 := Lib.hid hc1
      go_upto_region 7 with (first
        | (at_builtin; refine wp_append_kids rfl _ _ rfl w.heap.size i3 hj.out hy0.out hy1.out hy2.out _ [] (by rfl) (kids_empty w1 w.heap.size tr1.out.size) _ n.kids (by rfl) (hk1.out.tch (Tch.alloc No w1 _)) (by have := hkn.out; simp only [List.length_nil]; omega) (by have := tr1.out.size; simp; omega) ?_; intro v2 w2 hr2 hg2 hl2; rw [List.nil_append, List.length_nil, Nat.zero_add] at hr2; obtain ⟨vo, vc, rfl⟩ := ownsRow_shape hr2; have t2 : Tch No w1 w2 := (Tch.alloc No w1 (.cells #[] 3)).trans (Tch.grown (S := fun k => k = w1.heap.size) hg2 (fun k hk => .inl (by cases hk; rfl))) (fun k hk => .inr (by rw [hk]; exact Nat.le_refl _)); have g2 := (t2.block c1 hc1w id).trans g1.out; obtain ⟨_, _, _, _, _, y5, e5⟩ := ndO_cells g2; replace hr2 := Lib.hid hr2; replace hl2 := Lib.hid hl2; replace hg2 := Lib.hid hg2; replace t2 := Lib.hid t2; replace g2 := Lib.hid g2)
        | fail)
      obtain ⟨w3, hw3⟩ : ∃ w3, w3 = w2.setCell ⟨c1, 5, none⟩ (.slice vo n.kids.length vc) := ⟨_, rfl⟩
      rw [← hw3]
      have g3 : w3.heap[c1]? = some (ndO n (.slice vo n.kids.length vc)) := by
        rw [hw3]
        simp [World.setCell, Array.getElem?_modify, g2.out, ndO]
      have t3 : Tch (fun k => k = c1) w2 w3 := by rw [hw3]; exact Tch.setCell (S := fun k => k = c1) w2 (p := ⟨c1, 5, none⟩) rfl _
      have hne : (Value.slice vo n.kids.length vc).ownBlock ≠ some c1 := row_not hr2.out (by have := g2.out; unfold ndO at this; exact this) (by decide)
      have hr3 := ownsRow_tch hr2.out t3 (fun b hb e => hne (e ▸ hb))
      have hM3 := (hM1.out.tch t2.out (fun _ _ h => h)).tch t3 (fun k hk e => hcF.out (e ▸ hk))
      have hkF : ∀ k, (Value.slice vo n.kids.length vc).ownBlock = some k → ¬ F k := fun k hk hF => by
        have h1 := (hM1.out.lt k hF).2
        rcases hl2.out k hk with h | h
        · have e : w1.heap.size = k := Option.some.inj h
          omega
        · have : (w1.alloc (.cells #[] 3)).heap.size = w1.heap.size + 1 := by simp
          omega
      have tr3 : Tch No w w3 := (tr1.out.trans t2.out (fun _ h => h.elim)).trans t3 (fun k hk => .inr (by rw [hk]; exact hcB.out))
      have hrowM := hM3.row
      rw [hRl.out] at hrowM
      obtain ⟨z0, z1, z2, z3, z4, z5, _⟩ := ndO_cells g3
      replace hw3 := Lib.hid hw3
      replace g3 := Lib.hid g3
      replace t3 := Lib.hid t3
      replace hne := Lib.hid hne
      replace hr3 := Lib.hid hr3
      replace hM3 := Lib.hid hM3
      replace hkF := Lib.hid hkF
      replace tr3 := Lib.hid tr3
      replace hrowM := Lib.hid hrowM
      clear x5 y5 e5
      go_upto_region 4 with (first
        | (at_builtin; refine wp_append_us rfl _ _ 50 (by rfl) w.heap.size 58 i0 (.agg #[.int .i64 0, .string ⟨#[]⟩, .string ⟨#[]⟩, .bool false, .int .i64 0, .slice none 0 0]) 6 80 Try.underlying50 hi.out hz0.out hz1.out hz2.out rfl (by decide) _ i _ (by rfl) hrowM.out 1 (by rfl) rfl (nd_one (n := n) (ao := vo) (k := n.kids.length) (c := vc)) (by have := hll.out; unfold maxLen; omega) (by have := hlb.out; omega) tr3.out.size ?_; intro v7 w7 hr7 hg7 hl7; obtain ⟨po, pc, rfl⟩ := ownsRow_shape hr7; replace hr7 := Lib.hid hr7; replace hg7 := Lib.hid hg7; replace hl7 := Lib.hid hl7)
        | fail)
      have t7 : Tch (fun k => (Value.slice oo i oc).ownBlock = some k) w3 w7 := Tch.grown hg7.out (fun k hk => .inl hk)
      have hM7 := hM3.out.add hr3.out hkF.out (by rw [hRl.out]; exact hr7.out) (by first | exact t7 | (rw [hRl.out]; exact t7))
      have hw0 : ∀ k, (Value.slice oo i oc).ownBlock = some k → w.heap.size ≤ k := fun k hk => (ownsRow_ge hrowM.out hk).1
      have hR7 : (R ++ [(n, Value.slice vo n.kids.length vc)]).map (·.1) = ns.take (i + 1) := by
        obtain ⟨q1, q2⟩ := List.getElem?_eq_some_iff.1 hn.out
        rw [List.map_append, hR.out, List.take_succ_eq_append_getElem q1, q2]; rfl
      have tr7 : Tch No w w7 := tr3.out.trans t7 (fun k hk => .inr (hw0 k hk))
      replace t7 := Lib.hid t7
      replace hM7 := Lib.hid hM7
      replace hw0 := Lib.hid hw0
      replace hR7 := Lib.hid hR7
      replace tr7 := Lib.hid tr7
      clear z0 z1 z2 z3 z4 z5 d0 d1 d2 d3 d4 d5
      go_wp2
      go_roundg (ns.length - (i + 1) + 1)
      case rel => exact ⟨i + 1, _, _, rfl, by rw [nn_succ hlt (by have := hll.out; omega)], hlt, hR7.out, hM7, tr7.out⟩
      case measure => exact nn_down2 hlt
    · have k0 := nn_ge hlt
      have k1 : decide (i < ns.length) = false := decide_eq_false hlt
      have hin : i = ns.length := by omega
      subst hin
      rw [List.take_of_length_le (Nat.le_refl _)] at hR
      have hrowM := hM.out.row
      rw [hRl] at hrowM
      have hw0 : ∀ k, (Value.slice oo ns.length oc).ownBlock = some k → w.heap.size ≤ k := fun k hk => (ownsRow_ge hrowM hk).1
      replace hrowM := Lib.hid hrowM
      replace hw0 := Lib.hid hw0
      replace hR := Lib.hid hR
      replace tr := Lib.hid tr
      replace hil := Lib.hid hil
      replace hlt := Lib.hid hlt
      replace hRl := Lib.hid hRl
      go_upto_region 9 with (first
        | (at_builtin; refine wp_append_us rfl _ _ 50 (by rfl) w.heap.size 58 i0 (.agg #[.int .i64 0, .string ⟨#[]⟩, .string ⟨#[]⟩, .bool false, .int .i64 0, .slice none 0 0]) 6 80 Try.underlying50 hi.out hz0.out hz1.out hz2.out rfl (by decide) _ ns.length _ (by rfl) hrowM.out 1 (by rfl) rfl (nd_one (n := markN) (ao := none) (k := 0) (c := 0)) (by have := hll.out; unfold maxLen; omega) (by have := hlb.out; omega) hB.out ?_; intro v7 w7 hr7 hg7 hl7; obtain ⟨po, pc, rfl⟩ := ownsRow_shape hr7; replace hr7 := Lib.hid hr7; replace hg7 := Lib.hid hg7; replace hl7 := Lib.hid hl7)
        | fail)
      have t7 : Tch (fun k => (Value.slice oo ns.length oc).ownBlock = some k) wr w7 := Tch.grown hg7.out (fun k hk => .inl hk)
      have hM7 := hM.out.push (n := markN) rfl (by rw [hRl.out]; exact hr7.out) (by first | exact t7 | (rw [hRl.out]; exact t7)) (by first | exact hl7.out | (rw [hRl.out]; exact hl7.out))
      obtain ⟨g, rfl, _, hcap, _⟩ := ownsRow_cell hr7.out (j := ns.length * 6 + 0) (u := .int .i64 (-77)) (by rw [List.getElem?_append_right (by rw [ncs_length, hRl.out]; omega), ncs_length, hRl.out]; simp)
      have tr7 : Tch No w w7 := tr.out.trans t7 (fun k hk => .inr (hw0.out k hk))
      obtain ⟨s1, s2⟩ := twin_run (g := g) (cap := pc) (n := ns.length) hcap (ns.length : Int) rfl (L := ns.length + 1)
      replace t7 := Lib.hid t7
      replace hM7 := Lib.hid hM7
      replace hcap := Lib.hid hcap
      replace tr7 := Lib.hid tr7
      go_wp2
      go_ret
      exact ⟨g, pc, _, _, rfl, hcap.out, by rw [List.map_append, hR.out]; rfl, hM7.out, tr7.out⟩
/-- A twin's nodes, read. -/
theorem NM.twin {w : World} {B g cap : Nat} {F : Nat → Prop} {R : List (Nd × Value)} {ns : List Nd} (h : NM w B F (.slice (some ⟨g, 0, none⟩) (ns.length + 1) cap) R) (hR : R.map (·.1) = ns ++ [markN]) (hl : (ns.length + 1) * 80 ≤ 140737488355328) (hkb : ∀ n ∈ ns, n.kids.length * 8 ≤ 140737488351232) : NdV w (.slice (some ⟨g, 0, none⟩) ns.length cap) ns := by
  have hlen : R.length = ns.length + 1 := by
    have := congrArg List.length hR
    simpa using this
  have h1 := h.reads (by omega) (fun i x hx => by
    have hm : x.1 ∈ ns ++ [markN] := by rw [← hR]; exact List.mem_map_of_mem (List.mem_of_getElem? hx)
    rcases List.mem_append.1 hm with hm | hm
    · have := hkb _ hm; omega
    · rw [List.mem_singleton.1 hm]; show 0 ≤ _; omega)
  rw [hR] at h1
  obtain ⟨_, ao, c, e, h2⟩ := h1
  simp only [Value.slice.injEq] at e
  obtain ⟨rfl, _, rfl⟩ := e
  refine ⟨by omega, _, _, rfl, fun i n hn => h2 i n ?_⟩
  rw [List.getElem?_append_left (List.getElem?_eq_some_iff.1 hn).1]; exact hn
end Go.Proofs.Ytcnjmkjfgghgoaa
end

section
/- Sub in plain words: a part of a tree, laid from nought. No program in sight. -/
namespace Go.Tr
open Go.RowKit
set_option linter.unusedVariables false
theorem okT_mono {d : Nat} : ∀ {t : T}, okT d t → okT (d + 1) t := by
  induction d with
  | zero => intro t h; exact h.elim
  | succ d ih =>
    intro t h
    obtain ⟨k, key, text, q, ln, ks⟩ := t
    obtain ⟨h1, h2, h3, h4, h5, h6, h7, h8⟩ := h
    exact ⟨h1, h2, h3, h4, h5, h6, h7, fun c hc => ih (h8 c hc)⟩
theorem okT_le {d e : Nat} (h : d ≤ e) {t : T} (ht : okT d t) : okT e t := by
  induction h with
  | refl => exact ht
  | step _ ih => exact okT_mono ih
mutual
theorem at_lay : ∀ (d b i : Nat) (t : T), okT d t → b ≤ i → i < b + t.size → ∃ s, okT d s ∧ lay i s <+: (lay b t).drop (i - b) ∧ (b < i → okT (d - 1) s) ∧ (i = b → s = t)
  | 0, _, _, _, h, _, _ => h.elim
  | d + 1, b, i, .node k key tx q ln ks, h, h1, h2 => by
    by_cases hb : i = b
    · subst hb
      exact ⟨_, h, by rw [Nat.sub_self, List.drop_zero]; exact ⟨[], by simp⟩, fun hh => absurd hh (by omega), fun _ => rfl⟩
    · simp only [T.size] at h2
      obtain ⟨_, _, _, _, _, _, _, h8⟩ := h
      obtain ⟨s, s1, s2⟩ := at_lays d (b + 1) i ks h8 (by omega) (by omega)
      refine ⟨s, okT_mono s1, ?_, fun _ => s1, fun e => absurd e hb⟩
      simp only [lay]
      rw [show i - b = (i - (b + 1)) + 1 by omega, List.drop_succ_cons]
      exact s2
theorem at_lays : ∀ (d b i : Nat) (ks : List T), (∀ c ∈ ks, okT d c) → b ≤ i → i < b + sizes ks → ∃ s, okT d s ∧ lay i s <+: (lays b ks).drop (i - b)
  | d, b, i, [], h, h1, h2 => by simp only [sizes] at h2; omega
  | d, b, i, c :: cs, h, h1, h2 => by
    simp only [sizes] at h2
    by_cases hi : i < b + c.size
    · obtain ⟨s, s1, s2, _⟩ := at_lay d b i c (h c List.mem_cons_self) h1 hi
      refine ⟨s, s1, ?_⟩
      simp only [lays]
      obtain ⟨r, hr⟩ := s2
      rw [List.drop_append_of_le_length (by rw [lay_length]; omega), ← hr, List.append_assoc]
      exact ⟨_, rfl⟩
    · obtain ⟨s, s1, s2⟩ := at_lays d (b + c.size) i cs (fun x hx => h x (List.mem_cons_of_mem _ hx)) (by omega) (by omega)
      refine ⟨s, s1, ?_⟩
      simp only [lays]
      rw [List.drop_append, List.drop_of_length_le (by rw [lay_length]; omega), List.nil_append, lay_length, show i - b - c.size = i - (b + c.size) by omega]
      exact s2
end
/-! ### a part, from nought -/
def sh (a : Int) (n : Nd) : Nd := { n with kids := n.kids.map (· - a) }
theorem kidAts_shift (b c : Nat) (ks : List T) : (kidAts (b + c) ks).map (· - (c : Int)) = kidAts b ks := by
  induction ks generalizing b with
  | nil => rfl
  | cons k ks ih =>
    simp only [kidAts, List.map_cons]
    rw [show b + c + k.size = (b + k.size) + c by omega, ih]
    congr 1
    omega
mutual
theorem lay_shift : ∀ (b c : Nat) (t : T), (lay (b + c) t).map (sh c) = lay b t
  | b, c, .node k key tx q ln ks => by
    simp only [lay, List.map_cons, sh]
    rw [show b + c + 1 = (b + 1) + c by omega, kidAts_shift, lays_shift (b + 1) c ks]
theorem lays_shift : ∀ (b c : Nat) (ts : List T), (lays (b + c) ts).map (sh c) = lays b ts
  | b, c, [] => rfl
  | b, c, t :: ts => by
    simp only [lays, List.map_append]
    rw [lay_shift b c t, show b + c + t.size = (b + t.size) + c by omega, lays_shift (b + t.size) c ts]
end
def noKey (n : Nd) : Nd := { n with key := ⟨#[]⟩ }
theorem lay_noKey (b : Nat) : ∀ t : T, lay b (t.withKey ⟨#[]⟩) = (lay b t).set 0 (noKey ((lay b t).headD ⟨0, ⟨#[]⟩, ⟨#[]⟩, false, 0, []⟩))
  | .node k key tx q ln ks => by simp [lay, T.withKey, noKey]
theorem bounds_lay (b : Nat) (t : T) : ∀ n ∈ lay b t, n.kids.length ≤ t.size ∧ ∀ k ∈ n.kids, (b : Int) ≤ k ∧ k < ((b + t.size : Nat) : Int) := by
  have key : ∀ t : T, ∀ b, ∀ n ∈ lay b t, n.kids.length ≤ t.size ∧ ∀ k ∈ n.kids, (b : Int) ≤ k ∧ k < ((b + t.size : Nat) : Int) := by
    intro t
    refine T.rec (motive_1 := fun t => ∀ b, ∀ n ∈ lay b t, n.kids.length ≤ t.size ∧ ∀ k ∈ n.kids, (b : Int) ≤ k ∧ k < ((b + t.size : Nat) : Int)) (motive_2 := fun ts => ∀ b, ∀ n ∈ lays b ts, n.kids.length ≤ sizes ts ∧ ∀ k ∈ n.kids, (b : Int) ≤ k ∧ k < ((b + sizes ts : Nat) : Int)) ?_ ?_ ?_ t
    · intro k key tx q ln ks ih b n hn
      simp only [lay, List.mem_cons] at hn
      simp only [T.size]
      rcases hn with rfl | hn
      · refine ⟨?_, fun x hx => ?_⟩
        · have := le_sizes ks; rw [kidAts_length]; omega
        · have := kidAts_mem hx; omega
      · obtain ⟨h1, h2⟩ := ih (b + 1) n hn
        refine ⟨by omega, fun x hx => ?_⟩
        have := h2 x hx; omega
    · intro b n hn; cases hn
    · intro c cs ih1 ih2 b n hn
      simp only [lays, List.mem_append] at hn
      simp only [sizes]
      rcases hn with hn | hn
      · obtain ⟨h1, h2⟩ := ih1 b n hn
        refine ⟨by omega, fun x hx => ?_⟩
        have := h2 x hx; omega
      · obtain ⟨h1, h2⟩ := ih2 (b + c.size) n hn
        refine ⟨by omega, fun x hx => ?_⟩
        have := h2 x hx; omega
  exact key t b
end Go.Tr
end

section
/- What a round of a range over a function keeps: all cells but a box and the row that it points to. Of no program. -/
namespace Go.Mp
open Go.RowKit
set_option linter.unusedVariables false
/-- The block of the row that the box B points to. -/
def outB (B : Nat) (W : World) (k : Nat) : Prop := ∃ v, W.cell? ⟨B, 0, none⟩ = some v ∧ v.ownBlock = some k
def OutLt (B n0 : Nat) (W : World) : Prop := ∀ k, outB B W k → n0 ≤ k ∧ k < W.heap.size
structure Kp (B : Nat) (W W' : World) : Prop where
  size : W.heap.size ≤ W'.heap.size
  keep : ∀ k o, k ≠ B → ¬ outB B W k → W.heap[k]? = some o → o.isCells = true → W'.heap[k]? = some o
  out : ∀ k, outB B W' k → outB B W k ∨ W.heap.size ≤ k
  lt : (∀ k, outB B W k → k < W.heap.size) → ∀ k, outB B W' k → k < W'.heap.size
theorem heap_lt {W : World} {k : Nat} {o : Obj} (h : W.heap[k]? = some o) : k < W.heap.size := (Array.getElem?_eq_some_iff.1 h).1
theorem cell_obj {W : World} {k off : Nat} {x : Value} (h : W.cell? ⟨k, off, none⟩ = some x) : ∃ o, W.heap[k]? = some o ∧ o.isCells = true := by
  unfold World.cell? at h
  split at h
  · rename_i c _ _ e; exact ⟨_, e, rfl⟩
  · cases h
theorem Kp.cell {B : Nat} {W W' : World} (h : Kp B W W') {k off : Nat} {x : Value} (hx : W.cell? ⟨k, off, none⟩ = some x) (hB : k ≠ B) (ho : ¬ outB B W k) : W'.cell? ⟨k, off, none⟩ = some x := by
  obtain ⟨o, e, ec⟩ := cell_obj hx
  have := h.keep k o hB ho e ec
  rw [← hx]; exact World.cell?_of_block (this.trans e.symm)
theorem Kp.lts {B n0 : Nat} {W W' : World} (h : Kp B W W') (hn : n0 ≤ W.heap.size) (ho : OutLt B n0 W) : OutLt B n0 W' := by
  intro k hk
  refine ⟨?_, h.lt (fun k hk => (ho k hk).2) k hk⟩
  rcases h.out k hk with h1 | h1
  · exact (ho k h1).1
  · exact Nat.le_trans hn h1
theorem Kp.notOut {B : Nat} {W W' : World} (h : Kp B W W') {k : Nat} (hk : k < W.heap.size) (hn : ¬ outB B W k) : ¬ outB B W' k := by
  intro h'
  rcases h.out k h' with h1 | h1
  · exact hn h1
  · omega
theorem Kp.trans {B : Nat} {A W C : World} (h : Kp B A W) (g : Kp B W C) : Kp B A C where
  size := Nat.le_trans h.size g.size
  keep := fun k o hB hn e ec => by
    refine g.keep k o hB (fun h' => ?_) (h.keep k o hB hn e ec) ec
    rcases h.out k h' with h1 | h1
    · exact hn h1
    · have := heap_lt e; omega
  out := fun k hk => by
    rcases g.out k hk with h1 | h1
    · exact h.out k h1
    · exact .inr (Nat.le_trans h.size h1)
  lt := fun hl => g.lt (h.lt hl)
theorem outB_kept {B : Nat} {W W' : World} (hb : W'.heap[B]? = W.heap[B]?) (k : Nat) : outB B W' k ↔ outB B W k := by
  unfold outB
  rw [show W'.cell? ⟨B, 0, none⟩ = W.cell? ⟨B, 0, none⟩ from World.cell?_of_block hb]
/-- A world in which nothing but what is no cells has changed, and new blocks were laid. -/
theorem OutLt.grow {B n0 : Nat} {W W' : World} (h : OutLt B n0 W) (hb : W'.heap[B]? = W.heap[B]?) (hs : W.heap.size ≤ W'.heap.size) : OutLt B n0 W' := fun k hk => by
  have := h k ((outB_kept hb k).1 hk)
  exact ⟨this.1, by omega⟩
theorem Kp.put {B : Nat} {W : World} {l : Nat} {o o' : Obj} (hB : B ≠ l) (h : W.heap[l]? = some o) (hc : o.isCells = false) : Kp B W (W.putObj l o') where
  size := by simp
  keep := fun k o2 hk hn e ec => by
    have : k ≠ l := fun e2 => by subst e2; rw [h] at e; cases e; rw [hc] at ec; cases ec
    rw [World.putObj_heap_other (fun e => this e)]; exact e
  out := fun k hk => .inl ((outB_kept (B := B) (World.putObj_heap_other (fun e => hB e)) k).1 hk)
  lt := fun hl k hk => by
    have := hl k ((outB_kept (B := B) (World.putObj_heap_other (fun e => hB e)) k).1 hk)
    simpa using this
theorem Tch.grownNone {w w' : World} (t : Tch No w w') : w.grownBy w' none := ⟨t.os, t.tape, t.output, t.size, fun k hk _ => t.block k hk id⟩
theorem Kp.of_none {B : Nat} {W W' : World} (t : Tch No W W') (hB : B < W.heap.size) : Kp B W W' where
  size := t.size
  keep := fun k o _ _ e _ => (t.block k (heap_lt e) id).trans e
  out := fun k hk => .inl ((outB_kept (t.block B hB id) k).1 hk)
  lt := fun hl k hk => Nat.lt_of_lt_of_le (hl k ((outB_kept (t.block B hB id) k).1 hk)) t.size
theorem Kp.of_append {B : Nat} {W W' : World} {v' : Value} (t : Tch (fun k => k = B ∨ outB B W k) W W') (hc : W'.cell? ⟨B, 0, none⟩ = some v') (h1 : ∀ g, v'.ownBlock = some g → outB B W g ∨ W.heap.size ≤ g) (h2 : ∀ g, v'.ownBlock = some g → g < W'.heap.size) : Kp B W W' where
  size := t.size
  keep := fun k o hB hn e _ => (t.block k (heap_lt e) (fun h => h.elim hB hn)).trans e
  out := fun k ⟨v, hv, hk⟩ => by rw [hc] at hv; cases hv; exact h1 k hk
  lt := fun _ k ⟨v, hv, hk⟩ => by rw [hc] at hv; cases hv; exact h2 k hk
theorem set3 {w : World} {cb : Nat} {e : TypeId} {x0 x1 x2 : Value} (h : w.heap[cb]? = some (.cells #[x0, x1, x2] e)) (y0 y1 y2 : Value) :
    (((w.setCell ⟨cb, 0, none⟩ y0).setCell ⟨cb, 1, none⟩ y1).setCell ⟨cb, 2, none⟩ y2).heap[cb]? = some (.cells #[y0, y1, y2] e) ∧
    Tch (fun k => k = cb) w (((w.setCell ⟨cb, 0, none⟩ y0).setCell ⟨cb, 1, none⟩ y1).setCell ⟨cb, 2, none⟩ y2) := by
  refine ⟨by simp [World.setCell, Array.getElem?_modify, h], ?_⟩
  exact ((Tch.setCell (S := fun k => k = cb) w (p := ⟨cb, 0, none⟩) rfl y0).trans (Tch.setCell (S := fun k => k = cb) _ (p := ⟨cb, 1, none⟩) rfl y1) (fun _ h => .inl h)).trans (Tch.setCell (S := fun k => k = cb) _ (p := ⟨cb, 2, none⟩) rfl y2) (fun _ h => .inl h)
end Go.Mp
end

section

namespace Go.Ln
open Go.RowKit
set_option linter.unusedVariables false
abbrev Ev := Tk × (Nat × Nat × Int)
def zt : Tk := ⟨0, 0, 0, [], false⟩
def evs : Nat → Nat → List (List UInt8) → List Ev
  | _, _, [] => []
  | d, n, l :: ls => match line l (n + 1 : Nat) with
    | .error e => [(zt, (d, n + 1, e))]
    | .ok ts => ts.map (fun t => (t, (0, 0, 0))) ++ evs (d + docsIn ts) (n + 1) ls
def seqOf (text : List UInt8) : List Ev := if 65536 < text.length then [(zt, (0, 0, 3))] else evs 0 0 (linesOf [] text)
def tail (f : Option (Nat × Nat × Int)) : List Ev := match f with
  | none => []
  | some f => [(zt, f)]
theorem evs_scan : ∀ (ls : List (List UInt8)) (d n : Nat), evs d n ls = (scanL d n ls).1.map (fun t => (t, (0, 0, 0))) ++ tail (scanL d n ls).2 := by
  intro ls
  induction ls with
  | nil => intro d n; rfl
  | cons l ls ih =>
    intro d n
    unfold evs scanL
    cases line l (n + 1 : Nat) with
    | error e => rfl
    | ok ts => simp only [ih, List.map_append, List.append_assoc]
theorem seq_scan (text : List UInt8) : seqOf text = (scan text).1.map (fun t => (t, (0, 0, 0))) ++ tail (scan text).2 := by
  unfold seqOf scan
  split
  · rfl
  · exact evs_scan _ _ _
theorem ix_le (l : List UInt8) (h : 0 ≤ Lib.index l [10]) : (Lib.index l [10]).toNat < l.length := by
  induction l with
  | nil => simp [Lib.index] at h
  | cons b l ih =>
    unfold Lib.index at h ⊢
    by_cases e : ([10] : List UInt8).isPrefixOf (b :: l) = true
    · rw [if_pos e]; simp
    · rw [if_neg e] at h ⊢
      by_cases e2 : (Lib.index l [10] == -1) = true
      · rw [if_pos e2] at h; omega
      · rw [if_neg e2] at h ⊢
        have hg := Lib.index_ge l [10]
        have : Lib.index l [10] ≠ -1 := by simpa using e2
        have := ih (by omega)
        rw [List.length_cons]; omega
theorem lines_ix (r : List UInt8) : ∀ cur : List UInt8, linesOf cur r = if 0 ≤ Lib.index r [10] then (cur ++ r.take (Lib.index r [10]).toNat) :: linesOf [] (r.drop ((Lib.index r [10]).toNat + 1)) else if (cur ++ r).isEmpty then [] else [cur ++ r] := by
  induction r with
  | nil =>
    intro cur
    rw [if_neg (by simp [Lib.index])]
    unfold linesOf
    rw [List.append_nil]
  | cons b l ih =>
    intro cur
    rw [linesOf]
    by_cases hb : b = 10
    · subst hb
      have e : Lib.index (10 :: l) [10] = 0 := by unfold Lib.index; simp
      rw [if_pos rfl, e, if_pos (by omega)]; simp
    · rw [if_neg hb, ih]
      have e : ¬ ([10] : List UInt8).isPrefixOf (b :: l) = true := by
        simp only [List.isPrefixOf, Bool.and_true]
        intro h; exact hb (by simpa using (beq_iff_eq.1 h).symm)
      have hx : Lib.index (b :: l) [10] = if (Lib.index l [10] == -1) = true then -1 else Lib.index l [10] + 1 := by
        rw [Lib.index, if_neg e]
      have hg := Lib.index_ge l [10]
      by_cases e2 : Lib.index l [10] = -1
      · have hx2 : Lib.index (b :: l) [10] = -1 := by rw [hx, e2]; rfl
        rw [hx2, e2, if_neg (show ¬ (0 : Int) ≤ -1 by decide), if_neg (show ¬ (0 : Int) ≤ -1 by decide)]; simp
      · have hx2 : Lib.index (b :: l) [10] = Lib.index l [10] + 1 := by rw [hx, if_neg (by simpa using e2)]
        have : (Lib.index l [10] + 1).toNat = (Lib.index l [10]).toNat + 1 := by omega
        rw [hx2, if_pos (show 0 ≤ Lib.index l [10] by omega), if_pos (show 0 ≤ Lib.index l [10] + 1 by omega), this]; simp
/-- The first line, and what stands behind it. -/
def cutL (r : List UInt8) : List UInt8 × List UInt8 := if 0 ≤ Lib.index r [10] then (r.take (Lib.index r [10]).toNat, r.drop ((Lib.index r [10]).toNat + 1)) else (r, [])
theorem lines_cut {r : List UInt8} (h : r ≠ []) : linesOf [] r = (cutL r).1 :: linesOf [] (cutL r).2 := by
  rw [lines_ix]
  unfold cutL
  split
  · simp
  · rw [if_neg (by simpa using h)]; simp [linesOf]
theorem cut_len {r : List UInt8} (h : r ≠ []) : (cutL r).2.length < r.length := by
  have : 0 < r.length := List.length_pos_iff.2 h
  unfold cutL
  split
  · simp only [List.length_drop]; omega
  · simpa using this
theorem cut_fst (r : List UInt8) : (cutL r).1.length ≤ r.length := by
  unfold cutL
  split
  · simp only [List.length_take]; omega
  · exact Nat.le_refl _
theorem evs_bad {d n : Nat} {r : List UInt8} {e : Int} (h : r ≠ []) (hl : line (cutL r).1 (n + 1 : Nat) = .error e) : evs d n (linesOf [] r) = [(zt, (d, n + 1, e))] := by
  rw [lines_cut h]; unfold evs; rw [hl]
theorem evs_ok {d n : Nat} {r : List UInt8} {ts : List Tk} (h : r ≠ []) (hl : line (cutL r).1 (n + 1 : Nat) = .ok ts) : evs d n (linesOf [] r) = ts.map (fun t => (t, (0, 0, 0))) ++ evs (d + docsIn ts) (n + 1) (linesOf [] (cutL r).2) := by
  rw [lines_cut h]; conv => lhs; unfold evs
  rw [hl]
theorem docsIn_snoc (ts : List Tk) (t : Tk) : docsIn (ts ++ [t]) = docsIn ts + if t.kind = 1 then 1 else 0 := by
  unfold docsIn
  rw [List.filter_append, List.length_append]
  by_cases h : t.kind = 1 <;> simp [h]
/-- An event that tells a fault is the last one. -/
theorem seq_end {text : List UInt8} {pre : List Ev} {x : Ev} (hp : pre ++ [x] <+: seqOf text) (hx : x.2.2.2 ≠ 0) : (scan text).2 = some x.2 := by
  rw [seq_scan] at hp
  obtain ⟨s, hs⟩ := hp
  cases hf : (scan text).2 with
  | none =>
    rw [hf] at hs
    have hm : x ∈ (scan text).1.map (fun t => ((t, (0, 0, 0)) : Ev)) := by
      have : x ∈ (scan text).1.map (fun t => ((t, (0, 0, 0)) : Ev)) ++ tail none := by rw [← hs]; simp
      simpa [tail] using this
    obtain ⟨t, _, rfl⟩ := List.mem_map.1 hm
    exact absurd rfl hx
  | some f =>
    rw [hf] at hs
    have hm : x ∈ (scan text).1.map (fun t => ((t, (0, 0, 0)) : Ev)) ++ tail (some f) := by rw [← hs]; simp
    rcases List.mem_append.1 hm with h | h
    · obtain ⟨t, _, rfl⟩ := List.mem_map.1 h
      exact absurd rfl hx
    · have : x = (zt, f) := by simpa [tail] using h
      rw [this]
theorem err_ne {d n : Nat} {ls : List (List UInt8)} {f : Nat × Nat × Int} (h : (scanL d n ls).2 = some f) : f.2.2 ≠ 0 → True := fun _ => trivial
theorem seq_all {text : List UInt8} {ts : List Tk} (h : seqOf text = ts.map (fun t => (t, (0, 0, 0)))) (he : ∀ f, (scan text).2 = some f → f.2.2 ≠ 0) : (scan text).2 = none ∧ (scan text).1 = ts := by
  rw [seq_scan] at h
  cases hf : (scan text).2 with
  | some f =>
    rw [hf] at h
    have hm : (zt, f) ∈ ts.map (fun t => ((t, (0, 0, 0)) : Ev)) := by rw [← h]; simp [tail]
    obtain ⟨t, _, e⟩ := List.mem_map.1 hm
    have e2 : f = (0, 0, 0) := (congrArg Prod.snd e).symm
    exact absurd (by rw [e2]) (he f hf)
  | none =>
    rw [hf] at h
    refine ⟨rfl, ?_⟩
    have := congrArg (List.map Prod.fst) h
    simpa [tail, Function.comp_def] using this
theorem seq_all2 {text : List UInt8} (h : ∀ x ∈ seqOf text, x.2.2.2 = 0) (he : ∀ f, (scan text).2 = some f → f.2.2 ≠ 0) : (scan text).2 = none ∧ (scan text).1 = (seqOf text).map (·.1) := by
  have hs := seq_scan text
  cases hf : (scan text).2 with
  | some f =>
    rw [hf] at hs
    exact absurd (h (zt, f) (by rw [hs]; simp [tail])) (he f hf)
  | none =>
    rw [hf] at hs
    refine ⟨rfl, ?_⟩
    rw [hs]; simp [tail, Function.comp_def]
theorem sound_val (l : List UInt8) : sound l = 0 ∨ sound l = 80 ∨ sound l = 83 := by
  unfold sound
  split
  · exact .inr (.inl rfl)
  · split
    · exact .inr (.inr rfl)
    · exact .inl rfl
theorem scalar_err {l : List UInt8} {n : Int} {i : Nat} {out : List Tk} {e : Int} (h : scalar l n i out = .error e) : e = 82 ∨ e = 83 := by
  unfold scalar at h
  split at h
  · cases h
  · split at h
    · split at h
      · cases h; exact .inl rfl
      · dsimp only at h
        split at h <;> cases h
        exact .inl rfl
    · split at h <;> cases h
      exact .inr rfl
theorem keyed_err {l : List UInt8} {n : Int} {i : Nat} {out : List Tk} {e : Int} (h : keyed l n i out = .error e) : e = 82 ∨ e = 83 := by
  unfold keyed at h
  split at h
  · split at h
    · cases h; exact .inl rfl
    · split at h <;> exact scalar_err h
  · dsimp only at h
    split at h <;> exact scalar_err h
theorem items_err {l : List UInt8} {n : Int} {e : Int} : ∀ (f i : Nat) (out : List Tk), items l n f i out = .error e → e = 82 ∨ e = 83 := by
  intro f
  induction f with
  | zero => intro i out h; cases h
  | succ f ih =>
    intro i out h
    unfold items at h
    split at h
    · cases h
    · split at h
      · exact ih _ _ h
      · exact keyed_err h
theorem line_err {l : List UInt8} {n : Int} {e : Int} (h : line l n = .error e) : e = 80 ∨ e = 82 ∨ e = 83 := by
  unfold line at h
  split at h
  · rename_i hs
    cases h
    rcases sound_val l with h | h | h
    · exact absurd h hs
    · exact .inl h
    · exact .inr (.inr h)
  · split at h
    · cases h
    · exact .inr (items_err _ _ _ h)
theorem scanL_err : ∀ (ls : List (List UInt8)) (d n : Nat) (f : Nat × Nat × Int), (scanL d n ls).2 = some f → f.2.2 = 80 ∨ f.2.2 = 82 ∨ f.2.2 = 83 := by
  intro ls
  induction ls with
  | nil => intro d n f h; cases h
  | cons l ls ih =>
    intro d n f h
    unfold scanL at h
    cases hl : line l (n + 1 : Nat) with
    | error e => rw [hl] at h; cases h; exact line_err hl
    | ok ts => rw [hl] at h; exact ih _ _ f h
theorem scan_err {text : List UInt8} {f : Nat × Nat × Int} (h : (scan text).2 = some f) : f.2.2 ≠ 0 := by
  unfold scan at h
  split at h
  · cases h; decide
  · rcases scanL_err _ _ _ _ h with h | h | h <;> rw [h] <;> decide
theorem docsIn_app (a b : List Tk) : docsIn (a ++ b) = docsIn a + docsIn b := by unfold docsIn; rw [List.filter_append, List.length_append]
theorem scalar_docs {l : List UInt8} {n : Int} {i : Nat} {out ts : List Tk} (h : scalar l n i out = .ok ts) : docsIn ts = docsIn out := by
  unfold scalar at h
  split at h
  · cases h; rfl
  · split at h
    · split at h
      · cases h
      · dsimp only at h
        split at h <;> cases h
        rw [docsIn_snoc]; rfl
    · split at h <;> cases h
      rw [docsIn_snoc]; rfl
theorem keyed_docs {l : List UInt8} {n : Int} {i : Nat} {out ts : List Tk} (h : keyed l n i out = .ok ts) : docsIn ts = docsIn out := by
  unfold keyed at h
  split at h
  · split at h
    · cases h
    · split at h
      · rw [scalar_docs h, docsIn_snoc]; rfl
      · exact scalar_docs h
  · dsimp only at h
    split at h
    · rw [scalar_docs h, docsIn_snoc]; rfl
    · exact scalar_docs h
theorem items_docs {l : List UInt8} {n : Int} {ts : List Tk} : ∀ (f i : Nat) (out : List Tk), items l n f i out = .ok ts → docsIn ts = docsIn out := by
  intro f
  induction f with
  | zero => intro i out h; cases h; rfl
  | succ f ih =>
    intro i out h
    unfold items at h
    split at h
    · cases h; rfl
    · split at h
      · rw [ih _ _ h, docsIn_snoc]; rfl
      · exact keyed_docs h
theorem line_docs {l : List UInt8} {n : Int} {ts : List Tk} (h : line l n = .ok ts) : docsIn ts ≤ 1 := by
  unfold line at h
  split at h
  · cases h
  · split at h
    · cases h; exact Nat.le_refl 1
    · rw [items_docs _ _ _ h]; decide
theorem blanks_pos (l : List UInt8) (i : Nat) : i ≤ blanks l i := Nat.le_add_right _ _
theorem scalar_len {l : List UInt8} {n : Int} {i : Nat} {out ts : List Tk} (h : scalar l n i out = .ok ts) : ts.length ≤ out.length + 1 := by
  unfold scalar at h
  split at h
  · cases h; omega
  · split at h
    · split at h
      · cases h
      · dsimp only at h
        split at h <;> cases h
        simp
    · split at h <;> cases h
      simp
theorem keyed_len {l : List UInt8} {n : Int} {i : Nat} {out ts : List Tk} (h : keyed l n i out = .ok ts) : ts.length ≤ out.length + 2 := by
  unfold keyed at h
  split at h
  · split at h
    · cases h
    · split at h
      · have := scalar_len h; rw [List.length_append, List.length_singleton] at this; omega
      · have := scalar_len h; omega
  · dsimp only at h
    split at h
    · have := scalar_len h; rw [List.length_append, List.length_singleton] at this; omega
    · have := scalar_len h; omega
theorem items_len {l : List UInt8} {n : Int} {ts : List Tk} : ∀ (f i : Nat) (out : List Tk), items l n f i out = .ok ts → ts.length ≤ out.length + f + 2 := by
  intro f
  induction f with
  | zero => intro i out h; cases h; omega
  | succ f ih =>
    intro i out h
    unfold items at h
    split at h
    · cases h; omega
    · split at h
      · have := ih _ _ h; rw [List.length_append, List.length_singleton] at this; omega
      · have := keyed_len h; omega
theorem line_len {l : List UInt8} {n : Int} {ts : List Tk} (h : line l n = .ok ts) : ts.length ≤ l.length + 3 := by
  unfold line at h
  split at h
  · cases h
  · split at h
    · cases h; simp
    · have := items_len _ _ _ h; simp at this; omega
theorem evs_len : ∀ (ls : List (List UInt8)) (d n : Nat), (evs d n ls).length ≤ (ls.map fun l => l.length + 3).sum := by
  intro ls
  induction ls with
  | nil => intro d n; simp [evs]
  | cons l ls ih =>
    intro d n
    unfold evs
    cases hx : line l (n + 1 : Nat) with
    | error e => simp only [List.length_singleton, List.map_cons, List.sum_cons]; omega
    | ok ts =>
      have h1 := line_len hx
      have h2 := ih (d + docsIn ts) (n + 1)
      simp only [List.length_append, List.length_map, List.map_cons, List.sum_cons]
      omega
theorem lines_sum (r : List UInt8) : ∀ cur : List UInt8, ((linesOf cur r).map fun l => l.length + 3).sum ≤ 3 * (cur.length + r.length + 1) := by
  induction r with
  | nil =>
    intro cur
    unfold linesOf
    split
    · simp
    · simp; omega
  | cons c r ih =>
    intro cur
    unfold linesOf
    split
    · have := ih []
      simp only [List.map_cons, List.sum_cons, List.length_cons, List.length_nil] at this ⊢
      omega
    · have := ih (cur ++ [c])
      simp only [List.length_append, List.length_cons, List.length_nil] at this ⊢
      omega
theorem seq_len (text : List UInt8) : (seqOf text).length ≤ 200000 := by
  unfold seqOf
  split
  · simp
  · have h1 := evs_len (linesOf [] text) 0 0
    have h2 := lines_sum text []
    simp only [List.length_nil] at h2
    omega
end Go.Ln
end
