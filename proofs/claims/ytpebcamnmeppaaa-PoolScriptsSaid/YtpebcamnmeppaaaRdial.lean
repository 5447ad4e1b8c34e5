/- Dialled of the document's pool; what a change of one list makes. -/
import Derived.Test.YtpebcamnmeppaaaUnkeep
namespace Go.Proofs.Ytpebcamnmeppaaa
open Go.RowKit Go.Mp Go.Po
set_option linter.unusedVariables false
set_option maxRecDepth 20000
theorem wp_append_three {P : Program} {w : World} {ops : Array Oper} {rest : List Oper} {o : Oper} {a : Act} {Q : Exit → Act → World → Prop} {u1 u2 u3 : Value} {e' : TypeId} (hgd : o.guard = none) (s x : Operand) (t : TypeId)
    (ho : o.op = .call { callee := .builtin .append, args := #[s, x], argTypes := #[t, t] })
    (base : Nat) (e : TypeId) (i : TypeInfo) (z : Value) (bytes : Nat) (ht : P.underlying t = some (.slice e)) (hi : P.info? e = some i) (hz : i.zero = some z)
    (hsize : i.size = 3) (hby : i.bytes = bytes) (hzs : z.cells.size = 3)
    (v : Value) (n : Nat) (xs : List Value) (hs : a.eval s = v) (hown : w.ownsRow base e 3 v n xs)
    (c : Nat) (hx : a.eval x = .slice (some ⟨w.heap.size, 0, none⟩) 1 c) (h1 : ∀ u ∈ [u1, u2, u3], u.oneCell' = true)
    (h63 : n + 1 ≤ maxLen) (hbytes : (n + 1) * bytes ≤ 140737488355328) (hbase : base ≤ w.heap.size)
    (h : ∀ v' w', w'.ownsRow base e 3 v' (n + 1) (xs ++ [u1, u2, u3]) → w.grownBy w' v.ownBlock → (∀ g, v'.ownBlock = some g → v.ownBlock = some g ∨ w.heap.size ≤ g) → wpList P ops Q rest (a.put o.dst v') w') :
    wpList P ops Q (o :: rest) a (w.alloc (.cells #[u1, u2, u3] e')) := by
  refine wpList_append_own_at _ hgd s x t ho base e i z 3 bytes ht hi hz hsize hby hzs (by decide) v n xs hs (hown.alloc _) ⟨w.heap.size, 0, none⟩ 1 c [u1, u2, u3] hx rfl ?_ h1 h63 hbytes ?_ ?_
  · intro j y hj
    match j, hj with
    | 0, hj => simp at hj; subst hj; simp [Addr.add]
    | 1, hj => simp at hj; subst hj; simp [Addr.add]
    | 2, hj => simp at hj; subst hj; simp [Addr.add]
  · simp; omega
  · intro v' w' hown' hg hnil hloc
    refine h v' w' hown' (grownBy_alloc_left hg) ?_
    intro g hg'
    rcases hloc with hl | hl
    · exact .inl (by rw [← hl]; exact hg')
    · rw [hl] at hg'; cases hg'; exact .inr (by simp)
/-- The same, as one step of a region that draws. -/
theorem step_append_three {P : Program} {w : World} {ops : Array Oper} {o : Oper} {a : Act} {K : Act → World → Prop} {Q : Exit → Act → World → Prop} {E : Prop} {u1 u2 u3 : Value} {e' : TypeId} (hgd : o.guard = none) (s x : Operand) (t : TypeId)
    (ho : o.op = .call { callee := .builtin .append, args := #[s, x], argTypes := #[t, t] })
    (base : Nat) (e : TypeId) (i : TypeInfo) (z : Value) (bytes : Nat) (ht : P.underlying t = some (.slice e)) (hi : P.info? e = some i) (hz : i.zero = some z)
    (hsize : i.size = 3) (hby : i.bytes = bytes) (hzs : z.cells.size = 3)
    (v : Value) (n : Nat) (xs : List Value) (hs : a.eval s = v) (hown : w.ownsRow base e 3 v n xs)
    (c : Nat) (hx : a.eval x = .slice (some ⟨w.heap.size, 0, none⟩) 1 c) (h1 : ∀ u ∈ [u1, u2, u3], u.oneCell' = true)
    (h63 : n + 1 ≤ maxLen) (hbytes : (n + 1) * bytes ≤ 140737488355328) (hbase : base ≤ w.heap.size)
    (h : ∀ v' w', w'.ownsRow base e 3 v' (n + 1) (xs ++ [u1, u2, u3]) → w.grownBy w' v.ownBlock → (∀ g, v'.ownBlock = some g → v.ownBlock = some g ∨ w.heap.size ≤ g) → K (a.put o.dst v') w') :
    if Region.wanted o (yielded ops a.tmps) = true then Oper.wp P o a (w.alloc (.cells #[u1, u2, u3] e')) K Q else E := by
  have hw : Region.wanted o (yielded ops a.tmps) = true := by simp [Region.wanted, hgd]
  rw [if_pos hw]
  obtain ⟨v', w', hr, h2, h3, h4, h5⟩ := run_append_own_at (P := P) (w.alloc (.cells #[u1, u2, u3] e')) base t o.type e i z 3 bytes ht hi hz hsize hby hzs (by decide) v n xs (hown.alloc _) ⟨w.heap.size, 0, none⟩ 1 c [u1, u2, u3] rfl (by
    intro j y hj
    match j, hj with
    | 0, hj => simp at hj; subst hj; simp [Addr.add]
    | 1, hj => simp at hj; subst hj; simp [Addr.add]
    | 2, hj => simp at hj; subst hj; simp [Addr.add]) h1 h63 hbytes (by simp; omega)
  unfold Oper.wp execOp
  simp only [ho, resolve, invoke, builtin, Sem.run_bind, Sem.run_pure, Result.andThen_ok, List.map_toArray, List.map_cons, List.map_nil, hs, hx, hr]
  refine h v' w' h2 (grownBy_alloc_left h3) ?_
  intro g hg'
  rcases h5 with hl | hl
  · exact .inl (by rw [← hl]; exact hg')
  · rw [hl] at hg'; cases hg'; exact .inr (by simp)
/-! ### a change of one list -/
section
variable {w w2 : World} {B : Nat} {F : Nat → Prop} {q : Nat} {s : St} {vb vf vk v' : Value}
theorem RM.busyTo (h : RM w B F q s vb vf vk) (hB : B ≤ w.heap.size) {l : List C} (row : w2.ownsRow B 77 3 v' l.length (ccs l)) (t : Tch (fun k => vb.ownBlock = some k) w w2) (hloc : ∀ g, v'.ownBlock = some g → vb.ownBlock = some g ∨ w.heap.size ≤ g) :
    w2.frozen? ⟨q, 2, none⟩ = false ∧ w2.cell? ⟨q, 2, none⟩ = some vb ∧ RPost w B F q { s with busy := l } (w2.setCell ⟨q, 2, none⟩ v') := by
  have hql := (h.lt q h.own.1).2
  have hq2 := (t.block q hql h.nq.1).trans h.hq
  have t1 : Tch (fun k => k = q) w2 (w2.setCell ⟨q, 2, none⟩ v') := Tch.setCell (S := fun k => k = q) w2 (p := ⟨q, 2, none⟩) rfl _
  have tf : Tch F w w2 := t.mono (fun k hk => h.own.2.1 k hk)
  refine ⟨frozen_of_row _ _ _ _ _ hq2, (cell_of_row _ _ 2 _ _ _ hq2).trans rfl, rpost_of h hB (tf.trans (t1.mono (fun k hk => by rw [hk]; exact h.own.1)) (fun _ h => .inl h)) (vb' := v') (vf' := vf) (vk' := vk) ?_ ?_ ?_ ?_ ?_ ?_ ?_ ?_⟩
  · simp [World.setCell, Array.getElem?_modify, hq2]
  · refine ownsRow_tch row t1 (fun g hg he => ?_)
    subst he
    rcases hloc g hg with h1 | h1
    · exact h.nq.1 h1
    · omega
  · refine ownsRow_tch (ownsRow_tch h.rf t (fun g hg he => h.bf g he hg)) t1 (fun g hg he => h.nq.2.1 (he ▸ hg))
  · refine ownsRow_tch (ownsRow_tch h.rk t (fun g hg he => (h.nk g hg).1 he)) t1 (fun g hg he => h.nq.2.2 (he ▸ hg))
  · intro g hg hf
    rcases hloc g hg with h1 | h1
    · exact h.bf g h1 hf
    · have := (h.lt g (h.own.2.2.1 g hf)).2; omega
  · intro g hg
    exact (hloc g hg).imp (fun h1 => h.own.2.1 g h1) id
  · exact fun g hg => .inl (h.own.2.2.1 g hg)
  · exact fun g hg => .inl (h.own.2.2.2 g hg)
theorem RM.freeTo (h : RM w B F q s vb vf vk) (hB : B ≤ w.heap.size) {l : List C} (row : w2.ownsRow B 77 3 v' l.length (ccs l)) (t : Tch (fun k => vf.ownBlock = some k) w w2) (hloc : ∀ g, v'.ownBlock = some g → vf.ownBlock = some g ∨ w.heap.size ≤ g) :
    w2.frozen? ⟨q, 3, none⟩ = false ∧ w2.cell? ⟨q, 3, none⟩ = some vf ∧ RPost w B F q { s with free := l } (w2.setCell ⟨q, 3, none⟩ v') := by
  have hql := (h.lt q h.own.1).2
  have hq2 := (t.block q hql h.nq.2.1).trans h.hq
  have t1 : Tch (fun k => k = q) w2 (w2.setCell ⟨q, 3, none⟩ v') := Tch.setCell (S := fun k => k = q) w2 (p := ⟨q, 3, none⟩) rfl _
  have tf : Tch F w w2 := t.mono (fun k hk => h.own.2.2.1 k hk)
  refine ⟨frozen_of_row _ _ _ _ _ hq2, (cell_of_row _ _ 3 _ _ _ hq2).trans rfl, rpost_of h hB (tf.trans (t1.mono (fun k hk => by rw [hk]; exact h.own.1)) (fun _ h => .inl h)) (vb' := vb) (vf' := v') (vk' := vk) ?_ ?_ ?_ ?_ ?_ ?_ ?_ ?_⟩
  · simp [World.setCell, Array.getElem?_modify, hq2]
  · refine ownsRow_tch (ownsRow_tch h.rb t (fun g hg he => h.bf g hg he)) t1 (fun g hg he => h.nq.1 (he ▸ hg))
  · refine ownsRow_tch row t1 (fun g hg he => ?_)
    subst he
    rcases hloc g hg with h1 | h1
    · exact h.nq.2.1 h1
    · omega
  · refine ownsRow_tch (ownsRow_tch h.rk t (fun g hg he => (h.nk g hg).2 he)) t1 (fun g hg he => h.nq.2.2 (he ▸ hg))
  · intro g hg hf
    rcases hloc g hf with h1 | h1
    · exact h.bf g hg h1
    · have := (h.lt g (h.own.2.1 g hg)).2; omega
  · exact fun g hg => .inl (h.own.2.1 g hg)
  · intro g hg
    exact (hloc g hg).imp (fun h1 => h.own.2.2.1 g h1) id
  · exact fun g hg => .inl (h.own.2.2.2 g hg)
theorem RM.keptTo (h : RM w B F q s vb vf vk) (hB : B ≤ w.heap.size) {l : List ByteArray} (row : w2.ownsRow B 9 1 v' l.length (scs l)) (t : Tch (fun k => vk.ownBlock = some k) w w2) (hloc : ∀ g, v'.ownBlock = some g → vk.ownBlock = some g ∨ w.heap.size ≤ g) :
    w2.frozen? ⟨q, 4, none⟩ = false ∧ w2.cell? ⟨q, 4, none⟩ = some vk ∧ RPost w B F q { s with kept := l } (w2.setCell ⟨q, 4, none⟩ v') := by
  have hql := (h.lt q h.own.1).2
  have hq2 := (t.block q hql h.nq.2.2).trans h.hq
  have t1 : Tch (fun k => k = q) w2 (w2.setCell ⟨q, 4, none⟩ v') := Tch.setCell (S := fun k => k = q) w2 (p := ⟨q, 4, none⟩) rfl _
  have tf : Tch F w w2 := t.mono (fun k hk => h.own.2.2.2 k hk)
  refine ⟨frozen_of_row _ _ _ _ _ hq2, (cell_of_row _ _ 4 _ _ _ hq2).trans rfl, rpost_of h hB (tf.trans (t1.mono (fun k hk => by rw [hk]; exact h.own.1)) (fun _ h => .inl h)) (vb' := vb) (vf' := vf) (vk' := v') ?_ ?_ ?_ ?_ ?_ ?_ ?_ ?_⟩
  · simp [World.setCell, Array.getElem?_modify, hq2]
  · refine ownsRow_tch (ownsRow_tch h.rb t (fun g hg he => (h.nk g he).1 hg)) t1 (fun g hg he => h.nq.1 (he ▸ hg))
  · refine ownsRow_tch (ownsRow_tch h.rf t (fun g hg he => (h.nk g he).2 hg)) t1 (fun g hg he => h.nq.2.1 (he ▸ hg))
  · refine ownsRow_tch row t1 (fun g hg he => ?_)
    subst he
    rcases hloc g hg with h1 | h1
    · exact h.nq.2.2 h1
    · omega
  · exact h.bf
  · exact fun g hg => .inl (h.own.2.1 g hg)
  · exact fun g hg => .inl (h.own.2.2.1 g hg)
  · intro g hg
    exact (hloc g hg).imp (fun h1 => h.own.2.2.2 g h1) id
end
theorem find_yes {w : World} {base : Nat} {v : Value} {l : List C} (h : w.ownsRow base 77 3 v l.length (ccs l)) (hl : l.length < 8796093022208) {i : Int} {c : C} (hf : fnd l i = some c) :
    Calls Try.prog 35 #[v, .int .i64 i] w fun e' w' => w = w' ∧ ∃ k : Nat, l[k]? = some c ∧ (l.take k ++ l.drop (k + 1) = l.take k ++ l.drop (k + 1)) ∧ e' = .returned (.int .i64 k) := by
  refine (find_ref h hl i).mono ?_
  rintro e' w' ⟨h1, h2⟩
  refine ⟨h1, ?_⟩
  rcases h2 with ⟨k, c', hk, _, hf', he⟩ | ⟨hn, _⟩
  · rw [hf] at hf'; cases hf'
    exact ⟨k, hk, rfl, he⟩
  · rw [hf] at hn; cases hn
theorem find_no {w : World} {base : Nat} {v : Value} {l : List C} (h : w.ownsRow base 77 3 v l.length (ccs l)) (hl : l.length < 8796093022208) {i : Int} (hf : fnd l i = none) :
    Calls Try.prog 35 #[v, .int .i64 i] w fun e' w' => e' = .returned (.int .i64 (-1)) ∧ w = w' := by
  refine (find_ref h hl i).mono ?_
  rintro e' w' ⟨h1, h2⟩
  rcases h2 with ⟨k, c', hk, _, hf', he⟩ | ⟨_, he⟩
  · rw [hf] at hf'; cases hf'
  · exact ⟨he, h1⟩
theorem nn_nonneg (k : Nat) : decide ((0 : Int) ≤ (k : Int)) = true := decide_eq_true (by omega)
theorem nn_nneg (k : Nat) : decide ((k : Int) < 0) = false := decide_eq_false (by omega)
theorem fnd_ex {l : List C} {i : Int} (h : fnd l i = none) : ∀ c ∈ l, c.id ≠ i := fnd_none h
/-! ### Dialled -/
theorem rdial_any {w : World} {B : Nat} {F : Nat → Prop} {q : Nat} {s : St} (h : RefM w B F q s) (hl : s.kept.length < 4398046511104 ∧ s.busy.length < 4398046511100 ∧ s.free.length < 4398046511100) (hB : B ≤ w.heap.size) (e : ByteArray) (i : Int) :
    Calls Try.prog 27 #[.pointer (some ⟨q, 0, none⟩), .string e, .int .i64 i] w fun e' w' => e' = .returned (.int .i64 (dial s e i).1) ∧ RPost w B F q (dial s e i).2 w' := by
  have hk := kept_ref h (by omega) e
  by_cases h0 : kof s.kept e = 0
  · have ef : dial s e i = (2, s) := if_pos (.inl h0)
    have k0 : (((kof s.kept e : Nat) : Int) == 0) = true := by rw [h0]; rfl
    have hp := rpost_same h (Tch.refl No w)
    rw [ef]
    replace hp := Lib.hid hp
    replace h0 := Lib.hid h0
    clear h ef
    go_enter Try.func27, Try.ntmps27
    go_wp2_with (first | (go_at_call 34; refine hk.mono ?_; clear hk; rintro _ w1 ⟨rfl, rfl⟩) | fail)
    go_ret
    exact ⟨rfl, hp.out⟩
  have k0 : (((kof s.kept e : Nat) : Int) == 0) = false := by rw [beq_eq_false_iff_ne]; omega
  by_cases hi0 : i < 0
  · have ef : dial s e i = (2, s) := if_pos (.inr (.inl hi0))
    have k1 : decide (i < 0) = true := decide_eq_true hi0
    have hp := rpost_same h (Tch.refl No w)
    rw [ef]
    replace hp := Lib.hid hp
    replace h0 := Lib.hid h0
    replace hi0 := Lib.hid hi0
    clear h ef
    go_enter Try.func27, Try.ntmps27
    go_wp2_with (first | (go_at_call 34; refine hk.mono ?_; clear hk; rintro _ w1 ⟨rfl, rfl⟩) | fail)
    go_ret
    exact ⟨rfl, hp.out⟩
  have k1 : decide (i < 0) = false := decide_eq_false hi0
  obtain ⟨vb, vf, vk, hM⟩ := h
  have h : RefM w B F q s := ⟨vb, vf, vk, hM⟩
  have c2 : w.cell? ⟨q, 2, none⟩ = some vb := (cell_of_row _ _ 2 _ _ _ hM.hq).trans rfl
  have c3 : w.cell? ⟨q, 3, none⟩ = some vf := (cell_of_row _ _ 3 _ _ _ hM.hq).trans rfl
  cases hfb : fnd s.busy i with
  | some c =>
    have hf1 := find_yes hM.rb (by omega) hfb
    have ef : dial s e i = (2, s) := if_pos (.inr (.inr ⟨c, List.mem_append_left _ (fnd_some hfb).1, (fnd_some hfb).2⟩))
    have hp := rpost_same h (Tch.refl No w)
    rw [ef]
    obtain ⟨bo, bc, rfl⟩ := ownsRow_shape hM.rb
    replace hp := Lib.hid hp
    replace h0 := Lib.hid h0
    replace hi0 := Lib.hid hi0
    replace hfb := Lib.hid hfb
    clear h hM ef
    go_enter Try.func27, Try.ntmps27
    go_wp2_with (first
      | (go_at_call 34; refine hk.mono ?_; clear hk; rintro _ w1 ⟨rfl, rfl⟩)
      | (go_at_call 35; refine hf1.mono ?_; clear hf1; rintro _ w1 ⟨rfl, k, hx, _, rfl⟩; have kk := nn_nonneg k)
      | fail)
    go_ret
    exact ⟨rfl, hp.out⟩
  | none =>
    have hf1 := find_no hM.rb (by omega) hfb
    cases hff : fnd s.free i with
    | some c =>
      have hf2 := find_yes hM.rf (by omega) hff
      have ef : dial s e i = (2, s) := if_pos (.inr (.inr ⟨c, List.mem_append_right _ (fnd_some hff).1, (fnd_some hff).2⟩))
      have hp := rpost_same h (Tch.refl No w)
      rw [ef]
      obtain ⟨bo, bc, rfl⟩ := ownsRow_shape hM.rb
      obtain ⟨fo, fc, rfl⟩ := ownsRow_shape hM.rf
      replace hp := Lib.hid hp
      replace h0 := Lib.hid h0
      replace hi0 := Lib.hid hi0
      replace hfb := Lib.hid hfb
      replace hff := Lib.hid hff
      clear h hM ef
      go_enter Try.func27, Try.ntmps27
      go_wp2_with (first
        | (go_at_call 34; refine hk.mono ?_; clear hk; rintro _ w1 ⟨rfl, rfl⟩)
        | (go_at_call 35; have _t := hf1; refine hf1.mono ?_; clear hf1 _t; rintro _ w1 ⟨rfl, rfl⟩)
        | (go_at_call 35; refine hf2.mono ?_; clear hf2; rintro _ w1 ⟨rfl, k, hx, _, rfl⟩; have kk := nn_nonneg k)
        | fail)
      go_ret
      exact ⟨rfl, hp.out⟩
    | none =>
      have hf2 := find_no hM.rf (by omega) hff
      have ef : dial s e i = (0, { s with kept := unk e s.kept, busy := s.busy ++ [⟨i, e, 0⟩] }) := by
        refine if_neg ?_
        rintro (h1 | h1 | ⟨c, hc, he⟩)
        · exact h0 h1
        · exact hi0 h1
        · rcases List.mem_append.1 hc with hc | hc
          · exact fnd_none hfb c hc he
          · exact fnd_none hff c hc he
      have hu := unkeep_ref h hl.1 hB e
      rw [ef]
      obtain ⟨bo, bc, rfl⟩ := ownsRow_shape hM.rb
      obtain ⟨fo, fc, rfl⟩ := ownsRow_shape hM.rf
      obtain ⟨i0, hi, hz0, hz1, hz2⟩ := info_parts info77
      replace hi := Lib.hid hi
      replace hz0 := Lib.hid hz0
      replace hz1 := Lib.hid hz1
      replace hz2 := Lib.hid hz2
      replace h0 := Lib.hid h0
      replace hi0 := Lib.hid hi0
      replace hfb := Lib.hid hfb
      replace hff := Lib.hid hff
      clear h hM ef
      go_enter Try.func27, Try.ntmps27
      go_upto_region 5 with (first
        | (go_at_call 34; refine hk.mono ?_; clear hk; rintro _ w1 ⟨rfl, rfl⟩)
        | (go_at_call 35; have _t := hf1; refine hf1.mono ?_; clear hf1 _t; rintro _ w1 ⟨rfl, rfl⟩)
        | (go_at_call 35; have _t := hf2; refine hf2.mono ?_; clear hf2 _t; rintro _ w1 ⟨rfl, rfl⟩)
        | fail)
      clear c2 c3
      go_upto_region 6 with (first
        | (go_at_call 39; have _t := hu; refine hu.mono ?_; clear hu _t; rintro _ w2 ⟨rfl, F2, hM2, hT2, hF2⟩)
        | fail)
      obtain ⟨vb2, vf2, vk2, hM2⟩ := hM2
      have c2 : w2.cell? ⟨q, 2, none⟩ = some vb2 := (cell_of_row _ _ 2 _ _ _ hM2.hq).trans rfl
      have hB2 : B ≤ w2.heap.size := Nat.le_trans hB hT2.size
      obtain ⟨bo2, bc2, rfl⟩ := ownsRow_shape hM2.rb
      replace hM2 := Lib.hid hM2
      replace hT2 := Lib.hid hT2
      replace hF2 := Lib.hid hF2
      replace hB2 := Lib.hid hB2
      have hll := Lib.hid hl
      clear hl hB
      go_wp2_with (first
        | (at_builtin; refine wp_append_three rfl _ _ 63 rfl B 77 i0 (.agg #[.int .i64 0, .string ⟨#[]⟩, .int .i64 0]) 32 Try.underlying63 hi.out hz0.out hz1.out hz2.out rfl _ _ _ rfl hM2.out.rb 1 rfl (by simp [Value.oneCell']) (by have := hll.out; dsimp only; unfold maxLen; omega) (by have := hll.out; dsimp only; omega) hB2.out ?_; intro v' w3 hr3 hg3 hl3; obtain ⟨uo, uc, rfl⟩ := ownsRow_shape hr3; obtain ⟨f2, c2', hP⟩ := hM2.out.busyTo hB2.out (l := s.busy ++ [⟨i, e, 0⟩]) (by simpa [ccs, cc] using hr3) (Tch.grown hg3 (fun k hk => .inl hk)) hl3; replace hP := Lib.hid hP; replace hr3 := Lib.hid hr3; clear hg3 hl3)
        | fail)
      go_ret
      exact ⟨rfl, rpost_trans hT2.out hF2.out hP.out⟩
end Go.Proofs.Ytpebcamnmeppaaa
