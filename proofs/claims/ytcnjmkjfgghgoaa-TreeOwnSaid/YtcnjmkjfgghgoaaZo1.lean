/- For any two texts the law TreeOwn answers true and leaves its arguments as they were. No condition. -/
import Derived.Test.YtcnjmkjfgghgoaaZo0
import Derived.Test.YtcnjmkjfgghgoaaZt36
import Derived.Test.YtcnjmkjfgghgoaaZt9
import Derived.HandedShaped
import Derived.Shelf.Vars
import Derived.Test.YtcnjmkjfgghgoaaZt24
section
/- A node among lists of nodes: what it holds, and what is written into it. -/
namespace Go.Proofs.Ytcnjmkjfgghgoaa
open Go.RowKit Go.Mp Go.Tr
set_option linter.unusedVariables false
section
variable {w w2 : World} {B : Nat} {F : Nat → Prop} {A : List AX} {i k : Nat} {x : AX} {n : Nd}
theorem AM.at {ao : Option Addr} {m cap : Nat} (h : AM w B F (.slice ao m cap) A) (hx : A[i]? = some x) : ∃ ga, ao = some ⟨ga, 0, none⟩ ∧ m = A.length ∧ w.cell? ⟨ga, i, none⟩ = some x.2.1 := by
  obtain ⟨g, e, hn, _, hc, _⟩ := ownsRow_cell h.row (j := i) (u := x.2.1) (by rw [List.getElem?_map, hx]; rfl)
  exact ⟨g, e, hn, hc⟩
theorem AM.size {v : Value} (h : AM w B F v A) (hx : A[i]? = some x) : ∃ ao cap, x.2.1 = .slice ao x.1.length cap := by
  obtain ⟨R, hR, hN⟩ := h.el i x hx
  obtain ⟨ao, cap, e⟩ := ownsRow_shape hN.row
  exact ⟨ao, cap, by rw [e, ← hR, List.length_map]⟩
/-- What a node of a list holds. -/
theorem AM.node {v : Value} (h : AM w B F v A) (hx : A[i]? = some x) (hn : x.1[k]? = some n) :
    ∃ g cap kv, x.2.1 = .slice (some ⟨g, 0, none⟩) x.1.length cap ∧ (∀ j u, j < 6 → (nc (n, kv))[j]? = some u → w.cell? ⟨g, k * 6 + j, none⟩ = some u ∧ w.frozen? ⟨g, k * 6 + j, none⟩ = false) ∧ w.ownsRow B 3 1 kv n.kids.length (icells n.kids) ∧
      (∀ kg m kc j y, kv = .slice (some ⟨kg, 0, none⟩) m kc → B ≤ kg ∧ ∃ F', AM (w.setCell ⟨kg, j, none⟩ (.int .i64 y)) B F' v (A.set i (x.1.set k { n with kids := n.kids.set j y }, x.2.1, x.2.2))) ∧
      (∀ y, B ≤ g ∧ ∃ F', AM (w.setCell ⟨g, k * 6, none⟩ (.int .i64 y)) B F' v (A.set i (x.1.set k { n with kind := y }, x.2.1, x.2.2))) ∧
      (∀ w2 kv' (ks' : List Int), w2.ownsRow B 3 1 kv' ks'.length (icells ks') → Tch (fun b => kv.ownBlock = some b) w w2 → (∀ b, kv'.ownBlock = some b → kv.ownBlock = some b ∨ w.heap.size ≤ b) →
        w2.cell? ⟨g, k * 6 + 5, none⟩ = some kv ∧ w2.frozen? ⟨g, k * 6 + 5, none⟩ = false ∧ ∃ F' Fx, AM (w2.setCell ⟨g, k * 6 + 5, none⟩ kv') B F' v (A.set i (x.1.set k { n with kids := ks' }, x.2.1, Fx))) := by
  obtain ⟨R, hR, hN⟩ := h.el i x hx
  have hk := hn
  rw [← hR, List.getElem?_map] at hk
  obtain ⟨y, hy, hy1⟩ : ∃ y, R[k]? = some y ∧ y.1 = n := by
    cases hz : R[k]? with
    | none => rw [hz] at hk; cases hk
    | some y => rw [hz] at hk; exact ⟨y, rfl, by simpa using hk⟩
  obtain ⟨yn, kv⟩ := y
  dsimp only at hy1
  subst hy1
  obtain ⟨g, cap, hv, hc⟩ := hN.at hy
  have hRl : R.length = x.1.length := by rw [← hR, List.length_map]
  have hgx : x.2.2 g := hN.own.1 g (by rw [hv]; rfl)
  have hkx : ∀ b, kv.ownBlock = some b → x.2.2 b := fun b hb => hN.own.2 k _ hy b hb
  have hN' := hN
  rw [hv] at hN'
  have hmap : ∀ z : Nd × Value, z.1 = z.1 → (R.set k z).map (·.1) = x.1.set k z.1 := fun z _ => by rw [List.map_set, hR]
  refine ⟨g, cap, kv, by rw [hv, hRl], hc, hN.kid k _ hy, fun kg m kc j y hkv => ?_, fun y => ?_, fun w2 kv' ks' row2 t hloc => ?_⟩
  · have hb : x.2.2 kg := hkx kg (by rw [hkv]; rfl)
    refine ⟨(hN.lt kg hb).1, _, h.alter hx (hmap ({ yn with kids := yn.kids.set j y }, kv) rfl) (by rw [hv]; have h2 := hN'.kidWrite hy hkv j y; rw [show R.length = (R.set k ({ yn with kids := yn.kids.set j y }, kv)).length by rw [List.length_set]] at h2; rw [List.length_set] at h2; exact h2) (Tch.setCell w (p := ⟨kg, j, none⟩) hb _) (fun _ h => .inl h)⟩
  · refine ⟨(hN.lt g hgx).1, _, h.alter hx (hmap ({ yn with kind := y }, kv) rfl) (by rw [hv]; have h2 := hN'.store (x' := ({ yn with kind := y }, kv)) hy (j := 0) (by omega) (u := .int .i64 y) rfl rfl rfl; exact h2) (Tch.setCell w (p := ⟨g, k * 6, none⟩) hgx _) (fun _ h => .inl h)⟩
  · obtain ⟨c1, c2, hN2⟩ := hN'.setKid hy row2 t hloc
    refine ⟨c1, c2, _, _, h.alter hx (hmap ({ yn with kids := ks' }, kv') rfl) (by rw [hv]; exact hN2) ((t.mono (fun b hb => hkx b hb)).trans (Tch.setCell (S := x.2.2) w2 (p := ⟨g, k * 6 + 5, none⟩) hgx _) (fun _ h => .inl h)) (fun b hb => ?_)⟩
    rcases hb with hb | hb
    · exact .inl hb
    · exact (hloc b hb).imp (fun h2 => hkx b h2) id
end
end Go.Proofs.Ytcnjmkjfgghgoaa
end

section
/- Lists grown by a node each, in place or apart, while the lists that they grew from stay: TreeOwn's third part, with no walk. -/
namespace Go.Proofs.Ytcnjmkjfgghgoaa
open Go.RowKit Go.Ln Go.Mp Go.Tr
set_option linter.unusedVariables false
def MarkN (e : Nat) (n : Nd) : Prop := n.kind = -(e : Int) - 1 ∧ ∀ z ∈ n.kids, z = -(e : Int) - 1
/-- 'append(v, x)', x one element of some cells, new: in place, or apart. -/
theorem wp_append_apart {P : Program} {w : World} {ops : Array Oper} {rest : List Oper} {o : Oper} {a : Act} {Q : Exit → Act → World → Prop} {us : List Value} {e' : TypeId} (hgd : o.guard = none) (s x : Operand) (t : TypeId)
    (ho : o.op = .call { callee := .builtin .append, args := #[s, x], argTypes := #[t, t] })
    (base : Nat) (e : TypeId) (i : TypeInfo) (z : Value) (size bytes : Nat) (ht : P.underlying t = some (.slice e)) (hi : P.info? e = some i) (hz : i.zero = some z)
    (hsize : i.size = size) (hby : i.bytes = bytes) (hzs : z.cells.size = size) (hpos : 0 < size)
    (v : Value) (n : Nat) (xs : List Value) (hs : a.eval s = v) (hown : w.ownsRow base e size v n xs)
    (c : Nat) (hx : a.eval x = .slice (some ⟨w.heap.size, 0, none⟩) 1 c) (hlen : us.length = size) (h1 : ∀ u ∈ us, u.oneCell' = true)
    (h63 : n + 1 ≤ maxLen) (hbytes : (n + 1) * bytes ≤ 140737488355328) (hbase : base ≤ w.heap.size)
    (h : ∀ v' w', w'.ownsRow base e size v' (n + 1) (xs ++ us) → w.grownBy w' v'.ownBlock → (v'.ownBlock = v.ownBlock ∨ ∃ g, v'.ownBlock = some g ∧ w.heap.size ≤ g) → wpList P ops Q rest (a.put o.dst v') w') :
    wpList P ops Q (o :: rest) a (w.alloc (.cells us.toArray e')) := by
  refine wpList_plain hgd fun K hK => ?_
  obtain ⟨v', w', hr, h2, h3, h5⟩ := run_append_apart (P := P) (w.alloc (.cells us.toArray e')) base t o.type e i z size bytes ht hi hz hsize hby hzs hpos v n xs (hown.alloc _) ⟨w.heap.size, 0, none⟩ 1 c us (by omega) (new_cells w us e') h1 h63 hbytes (by simp; omega)
  unfold Oper.wp execOp
  simp only [ho, resolve, invoke, builtin, Sem.run_bind, Sem.run_pure, Result.andThen_ok, List.map_toArray, List.map_cons, List.map_nil, hs, hx, hr]
  exact hK _ _ (h v' w' h2 (grownBy_alloc_left h3) (h5.imp id (fun q => ⟨_, q, by simp⟩)))
/-- What is told of a list that was grown, by cells alone. -/
structure DN (w : World) (F : Nat → Prop) (e n : Nat) (xv gx : Value) : Prop where
  old : ∃ ao cap, xv = .slice ao n cap ∧ ∀ k, k < n → ∃ g, ao = some ⟨g, 0, none⟩ ∧ F g ∧ w.cell? ⟨g, k * 6, none⟩ = some (.int .i64 (-(e : Int) - 1)) ∧ ∃ ko m kc, m ≤ maxLen ∧ w.cell? ⟨g, k * 6 + 5, none⟩ = some (.slice ko m kc) ∧ ∀ j, j < m → ∃ kg, ko = some ⟨kg, 0, none⟩ ∧ F kg ∧ w.cell? ⟨kg, j, none⟩ = some (.int .i64 (-(e : Int) - 1))
  new : ∃ g c, gx = .slice (some ⟨g, 0, none⟩) (n + 1) c ∧ F g ∧ w.cell? ⟨g, n * 6, none⟩ = some (.int .i64 (100 + (e : Int))) ∧ ∀ k, k < n → w.cell? ⟨g, k * 6, none⟩ = some (.int .i64 (-(e : Int) - 1))
section
variable {w w1 w2 wa wb : World} {B i : Nat} {F S : Nat → Prop} {v gv gv' nv xv : Value} {A : List AX} {G : List Value} {x : AX}
theorem DN.tch {e n : Nat} {gx : Value} (h : DN w F e n xv gx) (t : Tch S w w2) (hn : ∀ k, F k → ¬ S k) : DN w2 F e n xv gx := by
  obtain ⟨ao, cap, h1, h2⟩ := h.old
  obtain ⟨g, c, h3, h4, h5, h6⟩ := h.new
  refine ⟨⟨ao, cap, h1, fun k hk => ?_⟩, ⟨g, c, h3, h4, t.cell_some h5 (hn g h4), fun k hk => t.cell_some (h6 k hk) (hn g h4)⟩⟩
  obtain ⟨g', a1, a2, a3, ko, m, kc, a4, a5, a6⟩ := h2 k hk
  refine ⟨g', a1, a2, t.cell_some a3 (hn g' a2), ko, m, kc, a4, t.cell_some a5 (hn g' a2), fun j hj => ?_⟩
  obtain ⟨kg, b1, b2, b3⟩ := a6 j hj
  exact ⟨kg, b1, b2, t.cell_some b3 (hn kg b2)⟩
structure GM (w : World) (B i : Nat) (v gv : Value) (A : List AX) (G : List Value) : Prop where
  row : w.ownsRow B 50 1 v A.length (A.map (·.2.1))
  grow : w.ownsRow B 50 1 gv i G
  rest : ∀ (e : Nat) (x : AX), i ≤ e → A[e]? = some x → ∃ R, R.map (·.1) = x.1 ∧ NM w B x.2.2 x.2.1 R
  done : ∀ (e : Nat) (x : AX), e < i → A[e]? = some x → ∃ gx, G[e]? = some gx ∧ DN w x.2.2 e x.1.length x.2.1 gx
  apart : ∀ (e e' : Nat) (x y : AX), e ≠ e' → A[e]? = some x → A[e']? = some y → ∀ k, x.2.2 k → ¬ y.2.2 k
  off : ∀ (e : Nat) (x : AX), A[e]? = some x → ∀ k, x.2.2 k → v.ownBlock ≠ some k ∧ gv.ownBlock ≠ some k ∧ B ≤ k ∧ k < w.heap.size
  vg : ∀ k, v.ownBlock = some k → gv.ownBlock ≠ some k
theorem GM.start (h : AM w B F v A) : GM w B 0 v (.slice none 0 0) A [] :=
  ⟨h.row, World.ownsRow_nil _ _ _ _, fun e x _ hx => h.el e x hx, fun e x he => absurd he (Nat.not_lt_zero e), h.apart, fun e x hx k hk => ⟨(h.sub e x hx k hk).2, fun q => (by cases q), h.lt k (h.sub e x hx k hk).1⟩, fun k _ q => by cases q⟩
theorem GM.tch (h : GM w B i v gv A G) (t : Tch No w w2) : GM w2 B i v gv A G :=
  ⟨ownsRow_tch h.row t (fun _ _ q => q), ownsRow_tch h.grow t (fun _ _ q => q), fun e x he hx => by
    obtain ⟨R, h1, h2⟩ := h.rest e x he hx
    exact ⟨R, h1, h2.tch t (fun _ _ q => q)⟩, fun e x he hx => by
    obtain ⟨gx, h1, h2⟩ := h.done e x he hx
    exact ⟨gx, h1, h2.tch t (fun _ _ q => q)⟩, h.apart, fun e x hx k hk => by
    obtain ⟨h1, h2, h3, h4⟩ := h.off e x hx k hk
    exact ⟨h1, h2, h3, Nat.lt_of_lt_of_le h4 t.size⟩, h.vg⟩
def newNd (i : Nat) : List Value := [.int .i64 (100 + (i : Int)), .string ⟨#[]⟩, .string ⟨#[]⟩, .bool false, .int .i64 0, .slice none 0 0]
/-- One list more is grown. -/
theorem GM.step (h : GM w B i v gv A G) (hx : A[i]? = some x) {R : List (Nd × Value)} (hR : R.map (·.1) = x.1) (hN : NM w B x.2.2 x.2.1 R) (hm : ∀ n ∈ x.1, MarkN i n) (ta : Tch No w wa)
    (row1 : w1.ownsRow B 58 6 nv (x.1.length + 1) (ncs R ++ newNd i)) (g1 : wa.grownBy w1 nv.ownBlock) (l1 : nv.ownBlock = x.2.1.ownBlock ∨ ∃ g, nv.ownBlock = some g ∧ wa.heap.size ≤ g) (tb : Tch No w1 wb)
    (row2 : w2.ownsRow B 50 1 gv' (i + 1) (G ++ [nv])) (g2 : Tch (fun k => gv.ownBlock = some k) wb w2) (l2 : ∀ k, gv'.ownBlock = some k → gv.ownBlock = some k ∨ wb.heap.size ≤ k) :
    GM w2 B (i + 1) v gv' (A.set i (x.1, x.2.1, fun k => x.2.2 k ∨ nv.ownBlock = some k)) (G ++ [nv]) := by
  have hil := (List.getElem?_eq_some_iff.1 hx).1
  have hRl : R.length = x.1.length := by rw [← hR, List.length_map]
  have t1 : Tch (fun k => nv.ownBlock = some k) w w1 := (ta.mono (fun _ q => q.elim)).trans (Tch.grown g1 (fun k q => .inl q)) (fun k q => .inl q)
  have t12 : Tch (fun k => gv.ownBlock = some k) w1 w2 := (tb.mono (fun _ q => q.elim)).trans g2 (fun k q => .inl q)
  have t2 : Tch (fun k => nv.ownBlock = some k ∨ gv.ownBlock = some k) w w2 := (t1.mono (fun _ q => .inl q)).trans t12 (fun k q => .inl (.inr q))
  have hnvx : ∀ k, nv.ownBlock = some k → x.2.2 k ∨ w.heap.size ≤ k := fun k hk => by
    rcases l1 with q | q
    · exact .inl (hN.own.1 k (by rw [← q]; exact hk))
    · obtain ⟨g0, q3, q4⟩ := q
      rw [q3] at hk; cases hk; exact .inr (Nat.le_trans ta.size q4)
  have hnvlt : ∀ k, nv.ownBlock = some k → B ≤ k ∧ k < w1.heap.size := fun k hk => ownsRow_ge row1 hk
  have hgvlt : ∀ k, gv.ownBlock = some k → k < w.heap.size := fun k hk => (ownsRow_ge h.grow hk).2
  have hvlt : ∀ k, v.ownBlock = some k → k < w.heap.size := fun k hk => (ownsRow_ge h.row hk).2
  have hngv : ∀ k, nv.ownBlock = some k → gv.ownBlock ≠ some k := fun k hk q => by
    rcases hnvx k hk with q2 | q2
    · exact (h.off i x hx k q2).2.1 q
    · have := hgvlt k q; omega
  have hnv_v : ∀ k, nv.ownBlock = some k → v.ownBlock ≠ some k := fun k hk q => by
    rcases hnvx k hk with q2 | q2
    · exact (h.off i x hx k q2).1 q
    · have := hvlt k q; omega
  have hoth : ∀ (e : Nat) (y : AX), e ≠ i → A[e]? = some y → ∀ k, y.2.2 k → ¬ (nv.ownBlock = some k ∨ gv.ownBlock = some k) := fun e y he hy k hk q => by
    rcases q with q | q
    · rcases hnvx k q with q2 | q2
      · exact h.apart e i y x he hy hx k hk q2
      · have := (h.off e y hy k hk).2.2.2; omega
    · exact (h.off e y hy k hk).2.1 q
  have hat : ∀ (j : Nat) (z : AX), (A.set i (x.1, x.2.1, fun k => x.2.2 k ∨ nv.ownBlock = some k))[j]? = some z → (j = i ∧ z = (x.1, x.2.1, fun k => x.2.2 k ∨ nv.ownBlock = some k)) ∨ (j ≠ i ∧ A[j]? = some z) := fun j z hz => by
    by_cases e : i = j
    · subst e
      rw [List.getElem?_set_self hil] at hz
      exact .inl ⟨rfl, (Option.some.inj hz).symm⟩
    · rw [List.getElem?_set_ne e] at hz
      exact .inr ⟨fun q => e q.symm, hz⟩
  have hsz : w.heap.size ≤ w1.heap.size := t1.size
  have hsz2 : w1.heap.size ≤ w2.heap.size := t12.size
  have hgl : G.length = i := by have := h.grow.1; omega
  -- the old row's cells stay
  obtain ⟨ao, cap, hxv⟩ := ownsRow_shape hN.row
  have hold : ∀ j u, (ncs R)[j]? = some u → ∃ g, ao = some ⟨g, 0, none⟩ ∧ x.2.2 g ∧ w1.cell? ⟨g, j, none⟩ = some u := fun j u hu => by
    have hr := hN.row
    rw [hxv] at hr
    obtain ⟨g, e1, _, _, e2, _⟩ := ownsRow_cell hr hu
    have hgF : x.2.2 g := hN.own.1 g (by rw [hxv, e1]; rfl)
    refine ⟨g, e1, hgF, ?_⟩
    rcases l1 with q | q
    · have hr1 := row1
      obtain ⟨no, nc', hnv⟩ := ownsRow_shape row1
      rw [hnv] at hr1
      have hu2 : (ncs R ++ newNd i)[j]? = some u := by
        rw [List.getElem?_append_left (List.getElem?_eq_some_iff.1 hu).1]; exact hu
      obtain ⟨g2, f1, _, _, f2, _⟩ := ownsRow_cell hr1 hu2
      rw [hnv, hxv, f1, e1] at q
      simp only [Value.ownBlock, Option.some.injEq] at q
      rw [← q]; exact f2
    · obtain ⟨g0, q3, q4⟩ := q
      refine t1.cell_some e2 (fun q2 => ?_)
      rw [q3] at q2
      have h7 := (h.off i x hx g hgF).2.2.2
      have h8 := ta.size
      cases q2
      omega
  have hkid : ∀ (k : Nat) (y : Nd × Value), R[k]? = some y → w2.ownsRow B 3 1 y.2 y.1.kids.length (icells y.1.kids) := fun k y hy => by
    refine ownsRow_tch (hN.kid k y hy) t2 (fun g hg q => ?_)
    have hgF := hN.own.2 k y hy g hg
    rcases q with q | q
    · rcases l1 with q2 | q2
      · exact rows_apart (hN.kid k y hy) hN.row (by decide) g hg (by rw [← q2]; exact q)
      · obtain ⟨g0, q3, q4⟩ := q2
        rw [q3] at q
        have h7 := (h.off i x hx g hgF).2.2.2
        have h8 := ta.size
        cases q
        omega
    · exact (h.off i x hx g hgF).2.1 q
  have hdone : DN w2 (fun k => x.2.2 k ∨ nv.ownBlock = some k) i x.1.length x.2.1 nv := by
    have hmk : ∀ (k : Nat) (y : Nd × Value), R[k]? = some y → MarkN i y.1 := fun k y hy => hm y.1 (by rw [← hR]; exact List.mem_map_of_mem (List.mem_of_getElem? hy))
    have hget : ∀ k, k < x.1.length → ∃ y, R[k]? = some y := fun k hk => ⟨_, List.getElem?_eq_getElem (by omega)⟩
    have hgx : ∀ g, x.2.2 g → gv.ownBlock ≠ some g := fun g hg => (h.off i x hx g hg).2.1
    refine ⟨⟨ao, cap, by rw [hxv, hRl], fun k hk => ?_⟩, ?_⟩
    · obtain ⟨y, hy⟩ := hget k hk
      obtain ⟨m1, m2⟩ := hmk k y hy
      obtain ⟨g, e1, e2, e3⟩ := hold (k * 6 + 0) (.int .i64 y.1.kind) (by rw [ncs_at hy 0 (by omega)]; rfl)
      obtain ⟨g', f1, f2, f3⟩ := hold (k * 6 + 5) y.2 (by rw [ncs_at hy 5 (by omega)]; rfl)
      rw [e1] at f1
      simp only [Option.some.injEq, Addr.mk.injEq, and_true] at f1
      subst f1
      obtain ⟨ko, kc, hks⟩ := ownsRow_shape (hkid k y hy)
      refine ⟨g, e1, .inl e2, by rw [← m1]; exact t12.cell_some e3 (hgx g e2), ko, y.1.kids.length, kc, ?_, by rw [← hks]; exact t12.cell_some f3 (hgx g e2), fun j hj => ?_⟩
      · have hk2 := hkid k y hy
        rcases hk2.2 with ⟨_, q⟩ | ⟨_, _, _, _, _, _, q1, q2, _⟩
        · rw [q]; exact Nat.zero_le _
        · exact Nat.le_trans q1 q2
      · have hk2 := hkid k y hy
        obtain ⟨z, hz⟩ : ∃ z, y.1.kids[j]? = some z := ⟨_, List.getElem?_eq_getElem hj⟩
        have hzz := m2 z (List.mem_of_getElem? hz)
        have hko : y.2.ownBlock = (Value.slice ko y.1.kids.length kc).ownBlock := by rw [hks]
        rw [hks] at hk2
        obtain ⟨kg, b1, _, _, b2, _⟩ := ownsRow_cell hk2 (j := j) (u := .int .i64 z) (by simp [icells, hz])
        refine ⟨kg, b1, .inl (hN.own.2 k y hy kg (by rw [hko, b1]; rfl)), by rw [← hzz]; exact b2⟩
    · have hr1 := row1
      obtain ⟨no, nc', hnv⟩ := ownsRow_shape row1
      rw [hnv] at hr1
      have hlen : (ncs R).length = x.1.length * 6 := by rw [ncs_length, hRl]
      have hu0 : (ncs R ++ newNd i)[x.1.length * 6]? = some (.int .i64 (100 + (i : Int))) := by
        rw [List.getElem?_append_right (by omega), hlen, Nat.sub_self]; rfl
      obtain ⟨g, f1, _, _, f2, _⟩ := ownsRow_cell hr1 hu0
      have hgn : nv.ownBlock = some g := by rw [hnv, f1]; rfl
      refine ⟨g, nc', by rw [hnv, f1], .inr hgn, t12.cell_some f2 (hngv g hgn), fun k hk => ?_⟩
      obtain ⟨y, hy⟩ := hget k hk
      obtain ⟨m1, m2⟩ := hmk k y hy
      have hu : (ncs R ++ newNd i)[k * 6 + 0]? = some (.int .i64 y.1.kind) := by
        rw [List.getElem?_append_left (by omega), ncs_at hy 0 (by omega)]; rfl
      obtain ⟨g', e1, _, _, e2, _⟩ := ownsRow_cell hr1 hu
      rw [f1] at e1
      simp only [Option.some.injEq, Addr.mk.injEq, and_true] at e1
      subst e1
      rw [← m1]
      exact t12.cell_some e2 (hngv g hgn)
  have hmap : (A.set i (x.1, x.2.1, fun k => x.2.2 k ∨ nv.ownBlock = some k)).map (·.2.1) = A.map (·.2.1) := by
    rw [List.map_set]
    refine List.ext_getElem? (fun j => ?_)
    by_cases e : i = j
    · subst e
      rw [List.getElem?_set_self (by simpa using hil), List.getElem?_map, hx]; rfl
    · rw [List.getElem?_set_ne e]
  have hl2 : ∀ k, k < w1.heap.size → gv.ownBlock ≠ some k → gv'.ownBlock ≠ some k := fun k hk hk2 q => by
    rcases l2 k q with q2 | q2
    · exact hk2 q2
    · have := tb.size; omega
  refine ⟨?_, row2, fun e y he hy => ?_, fun e y he hy => ?_, fun e e' y z hee hy hz k hk hk' => ?_, fun e y hy k hk => ?_, fun k hk => hl2 k (by have := hvlt k hk; omega) (h.vg k hk)⟩
  · rw [List.length_set, hmap]
    exact ownsRow_tch h.row t2 (fun k hk q => q.elim (fun q => hnv_v k q hk) (fun q => h.vg k hk q))
  · rcases hat e y hy with ⟨rfl, _⟩ | ⟨hne, hy1⟩
    · omega
    · obtain ⟨R', e1, e2⟩ := h.rest e y (by omega) hy1
      exact ⟨R', e1, e2.tch t2 (hoth e y hne hy1)⟩
  · rcases hat e y hy with ⟨rfl, rfl⟩ | ⟨hne, hy1⟩
    · exact ⟨nv, by rw [List.getElem?_append_right (by omega), hgl, Nat.sub_self]; rfl, hdone⟩
    · obtain ⟨gx, e1, e2⟩ := h.done e y (by omega) hy1
      exact ⟨gx, by rw [List.getElem?_append_left (List.getElem?_eq_some_iff.1 e1).1]; exact e1, e2.tch t2 (hoth e y hne hy1)⟩
  · rcases hat e y hy with ⟨e1, rfl⟩ | ⟨hne, hy1⟩ <;> rcases hat e' z hz with ⟨e2, rfl⟩ | ⟨hne', hz1⟩
    · omega
    · rcases hk with hk | hk
      · exact h.apart i e' x z (fun q => hne' q.symm) hx hz1 k hk hk'
      · exact hoth e' z hne' hz1 k hk' (.inl hk)
    · rcases hk' with hk' | hk'
      · exact h.apart e i y x hne hy1 hx k hk hk'
      · exact hoth e y hne hy1 k hk (.inl hk')
    · exact h.apart e e' y z hee hy1 hz1 k hk hk'
  · have key : ∀ k, (v.ownBlock ≠ some k ∧ gv.ownBlock ≠ some k ∧ B ≤ k ∧ k < w1.heap.size) → v.ownBlock ≠ some k ∧ gv'.ownBlock ≠ some k ∧ B ≤ k ∧ k < w2.heap.size := fun k ⟨q1, q2, q3, q4⟩ => ⟨q1, hl2 k q4 q2, q3, Nat.lt_of_lt_of_le q4 hsz2⟩
    rcases hat e y hy with ⟨e1, rfl⟩ | ⟨hne, hy1⟩
    · rcases hk with hk | hk
      · obtain ⟨q1, q2, q3, q4⟩ := h.off i x hx k hk
        exact key k ⟨q1, q2, q3, by omega⟩
      · obtain ⟨q3, q4⟩ := hnvlt k hk
        exact key k ⟨fun q => hnv_v k hk q, hngv k hk, q3, q4⟩
    · obtain ⟨q1, q2, q3, q4⟩ := h.off e y hy1 k hk
      exact key k ⟨q1, q2, q3, by omega⟩
theorem grow_off (h : GM w B i v gv A G) (hx : A[i]? = some x) {R : List (Nd × Value)} (l1 : nv.ownBlock = x.2.1.ownBlock ∨ ∃ g, nv.ownBlock = some g ∧ w.heap.size ≤ g) (hN : NM w B x.2.2 x.2.1 R) : ∀ g, gv.ownBlock = some g → ¬ nv.ownBlock = some g := fun g hg q => by
  rcases l1 with q2 | ⟨g0, q3, q4⟩
  · exact (h.off i x hx g (hN.own.1 g (by rw [← q2]; exact q))).2.1 hg
  · rw [q3] at q; cases q
    have := (ownsRow_ge h.grow hg).2
    omega
theorem GM.len (h : GM w B i v gv A G) : G.length = i := by have := h.grow.1; omega
/-- The cell of an entry, of all and of grown. -/
theorem GM.at {ao : Option Addr} {n cap : Nat} (h : GM w B i (.slice ao n cap) gv A G) (hx : A[i]? = some x) : ∃ ga, ao = some ⟨ga, 0, none⟩ ∧ w.cell? ⟨ga, i, none⟩ = some x.2.1 := by
  obtain ⟨g, e, _, _, hc, _⟩ := ownsRow_cell h.row (j := i) (u := x.2.1) (by rw [List.getElem?_map, hx]; rfl)
  exact ⟨g, e, hc⟩
theorem GM.both {ao go : Option Addr} {n cap m gcap e : Nat} (h : GM w B i (.slice ao n cap) (.slice go m gcap) A G) (he : e < i) (hx : A[e]? = some x) : ∃ ga gg gx, ao = some ⟨ga, 0, none⟩ ∧ go = some ⟨gg, 0, none⟩ ∧ w.cell? ⟨ga, e, none⟩ = some x.2.1 ∧ w.cell? ⟨gg, e, none⟩ = some gx ∧ DN w x.2.2 e x.1.length x.2.1 gx := by
  obtain ⟨gx, h1, h2⟩ := h.done e x he hx
  obtain ⟨g, e1, _, _, hc, _⟩ := ownsRow_cell h.row (j := e) (u := x.2.1) (by rw [List.getElem?_map, hx]; rfl)
  obtain ⟨g', e2, _, _, hc', _⟩ := ownsRow_cell h.grow (j := e) (u := gx) h1
  exact ⟨g, g', gx, e1, e2, hc, hc', h2⟩
end
end Go.Proofs.Ytcnjmkjfgghgoaa
end

section
/- The law TreeOwn, walked. -/
namespace Go.Proofs.Ytcnjmkjfgghgoaa
open Go.RowKit Go.Ln Go.Mp Go.Tr
set_option linter.unusedVariables false
set_option maxRecDepth 100000
set_option maxHeartbeats 4000000
def Off (i : Nat) (A A' : List AX) : Prop := A'.length = A.length ∧ ∀ e, e ≠ i → A'[e]? = A[e]?
theorem Off.refl (i : Nat) (A : List AX) : Off i A A := ⟨rfl, fun _ _ => rfl⟩
theorem Off.set {i : Nat} {A A' : List AX} (h : Off i A A') (y : AX) : Off i A (A'.set i y) := ⟨by rw [List.length_set]; exact h.1, fun e he => by rw [List.getElem?_set_ne (fun q => he q.symm)]; exact h.2 e he⟩
theorem neg_wrap {i : Nat} (h : i ≤ 1000) : wrap64 (-(i : Int)) = -(i : Int) ∧ wrap64 (-(i : Int) - 1) = -(i : Int) - 1 := ⟨by unfold wrap64; omega, by unfold wrap64; omega⟩
theorem hundredW {i : Nat} (h : i ≤ 1000) : IntKind.i64.wrap (100 + (i : Int)) = 100 + (i : Int) := by rw [IntKind.wrap_i64]; omega
theorem nn_max {j m : Nat} (h : j < m) (hm : m ≤ maxLen) : wrap64 ((j : Int) + 1) = ((j + 1 : Nat) : Int) := by unfold wrap64; unfold maxLen at hm; omega
theorem hundred {i : Nat} (h : i ≤ 1000) : wrap64 (100 + (i : Int)) = 100 + (i : Int) := by unfold wrap64; omega
def Small (A : List AX) : Prop := ∀ x ∈ A, x.1.length ≤ 4096 ∧ ∀ n ∈ x.1, n.kids.length ≤ 4096
theorem BytS.held {w w' : World} {b : Nat} {v : Value} {l : List UInt8} (h : BytS w b v l) (hb : b < w.heap.size) (t : Tch No w w') : BytS w' b v l ∧ b < w'.heap.size := ⟨h.keep (t.block b hb id), Nat.lt_of_lt_of_le hb t.size⟩
theorem withKey_self2 {t : T} (h : t.key.toList = []) : t.withKey ⟨#[]⟩ = t := by
  obtain ⟨n, key, tx, q, l, ks⟩ := t
  have : key = ⟨#[]⟩ := by
    rw [Lib.toList_data] at h
    obtain ⟨d⟩ := key
    have : d.toList = [] := h
    rw [Array.toList_eq_nil_iff.1 this]
  subst this
  rfl
theorem small_lay {t : T} (h : t.size ≤ 4096) : (lay 0 t).length ≤ 4096 ∧ ∀ n ∈ lay 0 t, n.kids.length ≤ 4096 := ⟨by rw [lay_length]; exact h, fun n hn => by have := (bounds_lay 0 t n hn).1; omega⟩
def KidOut (W w : World) (v : Value) (A : List AX) (i k : Nat) (x : AX) (n : Nd) : Prop := ∃ F' Fx, AM w W.heap.size F' v (A.set i (x.1.set k n, x.2.1, Fx)) ∧ Tch No W w
theorem tree_own {W : World} {b0 b1 : Nat} {v0 v1 : Value} {l0 l1 : List UInt8} {m : Int} (h0 : BytS W b0 v0 l0) (hb0 : b0 < W.heap.size) (h1 : BytS W b1 v1 l1) (hb1 : b1 < W.heap.size) (hm : W.cell? ⟨0, 0, none⟩ = some (.int .i64 m)) :
    Calls Try.prog 8 #[v0, v1] W fun e w' => e = .returned (.bool true) ∧ Tch No W w' := by
  have hAw := awake_any W m hm
  obtain ⟨ao0, c0, rfl⟩ := h0.shape
  obtain ⟨ao1, c1, rfl⟩ := h1.shape
  obtain ⟨jt, hj, hj0, hj1, hj2⟩ := info_parts info50
  obtain ⟨i3, hp, hp0, hp1, hp2⟩ := info_parts info3
  replace h0 := Lib.hid h0
  replace hb0 := Lib.hid hb0
  replace h1 := Lib.hid h1
  replace hb1 := Lib.hid hb1
  replace hm := Lib.hid hm
  replace hAw := Lib.hid hAw
  replace hj := Lib.hid hj
  replace hj0 := Lib.hid hj0
  replace hj1 := Lib.hid hj1
  replace hj2 := Lib.hid hj2
  replace hp := Lib.hid hp
  replace hp0 := Lib.hid hp0
  replace hp1 := Lib.hid hp1
  replace hp2 := Lib.hid hp2
  go_enter Try.func8, Try.ntmps8
  go_upto_region 4 with (first
    | (go_at_call 19; (with_reducible refine hAw.out.mono ?_); rintro e w1 ⟨rfl, t1⟩; replace t1 := Lib.hid t1)
    | fail)
  have hA0 := Lib.hid (AM.nil w1 W.heap.size)
  have hs0 : Hid (Small []) := Lib.hid (fun x hx => by cases hx)
  go_wp2
  go_loopg [5, 6] (3 + 1) (fun gg av iv wr => ∃ (i : Nat) (F : Nat → Prop) (A : List AX), gg = 3 - i + 1 ∧ iv = .int .i64 i ∧ i ≤ 3 ∧ A.length ≤ 18 * i ∧ Hid (AM wr W.heap.size F av A) ∧ Hid (Small A) ∧ Tch No W wr)
  case atStart => exact ⟨0, No, [], rfl, rfl, by omega, Nat.zero_le _, hA0, hs0, t1.out⟩
  case round =>
    obtain ⟨i, F, A, rfl, rfl, hi3, hAl, hA, hSm, tr⟩ := hrel
    by_cases hlt : i < 3
    · have k0 : (i : Int) < 3 := by omega
      obtain ⟨wo, hwo⟩ : ∃ wo, wo = wr := ⟨_, rfl⟩
      subst hwo
      obtain ⟨ta, tc, hta⟩ := ownsRow_shape hA.out.row
      subst hta
      by_cases hi1 : i = 1
      · have hib : ((i : Int) == 1) = true := by rw [beq_iff_eq]; omega
        replace hi1 := Lib.hid hi1
        obtain ⟨q1, q2⟩ := h1.out.held hb1.out tr
        have hP := parse_own q1 q2 (tr.cell_some hm.out id)
        replace hP := Lib.hid hP
        replace q1 := Lib.hid q1
        replace q2 := Lib.hid q2
        replace hi3 := Lib.hid hi3
        replace hAl := Lib.hid hAl
        replace tr := Lib.hid tr
        go_upto_region 11 with (first
          | (go_at_call 16; (with_reducible refine hP.out.mono ?_); intro e w2 hw2; obtain ⟨tv, fa, fb, fc, FL, L, rfl, hT, hMay, t2⟩ := hw2; obtain ⟨tb, tcp, htv⟩ := ownsRow_shape hT.row; subst htv; replace hT := Lib.hid hT; replace hMay := Lib.hid hMay; replace t2 := Lib.hid t2)
          | fail)
        obtain ⟨w3, hw3⟩ : ∃ w3, w3 = w2.alloc (.cells #[.int .i64 fa, .int .i64 fb, .int .i64 fc] 28) := ⟨_, rfl⟩
        obtain ⟨c9, hc9⟩ : ∃ b, b = w2.heap.size := ⟨_, rfl⟩
        rw [← hw3, ← hc9]
        have t23 : Tch No w2 w3 := by rw [hw3]; exact Tch.alloc No w2 _
        have t3 : Tch No wo w3 := t2.out.trans t23 (fun _ h => h.elim)
        have hA3 := Lib.hid (hA.out.tch t3 (fun _ _ h => h))
        have hT3 := Lib.hid (hT.out.tch t23 (fun _ _ h => h))
        have hfl : Hid (∀ b, FL b → (Value.slice ta A.length tc).ownBlock ≠ some b) := Lib.hid (fun b hb e => by
          have q3 := (hT.out.lt b hb).1
          have q4 := (hA.out.lt b (hA.out.own b e)).2
          omega)
        have hfd : Hid (∀ (j : Nat) (x : TrX), 0 ≤ j → L[j]? = some x → ∀ b, x.2.2 b → ¬ F b) := Lib.hid (fun j x _ hx b hb hF => by
          have q3 := (hT.out.lt b (hT.out.sub j x hx b hb).1).1
          have q4 := (hA.out.lt b hF).2
          omega)
        have tr3 := Lib.hid (tr.out.trans t3 (fun _ h => h.elim))
        have hwk : Hid (wrap64 ((i : Int) + 1) = ((i + 1 : Nat) : Int)) := Lib.hid (by unfold wrap64; omega)
        replace hw3 := Lib.hid hw3
        replace hc9 := Lib.hid hc9
        replace t23 := Lib.hid t23
        replace t3 := Lib.hid t3
        go_wp2
        go_loopg [5, 10] (L.length + 1) (fun g2 av kv wx => ∃ (k : Nat) (F' : Nat → Prop) (A' : List AX), g2 = L.length - k + 1 ∧ kv = .int .i64 k ∧ k ≤ L.length ∧ k ≤ 9 ∧ A'.length = A.length + 2 * k ∧ Hid (AM wx W.heap.size F' av A') ∧ Hid (Small A') ∧ Hid (TM wx wo.heap.size FL (.slice tb L.length tcp) L) ∧ Hid (∀ b, FL b → av.ownBlock ≠ some b) ∧ Hid (∀ (j : Nat) (x : TrX), k ≤ j → L[j]? = some x → ∀ b, x.2.2 b → ¬ F' b) ∧ Tch No W wx)
        case atStart => exact ⟨0, F, A, rfl, rfl, Nat.zero_le _, by omega, rfl, hA3, hSm, hT3, hfl, hfd, tr3.out⟩
        case round =>
          obtain ⟨k, F', A', rfl, rfl, hkl, hk9, hAk, hAx, hSx, hTx, hflx, hfdx, trx⟩ := hrel
          obtain ⟨wx, hwx⟩ : ∃ wx, wx = wr := ⟨_, rfl⟩
          subst hwx
          obtain ⟨ta2, tc2, hta2⟩ := ownsRow_shape hAx.out.row
          subst hta2
          by_cases hq1 : k < L.length
          · have j0 := nn_lt hq1
            by_cases hq2 : k < 9
            · have j1 : (k : Int) < 9 := by omega
              obtain ⟨x, hx⟩ : ∃ x, L[k]? = some x := ⟨_, List.getElem?_eq_getElem hq1⟩
              obtain ⟨m1, m2, m3⟩ := hMay.out x (List.mem_of_getElem? hx)
              obtain ⟨R, hR1, hR2⟩ := hTx.out.el k x hx
              obtain ⟨gv, no, nc, rfl, hnq, cv, hev, hNd, _, hcap⟩ := hTx.out.elem hx m2
              have hflg := hTx.out.own gv rfl
              rw [hev] at hR2
              have hmay := mayR_lay m1 m2 m3
              have tdr : Tch No wx wx.drew := Tch.drew No wx
              have hSub : Calls Try.prog 27 #[.slice no x.1.size nc, .int .i64 0] wx.drew fun e w' => ∃ v' F2 R2, e = .returned v' ∧ R2.map (·.1) = lay 0 x.1 ∧ NM w' wx.heap.size F2 v' R2 ∧ Tch No wx w' := by
                refine (sub_may (i := 0) (s := x.1) m2 hmay m1 ⟨[], by simp⟩ (hNd.tch tdr) hcap).mono ?_
                rw [withKey_self2 m3]
                rintro e w' ⟨v', F2, R2, rfl, r1, r2, r3⟩
                exact ⟨v', F2, R2, rfl, r1, r2, tdr.trans r3 (fun _ h => h.elim)⟩
              obtain ⟨sz, hsz⟩ : ∃ sz, sz = x.1.size := ⟨_, rfl⟩
              rw [← hsz] at cv hSub hR2 hNd
              clear hnq
              replace hkl := Lib.hid hkl
              replace hk9 := Lib.hid hk9
              replace hAk := Lib.hid hAk
              replace hx := Lib.hid hx
              replace m1 := Lib.hid m1
              replace m2 := Lib.hid m2
              replace m3 := Lib.hid m3
              replace hR1 := Lib.hid hR1
              replace hR2 := Lib.hid hR2
              replace hev := Lib.hid hev
              replace hNd := Lib.hid hNd
              replace hcap := Lib.hid hcap
              replace hflg := Lib.hid hflg
              replace hmay := Lib.hid hmay
              replace tdr := Lib.hid tdr
              replace hSub := Lib.hid hSub
              replace hsz := Lib.hid hsz
              replace trx := Lib.hid trx
              have hbx : W.heap.size ≤ wx.heap.size := trx.out.size
              have hwk3 : Hid (wrap64 ((k : Int) + 1) = ((k + 1 : Nat) : Int)) := Lib.hid (by unfold wrap64; omega)
              have hlim : A'.length + 2 ≤ maxLen ∧ (A'.length + 2) * 24 ≤ 140737488355328 := by have := hAl.out; have := hAk.out; unfold maxLen; omega
              replace hbx := Lib.hid hbx
              replace hlim := Lib.hid hlim
              go_upto_region 14 with fail
              go_region_held3 (fun w' => w'.cell? ⟨gv, k, none⟩ = some (.slice no sz nc)) (first | go_keep | exact hcS.out | exact hc7.out | fail)
                (first
                  | (go_at_call 27; (with_reducible refine hSub.out.mono ?_); rintro e wS ⟨vS, F2, R2, rfl, r1, r2, tS⟩; obtain ⟨so, sc, hvS⟩ := ownsRow_shape r2.row; subst hvS; have hcS := Lib.hid (tS.cell_some cv id); have hrowS := Lib.hid (ownsRow_tch hAx.out.row tS (fun _ _ h => h)); have hBS := Lib.hid (Nat.le_trans hbx.out tS.size); replace r1 := Lib.hid r1; replace r2 := Lib.hid r2; replace tS := Lib.hid tS)
                  | (refine step_append_um (us := [.slice no sz nc, .slice so R2.length sc]) (by rfl) _ _ 25 (by rfl) W.heap.size 50 jt (.slice none 0 0) 1 24 Try.underlying25 hj.out hj0.out hj1.out hj2.out rfl (by decide) _ A'.length 2 _ (by rfl) hrowS.out 2 (by rfl) rfl (by simp [Value.oneCell']) hlim.out.1 hlim.out.2 hBS.out ?_; intro v7 w7 hr7 hg7 hl7; have hc7 := Lib.hid ((Tch.grown (S := fun b => (Value.slice ta2 A'.length tc2).ownBlock = some b) hg7 (fun b hb => .inl hb)).cell_some hcS.out (hflx.out gv hflg.out)); obtain ⟨ta7, tc7, hv7⟩ := ownsRow_shape hr7; subst hv7; replace hr7 := Lib.hid hr7; replace hg7 := Lib.hid hg7; replace hl7 := Lib.hid hl7)
                  | fail)
              have hR2l : R2.length = sz := by rw [← List.length_map (f := (·.1)), r1.out, lay_length, hsz.out]
              have tg7 : Tch (fun b => (Value.slice ta2 A'.length tc2).ownBlock = some b) wS w7 := Tch.grown hg7.out (fun b hb => .inl hb)
              have hAS := hAx.out.tch tS.out (fun _ _ h => h)
              have hTS := hTx.out.tch tS.out (fun _ _ h => h)
              have hlow : wo.heap.size ≤ wx.heap.size → True := fun _ => trivial
              have hWo : W.heap.size ≤ wo.heap.size := tr.out.size
              have hxF : ∀ b, x.2.2 b → b < wx.heap.size := fun b hb => (hR2.out.lt b hb).2
              have hF2 : ∀ b, F2 b → wx.heap.size ≤ b := fun b hb => (r2.out.lt b hb).1
              have hF'lt : ∀ b, F' b → b < wx.heap.size := fun b hb => (hAx.out.lt b hb).2
              have hpush := hAS.push2 (x := (lay 0 x.1, .slice no sz nc, x.2.2)) (y := (lay 0 x.1, .slice so R2.length sc, F2))
                ⟨R, hR1.out, (hR2.out.tch tS.out (fun _ _ h => h)).lower hWo⟩ ⟨R2, r1.out, r2.out.lower hbx.out⟩
                (fun b hb => hfdx.out k x (Nat.le_refl _) hx.out b hb) (fun b hb hF => by have := hF2 b hb; have := hF'lt b hF; omega) (fun b hb hb2 => by have := hxF b hb; have := hF2 b hb2; omega)
                hr7.out tg7 hl7.out
              have hT7 := hTS.tch tg7 (fun b hb e => hflx.out b hb e)
              have hfl7 : ∀ b, FL b → (Value.slice ta7 (A'.length + 2) tc7).ownBlock ≠ some b := fun b hb e => by
                rcases hl7.out b e with q3 | q3
                · exact hflx.out b hb q3
                · have q4 := (hTx.out.lt b hb).2
                  have q5 := tS.out.size
                  omega
              have hfd7 : ∀ (j : Nat) (y : TrX), k + 1 ≤ j → L[j]? = some y → ∀ b, y.2.2 b → ¬ (F' b ∨ x.2.2 b ∨ F2 b ∨ (Value.slice ta7 (A'.length + 2) tc7).ownBlock = some b) := fun j y hj2 hy b hb hor => by
                have hFb := (hTx.out.sub j y hy b hb).1
                rcases hor with q | q | q | q
                · exact hfdx.out j y (by omega) hy b hb q
                · exact hTx.out.apart j k y x (by omega) hy hx.out b hb q
                · have := hF2 b q; have := (hTx.out.lt b hFb).2; omega
                · exact hfl7 b hFb q
              have hSm7 : Small (A' ++ [(lay 0 x.1, .slice no sz nc, x.2.2), (lay 0 x.1, .slice so R2.length sc, F2)]) := fun z hz => by
                rcases List.mem_append.1 hz with h | h
                · exact hSx.out z h
                · simp only [List.mem_cons, List.not_mem_nil, or_false] at h
                  rcases h with rfl | rfl
                  · exact small_lay m2.out
                  · exact small_lay m2.out
              have tr7 : Tch No W w7 := (trx.out.trans tS.out (fun _ h => h.elim)).trans tg7 (fun b hb => .inr (hAx.out.lt b (hAx.out.own b hb)).1)
              replace hR2l := Lib.hid hR2l
              replace tg7 := Lib.hid tg7
              replace hAS := Lib.hid hAS
              replace hTS := Lib.hid hTS
              replace hlow := Lib.hid hlow
              replace hWo := Lib.hid hWo
              replace hxF := Lib.hid hxF
              replace hF2 := Lib.hid hF2
              replace hF'lt := Lib.hid hF'lt
              replace hpush := Lib.hid hpush
              replace hT7 := Lib.hid hT7
              replace hfl7 := Lib.hid hfl7
              replace hfd7 := Lib.hid hfd7
              replace hSm7 := Lib.hid hSm7
              replace tr7 := Lib.hid tr7
              clear cv
              go_wp2
              go_roundg (L.length - (k + 1) + 1)
              case rel => exact ⟨k + 1, _, _, rfl, by first | rw [hwk3.out] | rw [nn_cast], hq1, hq2, by rw [List.length_append, hAk.out]; simp; omega, by first | exact hpush | (simpa using hpush), hSm7, hT7, by first | exact hfl7 | (simpa using hfl7), hfd7, tr7.out⟩
              case measure => exact nn_down2 hq1
            · have j1 : decide ((k : Int) < 9) = false := decide_eq_false (by omega)
              have j2 : decide (k < 9) = false := decide_eq_false hq2
              replace hkl := Lib.hid hkl
              replace hk9 := Lib.hid hk9
              replace hAk := Lib.hid hAk
              replace trx := Lib.hid trx
              replace hq2 := Lib.hid hq2
              go_wp2
              go_roundg (3 - (i + 1) + 1)
              case rel => exact ⟨i + 1, F', A', rfl, by first | rw [hwk.out] | rw [nn_cast], hlt, by have := hAl.out; have := hAk.out; have := hk9.out; omega, hAx, hSx, trx.out⟩
              case measure => omega
          · have j0 := nn_ge hq1
            have j1 : decide (k < L.length) = false := decide_eq_false hq1
            replace hkl := Lib.hid hkl
            replace hk9 := Lib.hid hk9
            replace hAk := Lib.hid hAk
            replace trx := Lib.hid trx
            replace hq1 := Lib.hid hq1
            go_wp2
            go_roundg (3 - (i + 1) + 1)
            case rel => exact ⟨i + 1, F', A', rfl, by first | rw [hwk.out] | rw [nn_cast], hlt, by have := hAl.out; have := hAk.out; have := hk9.out; omega, hAx, hSx, trx.out⟩
            case measure => omega
      · have hib : ((i : Int) == 1) = false := by rw [beq_eq_false_iff_ne]; omega
        replace hi1 := Lib.hid hi1
        obtain ⟨q1, q2⟩ := h0.out.held hb0.out tr
        have hP := parse_own q1 q2 (tr.cell_some hm.out id)
        replace hP := Lib.hid hP
        replace q1 := Lib.hid q1
        replace q2 := Lib.hid q2
        replace hi3 := Lib.hid hi3
        replace hAl := Lib.hid hAl
        replace tr := Lib.hid tr
        go_upto_region 11 with (first
          | (go_at_call 16; (with_reducible refine hP.out.mono ?_); intro e w2 hw2; obtain ⟨tv, fa, fb, fc, FL, L, rfl, hT, hMay, t2⟩ := hw2; obtain ⟨tb, tcp, htv⟩ := ownsRow_shape hT.row; subst htv; replace hT := Lib.hid hT; replace hMay := Lib.hid hMay; replace t2 := Lib.hid t2)
          | fail)
        obtain ⟨w3, hw3⟩ : ∃ w3, w3 = w2.alloc (.cells #[.int .i64 fa, .int .i64 fb, .int .i64 fc] 28) := ⟨_, rfl⟩
        obtain ⟨c9, hc9⟩ : ∃ b, b = w2.heap.size := ⟨_, rfl⟩
        rw [← hw3, ← hc9]
        have t23 : Tch No w2 w3 := by rw [hw3]; exact Tch.alloc No w2 _
        have t3 : Tch No wo w3 := t2.out.trans t23 (fun _ h => h.elim)
        have hA3 := Lib.hid (hA.out.tch t3 (fun _ _ h => h))
        have hT3 := Lib.hid (hT.out.tch t23 (fun _ _ h => h))
        have hfl : Hid (∀ b, FL b → (Value.slice ta A.length tc).ownBlock ≠ some b) := Lib.hid (fun b hb e => by
          have q3 := (hT.out.lt b hb).1
          have q4 := (hA.out.lt b (hA.out.own b e)).2
          omega)
        have hfd : Hid (∀ (j : Nat) (x : TrX), 0 ≤ j → L[j]? = some x → ∀ b, x.2.2 b → ¬ F b) := Lib.hid (fun j x _ hx b hb hF => by
          have q3 := (hT.out.lt b (hT.out.sub j x hx b hb).1).1
          have q4 := (hA.out.lt b hF).2
          omega)
        have tr3 := Lib.hid (tr.out.trans t3 (fun _ h => h.elim))
        have hwk : Hid (wrap64 ((i : Int) + 1) = ((i + 1 : Nat) : Int)) := Lib.hid (by unfold wrap64; omega)
        replace hw3 := Lib.hid hw3
        replace hc9 := Lib.hid hc9
        replace t23 := Lib.hid t23
        replace t3 := Lib.hid t3
        go_wp2
        go_loopg [5, 10] (L.length + 1) (fun g2 av kv wx => ∃ (k : Nat) (F' : Nat → Prop) (A' : List AX), g2 = L.length - k + 1 ∧ kv = .int .i64 k ∧ k ≤ L.length ∧ k ≤ 9 ∧ A'.length = A.length + 2 * k ∧ Hid (AM wx W.heap.size F' av A') ∧ Hid (Small A') ∧ Hid (TM wx wo.heap.size FL (.slice tb L.length tcp) L) ∧ Hid (∀ b, FL b → av.ownBlock ≠ some b) ∧ Hid (∀ (j : Nat) (x : TrX), k ≤ j → L[j]? = some x → ∀ b, x.2.2 b → ¬ F' b) ∧ Tch No W wx)
        case atStart => exact ⟨0, F, A, rfl, rfl, Nat.zero_le _, by omega, rfl, hA3, hSm, hT3, hfl, hfd, tr3.out⟩
        case round =>
          obtain ⟨k, F', A', rfl, rfl, hkl, hk9, hAk, hAx, hSx, hTx, hflx, hfdx, trx⟩ := hrel
          obtain ⟨wx, hwx⟩ : ∃ wx, wx = wr := ⟨_, rfl⟩
          subst hwx
          obtain ⟨ta2, tc2, hta2⟩ := ownsRow_shape hAx.out.row
          subst hta2
          by_cases hq1 : k < L.length
          · have j0 := nn_lt hq1
            by_cases hq2 : k < 9
            · have j1 : (k : Int) < 9 := by omega
              obtain ⟨x, hx⟩ : ∃ x, L[k]? = some x := ⟨_, List.getElem?_eq_getElem hq1⟩
              obtain ⟨m1, m2, m3⟩ := hMay.out x (List.mem_of_getElem? hx)
              obtain ⟨R, hR1, hR2⟩ := hTx.out.el k x hx
              obtain ⟨gv, no, nc, rfl, hnq, cv, hev, hNd, _, hcap⟩ := hTx.out.elem hx m2
              have hflg := hTx.out.own gv rfl
              rw [hev] at hR2
              have hmay := mayR_lay m1 m2 m3
              have tdr : Tch No wx wx.drew := Tch.drew No wx
              have hSub : Calls Try.prog 27 #[.slice no x.1.size nc, .int .i64 0] wx.drew fun e w' => ∃ v' F2 R2, e = .returned v' ∧ R2.map (·.1) = lay 0 x.1 ∧ NM w' wx.heap.size F2 v' R2 ∧ Tch No wx w' := by
                refine (sub_may (i := 0) (s := x.1) m2 hmay m1 ⟨[], by simp⟩ (hNd.tch tdr) hcap).mono ?_
                rw [withKey_self2 m3]
                rintro e w' ⟨v', F2, R2, rfl, r1, r2, r3⟩
                exact ⟨v', F2, R2, rfl, r1, r2, tdr.trans r3 (fun _ h => h.elim)⟩
              obtain ⟨sz, hsz⟩ : ∃ sz, sz = x.1.size := ⟨_, rfl⟩
              rw [← hsz] at cv hSub hR2 hNd
              clear hnq
              replace hkl := Lib.hid hkl
              replace hk9 := Lib.hid hk9
              replace hAk := Lib.hid hAk
              replace hx := Lib.hid hx
              replace m1 := Lib.hid m1
              replace m2 := Lib.hid m2
              replace m3 := Lib.hid m3
              replace hR1 := Lib.hid hR1
              replace hR2 := Lib.hid hR2
              replace hev := Lib.hid hev
              replace hNd := Lib.hid hNd
              replace hcap := Lib.hid hcap
              replace hflg := Lib.hid hflg
              replace hmay := Lib.hid hmay
              replace tdr := Lib.hid tdr
              replace hSub := Lib.hid hSub
              replace hsz := Lib.hid hsz
              replace trx := Lib.hid trx
              have hbx : W.heap.size ≤ wx.heap.size := trx.out.size
              have hwk3 : Hid (wrap64 ((k : Int) + 1) = ((k + 1 : Nat) : Int)) := Lib.hid (by unfold wrap64; omega)
              have hlim : A'.length + 2 ≤ maxLen ∧ (A'.length + 2) * 24 ≤ 140737488355328 := by have := hAl.out; have := hAk.out; unfold maxLen; omega
              replace hbx := Lib.hid hbx
              replace hlim := Lib.hid hlim
              go_upto_region 14 with fail
              go_region_held3 (fun w' => w'.cell? ⟨gv, k, none⟩ = some (.slice no sz nc)) (first | go_keep | exact hcS.out | exact hc7.out | fail)
                (first
                  | (go_at_call 27; (with_reducible refine hSub.out.mono ?_); rintro e wS ⟨vS, F2, R2, rfl, r1, r2, tS⟩; obtain ⟨so, sc, hvS⟩ := ownsRow_shape r2.row; subst hvS; have hcS := Lib.hid (tS.cell_some cv id); have hrowS := Lib.hid (ownsRow_tch hAx.out.row tS (fun _ _ h => h)); have hBS := Lib.hid (Nat.le_trans hbx.out tS.size); replace r1 := Lib.hid r1; replace r2 := Lib.hid r2; replace tS := Lib.hid tS)
                  | (refine step_append_um (us := [.slice no sz nc, .slice so R2.length sc]) (by rfl) _ _ 25 (by rfl) W.heap.size 50 jt (.slice none 0 0) 1 24 Try.underlying25 hj.out hj0.out hj1.out hj2.out rfl (by decide) _ A'.length 2 _ (by rfl) hrowS.out 2 (by rfl) rfl (by simp [Value.oneCell']) hlim.out.1 hlim.out.2 hBS.out ?_; intro v7 w7 hr7 hg7 hl7; have hc7 := Lib.hid ((Tch.grown (S := fun b => (Value.slice ta2 A'.length tc2).ownBlock = some b) hg7 (fun b hb => .inl hb)).cell_some hcS.out (hflx.out gv hflg.out)); obtain ⟨ta7, tc7, hv7⟩ := ownsRow_shape hr7; subst hv7; replace hr7 := Lib.hid hr7; replace hg7 := Lib.hid hg7; replace hl7 := Lib.hid hl7)
                  | fail)
              have hR2l : R2.length = sz := by rw [← List.length_map (f := (·.1)), r1.out, lay_length, hsz.out]
              have tg7 : Tch (fun b => (Value.slice ta2 A'.length tc2).ownBlock = some b) wS w7 := Tch.grown hg7.out (fun b hb => .inl hb)
              have hAS := hAx.out.tch tS.out (fun _ _ h => h)
              have hTS := hTx.out.tch tS.out (fun _ _ h => h)
              have hlow : wo.heap.size ≤ wx.heap.size → True := fun _ => trivial
              have hWo : W.heap.size ≤ wo.heap.size := tr.out.size
              have hxF : ∀ b, x.2.2 b → b < wx.heap.size := fun b hb => (hR2.out.lt b hb).2
              have hF2 : ∀ b, F2 b → wx.heap.size ≤ b := fun b hb => (r2.out.lt b hb).1
              have hF'lt : ∀ b, F' b → b < wx.heap.size := fun b hb => (hAx.out.lt b hb).2
              have hpush := hAS.push2 (x := (lay 0 x.1, .slice no sz nc, x.2.2)) (y := (lay 0 x.1, .slice so R2.length sc, F2))
                ⟨R, hR1.out, (hR2.out.tch tS.out (fun _ _ h => h)).lower hWo⟩ ⟨R2, r1.out, r2.out.lower hbx.out⟩
                (fun b hb => hfdx.out k x (Nat.le_refl _) hx.out b hb) (fun b hb hF => by have := hF2 b hb; have := hF'lt b hF; omega) (fun b hb hb2 => by have := hxF b hb; have := hF2 b hb2; omega)
                hr7.out tg7 hl7.out
              have hT7 := hTS.tch tg7 (fun b hb e => hflx.out b hb e)
              have hfl7 : ∀ b, FL b → (Value.slice ta7 (A'.length + 2) tc7).ownBlock ≠ some b := fun b hb e => by
                rcases hl7.out b e with q3 | q3
                · exact hflx.out b hb q3
                · have q4 := (hTx.out.lt b hb).2
                  have q5 := tS.out.size
                  omega
              have hfd7 : ∀ (j : Nat) (y : TrX), k + 1 ≤ j → L[j]? = some y → ∀ b, y.2.2 b → ¬ (F' b ∨ x.2.2 b ∨ F2 b ∨ (Value.slice ta7 (A'.length + 2) tc7).ownBlock = some b) := fun j y hj2 hy b hb hor => by
                have hFb := (hTx.out.sub j y hy b hb).1
                rcases hor with q | q | q | q
                · exact hfdx.out j y (by omega) hy b hb q
                · exact hTx.out.apart j k y x (by omega) hy hx.out b hb q
                · have := hF2 b q; have := (hTx.out.lt b hFb).2; omega
                · exact hfl7 b hFb q
              have hSm7 : Small (A' ++ [(lay 0 x.1, .slice no sz nc, x.2.2), (lay 0 x.1, .slice so R2.length sc, F2)]) := fun z hz => by
                rcases List.mem_append.1 hz with h | h
                · exact hSx.out z h
                · simp only [List.mem_cons, List.not_mem_nil, or_false] at h
                  rcases h with rfl | rfl
                  · exact small_lay m2.out
                  · exact small_lay m2.out
              have tr7 : Tch No W w7 := (trx.out.trans tS.out (fun _ h => h.elim)).trans tg7 (fun b hb => .inr (hAx.out.lt b (hAx.out.own b hb)).1)
              replace hR2l := Lib.hid hR2l
              replace tg7 := Lib.hid tg7
              replace hAS := Lib.hid hAS
              replace hTS := Lib.hid hTS
              replace hlow := Lib.hid hlow
              replace hWo := Lib.hid hWo
              replace hxF := Lib.hid hxF
              replace hF2 := Lib.hid hF2
              replace hF'lt := Lib.hid hF'lt
              replace hpush := Lib.hid hpush
              replace hT7 := Lib.hid hT7
              replace hfl7 := Lib.hid hfl7
              replace hfd7 := Lib.hid hfd7
              replace hSm7 := Lib.hid hSm7
              replace tr7 := Lib.hid tr7
              clear cv
              go_wp2
              go_roundg (L.length - (k + 1) + 1)
              case rel => exact ⟨k + 1, _, _, rfl, by first | rw [hwk3.out] | rw [nn_cast], hq1, hq2, by rw [List.length_append, hAk.out]; simp; omega, by first | exact hpush | (simpa using hpush), hSm7, hT7, by first | exact hfl7 | (simpa using hfl7), hfd7, tr7.out⟩
              case measure => exact nn_down2 hq1
            · have j1 : decide ((k : Int) < 9) = false := decide_eq_false (by omega)
              have j2 : decide (k < 9) = false := decide_eq_false hq2
              replace hkl := Lib.hid hkl
              replace hk9 := Lib.hid hk9
              replace hAk := Lib.hid hAk
              replace trx := Lib.hid trx
              replace hq2 := Lib.hid hq2
              go_wp2
              go_roundg (3 - (i + 1) + 1)
              case rel => exact ⟨i + 1, F', A', rfl, by first | rw [hwk.out] | rw [nn_cast], hlt, by have := hAl.out; have := hAk.out; have := hk9.out; omega, hAx, hSx, trx.out⟩
              case measure => omega
          · have j0 := nn_ge hq1
            have j1 : decide (k < L.length) = false := decide_eq_false hq1
            replace hkl := Lib.hid hkl
            replace hk9 := Lib.hid hk9
            replace hAk := Lib.hid hAk
            replace trx := Lib.hid trx
            replace hq1 := Lib.hid hq1
            go_wp2
            go_roundg (3 - (i + 1) + 1)
            case rel => exact ⟨i + 1, F', A', rfl, by first | rw [hwk.out] | rw [nn_cast], hlt, by have := hAl.out; have := hAk.out; have := hk9.out; omega, hAx, hSx, trx.out⟩
            case measure => omega
    · have k0 : decide ((i : Int) < 3) = false := decide_eq_false (by omega)
      have hN54 : A.length ≤ 54 := by omega
      obtain ⟨ta, tc, hta⟩ := ownsRow_shape hA.out.row
      subst hta
      obtain ⟨N, hN⟩ : ∃ N, N = A.length := ⟨_, rfl⟩
      rw [← hN] at hA hN54 ⊢
      have hbd : Hid (∀ (e : Nat) (x : AX), A[e]? = some x → 0 ≤ e → ∀ n ∈ x.1, n.kids.length ≤ 4096) := Lib.hid (fun e x hx _ => (hSm.out x (List.mem_of_getElem? hx)).2)
      have hle : Hid (∀ (e : Nat) (x : AX), A[e]? = some x → x.1.length ≤ 4096) := Lib.hid (fun e x hx => (hSm.out x (List.mem_of_getElem? hx)).1)
      have hdn : Hid (∀ (e : Nat) (x : AX), A[e]? = some x → e < 0 → ∀ n ∈ x.1, MarkN e n) := Lib.hid (fun e x _ h => absurd h (Nat.not_lt_zero e))
      replace hi3 := Lib.hid hi3
      replace hlt := Lib.hid hlt
      replace hN := Lib.hid hN
      replace hN54 := Lib.hid hN54
      replace hAl := Lib.hid hAl
      replace tr := Lib.hid tr
      go_wp2
      go_loopg [11] (N + 1) (fun gg iv wx => ∃ (i : Nat) (F' : Nat → Prop) (A' : List AX), gg = N - i + 1 ∧ iv = .int .i64 i ∧ i ≤ N ∧ A'.length = N ∧ Hid (AM wx W.heap.size F' (.slice ta N tc) A') ∧ Hid (∀ (e : Nat) (x : AX), A'[e]? = some x → i ≤ e → ∀ n ∈ x.1, n.kids.length ≤ 4096) ∧ Hid (∀ (e : Nat) (x : AX), A'[e]? = some x → x.1.length ≤ 4096) ∧ Hid (∀ (e : Nat) (x : AX), A'[e]? = some x → e < i → ∀ n ∈ x.1, MarkN e n) ∧ Tch No W wx)
      case atStart => exact ⟨0, F, A, rfl, rfl, Nat.zero_le _, hN.out.symm, hA, hbd, hle, hdn, tr.out⟩
      case round =>
        obtain ⟨i, F', A', rfl, rfl, hiN, hAl', hA', hbd', hle', hdn', tr'⟩ := hrel
        by_cases hlt : i < N
        · have k0 := nn_lt hlt
          obtain ⟨x, hx⟩ : ∃ x, A'[i]? = some x := ⟨_, List.getElem?_eq_getElem (by omega)⟩
          have hnl := hle'.out i x hx
          obtain ⟨nl, hnle⟩ : ∃ nl, nl = x.1.length := ⟨_, rfl⟩
          rw [← hnle] at hnl
          obtain ⟨hw1, hw2⟩ := neg_wrap (i := i) (by have := hN54.out; omega)
          have hwk := Lib.hid (nn_succ hlt (by have := hN54.out; omega))
          have hk4 : Hid (∀ (k' : Nat) (n : Nd), x.1[k']? = some n → 0 ≤ k' → n.kids.length ≤ 4096) := Lib.hid (fun k' n hn _ => hbd'.out i x hx (Nat.le_refl _) n (List.mem_of_getElem? hn))
          have hd4 : Hid (∀ (k' : Nat) (n : Nd), x.1[k']? = some n → k' < 0 → MarkN i n) := Lib.hid (fun k' n _ h => absurd h (Nat.not_lt_zero k'))
          obtain ⟨wo, hwo⟩ : ∃ wo, wo = wr := ⟨_, rfl⟩
          subst hwo
          replace hx := Lib.hid hx
          replace hnl := Lib.hid hnl
          replace hnle := Lib.hid hnle
          replace tr' := Lib.hid tr'
          replace hiN := Lib.hid hiN
          replace hAl' := Lib.hid hAl'
          replace hw1 := Lib.hid hw1
          replace hw2 := Lib.hid hw2
          go_wp2
          go_loopg [12] (nl + 1) (fun gg kv wx => ∃ (k : Nat) (F2 : Nat → Prop) (A2 : List AX) (x2 : AX), gg = nl - k + 1 ∧ kv = .int .i64 k ∧ k ≤ nl ∧ Hid (AM wx W.heap.size F2 (.slice ta N tc) A2) ∧ Hid (Off i A' A2) ∧ Hid (A2[i]? = some x2) ∧ x2.1.length = nl ∧ Hid (∀ (k' : Nat) (n : Nd), x2.1[k']? = some n → k ≤ k' → n.kids.length ≤ 4096) ∧ Hid (∀ (k' : Nat) (n : Nd), x2.1[k']? = some n → k' < k → MarkN i n) ∧ Tch No W wx)
          case atStart => exact ⟨0, F', A', x, rfl, rfl, Nat.zero_le _, hA', Lib.hid (Off.refl _ _), hx, hnle.out.symm, hk4, hd4, tr'.out⟩
          case round =>
            obtain ⟨k, F2, A2, x2, rfl, rfl, hkl, hA2, hoff, hx2, hx2l, hk2, hd2, tr2⟩ := hrel
            obtain ⟨ga, ega, enn, cga⟩ := hA2.out.at hx2.out
            clear enn
            obtain ⟨xo, xcap, hxv⟩ := hA2.out.size hx2.out
            rw [hxv, hx2l] at cga
            subst ega
            by_cases hq1 : k < nl
            · have j0 := nn_lt hq1
              obtain ⟨n, hn⟩ : ∃ n, x2.1[k]? = some n := ⟨_, List.getElem?_eq_getElem (by omega)⟩
              have hnm := hk2.out k n hn (Nat.le_refl _)
              obtain ⟨mm, hmm⟩ : ∃ mm, mm = n.kids.length := ⟨_, rfl⟩
              rw [← hmm] at hnm
              have hwk2 := Lib.hid (nn_succ hq1 (by have := hnl.out; omega))
              obtain ⟨wp, hwp⟩ : ∃ wp, wp = wr := ⟨_, rfl⟩
              subst hwp
              replace hkl := Lib.hid hkl
              replace hx2l := Lib.hid hx2l
              replace hn := Lib.hid hn
              replace hnm := Lib.hid hnm
              replace hmm := Lib.hid hmm
              replace tr2 := Lib.hid tr2
              replace hxv := Lib.hid hxv
              go_wp2
              go_loopg [13] (mm + 1) (fun gg jv wx => ∃ (j : Nat) (F3 : Nat → Prop) (A3 : List AX) (x3 : AX) (n3 : Nd), gg = mm - j + 1 ∧ jv = .int .i64 j ∧ j ≤ mm ∧ Hid (AM wx W.heap.size F3 (.slice (some ⟨ga, 0, none⟩) N tc) A3) ∧ Hid (Off i A' A3) ∧ Hid (A3[i]? = some x3) ∧ x3.1.length = nl ∧ Hid (x3.1[k]? = some n3) ∧ n3.kids.length = mm ∧ Hid (∀ (j' : Nat) (z : Int), n3.kids[j']? = some z → j' < j → z = -(i : Int) - 1) ∧ Hid (∀ k' : Nat, k' ≠ k → x3.1[k']? = x2.1[k']?) ∧ Tch No W wx)
              case atStart => exact ⟨0, F2, A2, x2, n, rfl, rfl, Nat.zero_le _, hA2, hoff, hx2, hx2l.out, hn, hmm.out.symm, Lib.hid (fun j' z _ h => absurd h (Nat.not_lt_zero j')), Lib.hid (fun _ _ => rfl), tr2.out⟩
              case round =>
                obtain ⟨j, F3, A3, x3, n3, rfl, rfl, hjm, hA3, hoff3, hx3, hx3l, hn3, hn3m, hd3, hsame, tr3⟩ := hrel
                obtain ⟨ga', ega, enn, cga3⟩ := hA3.out.at hx3.out
                clear enn
                simp only [Option.some.injEq, Addr.mk.injEq] at ega
                obtain ⟨rfl, _⟩ := ega
                obtain ⟨g, cap, kv, hxv3, hc3, hrow3, hkw, hkd, hgr⟩ := hA3.out.node hx3.out hn3.out
                rw [hxv3, hx3l] at cga3
                obtain ⟨ko, kc, rfl⟩ := ownsRow_shape hrow3
                rw [hn3m] at hrow3 hc3
                obtain ⟨c5, f5⟩ := hc3 5 (.slice ko n3.kids.length kc) (by omega) (by rw [hn3m]; rfl)
                rw [hn3m] at c5
                by_cases hjq : j < mm
                · have i0 := nn_lt hjq
                  obtain ⟨z, hz⟩ : ∃ z, n3.kids[j]? = some z := ⟨_, List.getElem?_eq_getElem (by omega)⟩
                  obtain ⟨kg, eko, _, _, cz, fz⟩ := ownsRow_cell hrow3 (j := j) (u := .int .i64 z) (by simp [icells, hz])
                  subst eko
                  obtain ⟨hBk, F4, hA4⟩ := hkw kg n3.kids.length kc j (-(i : Int) - 1) rfl
                  obtain ⟨n4, hn4⟩ : ∃ n4, n4 = ({ n3 with kids := n3.kids.set j (-(i : Int) - 1) } : Nd) := ⟨_, rfl⟩
                  rw [← hn4] at hA4
                  obtain ⟨w4, hw4⟩ : ∃ w4, w4 = wr.setCell ⟨kg, j, none⟩ (.int .i64 (-(i : Int) - 1)) := ⟨_, rfl⟩
                  have tr4 : Tch No W w4 := by rw [hw4]; exact tr3.trans (Tch.setCell (S := fun b => b = kg) wr (p := ⟨kg, j, none⟩) rfl _) (fun b hb => .inr (by rw [hb]; exact hBk))
                  rw [← hw4] at hA4
                  have hil3 := (List.getElem?_eq_some_iff.1 hx3.out).1
                  have hkl3 := (List.getElem?_eq_some_iff.1 hn3.out).1
                  have hx4 : (A3.set i (x3.1.set k n4, x3.2.1, x3.2.2))[i]? = some (x3.1.set k n4, x3.2.1, x3.2.2) := List.getElem?_set_self hil3
                  have hn4k : (x3.1.set k n4)[k]? = some n4 := List.getElem?_set_self hkl3
                  have hn4m : n4.kids.length = mm := by rw [hn4]; simp only [List.length_set]; exact hn3m
                  have hd4' : ∀ (j' : Nat) (z : Int), n4.kids[j']? = some z → j' < j + 1 → z = -(i : Int) - 1 := fun j' z hz2 hlt2 => by
                    rw [hn4] at hz2
                    simp only at hz2
                    by_cases e : j = j'
                    · subst e
                      rw [List.getElem?_set_self (by omega)] at hz2
                      exact (Option.some.inj hz2).symm
                    · rw [List.getElem?_set_ne e] at hz2
                      exact hd3.out j' z hz2 (by omega)
                  have hsame4 : ∀ k' : Nat, k' ≠ k → (x3.1.set k n4)[k']? = x2.1[k']? := fun k' hk' => by
                    rw [List.getElem?_set_ne (fun q => hk' q.symm)]; exact hsame.out k' hk'
                  have hx4l : (x3.1.set k n4).length = nl := by rw [List.length_set]; exact hx3l
                  have hoff4 := hoff3.out.set (i := i) (x3.1.set k n4, x3.2.1, x3.2.2)
                  have hwj := Lib.hid (nn_succ hjq (by have := hnm.out; omega))
                  obtain ⟨hw1', hw2'⟩ := neg_wrap (i := i) (by have := hN54.out; omega)
                  clear hc3 hkw hkd hgr
                  replace hz := Lib.hid hz
                  replace hA4 := Lib.hid hA4
                  replace hn4 := Lib.hid hn4
                  replace tr4 := Lib.hid tr4
                  replace hil3 := Lib.hid hil3
                  replace hkl3 := Lib.hid hkl3
                  replace hx4 := Lib.hid hx4
                  replace hn4k := Lib.hid hn4k
                  replace hn4m := Lib.hid hn4m
                  replace hd4' := Lib.hid hd4'
                  replace hsame4 := Lib.hid hsame4
                  replace hx4l := Lib.hid hx4l
                  replace hoff4 := Lib.hid hoff4
                  replace hBk := Lib.hid hBk
                  replace hrow3 := Lib.hid hrow3
                  replace hxv3 := Lib.hid hxv3
                  replace hx3l := Lib.hid hx3l
                  replace hn3m := Lib.hid hn3m
                  replace tr3 := Lib.hid tr3
                  replace hjm := Lib.hid hjm
                  replace f5 := Lib.hid f5
                  go_wp2
                  rw [← hw4]
                  replace hw4 := Lib.hid hw4
                  go_roundg (mm - (j + 1) + 1)
                  case rel => exact ⟨j + 1, F4, _, _, n4, rfl, by first | rw [hwj.out] | rw [nn_cast], hjq, hA4, hoff4, hx4, hx4l.out, hn4k, hn4m.out, hd4', hsame4, tr4.out⟩
                  case measure => exact nn_down2 hjq
                · have i0 := nn_ge hjq
                  have i1 : decide (j < mm) = false := decide_eq_false hjq
                  have hjm2 : j = mm := by omega
                  have hallk : ∀ z ∈ n3.kids, z = -(i : Int) - 1 := fun z hz => by
                    obtain ⟨j', hj'⟩ := List.mem_iff_getElem?.1 hz
                    exact hd3.out j' z hj' (by have := (List.getElem?_eq_some_iff.1 hj').1; omega)
                  have cga' : (wr.alloc (.cells #[.int .i64 (-(i : Int) - 1)] 3)).cell? ⟨ga, i, none⟩ = some (.slice (some ⟨g, 0, none⟩) nl cap) := (Tch.alloc No wr _).cell_some cga3 id
                  have c5' : (wr.alloc (.cells #[.int .i64 (-(i : Int) - 1)] 3)).cell? ⟨g, k * 6 + 5, none⟩ = some (.slice ko mm kc) := (Tch.alloc No wr _).cell_some c5 id
                  have hka : Hid (∀ z, (Value.slice ko mm kc).ownBlock = some z → z ≠ ga) := Lib.hid (fun z hz e => rows_apart hrow3 hA3.out.row (by decide) z hz (by rw [e]; rfl))
                  have cgh : Hid (wr.drew.cell? ⟨ga, i, none⟩ = some (.slice (some ⟨g, 0, none⟩) nl cap)) := Lib.hid cga3
                  have hrowd := ownsRow_tch hrow3 (Tch.drew No wr) (fun _ _ h => h)
                  have hBd : W.heap.size ≤ wr.drew.heap.size := tr3.size
                  have hlim3 : mm + 1 ≤ maxLen ∧ (mm + 1) * 8 ≤ 140737488355328 := by have := hnm.out; unfold maxLen; omega
                  obtain ⟨hw1', hw2'⟩ := neg_wrap (i := i) (by have := hN54.out; omega)
                  have hw3 : IntKind.i64.wrap (-(i : Int)) = -(i : Int) ∧ IntKind.i64.wrap (-(i : Int) - 1) = -(i : Int) - 1 := by have := hN54.out; constructor <;> (rw [IntKind.wrap_i64]; omega)
                  obtain ⟨hw3, hw4⟩ := hw3
                  have hil3 := (List.getElem?_eq_some_iff.1 hx3.out).1
                  have hkl3 := (List.getElem?_eq_some_iff.1 hn3.out).1
                  have hi96 : (i : Int) < (N : Int) := nn_lt hlt
                  rw [hn3m] at hgr
                  have hBg := Lib.hid (hkd 0).1
                  clear hc3 hkw hkd
                  replace hallk := Lib.hid hallk
                  replace hrowd := Lib.hid hrowd
                  replace hBd := Lib.hid hBd
                  replace hlim3 := Lib.hid hlim3
                  replace hil3 := Lib.hid hil3
                  replace hkl3 := Lib.hid hkl3
                  replace hgr := Lib.hid hgr
                  replace hjm2 := Lib.hid hjm2
                  replace hrow3 := Lib.hid hrow3
                  replace hxv3 := Lib.hid hxv3
                  replace hx3l := Lib.hid hx3l
                  replace hn3m := Lib.hid hn3m
                  replace tr3 := Lib.hid tr3
                  replace hjm := Lib.hid hjm
                  replace hjq := Lib.hid hjq
                  replace f5 := Lib.hid f5
                  go_upto_region 25 with fail
                  go_cut [13] (fun jv wx => Hid (KidOut W wx (.slice (some ⟨ga, 0, none⟩) N tc) A3 i k x3 { n3 with kids := n3.kids ++ [-(i : Int) - 1] }))
                  case first =>
                    go_region_law ((refine step_append_us rfl _ _ 56 (by rfl) W.heap.size 3 i3 (.int .i64 0) 1 8 Try.underlying56 hp.out hp0.out hp1.out hp2.out rfl (by decide) _ mm (icells n3.kids) (by rfl) hrowd.out 1 (by rfl) rfl (by simp [Value.oneCell']) hlim3.out.1 hlim3.out.2 hBd.out ?_; intro v7 w7 hr7 hg7 hl7; obtain ⟨no, ncp, rfl⟩ := ownsRow_shape hr7; obtain ⟨e7, f7, F7, Fx7, hA7⟩ := hgr.out w7 _ (n3.kids ++ [-(i : Int) - 1]) (by rw [List.length_append, hn3m.out]; simpa [icells] using hr7) ((Tch.drew _ wr).trans (Tch.grown (S := fun z => (Value.slice ko mm kc).ownBlock = some z) hg7 (fun z hz => .inl hz)) (fun _ h => .inl h)) hl7; have cg7 := (Tch.grown (S := fun z => (Value.slice ko mm kc).ownBlock = some z) hg7 (fun z hz => .inl hz)).cell_some cgh.out (fun q => hka.out ga q rfl); have tr7 := Lib.hid (hg7); replace hA7 := Lib.hid hA7; replace hr7 := Lib.hid hr7; clear hg7 hl7))
                    all_goals (have hK : Hid (KidOut W (w7.setCell ⟨g, k * 6 + 5, none⟩ (.slice no (mm + 1) ncp)) (.slice (some ⟨ga, 0, none⟩) N tc) A3 i k x3 { n3 with kids := n3.kids ++ [-(i : Int) - 1] }) := Lib.hid ⟨F7, Fx7, hA7.out, ((tr3.out.trans (Tch.drew No wr) (fun _ h => h.elim)).trans (Tch.grown (S := fun z => (Value.slice ko mm kc).ownBlock = some z) tr7.out (fun z hz => .inl hz)) (fun z hz => .inr (ownsRow_ge hrow3.out hz).1)).trans (Tch.setCell (S := fun b => b = g) w7 (p := ⟨g, k * 6 + 5, none⟩) rfl _) (fun b hb => .inr (by rw [hb]; exact hBg.out))⟩; first | (go_wp2; go_meet; exact hK) | (go_meet; go_meet; exact hK) | (go_meet; trace_state; sorry))
                  case rest =>
                    obtain ⟨F7, Fx7, hA7, tr7⟩ := hcut.out
                    clear hcut
                    obtain ⟨n7, hn7⟩ : ∃ n7, n7 = ({ n3 with kids := n3.kids ++ [-(i : Int) - 1] } : Nd) := ⟨_, rfl⟩
                    rw [← hn7] at hA7
                    have hx7 : (A3.set i (x3.1.set k n7, x3.2.1, Fx7))[i]? = some (x3.1.set k n7, x3.2.1, Fx7) := List.getElem?_set_self hil3.out
                    have hn7k : (x3.1.set k n7)[k]? = some n7 := List.getElem?_set_self hkl3.out
                    obtain ⟨ga7, ega7, enn7, cga7⟩ := hA7.at hx7
                    simp only [Option.some.injEq, Addr.mk.injEq] at ega7
                    obtain ⟨rfl, _⟩ := ega7
                    clear enn7
                    obtain ⟨g7, cap7, kv7, hxv7, hc7, _, _, hkd7, _⟩ := hA7.node hx7 hn7k
                    dsimp only at hxv7 cga7
                    rw [hxv7] at cga7
                    have hx7l : (x3.1.set k n7).length = nl := by rw [List.length_set]; exact hx3l.out
                    rw [hx7l] at cga7
                    obtain ⟨c8, f8⟩ := hc7 0 (.int .i64 n7.kind) (by omega) rfl
                    rw [Nat.add_zero] at c8 f8
                    obtain ⟨hB7, F8, hA8⟩ := hkd7 (-(i : Int) - 1)
                    obtain ⟨n8, hn8⟩ : ∃ n8, n8 = ({ n7 with kind := -(i : Int) - 1 } : Nd) := ⟨_, rfl⟩
                    dsimp only at hA8
                    rw [← hn8] at hA8
                    obtain ⟨w8, hw8⟩ : ∃ w8, w8 = wc.setCell ⟨g7, k * 6, none⟩ (.int .i64 (-(i : Int) - 1)) := ⟨_, rfl⟩
                    have tr8 : Tch No W w8 := by rw [hw8]; exact tr7.trans (Tch.setCell (S := fun b => b = g7) wc (p := ⟨g7, k * 6, none⟩) rfl _) (fun b hb => .inr (by rw [hb]; exact hB7))
                    rw [← hw8] at hA8
                    have hx8 : ((A3.set i (x3.1.set k n7, x3.2.1, Fx7)).set i ((x3.1.set k n7).set k n8, x3.2.1, Fx7))[i]? = some ((x3.1.set k n7).set k n8, x3.2.1, Fx7) := List.getElem?_set_self (by rw [List.length_set]; exact hil3.out)
                    have hx8l : ((x3.1.set k n7).set k n8).length = nl := by rw [List.length_set]; exact hx7l
                    have hoff8 := (hoff3.out.set (i := i) (x3.1.set k n7, x3.2.1, Fx7)).set (i := i) ((x3.1.set k n7).set k n8, x3.2.1, Fx7)
                    have hoth : ∀ k' : Nat, k' ≠ k → ((x3.1.set k n7).set k n8)[k']? = x2.1[k']? := fun k' hk' => by
                      rw [List.getElem?_set_ne (fun q => hk' q.symm), List.getElem?_set_ne (fun q => hk' q.symm)]; exact hsame.out k' hk'
                    have hself : ((x3.1.set k n7).set k n8)[k]? = some n8 := List.getElem?_set_self (by rw [List.length_set]; exact hkl3.out)
                    have hmk : MarkN i n8 := by
                      rw [hn8, hn7]
                      refine ⟨rfl, fun z hz => ?_⟩
                      rcases List.mem_append.1 hz with q | q
                      · exact hallk.out z q
                      · exact List.mem_singleton.1 q
                    have hk8 : ∀ (k' : Nat) (n : Nd), ((x3.1.set k n7).set k n8)[k']? = some n → k + 1 ≤ k' → n.kids.length ≤ 4096 := fun k' n hn hle => by
                      rw [hoth k' (by omega)] at hn
                      exact hk2.out k' n hn (by omega)
                    have hd8 : ∀ (k' : Nat) (n : Nd), ((x3.1.set k n7).set k n8)[k']? = some n → k' < k + 1 → MarkN i n := fun k' n hn hlt => by
                      by_cases e : k' = k
                      · subst e
                        rw [hself] at hn
                        cases hn
                        exact hmk
                      · rw [hoth k' e] at hn
                        exact hd2.out k' n hn (by omega)
                    clear hc7 hkd7 hA7
                    replace hn7 := Lib.hid hn7
                    replace hx7 := Lib.hid hx7
                    replace hn7k := Lib.hid hn7k
                    replace hxv7 := Lib.hid hxv7
                    replace hx7l := Lib.hid hx7l
                    replace hB7 := Lib.hid hB7
                    replace hn8 := Lib.hid hn8
                    replace tr7 := Lib.hid tr7
                    replace tr8 := Lib.hid tr8
                    replace hA8 := Lib.hid hA8
                    replace hx8 := Lib.hid hx8
                    replace hx8l := Lib.hid hx8l
                    replace hoff8 := Lib.hid hoff8
                    replace hoth := Lib.hid hoth
                    replace hself := Lib.hid hself
                    replace hmk := Lib.hid hmk
                    replace hk8 := Lib.hid hk8
                    replace hd8 := Lib.hid hd8
                    go_wp2
                    rw [← hw8]
                    replace hw8 := Lib.hid hw8
                    go_roundg (nl - (k + 1) + 1)
                    case rel => exact ⟨k + 1, F8, _, _, rfl, by first | rw [hwk2.out] | rw [nn_cast], hq1, hA8, hoff8, hx8, hx8l.out, hk8, hd8, tr8.out⟩
                    case measure => exact nn_down2 hq1
            · have j0 := nn_ge hq1
              have j1 : decide (k < nl) = false := decide_eq_false hq1
              have hfin1 : Hid (∀ (e : Nat) (x : AX), A2[e]? = some x → i + 1 ≤ e → ∀ n ∈ x.1, n.kids.length ≤ 4096) := Lib.hid (fun e y hy he => by
                rw [hoff.out.2 e (by omega)] at hy
                exact hbd'.out e y hy (by omega))
              have hfin2 : Hid (∀ (e : Nat) (x : AX), A2[e]? = some x → x.1.length ≤ 4096) := Lib.hid (fun e y hy => by
                by_cases he : e = i
                · subst he
                  rw [hx2.out] at hy; cases hy
                  rw [hx2l]; exact hnl.out
                · rw [hoff.out.2 e he] at hy
                  exact hle'.out e y hy)
              have hfin3 : Hid (∀ (e : Nat) (x : AX), A2[e]? = some x → e < i + 1 → ∀ n ∈ x.1, MarkN e n) := Lib.hid (fun e y hy he n hn => by
                by_cases he2 : e = i
                · subst he2
                  rw [hx2.out] at hy; cases hy
                  obtain ⟨k', hk'⟩ := List.mem_iff_getElem?.1 hn
                  exact hd2.out k' n hk' (by have := (List.getElem?_eq_some_iff.1 hk').1; omega)
                · rw [hoff.out.2 e he2] at hy
                  exact hdn'.out e y hy (by omega) n hn)
              have hlenA := hoff.out.1
              replace hkl := Lib.hid hkl
              replace hx2l := Lib.hid hx2l
              replace tr2 := Lib.hid tr2
              replace hxv := Lib.hid hxv
              replace hq1 := Lib.hid hq1
              replace hlenA := Lib.hid hlenA
              go_wp2
              go_roundg (N - (i + 1) + 1)
              case rel => exact ⟨i + 1, F2, A2, rfl, by first | rw [hwk.out] | rw [nn_cast], hlt, by rw [hlenA.out]; exact hAl'.out, hA2, hfin1, hfin2, hfin3, tr2.out⟩
              case measure => exact nn_down2 hlt
        · have k0 := nn_ge hlt
          have k1 : decide (i < N) = false := decide_eq_false hlt
          have hG := Lib.hid (GM.start hA'.out)
          have hmk : Hid (∀ (e : Nat) (x : AX), A'[e]? = some x → ∀ n ∈ x.1, MarkN e n) := Lib.hid (fun e x hx => hdn'.out e x hx (by have := (List.getElem?_eq_some_iff.1 hx).1; omega))
          replace hiN := Lib.hid hiN
          replace hAl' := Lib.hid hAl'
          replace tr' := Lib.hid tr'
          replace hlt := Lib.hid hlt
          go_wp2
          go_loopg [14, 15] (N + 1) (fun gg gv iv wx => ∃ (i : Nat) (A2 : List AX) (G : List Value), gg = N - i + 1 ∧ iv = .int .i64 i ∧ i ≤ N ∧ A2.length = N ∧ Hid (GM wx W.heap.size i (.slice ta N tc) gv A2 G) ∧ Hid (∀ (e : Nat) (x : AX), A2[e]? = some x → x.1.length ≤ 4096) ∧ Hid (∀ (e : Nat) (x : AX), A2[e]? = some x → ∀ n ∈ x.1, MarkN e n) ∧ Tch No W wx)
          case atStart => exact ⟨0, A', [], rfl, rfl, Nat.zero_le _, hAl'.out, hG, hle', hmk, tr'.out⟩
          case round =>
            obtain ⟨i5, A5, G5, rfl, rfl, hi5, hA5l, hG5, hle5, hmk5, tr5⟩ := hrel
            obtain ⟨go5, gc5, rfl⟩ := ownsRow_shape hG5.out.grow
            by_cases hlt5 : i5 < N
            · have k5 := nn_lt hlt5
              obtain ⟨x, hx⟩ : ∃ x, A5[i5]? = some x := ⟨_, List.getElem?_eq_getElem (by omega)⟩
              have hnl := hle5.out i5 x hx
              obtain ⟨R5, hR5, hN5⟩ := hG5.out.rest i5 x (Nat.le_refl _) hx
              obtain ⟨ga, ega, cga⟩ := hG5.out.at hx
              subst ega
              have hRl : R5.length = x.1.length := by rw [← hR5, List.length_map]
              have hrow5 := hN5.row
              rw [hRl] at hrow5
              obtain ⟨xo, xc, hxv⟩ := ownsRow_shape hrow5
              obtain ⟨nl, hnle⟩ : ∃ nl, nl = x.1.length := ⟨_, rfl⟩
              rw [hxv, ← hnle] at cga
              rw [hxv, ← hnle] at hrow5
              have hw100 := hundred (i := i5) (by have := hN54.out; omega)
              have hwk5 := Lib.hid (nn_succ hlt5 (by have := hN54.out; omega))
              obtain ⟨i58, h58, h580, h581, h582⟩ := info_parts info58
              have hlim5 : nl + 1 ≤ maxLen ∧ (nl + 1) * 80 ≤ 140737488355328 ∧ i5 + 1 ≤ maxLen ∧ (i5 + 1) * 24 ≤ 140737488355328 := by have := hN54.out; unfold maxLen; omega
              have hB5 : W.heap.size ≤ wr.heap.size := tr5.size
              replace hx := Lib.hid hx
              replace hnl := Lib.hid hnl
              replace hR5 := Lib.hid hR5
              replace hN5 := Lib.hid hN5
              replace hRl := Lib.hid hRl
              replace hrow5 := Lib.hid hrow5
              replace hxv := Lib.hid hxv
              replace hnle := Lib.hid hnle
              replace hlim5 := Lib.hid hlim5
              replace hB5 := Lib.hid hB5
              replace tr5 := Lib.hid tr5
              replace hi5 := Lib.hid hi5
              replace hA5l := Lib.hid hA5l
              replace h58 := Lib.hid h58
              replace h580 := Lib.hid h580
              replace h581 := Lib.hid h581
              replace h582 := Lib.hid h582
              go_wp2_with (first
                | (at_builtin; refine wp_append_apart (us := newNd i5) (by rfl) _ _ 50 (by rfl) W.heap.size 58 i58 _ 6 80 Try.underlying50 h58.out h580.out h581.out h582.out rfl (by decide) _ nl (ncs R5) (by rfl) hrow5.out 1 (by rfl) rfl (by intro u hu; simp only [newNd, List.mem_cons, List.not_mem_nil, or_false] at hu; rcases hu with rfl | rfl | rfl | rfl | rfl | rfl <;> rfl) hlim5.out.1 hlim5.out.2.1 hB5.out ?_; intro v7 w7 hr7 hg7 hl7; obtain ⟨no, ncp, rfl⟩ := ownsRow_shape hr7; have hgr7 := Lib.hid (ownsRow_tch (hG5.out.grow) (Tch.grown (S := fun k => (Value.slice no (nl + 1) ncp).ownBlock = some k) hg7 (fun k hk => .inl hk)) (grow_off hG5.out hx.out (by rw [hxv.out, ← hnle.out]; exact hl7) hN5.out)); have hB7 := Lib.hid (Nat.le_trans hB5.out hg7.size); replace hr7 := Lib.hid hr7; replace hg7 := Lib.hid hg7; replace hl7 := Lib.hid hl7)
                | (at_builtin; refine wp_append_us (us := [.slice no (nl + 1) ncp]) (by rfl) _ _ 25 (by rfl) W.heap.size 50 jt (.slice none 0 0) 1 24 Try.underlying25 hj.out hj0.out hj1.out hj2.out rfl (by decide) _ i5 G5 (by rfl) hgr7.out 1 (by rfl) rfl (by simp [Value.oneCell']) hlim5.out.2.2.1 hlim5.out.2.2.2 hB7.out ?_; intro v8 w8 hr8 hg8 hl8; replace hr8 := Lib.hid hr8; replace hg8 := Lib.hid hg8; replace hl8 := Lib.hid hl8)
                | fail)
              have hGs := GM.step hG5.out hx.out hR5.out hN5.out (hmk5.out i5 x hx.out) (Tch.refl _ _) (by rw [← hnle.out]; exact hr7.out) hg7.out (by rw [hxv.out, ← hnle.out]; exact hl7.out) (Tch.refl _ _) hr8.out (Tch.grown hg8.out (fun k hk => .inl hk)) hl8.out
              have hle6 : ∀ (e : Nat) (y : AX), (A5.set i5 (x.1, x.2.1, fun k => x.2.2 k ∨ (Value.slice no (nl + 1) ncp).ownBlock = some k))[e]? = some y → y.1.length ≤ 4096 := fun e y hy => by
                by_cases he : i5 = e
                · subst he
                  rw [List.getElem?_set_self (List.getElem?_eq_some_iff.1 hx.out).1] at hy
                  rw [← Option.some.inj hy]
                  exact hle5.out i5 x hx.out
                · rw [List.getElem?_set_ne he] at hy
                  exact hle5.out e y hy
              have hmk6 : ∀ (e : Nat) (y : AX), (A5.set i5 (x.1, x.2.1, fun k => x.2.2 k ∨ (Value.slice no (nl + 1) ncp).ownBlock = some k))[e]? = some y → ∀ n ∈ y.1, MarkN e n := fun e y hy => by
                by_cases he : i5 = e
                · subst he
                  rw [List.getElem?_set_self (List.getElem?_eq_some_iff.1 hx.out).1] at hy
                  rw [← Option.some.inj hy]
                  exact hmk5.out i5 x hx.out
                · rw [List.getElem?_set_ne he] at hy
                  exact hmk5.out e y hy
              have tr6 : Tch No W w8 := (tr5.out.trans (Tch.grown (S := fun k => (Value.slice no (nl + 1) ncp).ownBlock = some k) hg7.out (fun k hk => .inl hk)) (fun k hk => .inr (ownsRow_ge hr7.out hk).1)).trans (Tch.grown (S := fun k => (Value.slice go5 i5 gc5).ownBlock = some k) hg8.out (fun k hk => .inl hk)) (fun k hk => .inr (ownsRow_ge hG5.out.grow hk).1)
              have hA6l : (A5.set i5 (x.1, x.2.1, fun k => x.2.2 k ∨ (Value.slice no (nl + 1) ncp).ownBlock = some k)).length = N := by rw [List.length_set]; exact hA5l.out
              replace hGs := Lib.hid hGs
              replace hle6 := Lib.hid hle6
              replace hmk6 := Lib.hid hmk6
              replace tr6 := Lib.hid tr6
              replace hA6l := Lib.hid hA6l
              go_wp2
              go_roundg (N - (i5 + 1) + 1)
              case rel => exact ⟨i5 + 1, _, _, rfl, by first | rw [hwk5.out] | rw [nn_cast], hlt5, hA6l.out, hGs, hle6, hmk6, tr6.out⟩
              case measure => exact nn_down2 hlt5
            · have k5 := nn_ge hlt5
              have k6 : decide (i5 < N) = false := decide_eq_false hlt5
              have hiN5 : ∀ e, e < N → e < i5 := fun e he => by omega
              replace hi5 := Lib.hid hi5
              replace hA5l := Lib.hid hA5l
              replace tr5 := Lib.hid tr5
              replace hlt5 := Lib.hid hlt5
              replace hiN5 := Lib.hid hiN5
              go_wp2
              go_loopg [16] (N + 1) (fun gg iv wx => ∃ i : Nat, gg = N - i + 1 ∧ iv = .int .i64 i ∧ i ≤ N ∧ Hid (GM wx W.heap.size i5 (.slice ta N tc) (.slice go5 i5 gc5) A5 G5) ∧ Tch No W wx)
              case atStart => exact ⟨0, rfl, rfl, Nat.zero_le _, hG5, tr5.out⟩
              case round =>
                obtain ⟨i7, rfl, rfl, hi7, hG7, tr7⟩ := hrel
                by_cases hlt7 : i7 < N
                · have k7 := nn_lt hlt7
                  obtain ⟨x, hx⟩ : ∃ x, A5[i7]? = some x := ⟨_, List.getElem?_eq_getElem (by rw [hA5l.out]; exact hlt7)⟩
                  obtain ⟨ga, gb, gx, ea, eg, ca, cg, hD⟩ := hG7.out.both (hiN5.out i7 hlt7) hx
                  subst ea
                  subst eg
                  obtain ⟨xo, xc, hxv, hold⟩ := hD.old
                  obtain ⟨gn, cn, hgx, _, cend, hnew⟩ := hD.new
                  obtain ⟨nl, hnle⟩ : ∃ nl, nl = x.1.length := ⟨_, rfl⟩
                  rw [hxv, ← hnle] at ca
                  rw [hgx, ← hnle] at cg
                  rw [← hnle] at cend hold hnew
                  have hnl := hle5.out i7 x hx
                  rw [← hnle] at hnl
                  have hw100 := hundred (i := i7) (by have := hN54.out; omega)
                  obtain ⟨hw1, hw2⟩ := neg_wrap (i := i7) (by have := hN54.out; omega)
                  have hwk7 := Lib.hid (nn_succ hlt7 (by have := hN54.out; omega))
                  have hgn : (i7 : Int) < (i5 : Int) := nn_lt (hiN5.out i7 hlt7)
                  have hdr : ∀ n, Hid (GM (wr.drewN n) W.heap.size i5 (.slice (some ⟨ga, 0, none⟩) N tc) (.slice (some ⟨gb, 0, none⟩) i5 gc5) A5 G5) := fun n => Lib.hid (hG7.out.tch (Tch.drewN No wr n))
                  have htn : ∀ n, Tch No W (wr.drewN n) := fun n => tr7.trans (Tch.drewN No wr n) (fun _ h => h.elim)
                  obtain ⟨wi, hwi⟩ : ∃ wi, wi = wr := ⟨_, rfl⟩
                  subst hwi
                  replace hx := Lib.hid hx
                  replace hD := Lib.hid hD
                  replace hold := Lib.hid hold
                  replace hnew := Lib.hid hnew
                  replace hxv := Lib.hid hxv
                  replace hgx := Lib.hid hgx
                  replace hnle := Lib.hid hnle
                  replace hnl := Lib.hid hnl
                  replace hi7 := Lib.hid hi7
                  replace tr7 := Lib.hid tr7
                  replace hlt7 := Lib.hid hlt7
                  replace hdr := Lib.hid hdr
                  replace htn := Lib.hid htn
                  go_wp2
                  go_loopg [17] (nl + 1) (fun gg kv wx => ∃ k : Nat, gg = nl - k + 1 ∧ kv = .int .i64 k ∧ k ≤ nl ∧ wx = wi)
                  case atStart => exact ⟨0, rfl, rfl, Nat.zero_le _, rfl⟩
                  case round =>
                    obtain ⟨k, rfl, rfl, hk8, hw8⟩ := hrel
                    subst hw8
                    by_cases hq : k < nl
                    · have k8 := nn_lt hq
                      have k9 : (k : Int) < ((nl + 1 : Nat) : Int) := by omega
                      obtain ⟨g, eo, _, c0, ko, mm, kc, hmm, c5, hkc⟩ := hold.out k hq
                      subst eo
                      have c1 := hnew.out k hq
                      have hwk8 := Lib.hid (nn_succ hq (by have := hnl.out; omega))
                      replace hmm := Lib.hid hmm
                      replace hkc := Lib.hid hkc
                      replace hq := Lib.hid hq
                      replace hk8 := Lib.hid hk8
                      go_wp2
                      obtain ⟨wj, hwj⟩ : ∃ wj, wj = wr := ⟨_, rfl⟩
                      subst hwj
                      go_loopg [18] (mm + 1) (fun gg jv wx => ∃ j : Nat, gg = mm - j + 1 ∧ jv = .int .i64 j ∧ j ≤ mm ∧ wx = wj)
                      case atStart => exact ⟨0, rfl, rfl, Nat.zero_le _, rfl⟩
                      case round =>
                        obtain ⟨j, rfl, rfl, hj9, hw9⟩ := hrel
                        subst hw9
                        by_cases hj : j < mm
                        · have k10 := nn_lt hj
                          obtain ⟨kg, eko, _, cz⟩ := hkc.out j hj
                          subst eko
                          have hwj := Lib.hid (nn_max hj hmm.out)
                          replace hj := Lib.hid hj
                          replace hj9 := Lib.hid hj9
                          go_wp2
                          go_roundg (mm - (j + 1) + 1)
                          case rel => exact ⟨j + 1, rfl, by first | rw [hwj.out] | rw [nn_cast], hj.out, rfl⟩
                          case measure => exact nn_down2 hj.out
                        · have k10 := nn_ge hj
                          have k11 : decide (j < mm) = false := decide_eq_false hj
                          replace hj := Lib.hid hj
                          replace hj9 := Lib.hid hj9
                          go_wp2
                          go_roundg (nl - (k + 1) + 1)
                          case rel => exact ⟨k + 1, rfl, by first | rw [hwk8.out] | rw [nn_cast], hq.out, rfl⟩
                          case measure => exact nn_down2 hq.out
                    · have k8 := nn_ge hq
                      have k9 : decide (k < nl) = false := decide_eq_false hq
                      have k10 : (nl : Int) < ((nl + 1 : Nat) : Int) := by omega
                      have k11 : (0 : Int) ≤ (nl : Int) := by omega
                      have hw101 := hundredW (i := i7) (by have := hN54.out; omega)
                      replace hq := Lib.hid hq
                      replace hk8 := Lib.hid hk8
                      go_upto_region 45 with fail
                      go_quiet (fail)
                      all_goals
                        go_wp2
                        go_roundg (N - (i7 + 1) + 1)
                        case rel => exact ⟨i7 + 1, rfl, by first | rw [hwk7.out] | rw [nn_cast], hlt7.out, hdr.out _, htn.out _⟩
                        case measure => exact nn_down2 hlt7.out
                · have k7 := nn_ge hlt7
                  have k8 : decide (i7 < N) = false := decide_eq_false hlt7
                  replace hi7 := Lib.hid hi7
                  replace hlt7 := Lib.hid hlt7
                  go_wp2
                  go_ret
                  exact ⟨rfl, tr7⟩
end Go.Proofs.Ytcnjmkjfgghgoaa
end

section
/- What a law is handed: room behind a slice; the cell of a library's variable. -/
namespace Go.Proofs.Ytcnjmkjfgghgoaa
open Go.ChangeShapes Go.WideShapes Go.ChangeAt Go.RowKit
set_option linter.unusedVariables false
set_option maxRecDepth 100000
theorem okWide_cap {P : Program} {w : World} {base : Nat} {t e : TypeId} {ao : Option Addr} {n c : Nat} (ht : P.underlying t = some (.slice e)) (h : Value.okWide P w .any base t (.slice ao n c)) : n ≤ c ∧ (ao = none → c = 0) := by
  simp only [Value.okWide, ht, Cell.okWide] at h
  cases ao with
  | none =>
    cases n with
    | zero => cases c <;> simp_all [Cell.ok]
    | succ n => simp_all [Cell.ok]
  | some a => simp_all [Cell.ok]
theorem hm_of {W : World} (h : W.ShapedOpen Try.prog) : ∃ m, W.cell? ⟨0, 0, none⟩ = some (.int .i64 m) :=
  cell_of_shapedOpen_int (t := 3) (zero := #[.int .i64 0]) h (of_decide_eq_true (by kernel_rfl)) (by kernel_rfl) rfl (by kernel_rfl) (by kernel_rfl) Try.underlying3
theorem tokV_of {W : World} {kb base : Nat} {v : Value} {l : List Go.Tr.Tok} (h : TokS W kb v l) (hv : Value.okWide Try.prog W .any base 22 v) : TokV W kb v l := by
  obtain ⟨ao, cap, rfl, h2⟩ := id h
  exact ⟨h, _, _, rfl, (okWide_cap Try.underlying22 hv).1⟩
end Go.Proofs.Ytcnjmkjfgghgoaa
end

section
/- A slice of bytes as a law is handed it. -/
namespace Go.Proofs.Ytcnjmkjfgghgoaa
open Go.ChangeShapes Go.WideShapes Go.ChangeAt Go.RowKit Go.Ln
set_option linter.unusedVariables false
set_option maxRecDepth 100000
def u8E : Rd.Elem UInt8 := ⟨1, fun _ c n => c 0 = some (.int .u8 (n.toNat : Int)), fun h _ hc => (hc 0 (by decide)).trans h⟩
theorem bounds_u8 {a : Int} (h : (Lit.int .u8 a).wf = true) : 0 ≤ a ∧ a ≤ 255 := by
  simp [Lit.wf, Go.IntKind.min, Go.IntKind.max, IntKind.signed, IntKind.bits] at h
  omega
theorem opens_u8 {t : TypeId} (ht : Try.prog.underlying t = some (.int .u8)) : Rd.Opens Try.prog u8E t := by
  intro H enc w n cs x h _
  obtain ⟨a, e0, _, wa⟩ := DataW.trod_int ht h
  subst e0
  obtain ⟨h0, h1⟩ := bounds_u8 wa
  refine ⟨UInt8.ofNat a.toNat, fun c hc => ?_⟩
  show c 0 = _
  rw [hc 0 (by decide)]
  simp only [List.getElem?_cons_zero]
  congr 2
  rw [UInt8.toNat_ofNat']
  omega
theorem co5 : Try.prog.cellsOf 5 = 1 := by kernel_rfl
section
variable {H : Type} {enc : TypeId × Value → H} {W : World} {v : Value} {d : DataW H} {pl : List MemPlace} {ts : List TypeId} {ds : List (DataW H)} {j base : Nat}
theorem open_bytes (hval : Value.okWide Try.prog W .any base 41 v) (hd : DataW.Trod enc Try.prog W 0 (fun _ => true) true 41 v d pl) (hsz : (DataW.weightsEach Try.prog ts ds).all (· ≤ reachBytes) = true) (hts : ts[j]? = some 41) (hds : ds[j]? = some d) (h0 : 0 < W.heap.size) :
    ∃ b l, BytS W b v l ∧ b < W.heap.size ∧ l.length ≤ 140737488351232 := by
  obtain ⟨a0, l0, c0, rfl⟩ := okWide_slice Try.underlying41 hval
  obtain ⟨hc1, hc2⟩ := okWide_cap Try.underlying41 hval
  obtain ⟨hs, v', q, r, hB⟩ := Rd.open_arg (Rd.opens_sliceB Try.underlying41 co5 (show Try.prog.bytesOf 5 = 1 by kernel_rfl) (by decide) (by decide) (opens_u8 Try.underlying5)) hd hsz hts hds
  replace q : some (Value.slice a0 l0 c0) = some v' := q
  cases q
  obtain ⟨_, ao, cap, e, h⟩ := r
  cases e
  rcases h with h | ⟨b, off, rfl, hb, hx⟩
  · subst h
    exact ⟨0, [], ⟨_, _, rfl, hc1, hc2, fun i t ht => by cases ht⟩, h0, by simp⟩
  · refine ⟨b, hs, ⟨_, _, rfl, hc1, hc2, fun i c hc => ⟨off, rfl, ?_⟩⟩, hb, by omega⟩
    have h := hx i c hc
    simpa [u8E, Rd.cellsAt] using h
end
end Go.Proofs.Ytcnjmkjfgghgoaa
end

section
/- The law TreeOwn at its arguments as they are handed in. -/
namespace Go.Proofs.Ytcnjmkjfgghgoaa.treeOwn
open Go.ChangeShapes Go.WideShapes Go.ChangeAt Go.RowKit Go.Mp
set_option maxRecDepth 100000
theorem walk {H : Type} (enc : TypeId × Value → H) (W : World) (base : Nat) (args : Array Value) (ds : List (DataW H)) (p : List MemPlace)
    (hval0 : ∀ (j : Nat) t v, Try.f8.params[j]? = some t → args[j]? = some v → Value.okWide Try.prog W .any base t v)
    (hA : DataW.TrodAll enc Try.prog W 0 (fun _ => true) true Try.f8.params.toList args.toList ds p) (hsh : W.ShapedOpen Try.prog)
    (hsz : (DataW.weightsEach Try.prog Try.f8.params.toList ds).all (· ≤ reachBytes) = true) :
    Calls Try.prog 8 args W fun e w' => e = .returned (.bool true) ∧ Below W.heap.size W w' := by
  have hval : ∀ (j : Nat) t v, Try.f8.params[j]? = some t → args[j]? = some v → Value.okWide Try.prog W .any base t v := hval0
  rw [Try.params8] at hA hval hsz
  obtain ⟨v0, v1, d0, d1, p0, p1, rfl, rfl, rfl, h0, h1⟩ := trodAll_two hA
  obtain ⟨m, hm⟩ := hm_of hsh
  obtain ⟨ob, ho, _⟩ := Mp.cell_obj hm
  obtain ⟨b, l, q1, q2, q3⟩ := open_bytes (hval 0 41 v0 rfl rfl) h0 hsz (j := 0) rfl rfl (Mp.heap_lt ho)
  obtain ⟨b2, l2, r1, r2, r3⟩ := open_bytes (hval 1 41 v1 rfl rfl) h1 hsz (j := 1) rfl rfl (Mp.heap_lt ho)
  exact (tree_own q1 q2 r1 r2 hm).mono fun e w' ⟨he, t⟩ => ⟨he, Tch.below (Below.refl _ _) t (Nat.le_refl _) (fun _ h => h.elim)⟩
end Go.Proofs.Ytcnjmkjfgghgoaa.treeOwn
end

section

namespace Go.Proofs.Ytcnjmkjfgghgoaa.treeOwn
open Go.ChangeShapes Go.WideShapes Go.ChangeAt Go.RowKit

theorem own : ownKnob Try.prog.godebug = none := by kernel_rfl

set_option maxRecDepth 100000 in
theorem lifted (os : Os) (started : os.Started) (H : Type) (enc : TypeId × Value → H) :
    ReturnsInHanded {} Try.checked os 8 .any (Rows.treeOwnSpec.pre6 enc Try.prog Try.f8 Rows.treeOwnRow.domain false) (Rows.treeOwnSpec.post enc Try.prog Try.f8 false true false false) := by
  refine returnsInHanded_of_change_shaped (C := Try.checked) own started (by kernel_rfl) Try.func8
    (ChangeSpec.witness6 (enc := enc) (C := Try.checked) false ⟨#[], #[.slice none 0 0 , .slice none 0 0], []⟩ 8 (by kernel_rfl) (by kernel_rfl) (by kernel_rfl) (by kernel_rfl)) ?_
  intro W base args ds gs before hval hW _ hsz hsh _
  obtain ⟨p, q, hA, hV, hpq, hfz, hnd⟩ := id hW
  refine (walk enc W base args ds p hval hA hsh ?hz).mono ?_
  case hz =>
    obtain ⟨rfl, rfl⟩ := trodVars_none hV
    have e : (Rows.treeOwnSpec.plain.varTypes Try.checked.prog) = [] := rfl
    rw [e, List.append_nil, List.append_nil] at hsz
    exact hsz
  rintro e W' ⟨rfl, hb⟩
  refine ⟨_, rfl, law_post Try.laidOut (by kernel_rfl) rfl Try.underlying4 rfl hW ?_ hb⟩
  intro ds' h
  have h2 : ds'.length = Try.f8.params.toList.length := h
  rw [Try.params8] at h2
  match ds', h2 with
  | [_, _], _ => rfl

theorem over : Rows.treeOwnRow.holds Try.pinned (OpenSpec.ofChange Rows.treeOwnSpec) :=
  OpenClaim.holds_of_wide 8 Try.f8 rfl rfl rfl rfl rfl rfl rfl ⟨rfl, rfl, rfl, rfl, rfl⟩ rfl rfl rfl rfl rfl (by kernel_rfl) Try.func8 (by kernel_rfl)
    (of_decide_eq_true (by kernel_rfl)) (by unfold Func.isWrapper; first | (rw [if_pos (by decide +kernel)]; kernel_rfl) | (rw [if_neg (by decide +kernel)]; exact ⟨rfl, rfl⟩))
    (fun os started H enc _ => lifted os started H enc)

/-- THE STATEMENT. -/
theorem proved : Rows.TreeOwnSaid :=
  over
end Go.Proofs.Ytcnjmkjfgghgoaa.treeOwn
end
