/- Pieces of memory of their own, several of them: what an append, a store and new memory leave of each. Of no program. -/
import Derived.Test.YtfdmfihifjlidaaView
import Derived.Test.YtfdmfihifjlidaaMem
namespace Go.Tp
open Go.RowKit
set_option linter.unusedVariables false
variable {P : Program}
theorem wp_append_view {w : World} {o : Oper} {a : Act} {K : Act → World → Prop} {Q : Exit → Act → World → Prop} (s x : Operand) (t : TypeId)
    (ho : o.op = .call { callee := .builtin .append, args := #[s, x], argTypes := #[t, t] })
    (base : Nat) (e : TypeId) (i : TypeInfo) (z : Value) (bytes : Nat) (ht : P.underlying t = some (.slice e)) (hi : P.info? e = some i) (hz : i.zero = some z)
    (hsize : i.size = 1) (hby : i.bytes = bytes) (hzs : z.cells.size = 1) (v : Value) (n : Nat) (xs : List Value) (hs : a.eval s = v) (hown : viewRow w base e v n xs)
    (ao : Option Addr) (m c : Nat) (news : List Value) (hx : a.eval x = .slice ao m c) (hl : news.length = m) (hsrc : ∀ j u, news[j]? = some u → ∃ ad, ao = some ad ∧ w.cell? (ad.add j) = some u) (h1 : ∀ u ∈ news, u.oneCell' = true)
    (h63 : n + m ≤ maxLen) (hbytes : (n + m) * bytes ≤ 140737488355328) (hbase : base ≤ w.heap.size)
    (h : ∀ v' w', viewRow w' base e v' (n + m) (xs ++ news) → Grew w w' v v' n m → K (a.put o.dst v') w') : o.wp P a w K Q := by
  obtain ⟨v', w', hr, h2, h3⟩ := run_append_view (P := P) w base t o.type e i z bytes ht hi hz hsize hby hzs v n xs hown ao m c news hl hsrc h1 h63 hbytes hbase
  unfold Oper.wp execOp
  simp only [ho, resolve, invoke, builtin, Sem.run_bind, Sem.run_pure, Result.andThen_ok, List.map_toArray, List.map_cons, List.map_nil, hs, hx, hr]
  exact h v' w' h2 h3
/-- 'append(v, x)', one element of one cell. -/
theorem wpList_append_view1 {w : World} {ops : Array Oper} {rest : List Oper} {o : Oper} {a : Act} {Q : Exit → Act → World → Prop} {u : Value} {e' : TypeId} (hgd : o.guard = none) (s x : Operand) (t : TypeId)
    (ho : o.op = .call { callee := .builtin .append, args := #[s, x], argTypes := #[t, t] })
    (base : Nat) (e : TypeId) (i : TypeInfo) (z : Value) (bytes : Nat) (ht : P.underlying t = some (.slice e)) (hi : P.info? e = some i) (hz : i.zero = some z)
    (hsize : i.size = 1) (hby : i.bytes = bytes) (hzs : z.cells.size = 1) (v : Value) (n : Nat) (xs : List Value) (hs : a.eval s = v) (hown : viewRow (w.alloc (.cells #[u] e')) base e v n xs)
    (c : Nat) (hx : a.eval x = .slice (some ⟨w.heap.size, 0, none⟩) 1 c) (h1 : u.oneCell' = true)
    (h63 : n + 1 ≤ maxLen) (hbytes : (n + 1) * bytes ≤ 140737488355328) (hbase : base ≤ w.heap.size)
    (h : ∀ v' w', viewRow w' base e v' (n + 1) (xs ++ [u]) → Grew (w.alloc (.cells #[u] e')) w' v v' n 1 → wpList P ops Q rest (a.put o.dst v') w') :
    wpList P ops Q (o :: rest) a (w.alloc (.cells #[u] e')) := by
  refine wpList_plain hgd fun K hK => wp_append_view s x t ho base e i z bytes ht hi hz hsize hby hzs v n xs hs hown _ 1 c [u] hx rfl ?_ ?_ h63 hbytes ?_ fun v' w' h2 h3 => hK _ _ (h v' w' h2 h3)
  · intro j y hj
    match j, hj with
    | 0, hj => simp at hj; subst hj; exact ⟨_, rfl, by simp [Addr.add]⟩
  · intro y hy
    simp at hy; subst hy; exact h1
  · simp; omega

/-- One block alone was written, its cells' number and type are as they were. -/
structure Chg (w w' : World) (g : Nat) : Prop where
  os : w'.os = w.os
  tape : w'.tape = w.tape
  output : w'.output = w.output
  size : w.heap.size ≤ w'.heap.size
  block : ∀ k, k < w.heap.size → k ≠ g → w'.heap[k]? = w.heap[k]?
  self : ∀ cur e, w.heap[g]? = some (.cells cur e (0, 0)) → ∃ cur', w'.heap[g]? = some (.cells cur' e (0, 0)) ∧ cur'.size = cur.size
theorem Chg.below {w w' : World} {g B : Nat} (h : Chg w w' g) (hg : B ≤ g) (hB : B ≤ w.heap.size) : Below B w w' := ⟨h.os, h.tape, h.output, h.size, fun k hk => h.block k (by omega) (by omega)⟩
theorem Grew.chg {w w' : World} {v v' : Value} {n m : Nat} (h : Grew w w' v v' n m) : ∃ g, Chg w w' g ∧ (blockOf v = some g ∨ g = w.heap.size) := by
  by_cases hex : ∃ g, blockOf v = some g ∧ g < w.heap.size
  · obtain ⟨g, hg, hgl⟩ := hex
    refine ⟨g, ⟨h.os, h.tape, h.output, h.size, fun k hk hne => ?_, fun cur e hc => ?_⟩, .inl hg⟩
    · rcases h.block k hk with h1 | ⟨off, cap, cur, cur', e, h1, _⟩
      · exact h1
      · rw [hg] at h1; cases h1; exact absurd rfl hne
    · rcases h.block g hgl with h1 | ⟨off, cap, c1, c2, e', h1, h2, h3, h4, h5, h6, _⟩
      · exact ⟨cur, h1.trans hc, rfl⟩
      · rw [h4] at hc; cases hc; exact ⟨c2, h5, h6⟩
  · refine ⟨w.heap.size, ⟨h.os, h.tape, h.output, h.size, fun k hk hne => ?_, fun cur e hc => ?_⟩, .inr rfl⟩
    · rcases h.block k hk with h1 | ⟨off, cap, cur, cur', e, h1, _⟩
      · exact h1
      · exact absurd ⟨k, h1, hk⟩ hex
    · have := (Array.getElem?_eq_some_iff.1 hc).1; omega
theorem chg_set {w : World} {g o : Nat} (v : Value) : Chg w (w.setCell ⟨g, o, none⟩ v) g :=
  ⟨rfl, rfl, rfl, by simp [World.setCell], fun k hk hne => Below.heap_setCell _ _ _ _ hne, fun cur e hc => ⟨cur.setIfInBounds o v, by simp [World.setCell, Array.getElem?_modify, hc], by simp⟩⟩
theorem blockOf_row {w : World} {B : Nat} {e : TypeId} {v : Value} {n : Nat} {xs : List Value} (h : viewRow w B e v n xs) {g : Nat} (hg : blockOf v = some g) : ∃ cur, w.heap[g]? = some (.cells cur e (0, 0)) ∧ B ≤ g ∧ g < w.heap.size := by
  rcases h.2 with ⟨rfl, _⟩ | ⟨g', off, cap, cur, rfl, hb, hc, _⟩
  · cases hg
  · cases cap with
    | zero => cases hg
    | succ c => cases hg; exact ⟨cur, hc, hb, (Array.getElem?_eq_some_iff.1 hc).1⟩
theorem viewRow_below {w w' : World} {B : Nat} {e : TypeId} {v : Value} {n : Nat} {xs : List Value} (h : viewRow w B e v n xs) (hb : Below w.heap.size w w') : viewRow w' B e v n xs := by
  refine ⟨h.1, ?_⟩
  rcases h.2 with h0 | ⟨g, off, cap, cur, hv, hB, hc, r⟩
  · exact .inl h0
  · exact .inr ⟨g, off, cap, cur, hv, hB, (hb.block _ (Array.getElem?_eq_some_iff.1 hc).1).trans hc, r⟩
theorem viewRow_mono {w : World} {B B' : Nat} {e : TypeId} {v : Value} {n : Nat} {xs : List Value} (h : viewRow w B e v n xs) (hb : B' ≤ B) : viewRow w B' e v n xs := by
  refine ⟨h.1, ?_⟩
  rcases h.2 with h0 | ⟨g, off, cap, cur, hv, hB, r⟩
  · exact .inl h0
  · exact .inr ⟨g, off, cap, cur, hv, Nat.le_trans hb hB, r⟩
theorem viewRow_own {w : World} {B : Nat} {e : TypeId} {v : Value} {n : Nat} {xs : List Value} (h : w.ownsRow B e 1 v n xs) : viewRow w B e v n xs := by
  refine ⟨by simpa using h.1, ?_⟩
  rcases h.2 with h0 | ⟨g, cap, cur, hv, hB, hc, h1, h2, h3, h4⟩
  · exact .inl h0
  · refine .inr ⟨g, 0, cap, cur, hv, hB, hc, h1, h2, by omega, fun j u hj => ?_⟩
    rw [← h4, List.getElem?_take] at hj
    split at hj
    · rw [Nat.zero_add]; simpa using hj
    · cases hj
theorem viewRow_chg {w w' : World} {B : Nat} {e : TypeId} {v : Value} {n : Nat} {xs : List Value} (h : viewRow w B e v n xs) {g : Nat} (hc : Chg w w' g) (hne : blockOf v ≠ some g) : viewRow w' B e v n xs := by
  refine ⟨h.1, ?_⟩
  rcases h.2 with h0 | ⟨g', off, cap, cur, hv, hB, hc', h1, h2, h3, h4⟩
  · exact .inl h0
  · by_cases hgg : g' = g
    · subst hgg
      obtain ⟨cur', e1, e2⟩ := hc.self _ _ hc'
      have hcap : cap = 0 := by
        cases cap with
        | zero => rfl
        | succ c => subst hv; exact absurd rfl hne
      subst hcap
      refine .inr ⟨g', off, 0, cur', hv, hB, e1, h1, h2, by rw [e2]; exact h3, fun j u hj => ?_⟩
      have := (List.getElem?_eq_some_iff.1 hj).1
      have := h.1
      omega
    · exact .inr ⟨g', off, cap, cur, hv, hB, (hc.block _ (Array.getElem?_eq_some_iff.1 hc').1 hgg).trans hc', h1, h2, h3, h4⟩
/-- Two pieces of which neither may write into the other. -/
def Apart (u v : Value) : Prop := ∀ g, blockOf u = some g → blockOf v ≠ some g
theorem Apart.symm {u v : Value} (h : Apart u v) : Apart v u := fun g h1 h2 => h g h2 h1
/-- The one is the other, longer; or they are apart. -/
def Longer (u v : Value) (nu nv : Nat) : Prop := (nu ≤ nv ∧ ∃ a cap, u = .slice (some a) nu cap ∧ v = .slice (some a) nv cap) ∨ Apart u v
theorem apart_grew {w w' : World} {B : Nat} {e : TypeId} {u v v' : Value} {n m nu : Nat} {xs : List Value} (hu : viewRow w B e u nu xs) (h : Apart u v) (hg : Grew w w' v v' n m) : Apart u v' := by
  intro g h1 h2
  rcases hg.lies with ⟨rfl, rfl⟩ | ⟨a, cap, rfl, rfl⟩ | ⟨cap, rfl⟩
  · exact h g h1 h2
  · refine h g h1 ?_
    cases cap with
    | zero => cases h2
    | succ c => exact h2
  · obtain ⟨_, _, _, hlt⟩ := blockOf_row hu h1
    cases cap with
    | zero => cases h2
    | succ c => cases h2; dsimp only at hlt; omega
theorem viewRow_grew {w w' : World} {B : Nat} {e : TypeId} {u v v' : Value} {n m nu : Nat} {xs : List Value} (hu : viewRow w B e u nu xs) (h : Apart u v) (hg : Grew w w' v v' n m) : viewRow w' B e u nu xs := by
  obtain ⟨g, hc, hb⟩ := hg.chg
  refine viewRow_chg hu hc fun h1 => ?_
  rcases hb with hb | rfl
  · exact h g h1 hb
  · obtain ⟨_, _, _, hlt⟩ := blockOf_row hu h1
    omega
/-- Other element types lie elsewhere. -/
theorem apart_type {w : World} {B B' : Nat} {e e' : TypeId} {u v : Value} {n m : Nat} {xs ys : List Value} (hu : viewRow w B e u n xs) (hv : viewRow w B' e' v m ys) (hne : e ≠ e') : Apart u v := by
  intro g h1 h2
  obtain ⟨c1, e1, _⟩ := blockOf_row hu h1
  obtain ⟨c2, e2, _⟩ := blockOf_row hv h2
  rw [e1] at e2
  cases e2
  exact hne rfl
theorem longer_grew {w w' : World} {B : Nat} {e : TypeId} {u v v' : Value} {n m nu : Nat} {xs : List Value} (hu : viewRow w B e u nu xs) (h : Longer u v nu n) (hg : Grew w w' v v' n m) : Longer u v' nu (n + m) ∧ viewRow w' B e u nu xs := by
  rcases h with ⟨hn, a, cap, rfl, rfl⟩ | h
  · refine ⟨?_, hu.1, ?_⟩
    · rcases hg.lies with ⟨rfl, rfl⟩ | ⟨a', cap', h1, rfl⟩ | ⟨cap', rfl⟩
      · exact .inl ⟨hn, _, _, rfl, rfl⟩
      · cases h1
        exact .inl ⟨by omega, _, _, rfl, rfl⟩
      · refine .inr fun g h1 h2 => ?_
        obtain ⟨_, _, _, hlt⟩ := blockOf_row hu h1
        cases cap' with
        | zero => cases h2
        | succ c => cases h2; dsimp only at hlt; omega
    · rcases hu.2 with h0 | ⟨g', off, cap', cur, hv, hB, hc', h1, h2, h3, h4⟩
      · exact .inl h0
      · cases hv
        rcases hg.block g' (Array.getElem?_eq_some_iff.1 hc').1 with hb | ⟨off', cap'', c1, c2, e', _, hv, _, q1, q2, q3, q4⟩
        · exact .inr ⟨g', off, cap, cur, rfl, hB, hb.trans hc', h1, h2, h3, h4⟩
        · cases hv
          rw [q1] at hc'
          cases hc'
          refine .inr ⟨g', off, cap, c2, rfl, hB, q2, h1, h2, by rw [q3]; exact h3, fun j u hj => ?_⟩
          have hj' := (List.getElem?_eq_some_iff.1 hj).1
          have := hu.1
          rw [q4 _ (by omega)]
          exact h4 j u hj
  · exact ⟨.inr (apart_grew hu h hg), viewRow_grew hu h hg⟩
end Go.Tp
