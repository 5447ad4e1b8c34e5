/- Two parts of a row of hosts that stand side by side change places. -/
import Derived.Test.YtjepgpocmnijiaaZy14
import Derived.Test.YtjepgpocmnijiaaZy0
import Derived.BigRegion
section
/- Lists appended as a whole to a row of one's own; rows of one's own as lists that are read. -/
namespace Go.Rd
open Go.RowKit Go.Mp
set_option linter.unusedVariables false
/-- How an element lies: its cells. -/
structure Enc {α : Type} (E : Elem α) where
  enc : α → List Value
  ok : α → Prop
  len : ∀ x, (enc x).length = E.k
  pos : 0 < E.k
  one : ∀ x, ∀ u ∈ enc x, u.oneCell' = true
  R : ∀ {w : World} {c : Cells} {x : α}, E.R w c x → (∀ j u, (enc x)[j]? = some u → c j = some u) ∧ ok x
  of : ∀ {w : World} {c : Cells} {x : α}, ok x → (∀ j u, (enc x)[j]? = some u → c j = some u) → E.R w c x
theorem flat_get {α : Type} {enc : α → List Value} {k : Nat} (hk : 0 < k) (he : ∀ x, (enc x).length = k) : ∀ (l : List α) (q : Nat) (u : Value), (l.flatMap enc)[q]? = some u → ∃ x, l[q / k]? = some x ∧ (enc x)[q % k]? = some u
  | [], q, u, h => by simp at h
  | x :: l, q, u, h => by
    rw [List.flatMap_cons] at h
    by_cases hq : q < k
    · rw [List.getElem?_append_left (by rw [he]; exact hq)] at h
      exact ⟨x, by rw [Nat.div_eq_of_lt hq]; rfl, by rw [Nat.mod_eq_of_lt hq]; exact h⟩
    · rw [List.getElem?_append_right (by rw [he]; omega), he] at h
      obtain ⟨y, h1, h2⟩ := flat_get hk he l (q - k) u h
      have e1 : q / k = (q - k) / k + 1 := by rw [Nat.div_eq_sub_div hk (by omega)]
      have e2 : q % k = (q - k) % k := by rw [Nat.mod_eq_sub_mod (by omega)]
      exact ⟨y, by rw [e1]; exact h1, by rw [e2]; exact h2⟩
theorem flat_at {α : Type} {enc : α → List Value} {k : Nat} (he : ∀ x, (enc x).length = k) : ∀ {l : List α} {i : Nat} {x : α}, l[i]? = some x → ∀ j, j < k → (l.flatMap enc)[i * k + j]? = (enc x)[j]?
  | [], i, x, h, _, _ => by cases h
  | y :: l, 0, x, h, j, hj => by
    simp only [List.getElem?_cons_zero, Option.some.injEq] at h
    subst h
    rw [List.flatMap_cons, Nat.zero_mul, Nat.zero_add, List.getElem?_append_left (by rw [he]; exact hj)]
  | y :: l, i + 1, x, h, j, hj => by
    rw [List.flatMap_cons, List.getElem?_append_right (by rw [he, Nat.succ_mul]; omega), he]
    have : (i + 1) * k + j - k = i * k + j := by rw [Nat.succ_mul]; omega
    rw [this]
    exact flat_at he (by simpa using h) j hj
theorem flat_len {α : Type} {enc : α → List Value} {k : Nat} (he : ∀ x, (enc x).length = k) : ∀ l : List α, (l.flatMap enc).length = l.length * k
  | [] => by simp
  | x :: l => by rw [List.flatMap_cons, List.length_append, he, flat_len he l, List.length_cons, Nat.succ_mul]; omega
theorem run_append_src {P : Program} {α : Type} {E : Elem α} (C : Enc E) (w : World) (base : Nat) (t ty e : TypeId) (i : TypeInfo) (z : Value) (bytes : Nat) (ht : P.underlying t = some (.slice e)) (hi : P.info? e = some i) (hz : i.zero = some z)
    (hsize : i.size = E.k) (hby : i.bytes = bytes) (hzs : z.cells.size = E.k) (v : Value) (n : Nat) (xs : List Value) (hown : w.ownsRow base e E.k v n xs) (src : Value) (l : List α) (hsrc : SliceOf E w src l)
    (h63 : n + l.length ≤ maxLen) (hbytes : (n + l.length) * bytes ≤ 140737488355328) (hbase : base ≤ w.heap.size) :
    ∃ v' w', (Builtin.append_ #[t, t] ty #[v, src]).run P w = .ok v' w' ∧ w'.ownsRow base e E.k v' (n + l.length) (xs ++ l.flatMap C.enc) ∧ w.grownBy w' v.ownBlock ∧ (∀ g, v'.ownBlock = some g → v.ownBlock = some g ∨ w.heap.size ≤ g) := by
  obtain ⟨hl, ao, cap, rfl, hc, h3⟩ := hsrc
  have key : ∀ ad : Addr, ao = some ad → (∀ j u, (l.flatMap C.enc)[j]? = some u → w.cell? (ad.add j) = some u) → ∃ v' w', (Builtin.append_ #[t, t] ty #[v, .slice ao l.length cap]).run P w = .ok v' w' ∧ w'.ownsRow base e E.k v' (n + l.length) (xs ++ l.flatMap C.enc) ∧ w.grownBy w' v.ownBlock ∧ (∀ g, v'.ownBlock = some g → v.ownBlock = some g ∨ w.heap.size ≤ g) := fun ad ha hx => by
    obtain ⟨v', w', hr, q1, q2, q3, q4⟩ := run_append_own_at (P := P) w base t ty e i z E.k bytes ht hi hz hsize hby hzs C.pos v n xs hown ad l.length cap (l.flatMap C.enc) (flat_len C.len l) hx (fun u hu => by
      obtain ⟨x, _, hu⟩ := List.mem_flatMap.1 hu
      exact C.one x u hu) h63 hbytes hbase
    refine ⟨v', w', by rw [ha]; exact hr, q1, q2, fun g hg => ?_⟩
    rcases q4 with h | h
    · exact .inl (by rw [← h]; exact hg)
    · rw [h] at hg; cases hg; exact .inr (Nat.le_refl _)
  rcases h3 with rfl | ⟨b, off, rfl, hb, hx⟩
  · cases ao with
    | some ad => exact key ad rfl (fun j u h => by simp at h)
    | none =>
      refine ⟨v, w, ?_, by simpa using hown, ⟨rfl, rfl, rfl, Nat.le_refl _, fun _ _ _ => rfl⟩, fun g hg => .inl hg⟩
      rcases hown.2 with ⟨rfl, e⟩ | ⟨g, cp, cur, rfl, _, _, hnc, _⟩
      · simp [Builtin.append_, run_underlying ht, sizeOf, typeInfo, hi, Builtin.lenOf, Builtin.firstCells]
      · simp [Builtin.append_, run_underlying ht, sizeOf, typeInfo, hi, Builtin.lenOf, Builtin.firstCells, hnc, storeCells]
  · refine key _ rfl (fun q u hq => ?_)
    obtain ⟨x, h1, h2⟩ := flat_get C.pos C.len l q u hq
    have h4 := (C.R (hx _ x h1)).1 _ u h2
    have h5 : off + q / E.k * E.k + q % E.k = off + q := by have := Nat.div_add_mod q E.k; rw [Nat.mul_comm] at this; omega
    have h6 : w.cell? ⟨b, off + q / E.k * E.k + q % E.k, .none⟩ = some u := h4
    rw [h5] at h6
    have h7 : (⟨b, off, .none⟩ : Addr).add q = ⟨b, off + q, .none⟩ := by unfold Addr.add; split <;> simp_all
    rw [h7]; exact h6
theorem wp_append_src {P : Program} {α : Type} {E : Elem α} (C : Enc E) {w : World} {ops : Array Oper} {rest : List Oper} {o : Oper} {act : Act} {Q : Exit → Act → World → Prop} (hgd : o.guard = .none) (s x : Operand) (t : TypeId)
    (ho : o.op = .call { callee := .builtin .append, args := #[s, x], argTypes := #[t, t] }) (base : Nat) (e : TypeId) (i : TypeInfo) (z : Value) (bytes : Nat) (ht : P.underlying t = some (.slice e)) (hi : P.info? e = some i) (hz : i.zero = some z)
    (hsize : i.size = E.k) (hby : i.bytes = bytes) (hzs : z.cells.size = E.k) (v : Value) (n : Nat) (xs : List Value) (hs : act.eval s = v) (hown : w.ownsRow base e E.k v n xs) (src : Value) (l : List α) (hxv : act.eval x = src) (hsrc : SliceOf E w src l)
    (h63 : n + l.length ≤ maxLen) (hbytes : (n + l.length) * bytes ≤ 140737488355328) (hbase : base ≤ w.heap.size)
    (h : ∀ v' w', w'.ownsRow base e E.k v' (n + l.length) (xs ++ l.flatMap C.enc) → w.grownBy w' v.ownBlock → (∀ g, v'.ownBlock = some g → v.ownBlock = some g ∨ w.heap.size ≤ g) → wpList P ops Q rest (act.put o.dst v') w') : wpList P ops Q (o :: rest) act w :=
  wpList_plain hgd fun _ hK => by
    obtain ⟨v', w', hr, h2, h3, h4⟩ := run_append_src C w base t o.type e i z bytes ht hi hz hsize hby hzs v n xs hown src l hsrc h63 hbytes hbase
    unfold Oper.wp execOp
    simp only [ho, resolve, invoke, builtin, Sem.run_bind, Sem.run_pure, Result.andThen_ok, List.map_toArray, List.map_cons, List.map_nil, hs, hxv, hr]
    exact hK _ _ (h v' w' h2 h3 h4)
/-- A row of one's own reads as a list. -/
theorem own_slice {α : Type} {E : Elem α} (C : Enc E) {w : World} {B : Nat} {e : TypeId} {v : Value} {l : List α} (h : w.ownsRow B e E.k v l.length (l.flatMap C.enc)) (hok : ∀ x ∈ l, C.ok x) (hlen : l.length ≤ 140737488351232) : SliceOf E w v l := by
  have h0 := h
  rcases h.2 with ⟨rfl, h1⟩ | ⟨g, cap, cur, rfl, hb, hg, hnc, _⟩
  · have : l = [] := List.length_eq_zero_iff.1 h1
    subst this
    exact ⟨hlen, _, _, rfl, Nat.le_refl _, .inl rfl⟩
  · refine ⟨hlen, _, _, rfl, hnc, .inr ⟨g, 0, rfl, (Array.getElem?_eq_some_iff.1 hg).1, fun i x hx => C.of (hok x (List.mem_of_getElem? hx)) (fun j u hu => ?_)⟩⟩
    have hj : j < E.k := by have := (List.getElem?_eq_some_iff.1 hu).1; rw [C.len] at this; exact this
    obtain ⟨g', e1, _, _, e2, _⟩ := ownsRow_cell h0 (j := i * E.k + j) (u := u) (by rw [flat_at C.len hx j hj]; exact hu)
    simp only [Option.some.injEq, Addr.mk.injEq, and_true] at e1
    subst e1
    show w.cell? ⟨g, 0 + i * E.k + j, .none⟩ = some u
    rw [Nat.zero_add]; exact e2
theorem slice_ok {α : Type} {E : Elem α} (C : Enc E) {w : World} {v : Value} {l : List α} (h : SliceOf E w v l) : ∀ x ∈ l, C.ok x := fun x hx => by
  obtain ⟨_, ao, cap, rfl, _, h⟩ := h
  rcases h with rfl | ⟨b, off, _, _, hr⟩
  · cases hx
  · obtain ⟨i, hi⟩ := List.mem_iff_getElem?.1 hx
    exact (C.R (hr i x hi)).2
def strC : Enc str := ⟨fun s => [.string s], fun s => s.size ≤ maxLen, fun _ => rfl, by decide, fun x u hu => by rw [List.mem_singleton.1 hu]; rfl, fun h => ⟨fun j u hu => by
  match j, hu with
  | 0, hu => simp only [List.getElem?_cons_zero, Option.some.injEq] at hu; rw [← hu]; exact h.1
  | j + 1, hu => simp at hu, h.2⟩, fun h hc => ⟨hc 0 _ rfl, h⟩⟩
end Go.Rd
namespace Go.Ck
open Go.RowKit Go.Mp
set_option linter.unusedVariables false
def tgtC : Rd.Enc tgtE := ⟨fun t => [.string t.service, .string t.split, .float .f64 t.weight], fun t => t.service.size ≤ maxLen ∧ t.split.size ≤ maxLen ∧ t.weight < 18446744073709551616, fun _ => rfl, by decide, fun x u hu => by
    simp only [List.mem_cons, List.not_mem_nil, or_false] at hu; rcases hu with rfl | rfl | rfl <;> rfl, fun h => by
    obtain ⟨⟨c0, s0⟩, ⟨c1, s1⟩, ⟨c2, s2⟩, _⟩ := h
    refine ⟨fun j u hu => ?_, s0, s1, s2⟩
    match j, hu with
    | 0, hu => simp only [List.getElem?_cons_zero, Option.some.injEq] at hu; rw [← hu]; exact c0
    | 1, hu => simp only [List.getElem?_cons_succ, List.getElem?_cons_zero, Option.some.injEq] at hu; rw [← hu]; exact c1
    | 2, hu => simp only [List.getElem?_cons_succ, List.getElem?_cons_zero, Option.some.injEq] at hu; rw [← hu]; exact c2
    | j + 3, hu => simp at hu, fun h hc => ⟨⟨hc 0 _ rfl, h.1⟩, ⟨hc 1 _ rfl, h.2.1⟩, ⟨hc 2 _ rfl, h.2.2⟩, trivial⟩⟩
def rulC : Rd.Enc rulE := ⟨fun t => [.string t.path, .string t.method, .string t.split, .bool t.allow], fun t => t.path.size ≤ maxLen ∧ t.method.size ≤ maxLen ∧ t.split.size ≤ maxLen, fun _ => rfl, by decide, fun x u hu => by
    simp only [List.mem_cons, List.not_mem_nil, or_false] at hu; rcases hu with rfl | rfl | rfl | rfl <;> rfl, fun h => by
    obtain ⟨⟨c0, s0⟩, ⟨c1, s1⟩, ⟨c2, s2⟩, c3, _⟩ := h
    refine ⟨fun j u hu => ?_, s0, s1, s2⟩
    match j, hu with
    | 0, hu => simp only [List.getElem?_cons_zero, Option.some.injEq] at hu; rw [← hu]; exact c0
    | 1, hu => simp only [List.getElem?_cons_succ, List.getElem?_cons_zero, Option.some.injEq] at hu; rw [← hu]; exact c1
    | 2, hu => simp only [List.getElem?_cons_succ, List.getElem?_cons_zero, Option.some.injEq] at hu; rw [← hu]; exact c2
    | 3, hu => simp only [List.getElem?_cons_succ, List.getElem?_cons_zero, Option.some.injEq] at hu; rw [← hu]; exact c3
    | j + 4, hu => simp at hu, fun h hc => ⟨⟨hc 0 _ rfl, h.1⟩, ⟨hc 1 _ rfl, h.2.1⟩, ⟨hc 2 _ rfl, h.2.2⟩, hc 3 _ rfl, trivial⟩⟩
/-- A resource with the values of its lists. -/
structure RV where
  r : Res
  ev : Value
  tv : Value
  rv : Value
def rvc (x : RV) : List Value := [.int .i64 x.r.kind, .string x.r.name, x.ev, x.tv, .string x.r.host, x.rv, .string x.r.route, .bool x.r.del]
structure RM (w : World) (B : Nat) (x : RV) : Prop where
  e : w.ownsRow B 9 1 x.ev x.r.eps.length (x.r.eps.flatMap Rd.strC.enc)
  t : w.ownsRow B 57 3 x.tv x.r.tgts.length (x.r.tgts.flatMap tgtC.enc)
  ru : w.ownsRow B 101 4 x.rv x.r.rules.length (x.r.rules.flatMap rulC.enc)
  p : ∃ w0 ev tv rv, RP w0 x.r ev tv rv
theorem RM.rp {w : World} {B : Nat} {x : RV} (h : RM w B x) : RP w x.r x.ev x.tv x.rv := by
  obtain ⟨w0, ev, tv, rv, p⟩ := h.p
  exact ⟨p.k1, p.nm, Rd.own_slice Rd.strC h.e (Rd.slice_ok Rd.strC p.e) p.e.1, Rd.own_slice tgtC h.t (Rd.slice_ok tgtC p.t) p.t.1, p.hs, Rd.own_slice rulC h.ru (Rd.slice_ok rulC p.ru) p.ru.1, p.ro⟩
theorem RM.tch {w w' : World} {B : Nat} {x : RV} {S : Nat → Prop} (h : RM w B x) (t : Tch S w w') (h1 : ∀ g, x.ev.ownBlock = some g → ¬ S g) (h2 : ∀ g, x.tv.ownBlock = some g → ¬ S g) (h3 : ∀ g, x.rv.ownBlock = some g → ¬ S g) : RM w' B x :=
  ⟨ownsRow_tch h.e t h1, ownsRow_tch h.t t h2, ownsRow_tch h.ru t h3, h.p⟩
/-- Resources in memory of one's own. -/
structure OwnM (w : World) (B : Nat) (v : Value) (L : List RV) : Prop where
  row : w.ownsRow B 52 8 v L.length (L.flatMap rvc)
  el : ∀ x ∈ L, RM w B x
theorem rvc_len (x : RV) : (rvc x).length = 8 := rfl
theorem OwnM.reads {w : World} {B : Nat} {v : Value} {L : List RV} (h : OwnM w B v L) (hlen : L.length ≤ 140737488351232) : ResS w v (L.map (·.r)) := by
  have h0 := h.row
  rcases h.row.2 with ⟨rfl, h1⟩ | ⟨g, cap, cur, rfl, hb, hg, hnc, _⟩
  · have : L = [] := List.length_eq_zero_iff.1 h1
    subst this
    exact ⟨by simp, _, _, rfl, Nat.le_refl _, .inl rfl⟩
  · refine ⟨by rw [List.length_map]; exact hlen, _, _, by rw [List.length_map], by rw [List.length_map]; exact hnc, .inr ⟨g, 0, rfl, (Array.getElem?_eq_some_iff.1 hg).1, fun i r hr => ?_⟩⟩
    rw [List.getElem?_map] at hr
    obtain ⟨x, hx, rfl⟩ := Option.map_eq_some_iff.1 hr
    have hc : ∀ (j : Nat) u, j < 8 → (rvc x)[j]? = some u → w.cell? ⟨g, 0 + i * 8 + j, none⟩ = some u := fun j u hj hu => by
      obtain ⟨g', e1, _, _, e2, _⟩ := ownsRow_cell h0 (j := i * 8 + j) (u := u) (by rw [Rd.flat_at rvc_len hx j hj]; exact hu)
      simp only [Option.some.injEq, Addr.mk.injEq, and_true] at e1
      subst e1
      rw [Nat.zero_add]; exact e2
    exact resE_of ⟨hc 0 _ (by decide) rfl, hc 1 _ (by decide) rfl, hc 2 _ (by decide) rfl, hc 3 _ (by decide) rfl, hc 4 _ (by decide) rfl, hc 5 _ (by decide) rfl, hc 6 _ (by decide) rfl, hc 7 _ (by decide) rfl⟩ (h.el x (List.mem_of_getElem? hx)).rp
end Go.Ck
end

section
/- What keeps the shape of every block of cells; 'append(v, x..)' keeps it; a list that is written over. -/
namespace Go.Ck
open Go.RowKit Go.Mp
set_option linter.unusedVariables false
/-- Every block of cells that was there is one still, as long and of the same type. -/
def Shp (w w' : World) : Prop := ∀ (g : Nat) (cur : Array Value) (e : TypeId), w.heap[g]? = some (.cells cur e (0, 0)) → ∃ cur' : Array Value, w'.heap[g]? = some (.cells cur' e (0, 0)) ∧ cur'.size = cur.size
theorem Shp.refl (w : World) : Shp w w := fun g cur e h => ⟨cur, h, rfl⟩
theorem Shp.trans {a b c : World} (h : Shp a b) (h' : Shp b c) : Shp a c := fun g cur e q => by
  obtain ⟨c1, h1, s1⟩ := h g cur e q
  obtain ⟨c2, h2, s2⟩ := h' g c1 e h1
  exact ⟨c2, h2, s2.trans s1⟩
theorem shp_set (w : World) (g i : Nat) (v : Value) : Shp w (w.setCell ⟨g, i, none⟩ v) := fun k cur e h => by
  by_cases hk : k = g
  · subst hk; exact ⟨_, heap_setCell_same w k i cur e v h, by simp⟩
  · exact ⟨cur, (heap_setCell_other w _ k v hk).trans h, rfl⟩
theorem shp_block {w w' : World} (hb : ∀ k, k < w.heap.size → w'.heap[k]? = w.heap[k]?) : Shp w w' := fun k cur e h =>
  ⟨cur, (hb k (Array.getElem?_eq_some_iff.1 h).1).trans h, rfl⟩
theorem shp_below {w w' : World} (h : Below w.heap.size w w') : Shp w w' := shp_block fun k hk => h.block k hk
/-- A row of one's own, whatever it holds. -/
def Any (w : World) (B : Nat) (e : TypeId) (size : Nat) (v : Value) (n : Nat) : Prop := ∃ xs, w.ownsRow B e size v n xs
theorem Any.shp {w w' : World} {B : Nat} {e : TypeId} {size : Nat} {v : Value} {n : Nat} (h : Any w B e size v n) (s : Shp w w') : Any w' B e size v n := by
  obtain ⟨xs, hl, h⟩ := h
  rcases h with ⟨rfl, rfl⟩ | ⟨g, cap, cur, rfl, hb, hg, hnc, hcm, hcs, htk⟩
  · exact ⟨[], by simp, .inl ⟨rfl, rfl⟩⟩
  · obtain ⟨cur', h1, h2⟩ := s g cur e hg
    refine ⟨cur'.toList.take (n * size), ?_, .inr ⟨g, cap, cur', rfl, hb, h1, hnc, hcm, by omega, rfl⟩⟩
    have := Nat.mul_le_mul_right size hnc
    rw [List.length_take, Array.length_toList]; omega
theorem Any.cell {w : World} {B : Nat} {e : TypeId} {size : Nat} {v : Value} {n : Nat} (h : Any w B e size v n) (hn : 0 < n) : ∃ g cap, v = .slice (some ⟨g, 0, none⟩) n cap ∧ B ≤ g ∧ g < w.heap.size ∧ (∀ i, i < n * size → ∃ u, w.cell? ⟨g, i, none⟩ = some u ∧ w.frozen? ⟨g, i, none⟩ = false) ∧ ∀ k cs t, w.heap[k]? = some (.cells cs t (0, 0)) → t ≠ e → k ≠ g := by
  obtain ⟨xs, hl, h⟩ := h
  rcases h with ⟨rfl, rfl⟩ | ⟨g, cap, cur, rfl, hb, hg, hnc, hcm, hcs, htk⟩
  · omega
  · refine ⟨g, cap, rfl, hb, (Array.getElem?_eq_some_iff.1 hg).1, fun i hi => ?_, fun k cs t hk ht e => ?_⟩
    · have := Nat.mul_le_mul_right size hnc
      have hi' : i < cur.size := by omega
      exact ⟨cur[i], by simp [World.cell?, hg, hi'], by simp [World.frozen?, hg]⟩
    · subst e; rw [hg] at hk; cases hk; exact ht rfl
theorem Any.ne {w : World} {B B' : Nat} {e e' : TypeId} {s s' : Nat} {v v' : Value} {n n' : Nat} (h : Any w B e s v n) (h' : Any w B' e' s' v' n') (he : e ≠ e') {a b : Nat} (ha : v.ownBlock = some a) (hb : v'.ownBlock = some b) : a ≠ b := by
  obtain ⟨xs, _, h⟩ := h
  obtain ⟨xs', _, h'⟩ := h'
  rcases h with ⟨rfl, _⟩ | ⟨g, cap, cur, rfl, _, hg, _⟩
  · cases ha
  rcases h' with ⟨rfl, _⟩ | ⟨g', cap', cur', rfl, _, hg', _⟩
  · cases hb
  simp only [Value.ownBlock, Option.some.injEq] at ha hb
  subst ha
  subst hb
  intro q
  subst q
  rw [hg] at hg'
  cases hg'
  exact he rfl
theorem Any.ge {w : World} {B : Nat} {e : TypeId} {s : Nat} {v : Value} {n : Nat} (h : Any w B e s v n) {a : Nat} (ha : v.ownBlock = some a) : B ≤ a := by
  obtain ⟨xs, _, h⟩ := h
  rcases h with ⟨rfl, _⟩ | ⟨g, cap, cur, rfl, hb, _⟩
  · cases ha
  · simp only [Value.ownBlock, Option.some.injEq] at ha; omega
theorem Any.shape {w : World} {B : Nat} {e : TypeId} {s : Nat} {v : Value} {n : Nat} (h : Any w B e s v n) : ∃ o c, v = .slice o n c := by
  obtain ⟨xs, _, h⟩ := h
  rcases h with ⟨rfl, rfl⟩ | ⟨g, cap, cur, rfl, _⟩
  · exact ⟨_, _, rfl⟩
  · exact ⟨_, _, rfl⟩
/-- A list of resources that is being written over: cells of its row that are known still (P), what else may have changed. -/
structure SpI (w : World) (B N g : Nat) (L : List RV) (P : Nat → Prop) (wx : World) : Prop where
  shp : Shp w wx
  tch : Tch (fun k => B ≤ k ∧ k < N) w wx
  at_ : ∀ c u, P c → (L.flatMap rvc)[c]? = some u → wx.cell? ⟨g, c, none⟩ = some u
theorem SpI.mono {w wx : World} {B N g : Nat} {L : List RV} {P P' : Nat → Prop} (h : SpI w B N g L P wx) (hp : ∀ c, P' c → P c) : SpI w B N g L P' wx := ⟨h.shp, h.tch, fun c u q => h.at_ c u (hp c q)⟩
theorem cell_block {w w' : World} {a : Addr} (h : w'.heap[a.block]? = w.heap[a.block]?) : w'.cell? a = w.cell? a := by simp [World.cell?, h]
theorem SpI.own {w wx : World} {B N g : Nat} {L : List RV} {P : Nat → Prop} (h : SpI w B N g L P wx) (j : Nat) (u : Value) (h1 : B ≤ g) (h2 : g < N) : SpI w B N g L (fun c => P c ∧ c ≠ j) (wx.setCell ⟨g, j, none⟩ u) :=
  ⟨h.shp.trans (shp_set wx g j u), h.tch.trans (Tch.setCell (S := fun q => q = g) wx (p := ⟨g, j, none⟩) rfl u) (fun q e => .inl (by rw [e]; exact ⟨h1, h2⟩)), fun c v q hv => by
    have e : (wx.setCells g j [u]).cell? ⟨g, c, none⟩ = wx.cell? ⟨g, c, none⟩ := World.cell?_setCells_out g [u] j wx ⟨g, c, none⟩ (fun _ _ => by have := q.2; simp only [List.length_cons, List.length_nil]; omega)
    exact e.trans (h.at_ c v q.1 hv)⟩
theorem SpI.grown {w wx wy : World} {B N g : Nat} {L : List RV} {P : Nat → Prop} (h : SpI w B N g L P wx) {r : Option Nat} (hg : wx.grownBy wy r) (hs : Shp wx wy) (hr : ∀ k, r = some k → B ≤ k ∧ k < N ∧ k ≠ g) (hgl : g < wx.heap.size) : SpI w B N g L P wy :=
  ⟨h.shp.trans hs, h.tch.trans (S' := fun k => r = some k) ⟨hg.os, hg.tape, hg.output, hg.size, fun k hk hn => hg.block k hk (fun e => hn e.symm)⟩ (fun k e => .inl ⟨(hr k e).1, (hr k e).2.1⟩), fun c v q hv => (cell_block (hg.block g hgl (fun e => (hr g e.symm).2.2 rfl))).trans (h.at_ c v q hv)⟩
theorem SpI.below {w wx wy : World} {B N g : Nat} {L : List RV} {P : Nat → Prop} (h : SpI w B N g L P wx) (hb : Below wx.heap.size wx wy) (hgl : g < wx.heap.size) : SpI w B N g L P wy :=
  ⟨h.shp.trans (shp_below hb), h.tch.trans (Tch.of_below (S := fun _ => False) hb) (fun _ q => q.elim), fun c v q hv => (cell_block (hb.block g hgl)).trans (h.at_ c v q hv)⟩
theorem SpI.store {w wx : World} {B N g : Nat} {L : List RV} {P : Nat → Prop} (h : SpI w B N g L P wx) {e : TypeId} {s n cp : Nat} (ha : Any w B e s (.slice (some ⟨g, 0, none⟩) n cp) n) {c : Nat} (hc : c < n * s) : ∃ u, wx.cell? ⟨g, c, none⟩ = some u ∧ wx.frozen? ⟨g, c, none⟩ = false := by
  rcases Nat.eq_zero_or_pos n with h0 | h0
  · subst h0; omega
  · obtain ⟨g', cap, hg, _, _, hcell, _⟩ := (ha.shp h.shp).cell h0
    simp only [Value.slice.injEq, Option.some.injEq, Addr.mk.injEq, and_true, true_and] at hg
    obtain ⟨rfl, _⟩ := hg
    exact hcell c hc
end Go.Ck
end

section
/- Rows of hosts; two of their parts change places. -/
namespace Go.Ck
open Go.RowKit Go.Mp Go.Stab
set_option linter.unusedVariables false
/-- A compiled host, and where its lists lie. -/
structure HV where
  host : ByteArray
  route : ByteArray
  eo : Option Addr
  en : Nat
  ec : Nat
  po : Option Addr
  pn : Nat
  pc : Nat
def hvc (x : HV) : List Value := [.string x.host, .string x.route, .slice x.eo x.en x.ec, .slice x.po x.pn x.pc]
theorem hvc_len (x : HV) : (hvc x).length = 4 := rfl
def hflat (L : List HV) : List Value := L.flatMap hvc
theorem hflat_put (y : HV) : ∀ (L : List HV) (i : Nat), i < L.length → ((((hflat L).set (i * 4) (.string y.host)).set (i * 4 + 1) (.string y.route)).set (i * 4 + 2) (.slice y.eo y.en y.ec)).set (i * 4 + 3) (.slice y.po y.pn y.pc) = hflat (L.set i y)
  | [], i, h => absurd h (Nat.not_lt_zero i)
  | x :: l, 0, _ => by simp [hflat, hvc]
  | x :: l, i + 1, h => by
    have ih := hflat_put y l i (by simpa using h)
    have e : hflat (x :: l) = .string x.host :: .string x.route :: .slice x.eo x.en x.ec :: .slice x.po x.pn x.pc :: hflat l := rfl
    rw [e, show (i + 1) * 4 = i * 4 + 4 by omega]
    simp only [List.set_cons_succ, show i * 4 + 4 + 1 = i * 4 + 1 + 4 by omega, show i * 4 + 4 + 2 = i * 4 + 2 + 4 by omega, show i * 4 + 4 + 3 = i * 4 + 3 + 4 by omega]
    rw [ih]
    simp [hflat, hvc]
/-- A row of hosts of one's own at the block g. -/
def HR (w : World) (B g cap : Nat) (L : List HV) : Prop := w.ownsRow B 83 4 (.slice (some ⟨g, 0, none⟩) L.length cap) L.length (hflat L)
theorem HR.cells {w : World} {B g cap : Nat} {L : List HV} (h : HR w B g cap L) {i : Nat} {x : HV} (hx : L[i]? = some x) :
    (w.cell? ⟨g, i * 4, none⟩ = some (.string x.host) ∧ w.cell? ⟨g, i * 4 + 1, none⟩ = some (.string x.route) ∧ w.cell? ⟨g, i * 4 + 2, none⟩ = some (.slice x.eo x.en x.ec) ∧ w.cell? ⟨g, i * 4 + 3, none⟩ = some (.slice x.po x.pn x.pc)) ∧
    (w.frozen? ⟨g, i * 4, none⟩ = false ∧ w.frozen? ⟨g, i * 4 + 1, none⟩ = false ∧ w.frozen? ⟨g, i * 4 + 2, none⟩ = false ∧ w.frozen? ⟨g, i * 4 + 3, none⟩ = false) := by
  have key : ∀ q u, (hvc x)[q]? = some u → w.cell? ⟨g, i * 4 + q, none⟩ = some u ∧ w.frozen? ⟨g, i * 4 + q, none⟩ = false := fun q u hu => by
    have hq : q < 4 := (List.getElem?_eq_some_iff.1 hu).1
    obtain ⟨g', e1, _, _, e2, e3⟩ := ownsRow_cell h (j := i * 4 + q) (u := u) (by unfold hflat; rw [Rd.flat_at hvc_len hx q hq]; exact hu)
    simp only [Option.some.injEq, Addr.mk.injEq, and_true] at e1
    subst e1
    exact ⟨e2, e3⟩
  have k0 := key 0 _ rfl
  have k1 := key 1 _ rfl
  have k2 := key 2 _ rfl
  have k3 := key 3 _ rfl
  exact ⟨⟨k0.1, k1.1, k2.1, k3.1⟩, k0.2, k1.2, k2.2, k3.2⟩
theorem HR.put {w : World} {B g cap : Nat} {L : List HV} (h : HR w B g cap L) {i : Nat} (hi : i < L.length) (y : HV) :
    HR ((((w.setCell ⟨g, i * 4, none⟩ (.string y.host)).setCell ⟨g, i * 4 + 1, none⟩ (.string y.route)).setCell ⟨g, i * 4 + 2, none⟩ (.slice y.eo y.en y.ec)).setCell ⟨g, i * 4 + 3, none⟩ (.slice y.po y.pn y.pc)) B g cap (L.set i y) := by
  have h1 := (World.ownsRow.stored (World.ownsRow.stored (World.ownsRow.stored (World.ownsRow.stored h (i * 4) (.string y.host)).1 (i * 4 + 1) (.string y.route)).1 (i * 4 + 2) (.slice y.eo y.en y.ec)).1 (i * 4 + 3) (.slice y.po y.pn y.pc)).1
  rw [hflat_put y L i hi] at h1
  unfold HR
  rw [List.length_set]
  exact h1
theorem HR.drewN {w : World} {B g cap : Nat} {L : List HV} (h : HR w B g cap L) (n : Nat) : HR (w.drewN n) B g cap L := h
theorem HR.drew {w : World} {B g cap : Nat} {L : List HV} (h : HR w B g cap L) : HR w.drew B g cap L := h
theorem _root_.Go.Mp.Tch.drew' {S : Nat → Prop} {a w : World} (h : Tch S a w) : Tch S a w.drew := h.trans (Tch.drew S w) (fun k h => .inl h)
theorem tch_put4 (w : World) (g : Nat) (a b c d : Nat) (x y z u : Value) : Tch (fun k => k = g) w ((((w.setCell ⟨g, a, none⟩ x).setCell ⟨g, b, none⟩ y).setCell ⟨g, c, none⟩ z).setCell ⟨g, d, none⟩ u) :=
  (((Tch.setCell (S := fun k => k = g) w (p := ⟨g, a, none⟩) rfl x).trans (Tch.setCell (S := fun k => k = g) _ (p := ⟨g, b, none⟩) rfl y) (fun k h => .inl h)).trans (Tch.setCell (S := fun k => k = g) _ (p := ⟨g, c, none⟩) rfl z) (fun k h => .inl h)).trans (Tch.setCell (S := fun k => k = g) _ (p := ⟨g, d, none⟩) rfl u) (fun k h => .inl h)
theorem HR.between {w : World} {B g cap : Nat} {L : List HV} (h : HR w B g cap L) {i j : Nat} {y z : HV} (hi : i < L.length) (hij : i ≠ j) (hz : L[j]? = some z) :
    ((((((w.setCell ⟨g, i * 4, none⟩ (.string y.host)).setCell ⟨g, i * 4 + 1, none⟩ (.string y.route)).setCell ⟨g, i * 4 + 2, none⟩ (.slice y.eo y.en y.ec)).setCell ⟨g, i * 4 + 3, none⟩ (.slice y.po y.pn y.pc)).cell? ⟨g, j * 4, none⟩ = some (.string z.host)) ∧
    ((((w.setCell ⟨g, i * 4, none⟩ (.string y.host)).setCell ⟨g, i * 4 + 1, none⟩ (.string y.route)).setCell ⟨g, i * 4 + 2, none⟩ (.slice y.eo y.en y.ec)).setCell ⟨g, i * 4 + 3, none⟩ (.slice y.po y.pn y.pc)).cell? ⟨g, j * 4 + 1, none⟩ = some (.string z.route) ∧
    ((((w.setCell ⟨g, i * 4, none⟩ (.string y.host)).setCell ⟨g, i * 4 + 1, none⟩ (.string y.route)).setCell ⟨g, i * 4 + 2, none⟩ (.slice y.eo y.en y.ec)).setCell ⟨g, i * 4 + 3, none⟩ (.slice y.po y.pn y.pc)).cell? ⟨g, j * 4 + 2, none⟩ = some (.slice z.eo z.en z.ec) ∧
    ((((w.setCell ⟨g, i * 4, none⟩ (.string y.host)).setCell ⟨g, i * 4 + 1, none⟩ (.string y.route)).setCell ⟨g, i * 4 + 2, none⟩ (.slice y.eo y.en y.ec)).setCell ⟨g, i * 4 + 3, none⟩ (.slice y.po y.pn y.pc)).cell? ⟨g, j * 4 + 3, none⟩ = some (.slice z.po z.pn z.pc)) ∧
    (((((w.setCell ⟨g, i * 4, none⟩ (.string y.host)).setCell ⟨g, i * 4 + 1, none⟩ (.string y.route)).setCell ⟨g, i * 4 + 2, none⟩ (.slice y.eo y.en y.ec)).setCell ⟨g, i * 4 + 3, none⟩ (.slice y.po y.pn y.pc)).frozen? ⟨g, j * 4, none⟩ = false ∧
    ((((w.setCell ⟨g, i * 4, none⟩ (.string y.host)).setCell ⟨g, i * 4 + 1, none⟩ (.string y.route)).setCell ⟨g, i * 4 + 2, none⟩ (.slice y.eo y.en y.ec)).setCell ⟨g, i * 4 + 3, none⟩ (.slice y.po y.pn y.pc)).frozen? ⟨g, j * 4 + 1, none⟩ = false ∧
    ((((w.setCell ⟨g, i * 4, none⟩ (.string y.host)).setCell ⟨g, i * 4 + 1, none⟩ (.string y.route)).setCell ⟨g, i * 4 + 2, none⟩ (.slice y.eo y.en y.ec)).setCell ⟨g, i * 4 + 3, none⟩ (.slice y.po y.pn y.pc)).frozen? ⟨g, j * 4 + 2, none⟩ = false ∧
    ((((w.setCell ⟨g, i * 4, none⟩ (.string y.host)).setCell ⟨g, i * 4 + 1, none⟩ (.string y.route)).setCell ⟨g, i * 4 + 2, none⟩ (.slice y.eo y.en y.ec)).setCell ⟨g, i * 4 + 3, none⟩ (.slice y.po y.pn y.pc)).frozen? ⟨g, j * 4 + 3, none⟩ = false) :=
  (h.put hi y).cells (by rw [List.getElem?_set_ne hij]; exact hz)
/-- Two hosts have changed places. -/
theorem HR.sw {w : World} {B g cap : Nat} {L : List HV} (h : HR w B g cap L) {i j : Nat} {x y : HV} (hi : i < L.length) (hj : j < L.length) :
    HR ((((((((w.setCell ⟨g, i * 4, none⟩ (.string y.host)).setCell ⟨g, i * 4 + 1, none⟩ (.string y.route)).setCell ⟨g, i * 4 + 2, none⟩ (.slice y.eo y.en y.ec)).setCell ⟨g, i * 4 + 3, none⟩ (.slice y.po y.pn y.pc)).setCell ⟨g, j * 4, none⟩ (.string x.host)).setCell ⟨g, j * 4 + 1, none⟩ (.string x.route)).setCell ⟨g, j * 4 + 2, none⟩ (.slice x.eo x.en x.ec)).setCell ⟨g, j * 4 + 3, none⟩ (.slice x.po x.pn x.pc)) B g cap (Stab.sw L i j x y) ∧
    Tch (fun k => k = g) w ((((((((w.setCell ⟨g, i * 4, none⟩ (.string y.host)).setCell ⟨g, i * 4 + 1, none⟩ (.string y.route)).setCell ⟨g, i * 4 + 2, none⟩ (.slice y.eo y.en y.ec)).setCell ⟨g, i * 4 + 3, none⟩ (.slice y.po y.pn y.pc)).setCell ⟨g, j * 4, none⟩ (.string x.host)).setCell ⟨g, j * 4 + 1, none⟩ (.string x.route)).setCell ⟨g, j * 4 + 2, none⟩ (.slice x.eo x.en x.ec)).setCell ⟨g, j * 4 + 3, none⟩ (.slice x.po x.pn x.pc)) :=
  ⟨(h.put hi y).put (by rw [List.length_set]; exact hj) x, (tch_put4 w g _ _ _ _ _ _ _ _).trans (tch_put4 _ g _ _ _ _ _ _ _ _) (fun k h => .inl h)⟩
end Go.Ck
namespace Go.Proofs.Ytjepgpocmnijiaa
open Go.RowKit Go.Mp Go.Ck Go.Stab
set_option linter.unusedVariables false
set_option maxRecDepth 100000
set_option maxHeartbeats 8000000
/-- Behind i steps of a change. -/
def swS (P X M Y Q : List HV) (i : Nat) : List HV := P ++ (Y.take i ++ X.drop i) ++ M ++ (X.take i ++ Y.drop i) ++ Q
theorem swS_step {P X M Y Q : List HV} {i : Nat} (hl : X.length = Y.length) (hi : i < X.length) : ∃ x y, (swS P X M Y Q i)[P.length + i]? = some x ∧ (swS P X M Y Q i)[P.length + X.length + M.length + i]? = some y ∧ sw (swS P X M Y Q i) (P.length + i) (P.length + X.length + M.length + i) x y = swS P X M Y Q (i + 1) := by
  obtain ⟨x, hx⟩ : ∃ x, X[i]? = some x := ⟨_, List.getElem?_eq_getElem hi⟩
  obtain ⟨y, hy⟩ : ∃ y, Y[i]? = some y := ⟨_, List.getElem?_eq_getElem (by omega)⟩
  have dx : X.drop i = x :: X.drop (i + 1) := by rw [List.drop_eq_getElem_cons hi]; congr 1; rw [List.getElem?_eq_getElem hi] at hx; exact Option.some.inj hx
  have dy : Y.drop i = y :: Y.drop (i + 1) := by rw [List.drop_eq_getElem_cons (by omega)]; congr 1; rw [List.getElem?_eq_getElem (by omega)] at hy; exact Option.some.inj hy
  have tx : X.take (i + 1) = X.take i ++ [x] := by rw [List.take_add_one, hx]; rfl
  have ty : Y.take (i + 1) = Y.take i ++ [y] := by rw [List.take_add_one, hy]; rfl
  have e : swS P X M Y Q i = (P ++ Y.take i) ++ x :: ((X.drop (i + 1) ++ M ++ X.take i) ++ y :: (Y.drop (i + 1) ++ Q)) := by
    unfold swS; rw [dx, dy]; simp only [List.append_assoc, List.cons_append]
  have l1 : (P ++ Y.take i).length = P.length + i := by rw [List.length_append, List.length_take]; omega
  have l2 : (X.drop (i + 1) ++ M ++ X.take i).length = X.length + M.length - 1 := by simp only [List.length_append, List.length_drop, List.length_take]; omega
  refine ⟨x, y, ?_, ?_, ?_⟩
  · rw [e, List.getElem?_append_right (by omega), l1, Nat.sub_self]; rfl
  · rw [e, List.getElem?_append_right (by omega), l1, show P.length + X.length + M.length + i - (P.length + i) = (X.length + M.length - 1) + 1 by omega, List.getElem?_cons_succ, List.getElem?_append_right (by omega), l2, Nat.sub_self]; rfl
  · rw [e, sw_at l1.symm (by omega)]
    unfold swS; rw [tx, ty]; simp only [List.append_assoc, List.cons_append, List.nil_append]
theorem swS_len {P X M Y Q : List HV} (i : Nat) (hl : X.length = Y.length) : (swS P X M Y Q i).length = P.length + X.length + M.length + Y.length + Q.length := by
  unfold swS; simp only [List.length_append, List.length_take, List.length_drop]; omega
theorem swap179 (w : World) (B g cap : Nat) (f : Value) (P X M Y Q R : List HV) (a b n N : Nat) (hRe : R = P ++ Y ++ M ++ X ++ Q) (ha : a = P.length) (hb : b = P.length + X.length + M.length) (hn : n = X.length) (hl : X.length = Y.length) (hN : N = P.length + X.length + M.length + Y.length + Q.length) (hN2 : N ≤ 4194304)
    (h : HR w B g cap (P ++ X ++ M ++ Y ++ Q)) : Calls Try.prog 179 #[.slice (some ⟨g, 0, none⟩) N cap, .int .i64 a, .int .i64 b, .int .i64 n, f] w fun e w' => e = .returned (.tuple #[]) ∧ HR w' B g cap R ∧ Tch (fun k => k = g) w w' := by
  have h0 : Hid (HR w B g cap (swS P X M Y Q 0)) := Lib.hid (by unfold swS; simpa using h)
  have hZ : Hid (swS P X M Y Q n = R) := Lib.hid (by rw [hRe]; unfold swS; rw [hn, List.drop_length, hl, List.drop_length, List.take_length, ← hl, List.take_length]; simp)
  replace h := Lib.hid h
  replace ha := Lib.hid ha
  replace hb := Lib.hid hb
  replace hn := Lib.hid hn
  replace hN := Lib.hid hN
  replace hl := Lib.hid hl
  replace hRe := Lib.hid hRe
  go_enter Try.func179, Try.ntmps179
  go_wp2
  go_loopg [10] (n + 1) (fun gg ic wx => ∃ i : Nat, gg = n - i + 1 ∧ i ≤ n ∧ ic = .int .i64 i ∧ Hid (HR wx B g cap (swS P X M Y Q i)) ∧ Hid (Tch (fun k => k = g) w wx))
  case atStart => exact ⟨0, rfl, Nat.zero_le _, rfl, h0, Lib.hid (Tch.refl _ _)⟩
  case round =>
    obtain ⟨i, rfl, hi, rfl, hR, hT⟩ := hrel
    by_cases hlt : i < n
    · have hk0 : (i : Int) < (n : Int) := nn_lt hlt
      have hwk := Lib.hid (nn_succ2 hlt (by have := hn.out; have := hN.out; omega))
      obtain ⟨x, y, hx, hy, hs⟩ := swS_step (P := P) (M := M) (Q := Q) hl.out (i := i) (by have := hn.out; omega)
      rw [← hb.out] at hy hs
      rw [← ha.out] at hx hs
      have hlen := swS_len (P := P) (M := M) (Q := Q) i hl.out
      have ha' := ha.out
      have hb' := hb.out
      have hn' := hn.out
      have hN' := hN.out
      have hl' := hl.out
      obtain ⟨⟨x0, x1, x2, x3⟩, fx0, fx1, fx2, fx3⟩ := hR.out.cells hx
      obtain ⟨⟨y0, y1, y2, y3⟩, fy0, fy1, fy2, fy3⟩ := hR.out.cells hy
      have hsw := Lib.hid (hR.out.sw (i := a + i) (j := b + i) (x := x) (y := y) (by rw [hlen]; omega) (by rw [hlen]; omega))
      rw [hs] at hsw
      obtain ⟨⟨z0, z1, z2, z3⟩, fz0, fz1, fz2, fz3⟩ := hR.out.between (i := a + i) (j := b + i) (y := y) (z := y) (by rw [hlen]; omega) (by omega) hy
      have wa : IntKind.i64.wrap ((a : Int) + (i : Int)) = ((a + i : Nat) : Int) := by rw [IntKind.wrap_i64]; omega
      have wb : IntKind.i64.wrap ((b : Int) + (i : Int)) = ((b + i : Nat) : Int) := by rw [IntKind.wrap_i64]; omega
      have a1 : (0 : Int) ≤ ((a + i : Nat) : Int) := by omega
      have a2 : ((a + i : Nat) : Int) < (N : Int) := by omega
      have b1 : (0 : Int) ≤ ((b + i : Nat) : Int) := by omega
      have b2 : ((b + i : Nat) : Int) < (N : Int) := by omega
      replace hx := Lib.hid hx
      replace hy := Lib.hid hy
      replace hs := Lib.hid hs
      replace hlen := Lib.hid hlen
      clear ha' hb' hn' hN' hl'
      go_wp2
      go_region
      go_wp2
      go_roundg (n - (i + 1) + 1)
      case rel => exact ⟨i + 1, rfl, hlt, by first | rw [hwk.out] | go_num, Lib.hid hsw.out.1.drew, Lib.hid ((hT.out.trans hsw.out.2 (fun k h => .inl h)).drew')⟩
      case measure => exact nn_downS hlt
    · have hk0 : decide ((i : Int) < (n : Int)) = false := decide_eq_false (by omega)
      have hk1 : ¬ (i : Int) < (n : Int) := by omega
      have he : i = n := by omega
      subst he
      rw [hZ.out] at hR
      go_wp2
      refine bodyPost_end (results_none rfl _ _ _) rfl ?_
      exact ⟨rfl, hR.out, hT.out⟩
end Go.Proofs.Ytjepgpocmnijiaa
end

section

namespace Go.Proofs.Ytjepgpocmnijiaa
open Go.RowKit Go.Mp Go.Ck Go.Stab
set_option linter.unusedVariables false
set_option maxRecDepth 100000
set_option maxHeartbeats 8000000
theorem swap179i {w : World} {B g cap : Nat} {f : Value} {P X M Y Q R : List HV} {a b n : Int} {N : Nat} (hRe : R = P ++ Y ++ M ++ X ++ Q) (ha : a = (P.length : Int)) (hb : b = ((P.length + X.length + M.length : Nat) : Int)) (hn : n = (X.length : Int)) (hl : X.length = Y.length) (hN : N = P.length + X.length + M.length + Y.length + Q.length) (hN2 : N ≤ 4194304)
    (h : HR w B g cap (P ++ X ++ M ++ Y ++ Q)) : Calls Try.prog 179 #[.slice (some ⟨g, 0, none⟩) N cap, .int .i64 a, .int .i64 b, .int .i64 n, f] w fun e w' => e = .returned (.tuple #[]) ∧ HR w' B g cap R ∧ Tch (fun k => k = g) w w' := by
  subst ha hb hn
  exact swap179 w B g cap f P X M Y Q R _ _ _ N hRe rfl rfl rfl hl hN hN2 h
/-- What a turn keeps. -/
structure RotI (B g cap : Nat) (R : List HV) (m N i j : Nat) (w wx : World) (P A C Q : List HV) : Prop where
  row : HR wx B g cap (P ++ A ++ C ++ Q)
  out : R = P ++ C ++ A ++ Q
  li : i = A.length
  lj : j = C.length
  i0 : 0 < i
  j0 : 0 < j
  lm : m = P.length + A.length
  ln : N = P.length + A.length + C.length + Q.length
  tch : Tch (fun k => k = g) w wx
theorem rot171 {w : World} {B g cap : Nat} {f : Value} {P A C Q R : List HV} {a m b N : Nat} (hRe : R = P ++ C ++ A ++ Q) (ha : a = P.length) (hm : m = P.length + A.length) (hb : b = P.length + A.length + C.length) (hA : 0 < A.length) (hC : 0 < C.length) (hN : N = P.length + A.length + C.length + Q.length) (hN2 : N ≤ 4194304)
    (h : HR w B g cap (P ++ A ++ C ++ Q)) : Calls Try.prog 171 #[.slice (some ⟨g, 0, none⟩) N cap, .int .i64 a, .int .i64 m, .int .i64 b, f] w fun e w' => e = .returned (.tuple #[]) ∧ HR w' B g cap R ∧ Tch (fun k => k = g) w w' := by
  have h0 : Hid (RotI B g cap R m N (m - a) (b - m) w w P A C Q) := Lib.hid ⟨h, hRe, by omega, by omega, by omega, by omega, hm, hN, Tch.refl _ _⟩
  have s1 : IntKind.i64.wrap ((m : Int) - (a : Int)) = ((m - a : Nat) : Int) := by rw [IntKind.wrap_i64]; omega
  have s2 : IntKind.i64.wrap ((b : Int) - (m : Int)) = ((b - m : Nat) : Int) := by rw [IntKind.wrap_i64]; omega
  have hmN : Hid (m ≤ 4194304 ∧ b ≤ 4194304) := Lib.hid ⟨by omega, by omega⟩
  replace h := Lib.hid h
  replace ha := Lib.hid ha
  replace hm := Lib.hid hm
  replace hb := Lib.hid hb
  replace hA := Lib.hid hA
  replace hC := Lib.hid hC
  replace hN := Lib.hid hN
  replace hRe := Lib.hid hRe
  go_enter Try.func171, Try.ntmps171
  go_wp2
  go_loopg [10, 11] (m - a + (b - m) + 1) (fun gg ic jc wx => ∃ (i j : Nat) (P' A' C' Q' : List HV), gg = i + j + 1 ∧ ic = .int .i64 i ∧ jc = .int .i64 j ∧ Hid (RotI B g cap R m N i j w wx P' A' C' Q'))
  case atStart => exact ⟨m - a, b - m, P, A, C, Q, rfl, rfl, rfl, h0⟩
  case round =>
    obtain ⟨i, j, P', A', C', Q', rfl, rfl, rfl, hI⟩ := hrel
    clear h0 h
    have hli := hI.out.li
    have hlj := hI.out.lj
    have hi0 := hI.out.i0
    have hj0 := hI.out.j0
    have hlm := hI.out.lm
    have hln := hI.out.ln
    by_cases hij : i = j
    · subst hij
      have q2 : IntKind.i64.wrap ((m : Int) - (i : Int)) = ((m - i : Nat) : Int) := by rw [IntKind.wrap_i64]; omega
      have k := swap179 wr B g cap f P' A' [] C' Q' R (m - i) m i N (by rw [hI.out.out]; simp) (by omega) (by rw [hlm]; simp) (by omega) (by omega) (by rw [hln]; simp) hN2 (by have := hI.out.row; simpa using this)
      have hT := Lib.hid hI.out.tch
      replace hli := Lib.hid hli
      replace hlj := Lib.hid hlj
      replace hi0 := Lib.hid hi0
      replace hj0 := Lib.hid hj0
      replace hlm := Lib.hid hlm
      replace hln := Lib.hid hln
      replace k := Lib.hid k
      clear hI
      go_wp2_with (first
        | (go_at_call 179; (with_reducible refine k.out.mono ?_); rintro e wC ⟨rfl, hR, hT2⟩; replace hR := Lib.hid hR; replace hT2 := Lib.hid hT2)
        | fail)
      refine bodyPost_end (results_none rfl _ _ _) rfl ?_
      exact ⟨rfl, hR.out, hT.out.trans hT2.out (fun k h => .inl h)⟩
    · by_cases hgt : j < i
      · have q0 : ¬ (i : Int) = (j : Int) := by omega
        have q1 : (j : Int) < (i : Int) := by omega
        have q2 : IntKind.i64.wrap ((m : Int) - (i : Int)) = ((m - i : Nat) : Int) := by rw [IntKind.wrap_i64]; omega
        have q3 : IntKind.i64.wrap ((i : Int) - (j : Int)) = ((i - j : Nat) : Int) := by rw [IntKind.wrap_i64]; omega
        have eA : A' = A'.take j ++ A'.drop j := (List.take_append_drop j A').symm
        have lA : (A'.take j).length = j := by rw [List.length_take]; omega
        have lD : (A'.drop j).length = i - j := by rw [List.length_drop]; omega
        have k := swap179 wr B g cap f P' (A'.take j) (A'.drop j) C' Q' (P' ++ C' ++ A'.drop j ++ A'.take j ++ Q') (m - i) m j N rfl (by omega) (by rw [lA, lD]; omega) (by omega) (by omega) (by rw [lA, lD, hln]; omega) hN2 (by have := hI.out.row; rw [eA] at this; simpa using this)
        have hnew : ∀ wx, HR wx B g cap (P' ++ C' ++ A'.drop j ++ A'.take j ++ Q') → Tch (fun k => k = g) wr wx → RotI B g cap R m N (i - j) j w wx (P' ++ C') (A'.drop j) (A'.take j) Q' := fun wx hR hT =>
          ⟨hR, by rw [hI.out.out]; conv => lhs; rw [eA]
                  simp, lD.symm, lA.symm, by omega, hj0, by rw [List.length_append, lD]; omega, by rw [List.length_append, lA, lD]; omega, hI.out.tch.trans hT (fun k h => .inl h)⟩
        replace hli := Lib.hid hli
        replace hlj := Lib.hid hlj
        replace hi0 := Lib.hid hi0
        replace hj0 := Lib.hid hj0
        replace hlm := Lib.hid hlm
        replace hln := Lib.hid hln
        replace k := Lib.hid k
        replace hnew := Lib.hid hnew
        replace eA := Lib.hid eA
        replace lA := Lib.hid lA
        replace lD := Lib.hid lD
        clear hI
        go_wp2_with (first
          | (go_at_call 179; (with_reducible refine k.out.mono ?_); rintro e wC ⟨rfl, hR, hT2⟩; have hN3 := Lib.hid (hnew.out _ hR hT2); clear hR hT2)
          | fail)
        go_roundg (i - j + j + 1)
        case rel => exact ⟨i - j, j, _, _, _, _, rfl, rfl, rfl, hN3⟩
        case measure => have := hj0.out; omega
      · have q0 : ¬ (i : Int) = (j : Int) := by omega
        have q1 : decide ((j : Int) < (i : Int)) = false := decide_eq_false (by omega)
        have q1' : ¬ (j : Int) < (i : Int) := by omega
        have q2 : IntKind.i64.wrap ((m : Int) - (i : Int)) = ((m - i : Nat) : Int) := by rw [IntKind.wrap_i64]; omega
        have q3 : IntKind.i64.wrap ((j : Int) - (i : Int)) = ((j - i : Nat) : Int) := by rw [IntKind.wrap_i64]; omega
        have q4 : IntKind.i64.wrap ((m : Int) + (j : Int)) = ((m + j : Nat) : Int) := by rw [IntKind.wrap_i64]; omega
        have q5 : IntKind.i64.wrap ((m : Int) + (j : Int) - (i : Int)) = ((m + j - i : Nat) : Int) := by rw [IntKind.wrap_i64]; omega
        have eA : C' = C'.take (j - i) ++ C'.drop (j - i) := (List.take_append_drop _ C').symm
        have lA : (C'.take (j - i)).length = j - i := by rw [List.length_take]; omega
        have lD : (C'.drop (j - i)).length = i := by rw [List.length_drop]; omega
        have k := fun (x : Int) (hx : x = ((m + j - i : Nat) : Int)) => swap179i (w := wr) (B := B) (g := g) (cap := cap) (f := f) (P := P') (X := A') (M := C'.take (j - i)) (Y := C'.drop (j - i)) (Q := Q') (R := P' ++ C'.drop (j - i) ++ C'.take (j - i) ++ A' ++ Q') (a := ((m - i : Nat) : Int)) (b := x) (n := (i : Int)) (N := N) rfl (by omega) (by rw [hx, lA]; omega) (by omega) (by omega) (by rw [lA, lD, hln]; omega) hN2 (by have := hI.out.row; rw [eA] at this; simpa using this)
        have hnew : ∀ wx, HR wx B g cap (P' ++ C'.drop (j - i) ++ C'.take (j - i) ++ A' ++ Q') → Tch (fun k => k = g) wr wx → RotI B g cap R m N i (j - i) w wx P' (C'.drop (j - i)) (C'.take (j - i)) (A' ++ Q') := fun wx hR hT =>
          ⟨by simpa using hR, by rw [hI.out.out]; conv => lhs; rw [eA]
                                 simp, lD.symm, lA.symm, hi0, by omega, by rw [lD]; omega, by rw [lA, lD, List.length_append]; omega, hI.out.tch.trans hT (fun k h => .inl h)⟩
        have q6 : (0 : Int) ≤ (m : Int) + (j : Int) - (i : Int) := by omega
        replace hli := Lib.hid hli
        replace hlj := Lib.hid hlj
        replace hi0 := Lib.hid hi0
        replace hj0 := Lib.hid hj0
        replace hlm := Lib.hid hlm
        replace hln := Lib.hid hln
        replace k := Lib.hid k
        replace hnew := Lib.hid hnew
        replace eA := Lib.hid eA
        replace lA := Lib.hid lA
        replace lD := Lib.hid lD
        clear hI
        go_wp2_with (first
          | (go_at_call 179; (with_reducible refine (k.out _ ?hx).mono ?_); rotate_left 1; (rintro e wC ⟨rfl, hR, hT2⟩); have hN3 := Lib.hid (hnew.out _ hR hT2); clear hR hT2)
          | fail)
        case hx => first | rfl | omega | (exact q5)
        go_roundg (i + (j - i) + 1)
        case rel => exact ⟨i, j - i, _, _, _, _, rfl, rfl, rfl, hN3⟩
        case measure => have := hi0.out; omega
end Go.Proofs.Ytjepgpocmnijiaa
end
