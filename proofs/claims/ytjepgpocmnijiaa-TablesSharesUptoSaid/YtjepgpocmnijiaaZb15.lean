/- The walks of own and of Lists. -/
import Derived.Test.YtjepgpocmnijiaaZb14
section
/- Lists appended as a whole to a row of one's own; rows of one's own as lists that are read. -/
namespace Go.Rd
open Go.RowKit Go.Mp
set_option linter.unusedVariables false
/-- How an element lies: its cells. -/
structure Enc {α : Type} (E : Elem α) where
  enc : α → List Value
  ok : α → Prop
  len : ∀ x, (enc x).length = E.k
  pos : 0 < E.k
  one : ∀ x, ∀ u ∈ enc x, u.oneCell' = true
  R : ∀ {w : World} {c : Cells} {x : α}, E.R w c x → (∀ j u, (enc x)[j]? = some u → c j = some u) ∧ ok x
  of : ∀ {w : World} {c : Cells} {x : α}, ok x → (∀ j u, (enc x)[j]? = some u → c j = some u) → E.R w c x
theorem flat_get {α : Type} {enc : α → List Value} {k : Nat} (hk : 0 < k) (he : ∀ x, (enc x).length = k) : ∀ (l : List α) (q : Nat) (u : Value), (l.flatMap enc)[q]? = some u → ∃ x, l[q / k]? = some x ∧ (enc x)[q % k]? = some u
  | [], q, u, h => by simp at h
  | x :: l, q, u, h => by
    rw [List.flatMap_cons] at h
    by_cases hq : q < k
    · rw [List.getElem?_append_left (by rw [he]; exact hq)] at h
      exact ⟨x, by rw [Nat.div_eq_of_lt hq]; rfl, by rw [Nat.mod_eq_of_lt hq]; exact h⟩
    · rw [List.getElem?_append_right (by rw [he]; omega), he] at h
      obtain ⟨y, h1, h2⟩ := flat_get hk he l (q - k) u h
      have e1 : q / k = (q - k) / k + 1 := by rw [Nat.div_eq_sub_div hk (by omega)]
      have e2 : q % k = (q - k) % k := by rw [Nat.mod_eq_sub_mod (by omega)]
      exact ⟨y, by rw [e1]; exact h1, by rw [e2]; exact h2⟩
theorem flat_at {α : Type} {enc : α → List Value} {k : Nat} (he : ∀ x, (enc x).length = k) : ∀ {l : List α} {i : Nat} {x : α}, l[i]? = some x → ∀ j, j < k → (l.flatMap enc)[i * k + j]? = (enc x)[j]?
  | [], i, x, h, _, _ => by cases h
  | y :: l, 0, x, h, j, hj => by
    simp only [List.getElem?_cons_zero, Option.some.injEq] at h
    subst h
    rw [List.flatMap_cons, Nat.zero_mul, Nat.zero_add, List.getElem?_append_left (by rw [he]; exact hj)]
  | y :: l, i + 1, x, h, j, hj => by
    rw [List.flatMap_cons, List.getElem?_append_right (by rw [he, Nat.succ_mul]; omega), he]
    have : (i + 1) * k + j - k = i * k + j := by rw [Nat.succ_mul]; omega
    rw [this]
    exact flat_at he (by simpa using h) j hj
theorem flat_len {α : Type} {enc : α → List Value} {k : Nat} (he : ∀ x, (enc x).length = k) : ∀ l : List α, (l.flatMap enc).length = l.length * k
  | [] => by simp
  | x :: l => by rw [List.flatMap_cons, List.length_append, he, flat_len he l, List.length_cons, Nat.succ_mul]; omega
theorem run_append_src {P : Program} {α : Type} {E : Elem α} (C : Enc E) (w : World) (base : Nat) (t ty e : TypeId) (i : TypeInfo) (z : Value) (bytes : Nat) (ht : P.underlying t = some (.slice e)) (hi : P.info? e = some i) (hz : i.zero = some z)
    (hsize : i.size = E.k) (hby : i.bytes = bytes) (hzs : z.cells.size = E.k) (v : Value) (n : Nat) (xs : List Value) (hown : w.ownsRow base e E.k v n xs) (src : Value) (l : List α) (hsrc : SliceOf E w src l)
    (h63 : n + l.length ≤ maxLen) (hbytes : (n + l.length) * bytes ≤ 140737488355328) (hbase : base ≤ w.heap.size) :
    ∃ v' w', (Builtin.append_ #[t, t] ty #[v, src]).run P w = .ok v' w' ∧ w'.ownsRow base e E.k v' (n + l.length) (xs ++ l.flatMap C.enc) ∧ w.grownBy w' v.ownBlock ∧ (∀ g, v'.ownBlock = some g → v.ownBlock = some g ∨ w.heap.size ≤ g) := by
  obtain ⟨hl, ao, cap, rfl, hc, h3⟩ := hsrc
  have key : ∀ ad : Addr, ao = some ad → (∀ j u, (l.flatMap C.enc)[j]? = some u → w.cell? (ad.add j) = some u) → ∃ v' w', (Builtin.append_ #[t, t] ty #[v, .slice ao l.length cap]).run P w = .ok v' w' ∧ w'.ownsRow base e E.k v' (n + l.length) (xs ++ l.flatMap C.enc) ∧ w.grownBy w' v.ownBlock ∧ (∀ g, v'.ownBlock = some g → v.ownBlock = some g ∨ w.heap.size ≤ g) := fun ad ha hx => by
    obtain ⟨v', w', hr, q1, q2, q3, q4⟩ := run_append_own_at (P := P) w base t ty e i z E.k bytes ht hi hz hsize hby hzs C.pos v n xs hown ad l.length cap (l.flatMap C.enc) (flat_len C.len l) hx (fun u hu => by
      obtain ⟨x, _, hu⟩ := List.mem_flatMap.1 hu
      exact C.one x u hu) h63 hbytes hbase
    refine ⟨v', w', by rw [ha]; exact hr, q1, q2, fun g hg => ?_⟩
    rcases q4 with h | h
    · exact .inl (by rw [← h]; exact hg)
    · rw [h] at hg; cases hg; exact .inr (Nat.le_refl _)
  rcases h3 with rfl | ⟨b, off, rfl, hb, hx⟩
  · cases ao with
    | some ad => exact key ad rfl (fun j u h => by simp at h)
    | none =>
      refine ⟨v, w, ?_, by simpa using hown, ⟨rfl, rfl, rfl, Nat.le_refl _, fun _ _ _ => rfl⟩, fun g hg => .inl hg⟩
      rcases hown.2 with ⟨rfl, e⟩ | ⟨g, cp, cur, rfl, _, _, hnc, _⟩
      · simp [Builtin.append_, run_underlying ht, sizeOf, typeInfo, hi, Builtin.lenOf, Builtin.firstCells]
      · simp [Builtin.append_, run_underlying ht, sizeOf, typeInfo, hi, Builtin.lenOf, Builtin.firstCells, hnc, storeCells]
  · refine key _ rfl (fun q u hq => ?_)
    obtain ⟨x, h1, h2⟩ := flat_get C.pos C.len l q u hq
    have h4 := (C.R (hx _ x h1)).1 _ u h2
    have h5 : off + q / E.k * E.k + q % E.k = off + q := by have := Nat.div_add_mod q E.k; rw [Nat.mul_comm] at this; omega
    have h6 : w.cell? ⟨b, off + q / E.k * E.k + q % E.k, .none⟩ = some u := h4
    rw [h5] at h6
    have h7 : (⟨b, off, .none⟩ : Addr).add q = ⟨b, off + q, .none⟩ := by unfold Addr.add; split <;> simp_all
    rw [h7]; exact h6
theorem wp_append_src {P : Program} {α : Type} {E : Elem α} (C : Enc E) {w : World} {ops : Array Oper} {rest : List Oper} {o : Oper} {act : Act} {Q : Exit → Act → World → Prop} (hgd : o.guard = .none) (s x : Operand) (t : TypeId)
    (ho : o.op = .call { callee := .builtin .append, args := #[s, x], argTypes := #[t, t] }) (base : Nat) (e : TypeId) (i : TypeInfo) (z : Value) (bytes : Nat) (ht : P.underlying t = some (.slice e)) (hi : P.info? e = some i) (hz : i.zero = some z)
    (hsize : i.size = E.k) (hby : i.bytes = bytes) (hzs : z.cells.size = E.k) (v : Value) (n : Nat) (xs : List Value) (hs : act.eval s = v) (hown : w.ownsRow base e E.k v n xs) (src : Value) (l : List α) (hxv : act.eval x = src) (hsrc : SliceOf E w src l)
    (h63 : n + l.length ≤ maxLen) (hbytes : (n + l.length) * bytes ≤ 140737488355328) (hbase : base ≤ w.heap.size)
    (h : ∀ v' w', w'.ownsRow base e E.k v' (n + l.length) (xs ++ l.flatMap C.enc) → w.grownBy w' v.ownBlock → (∀ g, v'.ownBlock = some g → v.ownBlock = some g ∨ w.heap.size ≤ g) → wpList P ops Q rest (act.put o.dst v') w') : wpList P ops Q (o :: rest) act w :=
  wpList_plain hgd fun _ hK => by
    obtain ⟨v', w', hr, h2, h3, h4⟩ := run_append_src C w base t o.type e i z bytes ht hi hz hsize hby hzs v n xs hown src l hsrc h63 hbytes hbase
    unfold Oper.wp execOp
    simp only [ho, resolve, invoke, builtin, Sem.run_bind, Sem.run_pure, Result.andThen_ok, List.map_toArray, List.map_cons, List.map_nil, hs, hxv, hr]
    exact hK _ _ (h v' w' h2 h3 h4)
/-- A row of one's own reads as a list. -/
theorem own_slice {α : Type} {E : Elem α} (C : Enc E) {w : World} {B : Nat} {e : TypeId} {v : Value} {l : List α} (h : w.ownsRow B e E.k v l.length (l.flatMap C.enc)) (hok : ∀ x ∈ l, C.ok x) (hlen : l.length ≤ 140737488351232) : SliceOf E w v l := by
  have h0 := h
  rcases h.2 with ⟨rfl, h1⟩ | ⟨g, cap, cur, rfl, hb, hg, hnc, _⟩
  · have : l = [] := List.length_eq_zero_iff.1 h1
    subst this
    exact ⟨hlen, _, _, rfl, Nat.le_refl _, .inl rfl⟩
  · refine ⟨hlen, _, _, rfl, hnc, .inr ⟨g, 0, rfl, (Array.getElem?_eq_some_iff.1 hg).1, fun i x hx => C.of (hok x (List.mem_of_getElem? hx)) (fun j u hu => ?_)⟩⟩
    have hj : j < E.k := by have := (List.getElem?_eq_some_iff.1 hu).1; rw [C.len] at this; exact this
    obtain ⟨g', e1, _, _, e2, _⟩ := ownsRow_cell h0 (j := i * E.k + j) (u := u) (by rw [flat_at C.len hx j hj]; exact hu)
    simp only [Option.some.injEq, Addr.mk.injEq, and_true] at e1
    subst e1
    show w.cell? ⟨g, 0 + i * E.k + j, .none⟩ = some u
    rw [Nat.zero_add]; exact e2
theorem slice_ok {α : Type} {E : Elem α} (C : Enc E) {w : World} {v : Value} {l : List α} (h : SliceOf E w v l) : ∀ x ∈ l, C.ok x := fun x hx => by
  obtain ⟨_, ao, cap, rfl, _, h⟩ := h
  rcases h with rfl | ⟨b, off, _, _, hr⟩
  · cases hx
  · obtain ⟨i, hi⟩ := List.mem_iff_getElem?.1 hx
    exact (C.R (hr i x hi)).2
def strC : Enc str := ⟨fun s => [.string s], fun s => s.size ≤ maxLen, fun _ => rfl, by decide, fun x u hu => by rw [List.mem_singleton.1 hu]; rfl, fun h => ⟨fun j u hu => by
  match j, hu with
  | 0, hu => simp only [List.getElem?_cons_zero, Option.some.injEq] at hu; rw [← hu]; exact h.1
  | j + 1, hu => simp at hu, h.2⟩, fun h hc => ⟨hc 0 _ rfl, h⟩⟩
end Go.Rd
namespace Go.Ck
open Go.RowKit Go.Mp
set_option linter.unusedVariables false
def tgtC : Rd.Enc tgtE := ⟨fun t => [.string t.service, .string t.split, .float .f64 t.weight], fun t => t.service.size ≤ maxLen ∧ t.split.size ≤ maxLen ∧ t.weight < 18446744073709551616, fun _ => rfl, by decide, fun x u hu => by
    simp only [List.mem_cons, List.not_mem_nil, or_false] at hu; rcases hu with rfl | rfl | rfl <;> rfl, fun h => by
    obtain ⟨⟨c0, s0⟩, ⟨c1, s1⟩, ⟨c2, s2⟩, _⟩ := h
    refine ⟨fun j u hu => ?_, s0, s1, s2⟩
    match j, hu with
    | 0, hu => simp only [List.getElem?_cons_zero, Option.some.injEq] at hu; rw [← hu]; exact c0
    | 1, hu => simp only [List.getElem?_cons_succ, List.getElem?_cons_zero, Option.some.injEq] at hu; rw [← hu]; exact c1
    | 2, hu => simp only [List.getElem?_cons_succ, List.getElem?_cons_zero, Option.some.injEq] at hu; rw [← hu]; exact c2
    | j + 3, hu => simp at hu, fun h hc => ⟨⟨hc 0 _ rfl, h.1⟩, ⟨hc 1 _ rfl, h.2.1⟩, ⟨hc 2 _ rfl, h.2.2⟩, trivial⟩⟩
def rulC : Rd.Enc rulE := ⟨fun t => [.string t.path, .string t.method, .string t.split, .bool t.allow], fun t => t.path.size ≤ maxLen ∧ t.method.size ≤ maxLen ∧ t.split.size ≤ maxLen, fun _ => rfl, by decide, fun x u hu => by
    simp only [List.mem_cons, List.not_mem_nil, or_false] at hu; rcases hu with rfl | rfl | rfl | rfl <;> rfl, fun h => by
    obtain ⟨⟨c0, s0⟩, ⟨c1, s1⟩, ⟨c2, s2⟩, c3, _⟩ := h
    refine ⟨fun j u hu => ?_, s0, s1, s2⟩
    match j, hu with
    | 0, hu => simp only [List.getElem?_cons_zero, Option.some.injEq] at hu; rw [← hu]; exact c0
    | 1, hu => simp only [List.getElem?_cons_succ, List.getElem?_cons_zero, Option.some.injEq] at hu; rw [← hu]; exact c1
    | 2, hu => simp only [List.getElem?_cons_succ, List.getElem?_cons_zero, Option.some.injEq] at hu; rw [← hu]; exact c2
    | 3, hu => simp only [List.getElem?_cons_succ, List.getElem?_cons_zero, Option.some.injEq] at hu; rw [← hu]; exact c3
    | j + 4, hu => simp at hu, fun h hc => ⟨⟨hc 0 _ rfl, h.1⟩, ⟨hc 1 _ rfl, h.2.1⟩, ⟨hc 2 _ rfl, h.2.2⟩, hc 3 _ rfl, trivial⟩⟩
/-- A resource with the values of its lists. -/
structure RV where
  r : Res
  ev : Value
  tv : Value
  rv : Value
def rvc (x : RV) : List Value := [.int .i64 x.r.kind, .string x.r.name, x.ev, x.tv, .string x.r.host, x.rv, .string x.r.route, .bool x.r.del]
structure RM (w : World) (B : Nat) (x : RV) : Prop where
  e : w.ownsRow B 9 1 x.ev x.r.eps.length (x.r.eps.flatMap Rd.strC.enc)
  t : w.ownsRow B 57 3 x.tv x.r.tgts.length (x.r.tgts.flatMap tgtC.enc)
  ru : w.ownsRow B 101 4 x.rv x.r.rules.length (x.r.rules.flatMap rulC.enc)
  p : ∃ w0 ev tv rv, RP w0 x.r ev tv rv
theorem RM.rp {w : World} {B : Nat} {x : RV} (h : RM w B x) : RP w x.r x.ev x.tv x.rv := by
  obtain ⟨w0, ev, tv, rv, p⟩ := h.p
  exact ⟨p.k1, p.nm, Rd.own_slice Rd.strC h.e (Rd.slice_ok Rd.strC p.e) p.e.1, Rd.own_slice tgtC h.t (Rd.slice_ok tgtC p.t) p.t.1, p.hs, Rd.own_slice rulC h.ru (Rd.slice_ok rulC p.ru) p.ru.1, p.ro⟩
theorem RM.tch {w w' : World} {B : Nat} {x : RV} {S : Nat → Prop} (h : RM w B x) (t : Tch S w w') (h1 : ∀ g, x.ev.ownBlock = some g → ¬ S g) (h2 : ∀ g, x.tv.ownBlock = some g → ¬ S g) (h3 : ∀ g, x.rv.ownBlock = some g → ¬ S g) : RM w' B x :=
  ⟨ownsRow_tch h.e t h1, ownsRow_tch h.t t h2, ownsRow_tch h.ru t h3, h.p⟩
/-- Resources in memory of one's own. -/
structure OwnM (w : World) (B : Nat) (v : Value) (L : List RV) : Prop where
  row : w.ownsRow B 52 8 v L.length (L.flatMap rvc)
  el : ∀ x ∈ L, RM w B x
theorem rvc_len (x : RV) : (rvc x).length = 8 := rfl
theorem OwnM.reads {w : World} {B : Nat} {v : Value} {L : List RV} (h : OwnM w B v L) (hlen : L.length ≤ 140737488351232) : ResS w v (L.map (·.r)) := by
  have h0 := h.row
  rcases h.row.2 with ⟨rfl, h1⟩ | ⟨g, cap, cur, rfl, hb, hg, hnc, _⟩
  · have : L = [] := List.length_eq_zero_iff.1 h1
    subst this
    exact ⟨by simp, _, _, rfl, Nat.le_refl _, .inl rfl⟩
  · refine ⟨by rw [List.length_map]; exact hlen, _, _, by rw [List.length_map], by rw [List.length_map]; exact hnc, .inr ⟨g, 0, rfl, (Array.getElem?_eq_some_iff.1 hg).1, fun i r hr => ?_⟩⟩
    rw [List.getElem?_map] at hr
    obtain ⟨x, hx, rfl⟩ := Option.map_eq_some_iff.1 hr
    have hc : ∀ (j : Nat) u, j < 8 → (rvc x)[j]? = some u → w.cell? ⟨g, 0 + i * 8 + j, none⟩ = some u := fun j u hj hu => by
      obtain ⟨g', e1, _, _, e2, _⟩ := ownsRow_cell h0 (j := i * 8 + j) (u := u) (by rw [Rd.flat_at rvc_len hx j hj]; exact hu)
      simp only [Option.some.injEq, Addr.mk.injEq, and_true] at e1
      subst e1
      rw [Nat.zero_add]; exact e2
    exact resE_of ⟨hc 0 _ (by decide) rfl, hc 1 _ (by decide) rfl, hc 2 _ (by decide) rfl, hc 3 _ (by decide) rfl, hc 4 _ (by decide) rfl, hc 5 _ (by decide) rfl, hc 6 _ (by decide) rfl, hc 7 _ (by decide) rfl⟩ (h.el x (List.mem_of_getElem? hx)).rp
end Go.Ck
end

section
/- What keeps the shape of every block of cells; 'append(v, x..)' keeps it; a list that is written over. -/
namespace Go.Ck
open Go.RowKit Go.Mp
set_option linter.unusedVariables false
/-- Every block of cells that was there is one still, as long and of the same type. -/
def Shp (w w' : World) : Prop := ∀ (g : Nat) (cur : Array Value) (e : TypeId), w.heap[g]? = some (.cells cur e (0, 0)) → ∃ cur' : Array Value, w'.heap[g]? = some (.cells cur' e (0, 0)) ∧ cur'.size = cur.size
theorem Shp.refl (w : World) : Shp w w := fun g cur e h => ⟨cur, h, rfl⟩
theorem Shp.trans {a b c : World} (h : Shp a b) (h' : Shp b c) : Shp a c := fun g cur e q => by
  obtain ⟨c1, h1, s1⟩ := h g cur e q
  obtain ⟨c2, h2, s2⟩ := h' g c1 e h1
  exact ⟨c2, h2, s2.trans s1⟩
theorem shp_set (w : World) (g i : Nat) (v : Value) : Shp w (w.setCell ⟨g, i, none⟩ v) := fun k cur e h => by
  by_cases hk : k = g
  · subst hk; exact ⟨_, heap_setCell_same w k i cur e v h, by simp⟩
  · exact ⟨cur, (heap_setCell_other w _ k v hk).trans h, rfl⟩
theorem shp_block {w w' : World} (hb : ∀ k, k < w.heap.size → w'.heap[k]? = w.heap[k]?) : Shp w w' := fun k cur e h =>
  ⟨cur, (hb k (Array.getElem?_eq_some_iff.1 h).1).trans h, rfl⟩
theorem shp_below {w w' : World} (h : Below w.heap.size w w') : Shp w w' := shp_block fun k hk => h.block k hk
theorem shp_alloc (w : World) (o : Obj) : Shp w (w.alloc o) := shp_below ((Below.refl _ _).alloc (Nat.le_refl _) _)
theorem shp_grown {w w' : World} (h : w.grownBy w' none) : Shp w w' := shp_block fun k hk => h.block k hk (by simp)
theorem shp_cells (g : Nat) : ∀ (vs : List Value) (o : Nat) (w : World), Shp w (w.setCells g o vs)
  | [], _, w => Shp.refl w
  | v :: vs, o, w => (shp_set w g o v).trans (shp_cells g vs (o + 1) _)
/-- A row of one's own, whatever it holds. -/
def Any (w : World) (B : Nat) (e : TypeId) (size : Nat) (v : Value) (n : Nat) : Prop := ∃ xs, w.ownsRow B e size v n xs
theorem Any.shp {w w' : World} {B : Nat} {e : TypeId} {size : Nat} {v : Value} {n : Nat} (h : Any w B e size v n) (s : Shp w w') : Any w' B e size v n := by
  obtain ⟨xs, hl, h⟩ := h
  rcases h with ⟨rfl, rfl⟩ | ⟨g, cap, cur, rfl, hb, hg, hnc, hcm, hcs, htk⟩
  · exact ⟨[], by simp, .inl ⟨rfl, rfl⟩⟩
  · obtain ⟨cur', h1, h2⟩ := s g cur e hg
    refine ⟨cur'.toList.take (n * size), ?_, .inr ⟨g, cap, cur', rfl, hb, h1, hnc, hcm, by omega, rfl⟩⟩
    have := Nat.mul_le_mul_right size hnc
    rw [List.length_take, Array.length_toList]; omega
theorem Any.cell {w : World} {B : Nat} {e : TypeId} {size : Nat} {v : Value} {n : Nat} (h : Any w B e size v n) (hn : 0 < n) : ∃ g cap, v = .slice (some ⟨g, 0, none⟩) n cap ∧ B ≤ g ∧ g < w.heap.size ∧ (∀ i, i < n * size → ∃ u, w.cell? ⟨g, i, none⟩ = some u ∧ w.frozen? ⟨g, i, none⟩ = false) ∧ ∀ k cs t, w.heap[k]? = some (.cells cs t (0, 0)) → t ≠ e → k ≠ g := by
  obtain ⟨xs, hl, h⟩ := h
  rcases h with ⟨rfl, rfl⟩ | ⟨g, cap, cur, rfl, hb, hg, hnc, hcm, hcs, htk⟩
  · omega
  · refine ⟨g, cap, rfl, hb, (Array.getElem?_eq_some_iff.1 hg).1, fun i hi => ?_, fun k cs t hk ht e => ?_⟩
    · have := Nat.mul_le_mul_right size hnc
      have hi' : i < cur.size := by omega
      exact ⟨cur[i], by simp [World.cell?, hg, hi'], by simp [World.frozen?, hg]⟩
    · subst e; rw [hg] at hk; cases hk; exact ht rfl
theorem Any.ne {w : World} {B B' : Nat} {e e' : TypeId} {s s' : Nat} {v v' : Value} {n n' : Nat} (h : Any w B e s v n) (h' : Any w B' e' s' v' n') (he : e ≠ e') {a b : Nat} (ha : v.ownBlock = some a) (hb : v'.ownBlock = some b) : a ≠ b := by
  obtain ⟨xs, _, h⟩ := h
  obtain ⟨xs', _, h'⟩ := h'
  rcases h with ⟨rfl, _⟩ | ⟨g, cap, cur, rfl, _, hg, _⟩
  · cases ha
  rcases h' with ⟨rfl, _⟩ | ⟨g', cap', cur', rfl, _, hg', _⟩
  · cases hb
  simp only [Value.ownBlock, Option.some.injEq] at ha hb
  subst ha
  subst hb
  intro q
  subst q
  rw [hg] at hg'
  cases hg'
  exact he rfl
theorem Any.ge {w : World} {B : Nat} {e : TypeId} {s : Nat} {v : Value} {n : Nat} (h : Any w B e s v n) {a : Nat} (ha : v.ownBlock = some a) : B ≤ a := by
  obtain ⟨xs, _, h⟩ := h
  rcases h with ⟨rfl, _⟩ | ⟨g, cap, cur, rfl, hb, _⟩
  · cases ha
  · simp only [Value.ownBlock, Option.some.injEq] at ha; omega
theorem Any.shape {w : World} {B : Nat} {e : TypeId} {s : Nat} {v : Value} {n : Nat} (h : Any w B e s v n) : ∃ o c, v = .slice o n c := by
  obtain ⟨xs, _, h⟩ := h
  rcases h with ⟨rfl, rfl⟩ | ⟨g, cap, cur, rfl, _⟩
  · exact ⟨_, _, rfl⟩
  · exact ⟨_, _, rfl⟩
theorem run_append_shp {P : Program} (w : World) (base : Nat) (t ty e : TypeId) (i : TypeInfo) (z : Value) (size bytes : Nat) (ht : P.underlying t = some (.slice e)) (hi : P.info? e = some i) (hz : i.zero = some z)
    (hsize : i.size = size) (hby : i.bytes = bytes) (hzs : z.cells.size = size) (hsz : 0 < size)
    (v : Value) (n : Nat) (xs : List Value) (hown : w.ownsRow base e size v n xs)
    (a : Addr) (m c : Nat) (news : List Value) (hl : news.length = m * size) (hnews : ∀ j u, news[j]? = some u → w.cell? (a.add j) = some u) (h1 : ∀ u ∈ news, u.oneCell' = true)
    (h63 : n + m ≤ maxLen) (hbytes : (n + m) * bytes ≤ 140737488355328) (hbase : base ≤ w.heap.size) :
    ∃ v' w', (Builtin.append_ #[t, t] ty #[v, .slice (some a) m c]).run P w = .ok v' w' ∧ w'.ownsRow base e size v' (n + m) (xs ++ news) ∧ w.grownBy w' v.ownBlock ∧ Shp w w' := by
  obtain ⟨v', w', hr, h2, h3, h4, h5⟩ := run_append_own_at (P := P) w base t ty e i z size bytes ht hi hz hsize hby hzs hsz v n xs hown a m c news hl hnews h1 h63 hbytes hbase
  refine ⟨v', w', hr, h2, h3, ?_⟩
  have hx := hown
  rcases hx.2 with ⟨hv, _⟩ | ⟨g, cap, cur, hv, hbg, hg, hnc, hcm, hcs, htk⟩
  · rw [hv] at h3
    exact shp_grown h3
  · by_cases hroom : n + m ≤ cap
    · have hlen : xs.length = n * size := hx.1
      have hin : ∀ j, j < news.length → n * size + j < cur.size := fun j hj => by
        have h6 : (n + m) * size ≤ cap * size := Nat.mul_le_mul_right _ hroom
        rw [Nat.add_mul] at h6
        rw [hl] at hj
        omega
      have hrc := run_append_room_cells (P := P) w t ty e i ht hi g 0 n cap a m c news (by rw [hsize]; exact hl) hnews h1 hroom
        (fun j hj => by
          have h7 := hin j hj
          simp [World.cell?, hg, hsize, h7])
        (fun j hj => by simp [World.frozen?, hg])
      rw [hv, hrc] at hr
      injection hr with e1 e2
      rw [← e2]
      exact shp_cells g news _ w
    · rw [hv] at hr
      obtain ⟨v2, w2, hr2, _, hg2⟩ := run_append_arg_grows (P := P) w t ty e i z size bytes ht hi hz hsize hby hzs hsz ⟨g, 0, none⟩ n cap xs hx.1
        (fun j u hu => by
          have h8 := (List.getElem?_eq_some_iff.1 hu).1
          have h9 := hx.1
          have h10 : cur.toList[j]? = some u := by
            rw [← htk, List.getElem?_take] at hu
            rw [if_pos (by omega)] at hu
            exact hu
          have h11 : cur[j]? = some u := by rw [← Array.getElem?_toList]; exact h10
          simp only [Addr.add]; split <;> simp_all [World.cell?]) a m c news hl hnews (by omega) h63 hbytes
      rw [hr2] at hr
      injection hr with e1 e2
      rw [← e2]
      exact shp_grown hg2
theorem wp_append_shp {P : Program} {w : World} {ops : Array Oper} {rest : List Oper} {o : Oper} {act : Act} {Q : Exit → Act → World → Prop} (hgd : o.guard = .none) (s x : Operand) (t : TypeId)
    (ho : o.op = .call { callee := .builtin .append, args := #[s, x], argTypes := #[t, t] }) (base : Nat) (e : TypeId) (i : TypeInfo) (z : Value) (size bytes : Nat) (ht : P.underlying t = some (.slice e)) (hi : P.info? e = some i) (hz : i.zero = some z)
    (hsize : i.size = size) (hby : i.bytes = bytes) (hzs : z.cells.size = size) (hsz : 0 < size) (v : Value) (n : Nat) (hs : act.eval s = v) (hown : Any w base e size v n)
    (a : Addr) (m c : Nat) (news : List Value) (hxv : act.eval x = .slice (some a) m c) (hl : news.length = m * size) (hnews : ∀ j u, news[j]? = some u → w.cell? (a.add j) = some u) (h1 : ∀ u ∈ news, u.oneCell' = true)
    (h63 : n + m ≤ maxLen) (hbytes : (n + m) * bytes ≤ 140737488355328) (hbase : base ≤ w.heap.size)
    (h : ∀ v' w', Any w' base e size v' (n + m) → w.grownBy w' v.ownBlock → Shp w w' → wpList P ops Q rest (act.put o.dst v') w') : wpList P ops Q (o :: rest) act w :=
  wpList_plain hgd fun _ hK => by
    obtain ⟨xs, hown⟩ := hown
    obtain ⟨v', w', hr, h2, h3, h4⟩ := run_append_shp w base t o.type e i z size bytes ht hi hz hsize hby hzs hsz v n xs hown a m c news hl hnews h1 h63 hbytes hbase
    unfold Oper.wp execOp
    simp only [ho, resolve, invoke, builtin, Sem.run_bind, Sem.run_pure, Result.andThen_ok, List.map_toArray, List.map_cons, List.map_nil, hs, hxv, hr]
    exact hK _ _ (h v' w' ⟨_, h2⟩ h3 h4)
/-- A list of resources that is being written over: cells of its row that are known still (P), what else may have changed. -/
structure SpI (w : World) (B N g : Nat) (L : List RV) (P : Nat → Prop) (wx : World) : Prop where
  shp : Shp w wx
  tch : Tch (fun k => B ≤ k ∧ k < N) w wx
  at_ : ∀ c u, P c → (L.flatMap rvc)[c]? = some u → wx.cell? ⟨g, c, none⟩ = some u
theorem SpI.mono {w wx : World} {B N g : Nat} {L : List RV} {P P' : Nat → Prop} (h : SpI w B N g L P wx) (hp : ∀ c, P' c → P c) : SpI w B N g L P' wx := ⟨h.shp, h.tch, fun c u q => h.at_ c u (hp c q)⟩
theorem cell_block {w w' : World} {a : Addr} (h : w'.heap[a.block]? = w.heap[a.block]?) : w'.cell? a = w.cell? a := by simp [World.cell?, h]
theorem SpI.other {w wx : World} {B N g : Nat} {L : List RV} {P : Nat → Prop} (h : SpI w B N g L P wx) {k : Nat} (j : Nat) (u : Value) (h1 : B ≤ k) (h2 : k < N) (hk : k ≠ g) : SpI w B N g L P (wx.setCell ⟨k, j, none⟩ u) :=
  ⟨h.shp.trans (shp_set wx k j u), h.tch.trans (Tch.setCell (S := fun q => q = k) wx (p := ⟨k, j, none⟩) rfl u) (fun q e => .inl (by rw [e]; exact ⟨h1, h2⟩)), fun c v q hv => (cell_block (heap_setCell_other wx ⟨k, j, none⟩ g u (fun e => hk e.symm))).trans (h.at_ c v q hv)⟩
theorem SpI.own {w wx : World} {B N g : Nat} {L : List RV} {P : Nat → Prop} (h : SpI w B N g L P wx) (j : Nat) (u : Value) (h1 : B ≤ g) (h2 : g < N) : SpI w B N g L (fun c => P c ∧ c ≠ j) (wx.setCell ⟨g, j, none⟩ u) :=
  ⟨h.shp.trans (shp_set wx g j u), h.tch.trans (Tch.setCell (S := fun q => q = g) wx (p := ⟨g, j, none⟩) rfl u) (fun q e => .inl (by rw [e]; exact ⟨h1, h2⟩)), fun c v q hv => by
    have e : (wx.setCells g j [u]).cell? ⟨g, c, none⟩ = wx.cell? ⟨g, c, none⟩ := World.cell?_setCells_out g [u] j wx ⟨g, c, none⟩ (fun _ _ => by have := q.2; simp only [List.length_cons, List.length_nil]; omega)
    exact e.trans (h.at_ c v q.1 hv)⟩
theorem SpI.grown {w wx wy : World} {B N g : Nat} {L : List RV} {P : Nat → Prop} (h : SpI w B N g L P wx) {r : Option Nat} (hg : wx.grownBy wy r) (hs : Shp wx wy) (hr : ∀ k, r = some k → B ≤ k ∧ k < N ∧ k ≠ g) (hgl : g < wx.heap.size) : SpI w B N g L P wy :=
  ⟨h.shp.trans hs, h.tch.trans (S' := fun k => r = some k) ⟨hg.os, hg.tape, hg.output, hg.size, fun k hk hn => hg.block k hk (fun e => hn e.symm)⟩ (fun k e => .inl ⟨(hr k e).1, (hr k e).2.1⟩), fun c v q hv => (cell_block (hg.block g hgl (fun e => (hr g e.symm).2.2 rfl))).trans (h.at_ c v q hv)⟩
theorem SpI.below {w wx wy : World} {B N g : Nat} {L : List RV} {P : Nat → Prop} (h : SpI w B N g L P wx) (hb : Below wx.heap.size wx wy) (hgl : g < wx.heap.size) : SpI w B N g L P wy :=
  ⟨h.shp.trans (shp_below hb), h.tch.trans (Tch.of_below (S := fun _ => False) hb) (fun _ q => q.elim), fun c v q hv => (cell_block (hb.block g hgl)).trans (h.at_ c v q hv)⟩
theorem SpI.store {w wx : World} {B N g : Nat} {L : List RV} {P : Nat → Prop} (h : SpI w B N g L P wx) {e : TypeId} {s n cp : Nat} (ha : Any w B e s (.slice (some ⟨g, 0, none⟩) n cp) n) {c : Nat} (hc : c < n * s) : ∃ u, wx.cell? ⟨g, c, none⟩ = some u ∧ wx.frozen? ⟨g, c, none⟩ = false := by
  rcases Nat.eq_zero_or_pos n with h0 | h0
  · subst h0; omega
  · obtain ⟨g', cap, hg, _, _, hcell, _⟩ := (ha.shp h.shp).cell h0
    simp only [Value.slice.injEq, Option.some.injEq, Addr.mk.injEq, and_true, true_and] at hg
    obtain ⟨rfl, _⟩ := hg
    exact hcell c hc
end Go.Ck
end

section

namespace Go.Ck
theorem sameR_refl (r : Res) : sameR r r = true := by
  have h1 : ∀ s : ByteArray, seq s s = true := fun s => seq_iff.2 rfl
  have h2 : ∀ t : Tgt, sameT t t = true := fun t => by
    unfold sameT sameW
    rw [h1, h1]
    cases eqF t.weight t.weight <;> rfl
  have h3 : ∀ t : Rul, sameU t t = true := fun t => by
    unfold sameU
    rw [h1, h1, h1]
    simp
  have h4 : ∀ {α : Type} (p : α → α → Bool) (a : List α), (∀ x, p x x = true) → eqL p a a = true := fun p a h => eqL_yes rfl (fun j x y hx hy => by rw [hx] at hy; cases hy; exact h x)
  unfold sameR isK
  rw [h1, h1, h1, h4 _ _ h1, h4 _ _ h2, h4 _ _ h3]
  simp
theorem lists_refl (l : List Res) : eqL sameR l l = true := eqL_yes rfl (fun j x y hx hy => by rw [hx] at hy; cases hy; exact sameR_refl x)
end Go.Ck
namespace Go.Ck
/-- A resource's lists lie in memory: none is longer than any memory. -/
structure SzR (r : Res) : Prop where
  e : r.eps.length * 16 ≤ 140737488355328
  t : r.tgts.length * 40 ≤ 140737488355328
  r : r.rules.length * 56 ≤ 140737488355328
/-- Resources that lie in memory. -/
structure SzL (l : List Res) : Prop where
  n : l.length * 136 ≤ 140737488355328
  el : ∀ r ∈ l, SzR r
theorem sz_of {l : List Res} (h : listM l ≤ 1048576) : SzL l :=
  ⟨by have := len_le l; omega, fun r hr => by
    have h1 := mem_le hr
    have h2 := eps_le r
    have h3 := tgts_le r
    have h4 := rules_le r
    exact ⟨by omega, by omega, by omega⟩⟩
end Go.Ck
namespace Go.Proofs.Ytjepgpocmnijiaa
open Go.RowKit Go.Mp Go.Ck
set_option linter.unusedVariables false
set_option maxRecDepth 100000
set_option maxHeartbeats 4000000
theorem info9 : (Try.prog.info? 9).map (fun i => (i.zero, i.size, i.bytes)) = some (some (.string ⟨#[]⟩), 1, 16) := by kernel_rfl
theorem info57 : (Try.prog.info? 57).map (fun i => (i.zero, i.size, i.bytes)) = some (some (.agg #[.string ⟨#[]⟩, .string ⟨#[]⟩, .float .f64 0]), 3, 40) := by kernel_rfl
theorem info101 : (Try.prog.info? 101).map (fun i => (i.zero, i.size, i.bytes)) = some (some (.agg #[.string ⟨#[]⟩, .string ⟨#[]⟩, .string ⟨#[]⟩, .bool false]), 4, 56) := by kernel_rfl
theorem info52 : (Try.prog.info? 52).map (fun i => (i.zero, i.size, i.bytes)) = some (some (.agg #[.int .i64 0, .string ⟨#[]⟩, .slice none 0 0, .slice none 0 0, .string ⟨#[]⟩, .slice none 0 0, .string ⟨#[]⟩, .bool false]), 8, 136) := by kernel_rfl
def OwnOut (w : World) (l : List Res) (e : Ending) (w' : World) : Prop := ∃ v' L, e = .returned v' ∧ L.map RV.r = l ∧ OwnM w' w.heap.size v' L ∧ Below w.heap.size w w'
theorem ownM_tch {w w' : World} {B : Nat} {v : Value} {L : List RV} {S : Nat → Prop} (h : OwnM w B v L) (t : Tch S w w') (h1 : ∀ g, v.ownBlock = some g → ¬ S g) (h2 : ∀ x ∈ L, ∀ g, x.ev.ownBlock = some g ∨ x.tv.ownBlock = some g ∨ x.rv.ownBlock = some g → ¬ S g) : OwnM w' B v L :=
  ⟨ownsRow_tch h.row t h1, fun x hx => (h.el x hx).tch t (fun g q => h2 x hx g (.inl q)) (fun g q => h2 x hx g (.inr (.inl q))) (fun g q => h2 x hx g (.inr (.inr q)))⟩
theorem ownM_below {w w' : World} {B : Nat} {v : Value} {L : List RV} (h : OwnM w B v L) (hb : Below w.heap.size w w') : OwnM w' B v L := ownM_tch h (Tch.of_below (S := No) hb) (fun _ _ q => q) (fun _ _ _ _ q => q)
theorem empty_row (w : World) (B : Nat) (hB : B ≤ w.heap.size) (e size : Nat) : (w.alloc (.cells #[] e)).ownsRow B e size (.slice (some ⟨w.heap.size, 0, none⟩) 0 0) 0 [] :=
  World.ownsRow_made w #[] 0 hB (by unfold maxLen; omega) (by simp)
theorem box_set {w : World} {g i : Nat} {cs : Array Value} {T : TypeId} {v : Value} (h : w.heap[g]? = some (.cells cs T (0, 0))) : (w.setCell ⟨g, i, none⟩ v).heap[g]? = some (.cells (cs.setIfInBounds i v) T (0, 0)) := heap_setCell_same w g i cs T v h
theorem row_block_ne {w : World} {B e size n : Nat} {v : Value} {xs : List Value} {g T : Nat} {cs : Array Value} (h : w.ownsRow B e size v n xs) (hg : w.heap[g]? = some (.cells cs T (0, 0))) (he : e ≠ T) : ∀ k, v.ownBlock = some k → k ≠ g := fun k hk q => row_not h hg he (by rw [← q]; exact hk)
theorem own18z (l : List Res) (v : Value) (w : World) (hl : ResS w v l) (hM : SzL l) : Calls Try.prog 18 #[v] w (OwnOut w l) := by
  obtain ⟨ao, cap, rfl⟩ := slice_shape hl
  have hlen := hl.1
  obtain ⟨i9, h9, h90, h91, h92⟩ := info_parts info9
  obtain ⟨i57, h57, h570, h571, h572⟩ := info_parts info57
  obtain ⟨i101, h101, h1010, h1011, h1012⟩ := info_parts info101
  obtain ⟨i52, h52, h520, h521, h522⟩ := info_parts info52
  have hM0 : Hid (OwnM w w.heap.size (.slice none 0 0) []) := Lib.hid ⟨World.ownsRow_nil _ _ _ _, fun x hx => by cases hx⟩
  have hL0 : Hid (([] : List RV).map RV.r = l.take 0) := Lib.hid (by simp)
  replace hl := Lib.hid hl
  replace hM := Lib.hid hM
  replace h9 := Lib.hid h9
  replace h90 := Lib.hid h90
  replace h91 := Lib.hid h91
  replace h92 := Lib.hid h92
  replace h57 := Lib.hid h57
  replace h570 := Lib.hid h570
  replace h571 := Lib.hid h571
  replace h572 := Lib.hid h572
  replace h101 := Lib.hid h101
  replace h1010 := Lib.hid h1010
  replace h1011 := Lib.hid h1011
  replace h1012 := Lib.hid h1012
  replace h52 := Lib.hid h52
  replace h520 := Lib.hid h520
  replace h521 := Lib.hid h521
  replace h522 := Lib.hid h522
  go_enter Try.func18, Try.ntmps18
  go_wp2
  go_loopg [3, 4] (l.length + 1) (fun gg ov ic wr => ∃ (i : Nat) (L : List RV), gg = l.length - i + 1 ∧ i ≤ l.length ∧ ic = .int .i64 i ∧ Hid (L.map RV.r = l.take i) ∧ Hid (OwnM wr w.heap.size ov L) ∧ Hid (Below w.heap.size w wr))
  case atStart => exact ⟨0, [], rfl, Nat.zero_le _, rfl, hL0, hM0, Lib.hid (Below.refl _ _)⟩
  case round =>
    obtain ⟨i, L, rfl, hi, rfl, hLi, hO, hbw⟩ := hrel
    obtain ⟨oo, oc, rfl⟩ := ownsRow_shape hO.out.row
    by_cases hlt : i < l.length
    · obtain ⟨r, hr⟩ : ∃ r, l[i]? = some r := ⟨_, List.getElem?_eq_getElem hlt⟩
      obtain ⟨b, off, eo, ec, ta, tc, ra, rc, rfl, hbl, c, hp⟩ := res_at2 hl.out hr
      obtain ⟨c0, c1, c2, c3, c4, c5, c6, c7⟩ := c.below hbl hbw.out
      have hk0 : (i : Int) < (l.length : Int) := nn_lt hlt
      have hwk := Lib.hid (nn_succ2 hlt hlen)
      obtain ⟨wb, hwb⟩ : ∃ wb, wb = wr.alloc (.cells #[Value.int .i64 r.kind, .string r.name, .slice eo r.eps.length ec, .slice ta r.tgts.length tc, .string r.host, .slice ra r.rules.length rc, .string r.route, .bool r.del] 52) := ⟨_, rfl⟩
      obtain ⟨bk, hbk⟩ : ∃ bk, bk = wr.heap.size := ⟨_, rfl⟩
      have hbx : wb.heap[bk]? = some (.cells #[Value.int .i64 r.kind, .string r.name, .slice eo r.eps.length ec, .slice ta r.tgts.length tc, .string r.host, .slice ra r.rules.length rc, .string r.route, .bool r.del] 52 (0, 0)) := by rw [hwb, hbk]; exact heap_alloc_new wr _
      have hba : Below wr.heap.size wr wb := by rw [hwb]; exact alloc_below _ _
      have hbwb := Lib.hid (seq_below hbw.out hba)
      have hbwk : w.heap.size ≤ bk := by rw [hbk]; exact hbw.out.size
      have hOb := Lib.hid (ownM_below hO.out hba)
      have hrm := hM.out.el r (List.mem_of_getElem? hr)
      have z1 := hrm.e
      have z2 := hrm.t
      have z3 := hrm.r
      have lim1 : 0 + r.eps.length ≤ maxLen ∧ (0 + r.eps.length) * 16 ≤ 140737488355328 := by unfold maxLen; omega
      have lim2 : 0 + r.tgts.length ≤ maxLen ∧ (0 + r.tgts.length) * 40 ≤ 140737488355328 := by unfold maxLen; omega
      have lim3 : 0 + r.rules.length ≤ maxLen ∧ (0 + r.rules.length) * 56 ≤ 140737488355328 := by unfold maxLen; omega
      have hbl' := Lib.hid hbl
      have hcc := Lib.hid c
      have hne : Hid (∀ g, (Value.slice oo L.length oc).ownBlock = some g → g < bk) := Lib.hid (fun g hg => by rw [hbk]; exact (ownsRow_ge hO.out.row hg).2)
      have hbxwb := Lib.hid hbx
      have hbwbb := hbwb
      have hOwb := hOb
      replace hrm := Lib.hid hrm
      replace z1 := Lib.hid z1
      replace z2 := Lib.hid z2
      replace z3 := Lib.hid z3
      replace hp := Lib.hid hp
      replace hba := Lib.hid hba
      replace hr := Lib.hid hr
      replace hbwk := Lib.hid hbwk
      clear hbl c hbx
      have limA := Lib.hid lim1
      have limB := Lib.hid lim2
      have limC := Lib.hid lim3
      clear lim1 lim2 lim3
      go_upto_region 6 with fail
      rw [← hwb, ← hbk]
      replace hwb := Lib.hid hwb
      replace hbk := Lib.hid hbk
      clear c0 c1 c2 c3 c4 c5 c6 c7
      have hrowA := Lib.hid (empty_row wb w.heap.size hbwb.out.size 9 1)
      have hsrcA := Lib.hid (hp.out.e.below (seq_below hbwb.out (alloc_below wb (.cells #[] 9))))
      have hbAA := Lib.hid (seq_below hbwb.out (alloc_below wb (.cells #[] 9)))
      have hRA := Lib.hid (alloc_below wb (.cells #[] 9))
      have hblsA : b < wb.heap.size := Nat.lt_of_lt_of_le hbl'.out hbwb.out.size
      have gsA : wb.cell? ⟨b, off + i * 8 + 2, none⟩ = some (.slice eo r.eps.length ec) := (hcc.out.below hbl'.out hbwb.out).c2
      go_upto_region 7 with (first
        | (at_builtin; refine Rd.wp_append_src Rd.strC (by rfl) _ _ 48 (by rfl) w.heap.size 9 i9 _ 16 Try.underlying48 h9.out h90.out h91.out h92.out rfl _ 0 [] (by rfl) hrowA.out _ r.eps (by rfl) hsrcA.out limA.out.1 limA.out.2 hbAA.out.size ?_; intro v3 w3A hr3 hg3 hl3; obtain ⟨ea1, ec1, rfl⟩ := ownsRow_shape hr3; rw [Nat.zero_add, List.nil_append] at hr3; have hGA := Lib.hid (hRA.out.grown hg3 hRA.out.size (fun q hq => (by cases hq; exact Nat.le_refl _))); have hbx3 := (hGA.out.block bk (Array.getElem?_eq_some_iff.1 hbxwb.out).1).trans hbxwb.out; have fz := frozen_of_row _ bk 2 _ _ hbx3; have cz : w3A.cell? ⟨bk, 2, none⟩ = some (.slice eo r.eps.length ec) := box_at hbx3 rfl; replace hbx3 := Lib.hid hbx3; rw [Nat.zero_add]; have hrA := Lib.hid hr3; clear hr3 hg3 hl3)
        | fail)
      obtain ⟨w4A, hw4⟩ : ∃ w4, w4 = w3A.setCell ⟨bk, 2, none⟩ (.slice ea1 r.eps.length ec1) := ⟨_, rfl⟩
      rw [← hw4]
      have tS : Tch (fun q => q = bk) w3A w4A := by rw [hw4]; exact Tch.setCell (S := fun q => q = bk) w3A (p := ⟨bk, 2, none⟩) rfl _
      have hbw4A := Lib.hid (Tch.below (seq_below hbwb.out hGA.out) tS (seq_below hbwb.out hGA.out).size (fun q e => by rw [e]; exact hbwk.out))
      have hbxw4A : Hid (w4A.heap[bk]? = some (.cells #[Value.int .i64 r.kind, .string r.name, .slice ea1 r.eps.length ec1, .slice ta r.tgts.length tc, .string r.host, .slice ra r.rules.length rc, .string r.route, .bool r.del] 52 (0, 0))) := Lib.hid (by rw [hw4]; exact box_set hbx3.out)
      have hO3 := ownM_below hOwb.out hGA.out
      have hOw4A := Lib.hid (ownM_tch hO3 tS (fun g hg e => by have := hne.out g hg; omega) (fun x hx g hg e => by
        rcases hg with q | q | q
        · exact row_block_ne (hO3.el x hx).e hbx3.out (by decide) g q e
        · exact row_block_ne (hO3.el x hx).t hbx3.out (by decide) g q e
        · exact row_block_ne (hO3.el x hx).ru hbx3.out (by decide) g q e))
      have hownA := Lib.hid (ownsRow_tch hrA.out tS (fun g hg e => row_block_ne hrA.out hbx3.out (by decide) g hg e))
      replace hw4 := Lib.hid hw4
      replace tS := Lib.hid tS
      replace hO3 := Lib.hid hO3
      clear fz cz gsA hbx3
      have hrowB := Lib.hid (empty_row w4A w.heap.size hbw4A.out.size 57 3)
      have hsrcB := Lib.hid (hp.out.t.below (seq_below hbw4A.out (alloc_below w4A (.cells #[] 57))))
      have hbAB := Lib.hid (seq_below hbw4A.out (alloc_below w4A (.cells #[] 57)))
      have hRB := Lib.hid (alloc_below w4A (.cells #[] 57))
      have hblsB : b < w4A.heap.size := Nat.lt_of_lt_of_le hbl'.out hbw4A.out.size
      have gsB : w4A.cell? ⟨b, off + i * 8 + 3, none⟩ = some (.slice ta r.tgts.length tc) := (hcc.out.below hbl'.out hbw4A.out).c3
      go_upto_region 8 with (first
        | (at_builtin; refine Rd.wp_append_src tgtC (by rfl) _ _ 49 (by rfl) w.heap.size 57 i57 _ 40 Try.underlying49 h57.out h570.out h571.out h572.out rfl _ 0 [] (by rfl) hrowB.out _ r.tgts (by rfl) hsrcB.out limB.out.1 limB.out.2 hbAB.out.size ?_; intro v3 w3B hr3 hg3 hl3; obtain ⟨ta1, tc1, rfl⟩ := ownsRow_shape hr3; rw [Nat.zero_add, List.nil_append] at hr3; have hGB := Lib.hid (hRB.out.grown hg3 hRB.out.size (fun q hq => (by cases hq; exact Nat.le_refl _))); have hbx3 := (hGB.out.block bk (Array.getElem?_eq_some_iff.1 hbxw4A.out).1).trans hbxw4A.out; have fz := frozen_of_row _ bk 3 _ _ hbx3; have cz : w3B.cell? ⟨bk, 3, none⟩ = some (.slice ta r.tgts.length tc) := box_at hbx3 rfl; replace hbx3 := Lib.hid hbx3; rw [Nat.zero_add]; have hrB := Lib.hid hr3; clear hr3 hg3 hl3)
        | fail)
      obtain ⟨w4B, hw4⟩ : ∃ w4, w4 = w3B.setCell ⟨bk, 3, none⟩ (.slice ta1 r.tgts.length tc1) := ⟨_, rfl⟩
      rw [← hw4]
      have tS : Tch (fun q => q = bk) w3B w4B := by rw [hw4]; exact Tch.setCell (S := fun q => q = bk) w3B (p := ⟨bk, 3, none⟩) rfl _
      have hbw4B := Lib.hid (Tch.below (seq_below hbw4A.out hGB.out) tS (seq_below hbw4A.out hGB.out).size (fun q e => by rw [e]; exact hbwk.out))
      have hbxw4B : Hid (w4B.heap[bk]? = some (.cells #[Value.int .i64 r.kind, .string r.name, .slice ea1 r.eps.length ec1, .slice ta1 r.tgts.length tc1, .string r.host, .slice ra r.rules.length rc, .string r.route, .bool r.del] 52 (0, 0))) := Lib.hid (by rw [hw4]; exact box_set hbx3.out)
      have hO3 := ownM_below hOw4A.out hGB.out
      have hOw4B := Lib.hid (ownM_tch hO3 tS (fun g hg e => by have := hne.out g hg; omega) (fun x hx g hg e => by
        rcases hg with q | q | q
        · exact row_block_ne (hO3.el x hx).e hbx3.out (by decide) g q e
        · exact row_block_ne (hO3.el x hx).t hbx3.out (by decide) g q e
        · exact row_block_ne (hO3.el x hx).ru hbx3.out (by decide) g q e))
      have hownA := Lib.hid (ownsRow_tch (ownsRow_tch hownA.out (Tch.of_below (S := No) hGB.out) (fun _ _ q => q)) tS (fun g hg e => row_block_ne (ownsRow_tch hownA.out (Tch.of_below (S := No) hGB.out) (fun _ _ q => q)) hbx3.out (by decide) g hg e))
      have hownB := Lib.hid (ownsRow_tch hrB.out tS (fun g hg e => row_block_ne hrB.out hbx3.out (by decide) g hg e))
      replace hw4 := Lib.hid hw4
      replace tS := Lib.hid tS
      replace hO3 := Lib.hid hO3
      clear fz cz gsB hbx3
      have hrowC := Lib.hid (empty_row w4B w.heap.size hbw4B.out.size 101 4)
      have hsrcC := Lib.hid (hp.out.ru.below (seq_below hbw4B.out (alloc_below w4B (.cells #[] 101))))
      have hbAC := Lib.hid (seq_below hbw4B.out (alloc_below w4B (.cells #[] 101)))
      have hRC := Lib.hid (alloc_below w4B (.cells #[] 101))
      have hblsC : b < w4B.heap.size := Nat.lt_of_lt_of_le hbl'.out hbw4B.out.size
      have gsC : w4B.cell? ⟨b, off + i * 8 + 5, none⟩ = some (.slice ra r.rules.length rc) := (hcc.out.below hbl'.out hbw4B.out).c5
      go_upto_region 9 with (first
        | (at_builtin; refine Rd.wp_append_src rulC (by rfl) _ _ 50 (by rfl) w.heap.size 101 i101 _ 56 Try.underlying50 h101.out h1010.out h1011.out h1012.out rfl _ 0 [] (by rfl) hrowC.out _ r.rules (by rfl) hsrcC.out limC.out.1 limC.out.2 hbAC.out.size ?_; intro v3 w3C hr3 hg3 hl3; obtain ⟨ra1, rc1, rfl⟩ := ownsRow_shape hr3; rw [Nat.zero_add, List.nil_append] at hr3; have hGC := Lib.hid (hRC.out.grown hg3 hRC.out.size (fun q hq => (by cases hq; exact Nat.le_refl _))); have hbx3 := (hGC.out.block bk (Array.getElem?_eq_some_iff.1 hbxw4B.out).1).trans hbxw4B.out; have fz := frozen_of_row _ bk 5 _ _ hbx3; have cz : w3C.cell? ⟨bk, 5, none⟩ = some (.slice ra r.rules.length rc) := box_at hbx3 rfl; replace hbx3 := Lib.hid hbx3; rw [Nat.zero_add]; have hrC := Lib.hid hr3; clear hr3 hg3 hl3)
        | fail)
      obtain ⟨w4C, hw4⟩ : ∃ w4, w4 = w3C.setCell ⟨bk, 5, none⟩ (.slice ra1 r.rules.length rc1) := ⟨_, rfl⟩
      rw [← hw4]
      have tS : Tch (fun q => q = bk) w3C w4C := by rw [hw4]; exact Tch.setCell (S := fun q => q = bk) w3C (p := ⟨bk, 5, none⟩) rfl _
      have hbw4C := Lib.hid (Tch.below (seq_below hbw4B.out hGC.out) tS (seq_below hbw4B.out hGC.out).size (fun q e => by rw [e]; exact hbwk.out))
      have hbxw4C : Hid (w4C.heap[bk]? = some (.cells #[Value.int .i64 r.kind, .string r.name, .slice ea1 r.eps.length ec1, .slice ta1 r.tgts.length tc1, .string r.host, .slice ra1 r.rules.length rc1, .string r.route, .bool r.del] 52 (0, 0))) := Lib.hid (by rw [hw4]; exact box_set hbx3.out)
      have hO3 := ownM_below hOw4B.out hGC.out
      have hOw4C := Lib.hid (ownM_tch hO3 tS (fun g hg e => by have := hne.out g hg; omega) (fun x hx g hg e => by
        rcases hg with q | q | q
        · exact row_block_ne (hO3.el x hx).e hbx3.out (by decide) g q e
        · exact row_block_ne (hO3.el x hx).t hbx3.out (by decide) g q e
        · exact row_block_ne (hO3.el x hx).ru hbx3.out (by decide) g q e))
      have hownA := Lib.hid (ownsRow_tch (ownsRow_tch hownA.out (Tch.of_below (S := No) hGC.out) (fun _ _ q => q)) tS (fun g hg e => row_block_ne (ownsRow_tch hownA.out (Tch.of_below (S := No) hGC.out) (fun _ _ q => q)) hbx3.out (by decide) g hg e))
      have hownB := Lib.hid (ownsRow_tch (ownsRow_tch hownB.out (Tch.of_below (S := No) hGC.out) (fun _ _ q => q)) tS (fun g hg e => row_block_ne (ownsRow_tch hownB.out (Tch.of_below (S := No) hGC.out) (fun _ _ q => q)) hbx3.out (by decide) g hg e))
      have hownC := Lib.hid (ownsRow_tch hrC.out tS (fun g hg e => row_block_ne hrC.out hbx3.out (by decide) g hg e))
      replace hw4 := Lib.hid hw4
      replace tS := Lib.hid tS
      replace hO3 := Lib.hid hO3
      clear fz cz gsC hbx3
      have hN1 : L.length + 1 ≤ maxLen ∧ (L.length + 1) * 136 ≤ 140737488355328 := by
        have h1 : L.length ≤ i := by rw [← List.length_map (f := RV.r), hLi.out]; exact List.length_take_le _ _
        have h3 := hM.out.n
        unfold maxLen; omega
      obtain ⟨y0, y1, y2, y3, y4, y5, y6, y7⟩ : RC w4C bk 0 r (.slice ea1 r.eps.length ec1) (.slice ta1 r.tgts.length tc1) (.slice ra1 r.rules.length rc1) := rc_box (fun j u hu => box_at hbxw4C.out hu)
      replace hN1 := Lib.hid hN1
      go_wp2_with (first
        | (at_builtin; refine wp_append_us (us := rvc ⟨r, .slice ea1 r.eps.length ec1, .slice ta1 r.tgts.length tc1, .slice ra1 r.rules.length rc1⟩) (by rfl) _ _ 22 (by rfl) w.heap.size 52 i52 _ 8 136 Try.underlying22 h52.out h520.out h521.out h522.out rfl (by decide) _ L.length (L.flatMap rvc) (by rfl) hOw4C.out.row 1 (by rfl) rfl (by intro u hu; simp only [rvc, List.mem_cons, List.not_mem_nil, or_false] at hu; rcases hu with rfl | rfl | rfl | rfl | rfl | rfl | rfl | rfl <;> rfl) hN1.out.1 hN1.out.2 hbw4C.out.size ?_; intro v5 w5 hr5 hg5 hl5; replace hr5 := Lib.hid hr5; replace hg5 := Lib.hid hg5; replace hl5 := Lib.hid hl5)
        | fail)
      have t5 : Tch (fun q => (Value.slice oo L.length oc).ownBlock = some q) w4C w5 := Tch.grown hg5.out (fun q hq => .inl hq)
      have hO5 : Hid (OwnM w5 w.heap.size v5 (L ++ [⟨r, .slice ea1 r.eps.length ec1, .slice ta1 r.tgts.length tc1, .slice ra1 r.rules.length rc1⟩])) := Lib.hid ⟨by rw [List.length_append, List.flatMap_append]; simpa using hr5.out, fun x hx => by
        have hno : ∀ (e size n : Nat) (z : Value) (xs : List Value), w4C.ownsRow w.heap.size e size z n xs → e ≠ 52 → ∀ g, z.ownBlock = some g → ¬ (Value.slice oo L.length oc).ownBlock = some g := fun e size n z xs h he g hg hg2 => rows_apart h hOw4C.out.row he g hg hg2
        rcases List.mem_append.1 hx with hx | hx
        · have h := hOw4C.out.el x hx
          exact h.tch t5 (hno _ _ _ _ _ h.e (by decide)) (hno _ _ _ _ _ h.t (by decide)) (hno _ _ _ _ _ h.ru (by decide))
        · rw [List.mem_singleton.1 hx]
          exact ⟨ownsRow_tch hownA.out t5 (hno _ _ _ _ _ hownA.out (by decide)), ownsRow_tch hownB.out t5 (hno _ _ _ _ _ hownB.out (by decide)), ownsRow_tch hownC.out t5 (hno _ _ _ _ _ hownC.out (by decide)), ⟨w, _, _, _, hp.out⟩⟩⟩
      have hL5 : Hid ((L ++ [(⟨r, .slice ea1 r.eps.length ec1, .slice ta1 r.tgts.length tc1, .slice ra1 r.rules.length rc1⟩ : RV)]).map RV.r = l.take (i + 1)) := Lib.hid (by
        rw [List.map_append, hLi.out, List.take_succ_eq_append_getElem hlt, (List.getElem?_eq_some_iff.1 hr.out).2]; rfl)
      have hb5 := Lib.hid (hbw4C.out.grown hg5.out hbw4C.out.size (fun q hq => (ownsRow_ge hOw4C.out.row hq).1))
      replace t5 := Lib.hid t5
      go_wp2
      go_roundg (l.length - (i + 1) + 1)
      case rel => exact ⟨i + 1, _, rfl, hlt, by first | rw [hwk.out] | go_num, hL5, hO5, hb5⟩
      case measure => exact nn_downS hlt
    · have hk0 : decide ((i : Int) < (l.length : Int)) = false := decide_eq_false (by omega)
      have hil : l.take i = l := List.take_of_length_le (by omega)
      replace hil := Lib.hid hil
      go_wp2
      go_ret
      exact ⟨_, L, rfl, by rw [hLi.out, hil.out], hO.out, hbw.out⟩
theorem own18 (l : List Res) (v : Value) (w : World) (hl : ResS w v l) (hM : listM l ≤ 1048576) : Calls Try.prog 18 #[v] w (OwnOut w l) := own18z l v w hl (sz_of hM)
end Go.Proofs.Ytjepgpocmnijiaa
end
