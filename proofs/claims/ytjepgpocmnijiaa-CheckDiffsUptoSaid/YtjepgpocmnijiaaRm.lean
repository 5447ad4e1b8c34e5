/- Lists appended as a whole to a row of one's own; rows of one's own as lists that are read. -/
import Derived.Test.YtjepgpocmnijiaaRl
namespace Go.Rd
open Go.RowKit Go.Mp
set_option linter.unusedVariables false
/-- How an element lies: its cells. -/
structure Enc {α : Type} (E : Elem α) where
  enc : α → List Value
  ok : α → Prop
  len : ∀ x, (enc x).length = E.k
  pos : 0 < E.k
  one : ∀ x, ∀ u ∈ enc x, u.oneCell' = true
  R : ∀ {w : World} {c : Cells} {x : α}, E.R w c x → (∀ j u, (enc x)[j]? = some u → c j = some u) ∧ ok x
  of : ∀ {w : World} {c : Cells} {x : α}, ok x → (∀ j u, (enc x)[j]? = some u → c j = some u) → E.R w c x
theorem flat_get {α : Type} {enc : α → List Value} {k : Nat} (hk : 0 < k) (he : ∀ x, (enc x).length = k) : ∀ (l : List α) (q : Nat) (u : Value), (l.flatMap enc)[q]? = some u → ∃ x, l[q / k]? = some x ∧ (enc x)[q % k]? = some u
  | [], q, u, h => by simp at h
  | x :: l, q, u, h => by
    rw [List.flatMap_cons] at h
    by_cases hq : q < k
    · rw [List.getElem?_append_left (by rw [he]; exact hq)] at h
      exact ⟨x, by rw [Nat.div_eq_of_lt hq]; rfl, by rw [Nat.mod_eq_of_lt hq]; exact h⟩
    · rw [List.getElem?_append_right (by rw [he]; omega), he] at h
      obtain ⟨y, h1, h2⟩ := flat_get hk he l (q - k) u h
      have e1 : q / k = (q - k) / k + 1 := by rw [Nat.div_eq_sub_div hk (by omega)]
      have e2 : q % k = (q - k) % k := by rw [Nat.mod_eq_sub_mod (by omega)]
      exact ⟨y, by rw [e1]; exact h1, by rw [e2]; exact h2⟩
theorem flat_at {α : Type} {enc : α → List Value} {k : Nat} (he : ∀ x, (enc x).length = k) : ∀ {l : List α} {i : Nat} {x : α}, l[i]? = some x → ∀ j, j < k → (l.flatMap enc)[i * k + j]? = (enc x)[j]?
  | [], i, x, h, _, _ => by cases h
  | y :: l, 0, x, h, j, hj => by
    simp only [List.getElem?_cons_zero, Option.some.injEq] at h
    subst h
    rw [List.flatMap_cons, Nat.zero_mul, Nat.zero_add, List.getElem?_append_left (by rw [he]; exact hj)]
  | y :: l, i + 1, x, h, j, hj => by
    rw [List.flatMap_cons, List.getElem?_append_right (by rw [he, Nat.succ_mul]; omega), he]
    have : (i + 1) * k + j - k = i * k + j := by rw [Nat.succ_mul]; omega
    rw [this]
    exact flat_at he (by simpa using h) j hj
theorem flat_len {α : Type} {enc : α → List Value} {k : Nat} (he : ∀ x, (enc x).length = k) : ∀ l : List α, (l.flatMap enc).length = l.length * k
  | [] => by simp
  | x :: l => by rw [List.flatMap_cons, List.length_append, he, flat_len he l, List.length_cons, Nat.succ_mul]; omega
theorem run_append_src {P : Program} {α : Type} {E : Elem α} (C : Enc E) (w : World) (base : Nat) (t ty e : TypeId) (i : TypeInfo) (z : Value) (bytes : Nat) (ht : P.underlying t = some (.slice e)) (hi : P.info? e = some i) (hz : i.zero = some z)
    (hsize : i.size = E.k) (hby : i.bytes = bytes) (hzs : z.cells.size = E.k) (v : Value) (n : Nat) (xs : List Value) (hown : w.ownsRow base e E.k v n xs) (src : Value) (l : List α) (hsrc : SliceOf E w src l)
    (h63 : n + l.length ≤ maxLen) (hbytes : (n + l.length) * bytes ≤ 140737488355328) (hbase : base ≤ w.heap.size) :
    ∃ v' w', (Builtin.append_ #[t, t] ty #[v, src]).run P w = .ok v' w' ∧ w'.ownsRow base e E.k v' (n + l.length) (xs ++ l.flatMap C.enc) ∧ w.grownBy w' v.ownBlock ∧ (∀ g, v'.ownBlock = some g → v.ownBlock = some g ∨ w.heap.size ≤ g) := by
  obtain ⟨hl, ao, cap, rfl, hc, h3⟩ := hsrc
  have key : ∀ ad : Addr, ao = some ad → (∀ j u, (l.flatMap C.enc)[j]? = some u → w.cell? (ad.add j) = some u) → ∃ v' w', (Builtin.append_ #[t, t] ty #[v, .slice ao l.length cap]).run P w = .ok v' w' ∧ w'.ownsRow base e E.k v' (n + l.length) (xs ++ l.flatMap C.enc) ∧ w.grownBy w' v.ownBlock ∧ (∀ g, v'.ownBlock = some g → v.ownBlock = some g ∨ w.heap.size ≤ g) := fun ad ha hx => by
    obtain ⟨v', w', hr, q1, q2, q3, q4⟩ := run_append_own_at (P := P) w base t ty e i z E.k bytes ht hi hz hsize hby hzs C.pos v n xs hown ad l.length cap (l.flatMap C.enc) (flat_len C.len l) hx (fun u hu => by
      obtain ⟨x, _, hu⟩ := List.mem_flatMap.1 hu
      exact C.one x u hu) h63 hbytes hbase
    refine ⟨v', w', by rw [ha]; exact hr, q1, q2, fun g hg => ?_⟩
    rcases q4 with h | h
    · exact .inl (by rw [← h]; exact hg)
    · rw [h] at hg; cases hg; exact .inr (Nat.le_refl _)
  rcases h3 with rfl | ⟨b, off, rfl, hb, hx⟩
  · cases ao with
    | some ad => exact key ad rfl (fun j u h => by simp at h)
    | none =>
      refine ⟨v, w, ?_, by simpa using hown, ⟨rfl, rfl, rfl, Nat.le_refl _, fun _ _ _ => rfl⟩, fun g hg => .inl hg⟩
      rcases hown.2 with ⟨rfl, e⟩ | ⟨g, cp, cur, rfl, _, _, hnc, _⟩
      · simp [Builtin.append_, run_underlying ht, sizeOf, typeInfo, hi, Builtin.lenOf, Builtin.firstCells]
      · simp [Builtin.append_, run_underlying ht, sizeOf, typeInfo, hi, Builtin.lenOf, Builtin.firstCells, hnc, storeCells]
  · refine key _ rfl (fun q u hq => ?_)
    obtain ⟨x, h1, h2⟩ := flat_get C.pos C.len l q u hq
    have h4 := (C.R (hx _ x h1)).1 _ u h2
    have h5 : off + q / E.k * E.k + q % E.k = off + q := by have := Nat.div_add_mod q E.k; rw [Nat.mul_comm] at this; omega
    have h6 : w.cell? ⟨b, off + q / E.k * E.k + q % E.k, .none⟩ = some u := h4
    rw [h5] at h6
    have h7 : (⟨b, off, .none⟩ : Addr).add q = ⟨b, off + q, .none⟩ := by unfold Addr.add; split <;> simp_all
    rw [h7]; exact h6
theorem wp_append_src {P : Program} {α : Type} {E : Elem α} (C : Enc E) {w : World} {ops : Array Oper} {rest : List Oper} {o : Oper} {act : Act} {Q : Exit → Act → World → Prop} (hgd : o.guard = .none) (s x : Operand) (t : TypeId)
    (ho : o.op = .call { callee := .builtin .append, args := #[s, x], argTypes := #[t, t] }) (base : Nat) (e : TypeId) (i : TypeInfo) (z : Value) (bytes : Nat) (ht : P.underlying t = some (.slice e)) (hi : P.info? e = some i) (hz : i.zero = some z)
    (hsize : i.size = E.k) (hby : i.bytes = bytes) (hzs : z.cells.size = E.k) (v : Value) (n : Nat) (xs : List Value) (hs : act.eval s = v) (hown : w.ownsRow base e E.k v n xs) (src : Value) (l : List α) (hxv : act.eval x = src) (hsrc : SliceOf E w src l)
    (h63 : n + l.length ≤ maxLen) (hbytes : (n + l.length) * bytes ≤ 140737488355328) (hbase : base ≤ w.heap.size)
    (h : ∀ v' w', w'.ownsRow base e E.k v' (n + l.length) (xs ++ l.flatMap C.enc) → w.grownBy w' v.ownBlock → (∀ g, v'.ownBlock = some g → v.ownBlock = some g ∨ w.heap.size ≤ g) → wpList P ops Q rest (act.put o.dst v') w') : wpList P ops Q (o :: rest) act w :=
  wpList_plain hgd fun _ hK => by
    obtain ⟨v', w', hr, h2, h3, h4⟩ := run_append_src C w base t o.type e i z bytes ht hi hz hsize hby hzs v n xs hown src l hsrc h63 hbytes hbase
    unfold Oper.wp execOp
    simp only [ho, resolve, invoke, builtin, Sem.run_bind, Sem.run_pure, Result.andThen_ok, List.map_toArray, List.map_cons, List.map_nil, hs, hxv, hr]
    exact hK _ _ (h v' w' h2 h3 h4)
/-- A row of one's own reads as a list. -/
theorem own_slice {α : Type} {E : Elem α} (C : Enc E) {w : World} {B : Nat} {e : TypeId} {v : Value} {l : List α} (h : w.ownsRow B e E.k v l.length (l.flatMap C.enc)) (hok : ∀ x ∈ l, C.ok x) (hlen : l.length ≤ 140737488351232) : SliceOf E w v l := by
  have h0 := h
  rcases h.2 with ⟨rfl, h1⟩ | ⟨g, cap, cur, rfl, hb, hg, hnc, _⟩
  · have : l = [] := List.length_eq_zero_iff.1 h1
    subst this
    exact ⟨hlen, _, _, rfl, Nat.le_refl _, .inl rfl⟩
  · refine ⟨hlen, _, _, rfl, hnc, .inr ⟨g, 0, rfl, (Array.getElem?_eq_some_iff.1 hg).1, fun i x hx => C.of (hok x (List.mem_of_getElem? hx)) (fun j u hu => ?_)⟩⟩
    have hj : j < E.k := by have := (List.getElem?_eq_some_iff.1 hu).1; rw [C.len] at this; exact this
    obtain ⟨g', e1, _, _, e2, _⟩ := ownsRow_cell h0 (j := i * E.k + j) (u := u) (by rw [flat_at C.len hx j hj]; exact hu)
    simp only [Option.some.injEq, Addr.mk.injEq, and_true] at e1
    subst e1
    show w.cell? ⟨g, 0 + i * E.k + j, .none⟩ = some u
    rw [Nat.zero_add]; exact e2
theorem slice_ok {α : Type} {E : Elem α} (C : Enc E) {w : World} {v : Value} {l : List α} (h : SliceOf E w v l) : ∀ x ∈ l, C.ok x := fun x hx => by
  obtain ⟨_, ao, cap, rfl, _, h⟩ := h
  rcases h with rfl | ⟨b, off, _, _, hr⟩
  · cases hx
  · obtain ⟨i, hi⟩ := List.mem_iff_getElem?.1 hx
    exact (C.R (hr i x hi)).2
def strC : Enc str := ⟨fun s => [.string s], fun s => s.size ≤ maxLen, fun _ => rfl, by decide, fun x u hu => by rw [List.mem_singleton.1 hu]; rfl, fun h => ⟨fun j u hu => by
  match j, hu with
  | 0, hu => simp only [List.getElem?_cons_zero, Option.some.injEq] at hu; rw [← hu]; exact h.1
  | j + 1, hu => simp at hu, h.2⟩, fun h hc => ⟨hc 0 _ rfl, h⟩⟩
end Go.Rd
namespace Go.Ck
open Go.RowKit Go.Mp
set_option linter.unusedVariables false
def tgtC : Rd.Enc tgtE := ⟨fun t => [.string t.service, .string t.split, .float .f64 t.weight], fun t => t.service.size ≤ maxLen ∧ t.split.size ≤ maxLen ∧ t.weight < 18446744073709551616, fun _ => rfl, by decide, fun x u hu => by
    simp only [List.mem_cons, List.not_mem_nil, or_false] at hu; rcases hu with rfl | rfl | rfl <;> rfl, fun h => by
    obtain ⟨⟨c0, s0⟩, ⟨c1, s1⟩, ⟨c2, s2⟩, _⟩ := h
    refine ⟨fun j u hu => ?_, s0, s1, s2⟩
    match j, hu with
    | 0, hu => simp only [List.getElem?_cons_zero, Option.some.injEq] at hu; rw [← hu]; exact c0
    | 1, hu => simp only [List.getElem?_cons_succ, List.getElem?_cons_zero, Option.some.injEq] at hu; rw [← hu]; exact c1
    | 2, hu => simp only [List.getElem?_cons_succ, List.getElem?_cons_zero, Option.some.injEq] at hu; rw [← hu]; exact c2
    | j + 3, hu => simp at hu, fun h hc => ⟨⟨hc 0 _ rfl, h.1⟩, ⟨hc 1 _ rfl, h.2.1⟩, ⟨hc 2 _ rfl, h.2.2⟩, trivial⟩⟩
def rulC : Rd.Enc rulE := ⟨fun t => [.string t.path, .string t.method, .string t.split, .bool t.allow], fun t => t.path.size ≤ maxLen ∧ t.method.size ≤ maxLen ∧ t.split.size ≤ maxLen, fun _ => rfl, by decide, fun x u hu => by
    simp only [List.mem_cons, List.not_mem_nil, or_false] at hu; rcases hu with rfl | rfl | rfl | rfl <;> rfl, fun h => by
    obtain ⟨⟨c0, s0⟩, ⟨c1, s1⟩, ⟨c2, s2⟩, c3, _⟩ := h
    refine ⟨fun j u hu => ?_, s0, s1, s2⟩
    match j, hu with
    | 0, hu => simp only [List.getElem?_cons_zero, Option.some.injEq] at hu; rw [← hu]; exact c0
    | 1, hu => simp only [List.getElem?_cons_succ, List.getElem?_cons_zero, Option.some.injEq] at hu; rw [← hu]; exact c1
    | 2, hu => simp only [List.getElem?_cons_succ, List.getElem?_cons_zero, Option.some.injEq] at hu; rw [← hu]; exact c2
    | 3, hu => simp only [List.getElem?_cons_succ, List.getElem?_cons_zero, Option.some.injEq] at hu; rw [← hu]; exact c3
    | j + 4, hu => simp at hu, fun h hc => ⟨⟨hc 0 _ rfl, h.1⟩, ⟨hc 1 _ rfl, h.2.1⟩, ⟨hc 2 _ rfl, h.2.2⟩, hc 3 _ rfl, trivial⟩⟩
/-- A resource with the values of its lists. -/
structure RV where
  r : Res
  ev : Value
  tv : Value
  rv : Value
def rvc (x : RV) : List Value := [.int .i64 x.r.kind, .string x.r.name, x.ev, x.tv, .string x.r.host, x.rv, .string x.r.route, .bool x.r.del]
structure RM (w : World) (B : Nat) (x : RV) : Prop where
  e : w.ownsRow B 9 1 x.ev x.r.eps.length (x.r.eps.flatMap Rd.strC.enc)
  t : w.ownsRow B 57 3 x.tv x.r.tgts.length (x.r.tgts.flatMap tgtC.enc)
  ru : w.ownsRow B 101 4 x.rv x.r.rules.length (x.r.rules.flatMap rulC.enc)
  p : ∃ w0 ev tv rv, RP w0 x.r ev tv rv
theorem RM.rp {w : World} {B : Nat} {x : RV} (h : RM w B x) : RP w x.r x.ev x.tv x.rv := by
  obtain ⟨w0, ev, tv, rv, p⟩ := h.p
  exact ⟨p.k1, p.nm, Rd.own_slice Rd.strC h.e (Rd.slice_ok Rd.strC p.e) p.e.1, Rd.own_slice tgtC h.t (Rd.slice_ok tgtC p.t) p.t.1, p.hs, Rd.own_slice rulC h.ru (Rd.slice_ok rulC p.ru) p.ru.1, p.ro⟩
theorem RM.tch {w w' : World} {B : Nat} {x : RV} {S : Nat → Prop} (h : RM w B x) (t : Tch S w w') (h1 : ∀ g, x.ev.ownBlock = some g → ¬ S g) (h2 : ∀ g, x.tv.ownBlock = some g → ¬ S g) (h3 : ∀ g, x.rv.ownBlock = some g → ¬ S g) : RM w' B x :=
  ⟨ownsRow_tch h.e t h1, ownsRow_tch h.t t h2, ownsRow_tch h.ru t h3, h.p⟩
/-- Resources in memory of one's own. -/
structure OwnM (w : World) (B : Nat) (v : Value) (L : List RV) : Prop where
  row : w.ownsRow B 52 8 v L.length (L.flatMap rvc)
  el : ∀ x ∈ L, RM w B x
theorem rvc_len (x : RV) : (rvc x).length = 8 := rfl
theorem OwnM.reads {w : World} {B : Nat} {v : Value} {L : List RV} (h : OwnM w B v L) (hlen : L.length ≤ 140737488351232) : ResS w v (L.map (·.r)) := by
  have h0 := h.row
  rcases h.row.2 with ⟨rfl, h1⟩ | ⟨g, cap, cur, rfl, hb, hg, hnc, _⟩
  · have : L = [] := List.length_eq_zero_iff.1 h1
    subst this
    exact ⟨by simp, _, _, rfl, Nat.le_refl _, .inl rfl⟩
  · refine ⟨by rw [List.length_map]; exact hlen, _, _, by rw [List.length_map], by rw [List.length_map]; exact hnc, .inr ⟨g, 0, rfl, (Array.getElem?_eq_some_iff.1 hg).1, fun i r hr => ?_⟩⟩
    rw [List.getElem?_map] at hr
    obtain ⟨x, hx, rfl⟩ := Option.map_eq_some_iff.1 hr
    have hc : ∀ (j : Nat) u, j < 8 → (rvc x)[j]? = some u → w.cell? ⟨g, 0 + i * 8 + j, none⟩ = some u := fun j u hj hu => by
      obtain ⟨g', e1, _, _, e2, _⟩ := ownsRow_cell h0 (j := i * 8 + j) (u := u) (by rw [Rd.flat_at rvc_len hx j hj]; exact hu)
      simp only [Option.some.injEq, Addr.mk.injEq, and_true] at e1
      subst e1
      rw [Nat.zero_add]; exact e2
    exact resE_of ⟨hc 0 _ (by decide) rfl, hc 1 _ (by decide) rfl, hc 2 _ (by decide) rfl, hc 3 _ (by decide) rfl, hc 4 _ (by decide) rfl, hc 5 _ (by decide) rfl, hc 6 _ (by decide) rfl, hc 7 _ (by decide) rfl⟩ (h.el x (List.mem_of_getElem? hx)).rp
end Go.Ck
