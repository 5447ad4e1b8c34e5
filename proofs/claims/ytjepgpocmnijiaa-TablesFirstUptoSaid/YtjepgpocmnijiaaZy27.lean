/- The walks of the document's put and drop. -/
import Derived.Test.YtjepgpocmnijiaaZy26
import Derived.Test.YtjepgpocmnijiaaZy25
section
/- Resources as they lie: rows whose elements share their lists with others. -/
namespace Go.Proofs.Ytjepgpocmnijiaa
open Go.RowKit Go.Mp Go.Ck
set_option linter.unusedVariables false
/-- A resource and where its lists lie. -/
structure Rw where
  r : Res
  eo : Option Addr
  ec : Nat
  ta : Option Addr
  tc : Nat
  ra : Option Addr
  rc : Nat
instance : Inhabited Rw := ⟨⟨⟨0, ⟨#[]⟩, [], [], ⟨#[]⟩, [], ⟨#[]⟩, false⟩, none, 0, none, 0, none, 0⟩⟩
def Rw.cells (x : Rw) : List Value := [.int .i64 x.r.kind, .string x.r.name, .slice x.eo x.r.eps.length x.ec, .slice x.ta x.r.tgts.length x.tc, .string x.r.host, .slice x.ra x.r.rules.length x.rc, .string x.r.route, .bool x.r.del]
def rwE : Rd.Elem Rw := ⟨8, fun w c x => ∀ (j : Nat) (u : Value), x.cells[j]? = some u → c j = some u, fun {w w' c c' x} h hb hc j u hu => by
  have hj : j < 8 := by have := (List.getElem?_eq_some_iff.1 hu).1; simpa [Rw.cells] using this
  rw [hc j hj]; exact h j u hu⟩
def rwC : Rd.Enc rwE where
  enc := Rw.cells
  ok := fun _ => True
  len := fun _ => rfl
  pos := by decide
  one := fun x u hu => by
    simp only [Rw.cells, List.mem_cons, List.not_mem_nil, or_false] at hu
    rcases hu with rfl | rfl | rfl | rfl | rfl | rfl | rfl | rfl <;> rfl
  R := fun h => ⟨h, trivial⟩
  of := fun _ h => h
def Rw.P (w : World) (x : Rw) : Prop := RP w x.r (.slice x.eo x.r.eps.length x.ec) (.slice x.ta x.r.tgts.length x.tc) (.slice x.ra x.r.rules.length x.rc)
theorem slice_cap {α : Type} {E : Rd.Elem α} {w : World} {ao : Option Addr} {n cap : Nat} {xs : List α} (h : Rd.SliceOf E w (.slice ao n cap) xs) : xs.length ≤ cap := by
  obtain ⟨_, ao', cap', e, hc, _⟩ := h
  cases e
  exact hc
/-- A list that reads, as it lies. -/
theorem lies {w : World} {v : Value} {l : List Res} (h : ResS w v l) : ∃ L : List Rw, L.map Rw.r = l ∧ Rd.SliceOf rwE w v L ∧ ∀ x ∈ L, Rw.P w x := by
  obtain ⟨ao, cap, rfl⟩ := slice_shape h
  have hall : ∀ i, i < l.length → ∃ y : Rw, l[i]? = some y.r ∧ Rw.P w y ∧ ∃ b off, ao = some ⟨b, off, none⟩ ∧ b < w.heap.size ∧ RC w b (off + i * 8) y.r (.slice y.eo y.r.eps.length y.ec) (.slice y.ta y.r.tgts.length y.tc) (.slice y.ra y.r.rules.length y.rc) := fun i hi => by
    obtain ⟨b, off, eo, ec, ta, tc, ra, rc, e, hb, c, p⟩ := res_at2 h (List.getElem?_eq_getElem hi)
    exact ⟨⟨l[i], eo, ec, ta, tc, ra, rc⟩, List.getElem?_eq_getElem hi, p, b, off, e, hb, c⟩
  obtain ⟨f, hf⟩ := Deep.choose_lt hall
  refine ⟨(List.range l.length).map f, ?_, ?_, ?_⟩
  · apply List.ext_getElem?
    intro i
    by_cases hi : i < l.length
    · rw [(hf i hi).1]; simp [hi]
    · rw [List.getElem?_eq_none (l := l) (by omega)]; simp [hi]
  · refine ⟨by simpa using h.1, ao, cap, by simp, by simpa using slice_cap h, ?_⟩
    by_cases h0 : l.length = 0
    · left; simp [h0]
    · right
      obtain ⟨_, _, b, off, e, hb, _⟩ := hf 0 (by omega)
      refine ⟨b, off, e, hb, fun i x hx => ?_⟩
      have hi : i < l.length := by have := (List.getElem?_eq_some_iff.1 hx).1; simpa using this
      obtain ⟨_, _, b', off', e', _, c⟩ := hf i hi
      rw [e] at e'
      simp only [Option.some.injEq, Addr.mk.injEq, and_true] at e'
      obtain ⟨rfl, rfl⟩ := e'
      have hxi : x = f i := by simp [hi] at hx; exact hx.symm
      subst hxi
      intro j u hu
      have hj : j < 8 := by have := (List.getElem?_eq_some_iff.1 hu).1; simpa [Rw.cells] using this
      have e : off + i * rwE.k = off + i * 8 := rfl
      rw [e]
      match j, hj, hu with
      | 0, _, hu => cases hu; simpa [Rd.cellsAt] using c.c0
      | 1, _, hu => cases hu; simpa [Rd.cellsAt] using c.c1
      | 2, _, hu => cases hu; simpa [Rd.cellsAt] using c.c2
      | 3, _, hu => cases hu; simpa [Rd.cellsAt] using c.c3
      | 4, _, hu => cases hu; simpa [Rd.cellsAt] using c.c4
      | 5, _, hu => cases hu; simpa [Rd.cellsAt] using c.c5
      | 6, _, hu => cases hu; simpa [Rd.cellsAt] using c.c6
      | 7, _, hu => cases hu; simpa [Rd.cellsAt] using c.c7
  · intro x hx
    obtain ⟨i, hi, rfl⟩ := List.mem_map.1 hx
    exact (hf i (List.mem_range.1 hi)).2.1
end Go.Proofs.Ytjepgpocmnijiaa
end

section
/- Lists in order of their keys: what is put in, dropped, merged, told apart: in plain words. -/
namespace Go.Ck
set_option linter.unusedVariables false
open Go.Proofs.Ytjepgpocmnijiaa (Key)
def rk (r : Res) : Key := (r.kind, r.name)
def lessK (a b : Key) : Bool := decide (a.1 < b.1) || (a.1 == b.1 && slt a.2 b.2)
theorem less_eq (a b : Res) : less a b = lessK (rk a) (rk b) := rfl
theorem lessK_iff {a b : Key} : lessK a b = true ↔ a.1 < b.1 ∨ a.1 = b.1 ∧ Op.bytesLess a.2.toList b.2.toList = true := by
  unfold lessK slt
  simp only [Bool.or_eq_true, decide_eq_true_eq, Bool.and_eq_true, beq_iff_eq]
theorem lessK_trans {a b c : Key} (h1 : lessK a b = true) (h2 : lessK b c = true) : lessK a c = true := by
  rw [lessK_iff] at *
  rcases h1 with h1 | ⟨e1, h1⟩ <;> rcases h2 with h2 | ⟨e2, h2⟩
  · exact .inl (by omega)
  · exact .inl (by omega)
  · exact .inl (by omega)
  · exact .inr ⟨by omega, bl_trans _ _ _ h1 h2⟩
theorem lessK_irrefl (a : Key) : lessK a a = false := by
  cases h : lessK a a with
  | false => rfl
  | true =>
    rw [lessK_iff, bl_irrefl] at h
    rcases h with h | ⟨_, h⟩
    · omega
    · cases h
theorem bl_total : ∀ a b : List UInt8, Op.bytesLess a b = false → Op.bytesLess b a = false → a = b
  | [], [], _, _ => rfl
  | [], _ :: _, h, _ => by simp [Op.bytesLess] at h
  | _ :: _, [], _, h => by simp [Op.bytesLess] at h
  | x :: xs, y :: ys, h1, h2 => by
    simp only [Op.bytesLess, Bool.or_eq_false_iff, decide_eq_false_iff_not, Bool.and_eq_false_iff, beq_eq_false_iff_ne, ne_eq] at h1 h2
    obtain ⟨a1, a2⟩ := h1
    obtain ⟨b1, b2⟩ := h2
    have e : x = y := UInt8.le_antisymm (UInt8.not_lt.1 b1) (UInt8.not_lt.1 a1)
    subst e
    rw [bl_total xs ys (a2.resolve_left (fun h => h rfl)) (b2.resolve_left (fun h => h rfl))]
theorem lessK_total {a b : Key} (h1 : lessK a b = false) (h2 : lessK b a = false) : a = b := by
  obtain ⟨k, s⟩ := a
  obtain ⟨m, t⟩ := b
  unfold lessK slt at h1 h2
  simp only [Bool.or_eq_false_iff, decide_eq_false_iff_not, Bool.and_eq_false_iff, beq_eq_false_iff_ne, ne_eq] at h1 h2
  have e : k = m := by omega
  subst e
  rw [Go.Mp.bytes_of_toList (bl_total _ _ (h1.2.resolve_left (fun h => h rfl)) (h2.2.resolve_left (fun h => h rfl)))]
theorem lessK_tri (a b : Key) : a = b ∨ lessK a b = true ∨ lessK b a = true := by
  cases h1 : lessK a b with
  | true => exact .inr (.inl rfl)
  | false => cases h2 : lessK b a with
    | true => exact .inr (.inr rfl)
    | false => exact .inl (lessK_total h1 h2)
theorem lessK_ne {a b : Key} (h : lessK a b = true) : a ≠ b := fun e => by rw [e, lessK_irrefl] at h; cases h
/-- In order: no two have one key. -/
def Srt (l : List Res) : Prop := l.Pairwise fun a b => lessK (rk a) (rk b) = true
def fnd (l : List Res) (k : Key) : Option Res := l.find? fun r => decide (rk r = k)
theorem fnd_nil (k : Key) : fnd [] k = none := rfl
theorem fnd_cons (x : Res) (l : List Res) (k : Key) : fnd (x :: l) k = if rk x = k then some x else fnd l k := by
  unfold fnd
  rw [List.find?_cons]
  by_cases h : rk x = k
  · rw [if_pos h]; simp [h]
  · rw [if_neg h]; simp [h]
theorem fnd_some {l : List Res} {k : Key} {r : Res} (h : fnd l k = some r) : rk r = k ∧ r ∈ l := ⟨by simpa using List.find?_some h, List.mem_of_find?_eq_some h⟩
theorem fnd_none {l : List Res} {k : Key} : fnd l k = none ↔ ∀ r ∈ l, rk r ≠ k := by
  unfold fnd
  rw [List.find?_eq_none]
  simp
theorem fnd_append (a b : List Res) (k : Key) : fnd (a ++ b) k = (fnd a k).or (fnd b k) := by
  unfold fnd
  rw [List.find?_append]
theorem Srt.tail {x : Res} {l : List Res} (h : Srt (x :: l)) : Srt l := (List.pairwise_cons.1 h).2
theorem Srt.head {x : Res} {l : List Res} (h : Srt (x :: l)) : ∀ y ∈ l, lessK (rk x) (rk y) = true := (List.pairwise_cons.1 h).1
theorem Srt.none_head {x : Res} {l : List Res} (h : Srt (x :: l)) : fnd l (rk x) = none := fnd_none.2 fun r hr e => lessK_ne (h.head r hr) e.symm
theorem Srt.fnd_mem : ∀ {l : List Res}, Srt l → ∀ {r : Res}, r ∈ l → fnd l (rk r) = some r
  | [], _, r, h => by cases h
  | x :: l, h, r, hr => by
    rw [fnd_cons]
    rcases List.mem_cons.1 hr with rfl | hr
    · rw [if_pos rfl]
    · rw [if_neg (lessK_ne (h.head r hr))]; exact h.tail.fnd_mem hr
theorem Srt.ext : ∀ {a b : List Res}, Srt a → Srt b → (∀ k, fnd a k = fnd b k) → a = b
  | [], [], _, _, _ => rfl
  | [], y :: b, _, _, h => by have := h (rk y); rw [fnd_nil, fnd_cons, if_pos rfl] at this; cases this
  | x :: a, [], _, _, h => by have := h (rk x); rw [fnd_nil, fnd_cons, if_pos rfl] at this; cases this
  | x :: a, y :: b, ha, hb, h => by
    have hxy : x = y := by
      have h1 := h (rk x)
      rw [fnd_cons, if_pos rfl, fnd_cons] at h1
      by_cases e : rk y = rk x
      · rw [if_pos e] at h1; exact Option.some.inj h1
      · rw [if_neg e] at h1
        have h2 := h (rk y)
        rw [fnd_cons, if_neg (fun q => e q.symm), fnd_cons, if_pos rfl] at h2
        have l1 := hb.head x (fnd_some h1.symm).2
        have l2 := ha.head y (fnd_some h2).2
        have := lessK_trans l1 l2
        rw [lessK_irrefl] at this; cases this
    subst hxy
    rw [Srt.ext ha.tail hb.tail fun k => ?_]
    have h1 := h k
    rw [fnd_cons, fnd_cons] at h1
    by_cases e : rk x = k
    · subst e; rw [ha.none_head, hb.none_head]
    · rw [if_neg e, if_neg e] at h1; exact h1
/-! ### put -/
/-- How many of a list stand ahead of r. -/
def putN (l : List Res) (r : Res) : Nat := (l.takeWhile fun x => less x r).length
def putL (l : List Res) (r : Res) : List Res := l.take (putN l r) ++ r :: l.drop (putN l r)
theorem putL_nil (r : Res) : putL [] r = [r] := rfl
theorem putL_cons (x : Res) (l : List Res) (r : Res) : putL (x :: l) r = if less x r = true then x :: putL l r else r :: x :: l := by
  unfold putL putN
  rw [List.takeWhile_cons]
  split
  · simp
  · simp
theorem putL_mem {l : List Res} {r x : Res} (h : x ∈ putL l r) : x = r ∨ x ∈ l := by
  unfold putL at h
  rcases List.mem_append.1 h with h | h
  · exact .inr (List.mem_of_mem_take h)
  · rcases List.mem_cons.1 h with h | h
    · exact .inl h
    · exact .inr (List.mem_of_mem_drop h)
theorem putL_srt : ∀ {l : List Res} {r : Res}, Srt l → fnd l (rk r) = none → Srt (putL l r)
  | [], r, _, _ => by rw [putL_nil]; exact List.pairwise_singleton _ _
  | x :: l, r, h, hn => by
    rw [putL_cons]
    have h1 : rk x ≠ rk r := fnd_none.1 hn x (.head _)
    have h2 : fnd l (rk r) = none := fnd_none.2 fun y hy => fnd_none.1 hn y (.tail _ hy)
    split
    · rename_i hl
      rw [less_eq] at hl
      refine List.pairwise_cons.2 ⟨fun y hy => ?_, putL_srt h.tail h2⟩
      rcases putL_mem hy with rfl | hy
      · exact hl
      · exact h.head y hy
    · rename_i hl
      rw [less_eq] at hl
      have hr : lessK (rk r) (rk x) = true := by
        rcases lessK_tri (rk r) (rk x) with e | e | e
        · exact absurd e.symm h1
        · exact e
        · exact absurd e hl
      refine List.pairwise_cons.2 ⟨fun y hy => ?_, h⟩
      rcases List.mem_cons.1 hy with rfl | hy
      · exact hr
      · exact lessK_trans hr (h.head y hy)
/-! ### drop -/
theorem Srt.cut {l : List Res} (h : Srt l) {i : Nat} {x : Res} (hx : l[i]? = some x) : fnd (l.take i) (rk x) = none ∧ fnd (l.drop (i + 1)) (rk x) = none := by
  have hi := (List.getElem?_eq_some_iff.1 hx)
  obtain ⟨hi, he⟩ := hi
  have e1 : l = l.take i ++ x :: l.drop (i + 1) := by rw [← he, List.getElem_cons_drop, List.take_append_drop]
  rw [e1] at h
  obtain ⟨h1, h2, h3⟩ := List.pairwise_append.1 h
  exact ⟨fnd_none.2 fun r hr e => lessK_ne (h3 r hr x (.head _)) e, fnd_none.2 fun r hr e => lessK_ne ((List.pairwise_cons.1 h2).1 r hr) e.symm⟩
/-! ### merge -/
def badKind (d : Res) : Bool := decide (d.kind < 1) || decide (4 < d.kind)
/-- What a document makes of a configuration. -/
def setD (all : List Res) (d : Res) : List Res :=
  let a := all.filter fun r => decide (rk r ≠ rk d)
  if d.del = true then a else putL a d
/-- The ways of a merge, behind i documents. -/
structure MgS (conf docs : List Res) (i : Nat) (all : List Res) : Prop where
  srt : Srt all
  ok : ∀ (j : Nat) d, j < i → docs[j]? = some d → badKind d = false ∧ fnd (docs.take j) (rk d) = none
  le : i ≤ docs.length
  from0 : all = (docs.take i).foldl setD conf
  dels : ∀ (j : Nat) d, j < i → docs[j]? = some d → d.del = true → (fnd ((docs.take j).foldl setD conf) (rk d)).isSome
theorem filter_srt {l : List Res} (h : Srt l) (p : Res → Bool) : Srt (l.filter p) := h.sublist List.filter_sublist
theorem filter_fnd (l : List Res) (d k : Key) : fnd (l.filter fun r => decide (rk r ≠ d)) k = if d = k then none else fnd l k := by
  unfold fnd
  rw [List.find?_filter]
  by_cases e : d = k
  · rw [if_pos e, List.find?_eq_none]
    intro x hx
    subst e
    by_cases hq : rk x = d <;> simp [hq]
  · rw [if_neg e]
    congr 1
    funext x
    by_cases hk : rk x = k
    · have : rk x ≠ d := fun q => e (q.symm.trans hk)
      simp [hk]; exact fun q => e q.symm
    · simp [hk]
theorem setD_srt {all : List Res} (h : Srt all) (d : Res) : Srt (setD all d) := by
  unfold setD
  split
  · exact filter_srt h _
  · exact putL_srt (filter_srt h _) (by rw [filter_fnd, if_pos rfl])
theorem srt_of_ord {l : List Res} (h : Ord l) : Srt l := by
  unfold Srt
  rw [List.pairwise_iff_getElem]
  intro i j hi hj hij
  have := h.lt (List.getElem?_eq_getElem hi) (j - i - 1) l[j] (by rw [show i + (j - i - 1) + 1 = j by omega]; exact List.getElem?_eq_getElem hj)
  rwa [less_eq] at this
theorem MgS.zero {conf docs : List Res} (h : Srt conf) : MgS conf docs 0 conf := ⟨h, fun _ _ h => absurd h (Nat.not_lt_zero _), Nat.zero_le _, by simp, fun _ _ h => absurd h (Nat.not_lt_zero _)⟩
theorem MgS.succ {conf docs : List Res} {i : Nat} {all : List Res} (h : MgS conf docs i all) {d : Res} (hd : docs[i]? = some d) (h1 : badKind d = false) (h2 : fnd (docs.take i) (rk d) = none) (h3 : d.del = true → (fnd all (rk d)).isSome) : MgS conf docs (i + 1) (setD all d) := by
  have hi := (List.getElem?_eq_some_iff.1 hd).1
  refine ⟨setD_srt h.srt d, fun j x hj hx => ?_, hi, ?_, fun j x hj hx hdl => ?_⟩
  · rcases Nat.lt_succ_iff_lt_or_eq.1 hj with q | q
    · exact h.ok j x q hx
    · subst q; rw [hd] at hx; cases hx; exact ⟨h1, h2⟩
  · rw [List.take_add_one, hd, List.foldl_append, ← h.from0]; rfl
  · rcases Nat.lt_succ_iff_lt_or_eq.1 hj with q | q
    · exact h.dels j x q hx hdl
    · subst q; rw [hd] at hx; cases hx; rw [← h.from0]; exact h3 hdl
/-- How a merge ends: the list, the place, the fault. -/
inductive MgE (conf docs : List Res) : List Res → Int → Int → Prop
  | out : 0 ≤ outI conf → MgE conf docs [] 0 2
  | kind {i : Nat} {all : List Res} {d : Res} : outI conf < 0 → MgS conf docs i all → docs[i]? = some d → badKind d = true → MgE conf docs [] i 2
  | twice {i : Nat} {all : List Res} {d : Res} : outI conf < 0 → MgS conf docs i all → docs[i]? = some d → badKind d = false → (fnd (docs.take i) (rk d)).isSome → MgE conf docs [] i 91
  | del {i : Nat} {all : List Res} {d : Res} : outI conf < 0 → MgS conf docs i all → docs[i]? = some d → badKind d = false → fnd (docs.take i) (rk d) = none → d.del = true → fnd all (rk d) = none → MgE conf docs [] i 290
  | count {all : List Res} : outI conf < 0 → MgS conf docs docs.length all → 64 < all.length → MgE conf docs [] 0 124
  | fine {all : List Res} : outI conf < 0 → MgS conf docs docs.length all → all.length ≤ 64 → MgE conf docs all 0 0
def badD (conf docs : List Res) (i : Nat) : Option Int := match docs[i]? with
  | none => none
  | some d => if badKind d = true then some 2 else if (fnd (docs.take i) (rk d)).isSome then some 91 else if d.del = true ∧ fnd ((docs.take i).foldl setD conf) (rk d) = none then some 290 else none
theorem MgS.fineD {conf docs : List Res} {i : Nat} {all : List Res} (h : MgS conf docs i all) (j : Nat) (hj : j < i) : badD conf docs j = none := by
  have hl := h.le
  have hx : docs[j]? = some docs[j] := List.getElem?_eq_getElem (by omega)
  obtain ⟨h1, h2⟩ := h.ok j _ hj hx
  have h3 := h.dels j _ hj hx
  unfold badD
  rw [hx]
  simp only
  rw [if_neg (by rw [h1]; simp), if_neg (by rw [h2]; simp), if_neg (fun q => by have := h3 q.1; rw [q.2] at this; cases this)]
/-- One way alone. -/
theorem MgE.one {conf docs : List Res} {a b : List Res} {i j e f : Int} (h : MgE conf docs a i e) (h' : MgE conf docs b j f) : a = b ∧ i = j ∧ e = f := by
  have key : ∀ {m n : Nat} {a1 a2 : List Res} {x : Int}, MgS conf docs m a1 → MgS conf docs n a2 → badD conf docs m = some x → ¬ m < n := fun h1 h2 h3 h4 => by
    have := h2.fineD _ h4
    rw [h3] at this; cases this
  have badK : ∀ {m : Nat} {d : Res}, docs[m]? = some d → badKind d = true → badD conf docs m = some 2 := fun hd hb => by
    unfold badD; rw [hd]; simp only; rw [if_pos hb]
  have badT : ∀ {m : Nat} {d : Res}, docs[m]? = some d → badKind d = false → (fnd (docs.take m) (rk d)).isSome → badD conf docs m = some 91 := fun hd hb ht => by
    unfold badD; rw [hd]; simp only; rw [if_neg (by rw [hb]; simp), if_pos ht]
  have badL : ∀ {m : Nat} {d : Res} {all : List Res}, MgS conf docs m all → docs[m]? = some d → badKind d = false → fnd (docs.take m) (rk d) = none → d.del = true → fnd all (rk d) = none → badD conf docs m = some 290 := fun hm hd hb ht hl hf => by
    unfold badD; rw [hd]; simp only; rw [if_neg (by rw [hb]; simp), if_neg (by rw [ht]; simp), if_pos ⟨hl, by rw [← hm.from0]; exact hf⟩]
  have two : ∀ {m n : Nat} {a1 a2 : List Res} {x y : Int}, MgS conf docs m a1 → MgS conf docs n a2 → badD conf docs m = some x → badD conf docs n = some y → (m : Int) = n ∧ x = y := fun h1 h2 h3 h4 => by
    have q1 := key h1 h2 h3
    have q2 := key h2 h1 h4
    have : (_ : Nat) = _ := Nat.le_antisymm (Nat.le_of_not_lt q2) (Nat.le_of_not_lt q1)
    subst this
    rw [h3] at h4
    exact ⟨rfl, Option.some.inj h4⟩
  have lt : ∀ {m : Nat} {d : Res}, docs[m]? = some d → m < docs.length := fun h => (List.getElem?_eq_some_iff.1 h).1
  have same : ∀ {a1 a2 : List Res}, MgS conf docs docs.length a1 → MgS conf docs docs.length a2 → a1 = a2 := fun h1 h2 => by rw [h1.from0, h2.from0]
  cases h with
  | out o => cases h' with
    | out _ => exact ⟨rfl, rfl, rfl⟩
    | kind o' => omega
    | twice o' => omega
    | del o' => omega
    | count o' => omega
    | fine o' => omega
  | kind o s d b => cases h' with
    | out o' => omega
    | kind o' s' d' b' => have := two s s' (badK d b) (badK d' b'); exact ⟨rfl, this.1, rfl⟩
    | twice o' s' d' b' t' => have := two s s' (badK d b) (badT d' b' t'); exact absurd this.2 (by decide)
    | del o' s' d' b' t' l' f' => have := two s s' (badK d b) (badL s' d' b' t' l' f'); exact absurd this.2 (by decide)
    | count o' s' _ => exact absurd (lt d) (key s s' (badK d b))
    | fine o' s' _ => exact absurd (lt d) (key s s' (badK d b))
  | twice o s d b t => cases h' with
    | out o' => omega
    | kind o' s' d' b' => have := two s s' (badT d b t) (badK d' b'); exact absurd this.2 (by decide)
    | twice o' s' d' b' t' => have := two s s' (badT d b t) (badT d' b' t'); exact ⟨rfl, this.1, rfl⟩
    | del o' s' d' b' t' l' f' => have := two s s' (badT d b t) (badL s' d' b' t' l' f'); exact absurd this.2 (by decide)
    | count o' s' _ => exact absurd (lt d) (key s s' (badT d b t))
    | fine o' s' _ => exact absurd (lt d) (key s s' (badT d b t))
  | del o s d b t l f => cases h' with
    | out o' => omega
    | kind o' s' d' b' => have := two s s' (badL s d b t l f) (badK d' b'); exact absurd this.2 (by decide)
    | twice o' s' d' b' t' => have := two s s' (badL s d b t l f) (badT d' b' t'); exact absurd this.2 (by decide)
    | del o' s' d' b' t' l' f' => have := two s s' (badL s d b t l f) (badL s' d' b' t' l' f'); exact ⟨rfl, this.1, rfl⟩
    | count o' s' _ => exact absurd (lt d) (key s s' (badL s d b t l f))
    | fine o' s' _ => exact absurd (lt d) (key s s' (badL s d b t l f))
  | count o s c => cases h' with
    | out o' => omega
    | kind o' s' d' b' => exact absurd (lt d') (key s' s (badK d' b'))
    | twice o' s' d' b' t' => exact absurd (lt d') (key s' s (badT d' b' t'))
    | del o' s' d' b' t' l' f' => exact absurd (lt d') (key s' s (badL s' d' b' t' l' f'))
    | count o' s' _ => exact ⟨rfl, rfl, rfl⟩
    | fine o' s' c' => rw [same s s'] at c; omega
  | fine o s c => cases h' with
    | out o' => omega
    | kind o' s' d' b' => exact absurd (lt d') (key s' s (badK d' b'))
    | twice o' s' d' b' t' => exact absurd (lt d') (key s' s (badT d' b' t'))
    | del o' s' d' b' t' l' f' => exact absurd (lt d') (key s' s (badL s' d' b' t' l' f'))
    | count o' s' c' => rw [same s s'] at c; omega
    | fine o' s' _ => exact ⟨same s s', rfl, rfl⟩
/-! ### diff -/
def delR (k : Key) : Res := ⟨k.1, k.2, [], [], ⟨#[]⟩, [], ⟨#[]⟩, true⟩
def newK (a b : List Res) (k : Key) : Option Res → Option Res
  | some r => match fnd a k with
    | some o => if sameR o r = true then none else some r
    | none => some r
  | none => none
def goneK (a b : List Res) (k : Key) : Option Res := match fnd b k with
  | some _ => none
  | none => (fnd a k).map fun _ => delR k
/-- What under a key makes a list another. -/
def diffK (a b : List Res) (k : Key) : Option Res := match fnd b k with
  | some r => newK a b k (some r)
  | none => goneK a b k
def IsDiff (a b l : List Res) : Prop := Srt l ∧ ∀ k, fnd l k = diffK a b k
theorem IsDiff.one {a b l m : List Res} (h : IsDiff a b l) (h' : IsDiff a b m) : l = m := h.1.ext h'.1 fun k => by rw [h.2, h'.2]
end Go.Ck
end

section

namespace Go.Proofs.Ytjepgpocmnijiaa
open Go.RowKit Go.Mp Go.Ck
set_option linter.unusedVariables false
set_option maxRecDepth 100000
set_option maxHeartbeats 8000000
end Go.Proofs.Ytjepgpocmnijiaa
end
