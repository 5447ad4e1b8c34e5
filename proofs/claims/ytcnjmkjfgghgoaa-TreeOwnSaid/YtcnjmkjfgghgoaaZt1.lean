/- block and value of the reader, on what dict and list do. -/
import Derived.Test.YtcnjmkjfgghgoaaZt0
import Derived.Test.YtcnjmkjfgghgoaaProg
import Derived.WalkLawsBesides
section
/- Tokens and nodes in memory; a reader. -/
namespace Go.Proofs.Ytcnjmkjfgghgoaa
open Go.RowKit Go.Mp Go.Tr
set_option linter.unusedVariables false
noncomputable abbrev sk : KeyOf Try.prog 9 ByteArray := strKey Try.underlying9
abbrev tokA (t : Tok) : Value := .agg #[.int .i64 t.kind, .int .i64 t.line, .int .i64 t.col, .string t.text, .bool t.quoted]
abbrev tokO (t : Tok) (e : TypeId) : Obj := .cells #[.int .i64 t.kind, .int .i64 t.line, .int .i64 t.col, .string t.text, .bool t.quoted] e
def TokS (w : World) (kb : Nat) (v : Value) (l : List Tok) : Prop := ∃ ao cap, v = .slice ao l.length cap ∧ ∀ i t, l[i]? = some t → ∃ off, ao = some ⟨kb, off, none⟩ ∧ w.cell? ⟨kb, off + i * 5, none⟩ = some (.int .i64 t.kind) ∧ w.cell? ⟨kb, off + i * 5 + 1, none⟩ = some (.int .i64 t.line) ∧ w.cell? ⟨kb, off + i * 5 + 2, none⟩ = some (.int .i64 t.col) ∧ w.cell? ⟨kb, off + i * 5 + 3, none⟩ = some (.string t.text) ∧ w.cell? ⟨kb, off + i * 5 + 4, none⟩ = some (.bool t.quoted)
theorem TokS.keep {w w' : World} {kb : Nat} {v : Value} {l : List Tok} (h : TokS w kb v l) (hb : w'.heap[kb]? = w.heap[kb]?) : TokS w' kb v l := by
  obtain ⟨ao, cap, hv, h⟩ := h
  refine ⟨ao, cap, hv, fun i t ht => ?_⟩
  obtain ⟨off, h0, h1, h2, h3, h4, h5⟩ := h i t ht
  have hc : ∀ j, w'.cell? ⟨kb, j, none⟩ = w.cell? ⟨kb, j, none⟩ := fun j => World.cell?_of_block (w := w) hb
  exact ⟨off, h0, (hc _).trans h1, (hc _).trans h2, (hc _).trans h3, (hc _).trans h4, (hc _).trans h5⟩
theorem TokS.at {w : World} {kb n cap : Nat} {ao : Option Addr} {l : List Tok} (h : TokS w kb (.slice ao n cap) l) {i : Nat} {t : Tok} (ht : l[i]? = some t) :
    ∃ off, ao = some ⟨kb, off, none⟩ ∧ n = l.length ∧ w.cell? ⟨kb, off + i * 5, none⟩ = some (.int .i64 t.kind) ∧ w.cell? ⟨kb, off + i * 5 + 1, none⟩ = some (.int .i64 t.line) ∧ w.cell? ⟨kb, off + i * 5 + 2, none⟩ = some (.int .i64 t.col) ∧ w.cell? ⟨kb, off + i * 5 + 3, none⟩ = some (.string t.text) ∧ w.cell? ⟨kb, off + i * 5 + 4, none⟩ = some (.bool t.quoted) := by
  obtain ⟨ao', cap', hv, h⟩ := h
  cases hv
  obtain ⟨off, h0, h1⟩ := h i t ht
  exact ⟨off, h0, rfl, h1⟩
/-! ### nodes -/
abbrev icells (l : List Int) : List Value := l.map (Value.int .i64)
def nc (x : Nd × Value) : List Value := [.int .i64 x.1.kind, .string x.1.key, .string x.1.text, .bool x.1.quoted, .int .i64 x.1.line, x.2]
def ncs (R : List (Nd × Value)) : List Value := R.flatMap nc
theorem ncs_length (R : List (Nd × Value)) : (ncs R).length = R.length * 6 := by
  induction R with
  | nil => rfl
  | cons x R ih => simp only [ncs, List.flatMap_cons, List.length_append, List.length_cons] at ih ⊢; simp only [nc, List.length_cons, List.length_nil]; omega
theorem ncs_append (R S : List (Nd × Value)) : ncs (R ++ S) = ncs R ++ ncs S := List.flatMap_append
theorem ncs_at {R : List (Nd × Value)} {i : Nat} {x : Nd × Value} (hx : R[i]? = some x) (j : Nat) (hj : j < 6) : (ncs R)[i * 6 + j]? = (nc x)[j]? := by
  induction R generalizing i with
  | nil => simp at hx
  | cons a R ih =>
    have e : ncs (a :: R) = nc a ++ ncs R := rfl
    have la : (nc a).length = 6 := rfl
    cases i with
    | zero =>
      simp at hx; subst hx
      rw [e, List.getElem?_append_left (by rw [la]; omega)]
      simp
    | succ i =>
      simp at hx
      rw [e, List.getElem?_append_right (by rw [la]; omega), ← ih hx, la]
      congr 1
      omega
theorem ncs_set {R : List (Nd × Value)} {i : Nat} {x x' : Nd × Value} (hx : R[i]? = some x) (j : Nat) (hj : j < 6) {u : Value} (hu : nc x' = (nc x).set j u) : (ncs R).set (i * 6 + j) u = ncs (R.set i x') := by
  induction R generalizing i with
  | nil => simp at hx
  | cons a R ih =>
    have e : ncs (a :: R) = nc a ++ ncs R := rfl
    have la : (nc a).length = 6 := rfl
    cases i with
    | zero =>
      simp at hx; subst hx
      have e2 : ncs ((a :: R).set 0 x') = nc x' ++ ncs R := rfl
      rw [e, e2, hu, List.set_append_left _ _ (by rw [la]; omega)]
      simp
    | succ i =>
      simp at hx
      have e2 : ncs ((a :: R).set (i + 1) x') = nc a ++ ncs (R.set i x') := rfl
      rw [e, e2, ← ih hx, List.set_append_right _ _ (by rw [la]; omega), la]
      congr 2
      omega
structure NM (w : World) (B : Nat) (F : Nat → Prop) (v : Value) (R : List (Nd × Value)) : Prop where
  row : w.ownsRow B 58 6 v R.length (ncs R)
  kid : ∀ (i : Nat) (x : Nd × Value), R[i]? = some x → w.ownsRow B 3 1 x.2 x.1.kids.length (icells x.1.kids)
  apart : ∀ (i j : Nat) (x y : Nd × Value), i ≠ j → R[i]? = some x → R[j]? = some y → ∀ g, x.2.ownBlock = some g → y.2.ownBlock ≠ some g
  own : (∀ g, v.ownBlock = some g → F g) ∧ ∀ (i : Nat) (x : Nd × Value), R[i]? = some x → ∀ g, x.2.ownBlock = some g → F g
  lt : ∀ k, F k → B ≤ k ∧ k < w.heap.size
section
variable {w w2 : World} {B : Nat} {F S : Nat → Prop} {v v' kv' : Value} {R : List (Nd × Value)}
theorem NM.tch (h : NM w B F v R) (t : Tch S w w2) (hn : ∀ k, F k → ¬ S k) : NM w2 B F v R :=
  ⟨ownsRow_tch h.row t (fun g hg => hn g (h.own.1 g hg)), fun i x hx => ownsRow_tch (h.kid i x hx) t (fun g hg => hn g (h.own.2 i x hx g hg)), h.apart, h.own, fun k hk => ⟨(h.lt k hk).1, Nat.lt_of_lt_of_le (h.lt k hk).2 t.size⟩⟩
theorem NM.wide {F' : Nat → Prop} (h : NM w B F v R) (hf : ∀ k, F k → F' k) (hl : ∀ k, F' k → B ≤ k ∧ k < w.heap.size) : NM w B F' v R :=
  ⟨h.row, h.kid, h.apart, ⟨fun g hg => hf g (h.own.1 g hg), fun i x hx g hg => hf g (h.own.2 i x hx g hg)⟩, hl⟩
/-- One node more. -/
theorem NM.push (h : NM w B F v R) {n : Nd} (hk : n.kids = []) (row : w2.ownsRow B 58 6 v' (R.length + 1) (ncs R ++ nc (n, .slice none 0 0))) (t : Tch (fun k => v.ownBlock = some k) w w2) (hloc : ∀ g, v'.ownBlock = some g → v.ownBlock = some g ∨ w.heap.size ≤ g) :
    NM w2 B (fun k => F k ∨ v'.ownBlock = some k) v' (R ++ [(n, .slice none 0 0)]) := by
  have hat : ∀ (i : Nat) (x : Nd × Value), (R ++ [(n, (Value.slice none 0 0))])[i]? = some x → R[i]? = some x ∨ x = (n, .slice none 0 0) := fun i x hx => by
    by_cases hi : i < R.length
    · rw [List.getElem?_append_left hi] at hx; exact .inl hx
    · rw [List.getElem?_append_right (by omega)] at hx
      have := List.mem_of_getElem? hx
      simp at this; exact .inr this
  refine ⟨?_, fun i x hx => ?_, fun i j x y hij hx hy g hg => ?_, ⟨fun g hg => .inr hg, fun i x hx g hg => ?_⟩, fun k hk => ?_⟩
  · rw [ncs_append, List.length_append]; simpa [ncs] using row
  · rcases hat i x hx with hx | rfl
    · exact ownsRow_tch (h.kid i x hx) t (fun g hg he => rows_apart h.row (h.kid i x hx) (by decide) g he hg)
    · simp only [hk]; exact World.ownsRow_nil _ _ _ _
  · rcases hat i x hx with hx | rfl
    · rcases hat j y hy with hy | rfl
      · exact h.apart i j x y hij hx hy g hg
      · intro he; cases he
    · cases hg
  · rcases hat i x hx with hx | rfl
    · exact .inl (h.own.2 i x hx g hg)
    · cases hg
  · rcases hk with hk | hk
    · exact ⟨(h.lt k hk).1, Nat.lt_of_lt_of_le (h.lt k hk).2 t.size⟩
    · exact ownsRow_ge row hk
/-- What a node holds. -/
theorem NM.at (h : NM w B F v R) {i : Nat} {x : Nd × Value} (hx : R[i]? = some x) : ∃ g cap, v = .slice (some ⟨g, 0, none⟩) R.length cap ∧ ∀ j u, j < 6 → (nc x)[j]? = some u → w.cell? ⟨g, i * 6 + j, none⟩ = some u ∧ w.frozen? ⟨g, i * 6 + j, none⟩ = false := by
  obtain ⟨ao, cap, rfl⟩ := ownsRow_shape h.row
  obtain ⟨g, rfl, _⟩ := ownsRow_cell h.row (j := i * 6 + 0) (u := .int .i64 x.1.kind) (by rw [ncs_at hx 0 (by omega)]; rfl)
  refine ⟨g, cap, rfl, fun j u hj hu => ?_⟩
  obtain ⟨g', hg, _, _, h1, h2⟩ := ownsRow_cell h.row (j := i * 6 + j) (u := u) (by rw [ncs_at hx j hj, hu])
  cases hg
  exact ⟨h1, h2⟩
/-- A store into a node that leaves its kids. -/
theorem NM.store {g cap : Nat} (h : NM w B F (.slice (some ⟨g, 0, none⟩) R.length cap) R) {i : Nat} {x x' : Nd × Value} (hx : R[i]? = some x) {j : Nat} (hj : j < 6) {u : Value} (hu : nc x' = (nc x).set j u) (h2 : x'.2 = x.2) (hk : x'.1.kids = x.1.kids) :
    NM (w.setCell ⟨g, i * 6 + j, none⟩ u) B F (.slice (some ⟨g, 0, none⟩) R.length cap) (R.set i x') := by
  have hil := (List.getElem?_eq_some_iff.1 hx).1
  have hat : ∀ (j : Nat) (y : Nd × Value), (R.set i x')[j]? = some y → ∃ z : Nd × Value, R[j]? = some z ∧ z.2 = y.2 ∧ z.1.kids = y.1.kids := fun j y hy => by
    by_cases hij : i = j
    · subst hij
      rw [List.getElem?_set_self hil] at hy
      cases hy
      exact ⟨x, hx, h2.symm, hk.symm⟩
    · rw [List.getElem?_set_ne hij] at hy
      exact ⟨y, hy, rfl, rfl⟩
  refine ⟨?_, fun a y hy => ?_, fun a b y z hab hy hz g' hg => ?_, ⟨h.own.1, fun a y hy g' hg => ?_⟩, fun k hk => ⟨(h.lt k hk).1, by simpa [World.setCell] using (h.lt k hk).2⟩⟩
  · rw [List.length_set, ← ncs_set hx j hj hu]
    exact (h.row.stored (i * 6 + j) u).1
  · obtain ⟨z, hz, e1, e2⟩ := hat a y hy
    rw [← e1, ← e2]
    exact ownsRow_setCell_other (a := ⟨g, i * 6 + j, none⟩) (h.kid a z hz) (fun he => rows_apart (h.kid a z hz) h.row (by decide) _ he rfl) u
  · obtain ⟨y', hy', e1, _⟩ := hat a y hy
    obtain ⟨z', hz', e2, _⟩ := hat b z hz
    rw [← e2]
    exact h.apart a b y' z' hab hy' hz' g' (by rw [e1]; exact hg)
  · obtain ⟨z, hz, e1, _⟩ := hat a y hy
    exact h.own.2 a z hz g' (by rw [e1]; exact hg)
/-- A node's kids anew: the list was appended to, and is laid into the node. -/
theorem NM.setKid {g cap : Nat} (h : NM w B F (.slice (some ⟨g, 0, none⟩) R.length cap) R) {i : Nat} {x : Nd × Value} (hx : R[i]? = some x) {ks' : List Int} (row2 : w2.ownsRow B 3 1 kv' ks'.length (icells ks')) (t : Tch (fun k => x.2.ownBlock = some k) w w2) (hloc : ∀ g, kv'.ownBlock = some g → x.2.ownBlock = some g ∨ w.heap.size ≤ g) :
    w2.cell? ⟨g, i * 6 + 5, none⟩ = some x.2 ∧ w2.frozen? ⟨g, i * 6 + 5, none⟩ = false ∧ NM (w2.setCell ⟨g, i * 6 + 5, none⟩ kv') B (fun k => F k ∨ kv'.ownBlock = some k) (.slice (some ⟨g, 0, none⟩) R.length cap) (R.set i ({ x.1 with kids := ks' }, kv')) := by
  have hil := (List.getElem?_eq_some_iff.1 hx).1
  have row3 : w2.ownsRow B 58 6 (.slice (some ⟨g, 0, none⟩) R.length cap) R.length (ncs R) := ownsRow_tch h.row t (fun g' hg he => rows_apart h.row (h.kid i x hx) (by decide) g' hg he)
  obtain ⟨g', hg, _, _, c1, c2⟩ := ownsRow_cell row3 (j := i * 6 + 5) (u := x.2) (by rw [ncs_at hx 5 (by omega)]; rfl)
  cases hg
  refine ⟨c1, c2, ⟨?_, fun a y hy => ?_, fun a b y z hab hy hz g' hg => ?_, ⟨fun g' hg => .inl (h.own.1 g' hg), fun a y hy g' hg => ?_⟩, fun k hk => ?_⟩⟩
  · rw [List.length_set, ← ncs_set (x' := ({ x.1 with kids := ks' }, kv')) hx 5 (by omega) (u := kv') rfl]
    exact (row3.stored (i * 6 + 5) kv').1
  · by_cases hij : i = a
    · subst hij
      rw [List.getElem?_set_self hil] at hy
      cases hy
      exact ownsRow_setCell_other (a := ⟨g, i * 6 + 5, none⟩) row2 (fun he => rows_apart row2 row3 (by decide) _ he rfl) kv'
    · rw [List.getElem?_set_ne hij] at hy
      exact ownsRow_setCell_other (a := ⟨g, i * 6 + 5, none⟩) (ownsRow_tch (h.kid a y hy) t (fun g' hg he => h.apart i a x y hij hx hy g' he hg)) (fun he => rows_apart (h.kid a y hy) h.row (by decide) _ he rfl) kv'
  · have hne : ∀ (a : Nat) (y : Nd × Value), i ≠ a → R[a]? = some y → ∀ g', kv'.ownBlock = some g' → y.2.ownBlock ≠ some g' := fun a y ha hy g' hg hy' => by
      rcases hloc g' hg with h1 | h1
      · exact h.apart i a x y ha hx hy g' h1 hy'
      · have := (h.lt g' (h.own.2 a y hy g' hy')).2; omega
    by_cases hia : i = a
    · subst hia
      rw [List.getElem?_set_self hil] at hy
      cases hy
      rw [List.getElem?_set_ne hab] at hz
      exact hne b z hab hz g' hg
    · rw [List.getElem?_set_ne hia] at hy
      by_cases hib : i = b
      · subst hib
        rw [List.getElem?_set_self hil] at hz
        cases hz
        exact fun he => hne a y hia hy g' he hg
      · rw [List.getElem?_set_ne hib] at hz
        exact h.apart a b y z hab hy hz g' hg
  · by_cases hia : i = a
    · subst hia
      rw [List.getElem?_set_self hil] at hy
      cases hy
      exact .inr hg
    · rw [List.getElem?_set_ne hia] at hy
      exact .inl (h.own.2 a y hy g' hg)
  · rcases hk with hk | hk
    · exact ⟨(h.lt k hk).1, Nat.lt_of_lt_of_le (h.lt k hk).2 (by simpa [World.setCell] using t.size)⟩
    · exact ⟨(ownsRow_ge row2 hk).1, by simpa [World.setCell] using (ownsRow_ge row2 hk).2⟩
end
/-! ### a reader -/
structure RD (w : World) (B : Nat) (F : Nat → Prop) (b kb : Nat) (lv : Value) (l : List Tok) (at' : Nat) (v : Value) (R : List (Nd × Value)) : Prop where
  hb : w.heap[b]? = some (.cells #[lv, .int .i64 at', v] 89)
  nm : NM w B F v R
  fb : F b
  tk : TokS w kb lv l
  kl : kb < w.heap.size
  kn : ¬ F kb
def RdM (w : World) (B : Nat) (F : Nat → Prop) (b kb : Nat) (lv : Value) (l : List Tok) (at' : Nat) (N : List Nd) : Prop := ∃ v R, R.map (·.1) = N ∧ RD w B F b kb lv l at' v R
/-- What a call leaves. -/
def RPost (w : World) (B : Nat) (F : Nat → Prop) (b kb : Nat) (lv : Value) (l : List Tok) (at' : Nat) (N : List Nd) (w' : World) : Prop := ∃ F', RdM w' B F' b kb lv l at' N ∧ Tch F w w' ∧ ∀ k, F' k → F k ∨ w.heap.size ≤ k
section
variable {w w' w2 : World} {B b kb at' : Nat} {F S : Nat → Prop} {v lv : Value} {R : List (Nd × Value)} {l : List Tok} {N : List Nd}
theorem RD.tch (h : RD w B F b kb lv l at' v R) (t : Tch S w w') (hn : ∀ k, F k → ¬ S k) (hk : ¬ S kb) : RD w' B F b kb lv l at' v R :=
  ⟨(t.block b (h.nm.lt b h.fb).2 (hn b h.fb)).trans h.hb, h.nm.tch t hn, h.fb, h.tk.keep (t.block kb h.kl hk), Nat.lt_of_lt_of_le h.kl t.size, h.kn⟩
theorem RdM.tch (h : RdM w B F b kb lv l at' N) (t : Tch S w w') (hn : ∀ k, F k → ¬ S k) (hk : ¬ S kb) : RdM w' B F b kb lv l at' N := by
  obtain ⟨v, R, h1, h⟩ := h
  exact ⟨v, R, h1, h.tch t hn hk⟩
theorem RdM.same (h : RdM w B F b kb lv l at' N) (t : Tch No w w') : RdM w' B F b kb lv l at' N := h.tch t (fun _ _ h => h) id
theorem RdM.lt (h : RdM w B F b kb lv l at' N) : ∀ k, F k → B ≤ k ∧ k < w.heap.size := by
  obtain ⟨v, R, h1, h⟩ := h
  exact h.nm.lt
theorem RdM.kl (h : RdM w B F b kb lv l at' N) : kb < w.heap.size ∧ ¬ F kb := by
  obtain ⟨v, R, h1, h⟩ := h
  exact ⟨h.kl, h.kn⟩
theorem rpost_same (h : RdM w B F b kb lv l at' N) (t : Tch No w w') : RPost w B F b kb lv l at' N w' := ⟨F, h.same t, t.mono (fun _ h => h.elim), fun _ h => .inl h⟩
theorem rpost_trans {F1 : Nat → Prop} {at2 : Nat} {N2 : List Nd} (t1 : Tch F w w') (h1 : ∀ k, F1 k → F k ∨ w.heap.size ≤ k) (h2 : RPost w' B F1 b kb lv l at2 N2 w2) : RPost w B F b kb lv l at2 N2 w2 := by
  obtain ⟨F2, hM, t2, h2⟩ := h2
  refine ⟨F2, hM, t1.trans t2 h1, fun k hk => ?_⟩
  rcases h2 k hk with hk | hk
  · exact h1 k hk
  · exact .inr (Nat.le_trans t1.size hk)
/-- A block beside the reader stays. -/
theorem guest {F' : Nat → Prop} {k : Nat} {o : Obj} (hk : w.heap[k]? = some o) (hn : ¬ F k) (t : Tch F w w') (hf : ∀ k, F' k → F k ∨ w.heap.size ≤ k) : w'.heap[k]? = some o ∧ ¬ F' k := by
  have hl := (Array.getElem?_eq_some_iff.1 hk).1
  refine ⟨(t.block k hl hn).trans hk, fun h => ?_⟩
  rcases hf k h with h1 | h1
  · exact hn h1
  · omega
/-- The reader's own cells, written. -/
theorem RD.setAt (h : RD w B F b kb lv l at' v R) (at2 : Nat) : w.frozen? ⟨b, 1, none⟩ = false ∧ w.cell? ⟨b, 1, none⟩ = some (.int .i64 at') ∧ RD (w.setCell ⟨b, 1, none⟩ (.int .i64 at2)) B F b kb lv l at2 v R ∧ Tch F w (w.setCell ⟨b, 1, none⟩ (.int .i64 at2)) := by
  have t : Tch (fun k => k = b) w (w.setCell ⟨b, 1, none⟩ (.int .i64 at2)) := Tch.setCell (S := fun k => k = b) w (p := ⟨b, 1, none⟩) rfl _
  have nb : v.ownBlock ≠ some b := row_not h.nm.row h.hb (by decide)
  have nk : ∀ (i : Nat) (x : Nd × Value), R[i]? = some x → x.2.ownBlock ≠ some b := fun i x hx => row_not (h.nm.kid i x hx) h.hb (by decide)
  refine ⟨frozen_of_row _ _ _ _ _ h.hb, (cell_of_row _ _ 1 _ _ _ h.hb).trans rfl, ⟨?_, ⟨?_, ?_, h.nm.apart, h.nm.own, fun k hk => ⟨(h.nm.lt k hk).1, Nat.lt_of_lt_of_le (h.nm.lt k hk).2 t.size⟩⟩, h.fb, h.tk.keep (t.block kb h.kl (fun e => h.kn (e ▸ h.fb))), Nat.lt_of_lt_of_le h.kl t.size, h.kn⟩, t.mono (fun k hk => by rw [hk]; exact h.fb)⟩
  · simp [World.setCell, Array.getElem?_modify, h.hb]
  · exact ownsRow_tch h.nm.row t (fun g hg he => nb (he ▸ hg))
  · exact fun i x hx => ownsRow_tch (h.nm.kid i x hx) t (fun g hg he => nk i x hx (he ▸ hg))
/-- The nodes changed, and laid into the reader. -/
theorem RD.setNodes (h : RD w B F b kb lv l at' v R) {v2 : Value} {R2 : List (Nd × Value)} {F2 : Nat → Prop} (t : Tch (fun k => F k ∧ k ≠ b) w w2) (hN : NM w2 B F2 v2 R2) (hf : ∀ k, F k → F2 k) (hf2 : ∀ k, F2 k → F k ∨ w.heap.size ≤ k) :
    w2.frozen? ⟨b, 2, none⟩ = false ∧ w2.cell? ⟨b, 2, none⟩ = some v ∧ RPost w B F b kb lv l at' (R2.map (·.1)) (w2.setCell ⟨b, 2, none⟩ v2) := by
  have hbl := (h.nm.lt b h.fb).2
  have hb2 : w2.heap[b]? = some (.cells #[lv, .int .i64 at', v] 89) := (t.block b hbl (fun e => e.2 rfl)).trans h.hb
  have t1 : Tch (fun k => k = b) w2 (w2.setCell ⟨b, 2, none⟩ v2) := Tch.setCell (S := fun k => k = b) w2 (p := ⟨b, 2, none⟩) rfl _
  have nb : v2.ownBlock ≠ some b := row_not hN.row hb2 (by decide)
  have nk : ∀ (i : Nat) (x : Nd × Value), R2[i]? = some x → x.2.ownBlock ≠ some b := fun i x hx => row_not (hN.kid i x hx) hb2 (by decide)
  have hkb : kb ≠ b := fun e => h.kn (e ▸ h.fb)
  have tF : Tch F w w2 := t.mono (fun k hk => hk.1)
  refine ⟨frozen_of_row _ _ _ _ _ hb2, (cell_of_row _ _ 2 _ _ _ hb2).trans rfl, F2, ⟨v2, R2, rfl, ⟨?_, ⟨?_, ?_, hN.apart, hN.own, fun k hk => ⟨(hN.lt k hk).1, Nat.lt_of_lt_of_le (hN.lt k hk).2 t1.size⟩⟩, hf b h.fb, ?_, ?_, ?_⟩⟩, tF.trans t1 (fun k hk => .inl (by rw [hk]; exact h.fb)), hf2⟩
  · simp [World.setCell, Array.getElem?_modify, hb2]
  · exact ownsRow_tch hN.row t1 (fun g hg he => nb (he ▸ hg))
  · exact fun i x hx => ownsRow_tch (hN.kid i x hx) t1 (fun g hg he => nk i x hx (he ▸ hg))
  · exact (h.tk.keep (tF.block kb h.kl h.kn)).keep (t1.block kb (Nat.lt_of_lt_of_le h.kl t.size) hkb)
  · exact Nat.lt_of_lt_of_le (Nat.lt_of_lt_of_le h.kl t.size) t1.size
  · exact fun hk => by
      rcases hf2 kb hk with h1 | h1
      · exact h.kn h1
      · have := h.kl; omega
end
end Go.Proofs.Ytcnjmkjfgghgoaa
end

section
/- next, has. -/
namespace Go.Proofs.Ytcnjmkjfgghgoaa
open Go.RowKit Go.Mp Go.Tr
set_option linter.unusedVariables false
set_option maxRecDepth 20000
theorem set5 {w : World} {cb : Nat} {e : TypeId} {x0 x1 x2 x3 x4 : Value} (h : w.heap[cb]? = some (.cells #[x0, x1, x2, x3, x4] e)) (y0 y1 y2 y3 y4 : Value) :
    (((((w.setCell ⟨cb, 0, none⟩ y0).setCell ⟨cb, 1, none⟩ y1).setCell ⟨cb, 2, none⟩ y2).setCell ⟨cb, 3, none⟩ y3).setCell ⟨cb, 4, none⟩ y4).heap[cb]? = some (.cells #[y0, y1, y2, y3, y4] e) ∧
    Tch (fun k => k = cb) w (((((w.setCell ⟨cb, 0, none⟩ y0).setCell ⟨cb, 1, none⟩ y1).setCell ⟨cb, 2, none⟩ y2).setCell ⟨cb, 3, none⟩ y3).setCell ⟨cb, 4, none⟩ y4) := by
  refine ⟨by simp [World.setCell, Array.getElem?_modify, h], ?_⟩
  exact ((((Tch.setCell (S := fun k => k = cb) w (p := ⟨cb, 0, none⟩) rfl y0).trans (Tch.setCell (S := fun k => k = cb) _ (p := ⟨cb, 1, none⟩) rfl y1) (fun _ h => .inl h)).trans (Tch.setCell (S := fun k => k = cb) _ (p := ⟨cb, 2, none⟩) rfl y2) (fun _ h => .inl h)).trans (Tch.setCell (S := fun k => k = cb) _ (p := ⟨cb, 3, none⟩) rfl y3) (fun _ h => .inl h)).trans (Tch.setCell (S := fun k => k = cb) _ (p := ⟨cb, 4, none⟩) rfl y4) (fun _ h => .inl h)
theorem tokO_cells {w : World} {cb : Nat} {e : TypeId} {t : Tok} (h : w.heap[cb]? = some (tokO t e)) : w.cell? ⟨cb, 0, none⟩ = some (.int .i64 t.kind) ∧ w.cell? ⟨cb, 1, none⟩ = some (.int .i64 t.line) ∧ w.cell? ⟨cb, 2, none⟩ = some (.int .i64 t.col) ∧ w.cell? ⟨cb, 3, none⟩ = some (.string t.text) ∧ w.cell? ⟨cb, 4, none⟩ = some (.bool t.quoted) :=
  ⟨(cell_of_row _ _ 0 _ _ _ h).trans rfl, (cell_of_row _ _ 1 _ _ _ h).trans rfl, (cell_of_row _ _ 2 _ _ _ h).trans rfl, (cell_of_row _ _ 3 _ _ _ h).trans rfl, (cell_of_row _ _ 4 _ _ _ h).trans rfl⟩
theorem next_any {w : World} {b kb at' : Nat} {lv v : Value} {l : List Tok} (hb : w.heap[b]? = some (.cells #[lv, .int .i64 at', v] 89)) (tk : TokS w kb lv l) (hk : kb < w.heap.size) :
    Calls Try.prog 47 #[.pointer (some ⟨b, 0, none⟩)] w fun e w' => e = .returned (tokA ((l[at']?).getD zero)) ∧ Tch No w w' := by
  obtain ⟨w1, hw1⟩ : ∃ w1, w1 = w.alloc (tokO zero 39) := ⟨_, rfl⟩
  have t1 : Tch No w w1 := by rw [hw1]; exact Tch.alloc No w _
  obtain ⟨cb, hcb⟩ : ∃ cb, cb = w.heap.size := ⟨_, rfl⟩
  have hc1 : w1.heap[cb]? = some (tokO zero 39) := by rw [hw1, hcb]; exact heap_alloc_new w _
  have hb1 : w1.heap[b]? = some (.cells #[lv, .int .i64 at', v] 89) := (t1.block b (Array.getElem?_eq_some_iff.1 hb).1 id).trans hb
  have tk1 := tk.keep (t1.block kb hk id)
  have c0 : w1.cell? ⟨b, 0, none⟩ = some lv := (cell_of_row _ _ 0 _ _ _ hb1).trans rfl
  have c1 : w1.cell? ⟨b, 1, none⟩ = some (.int .i64 at') := (cell_of_row _ _ 1 _ _ _ hb1).trans rfl
  obtain ⟨ao, cap, rfl, _⟩ := id tk
  by_cases hl : at' < l.length
  · have hx := List.getElem?_eq_getElem hl
    rw [hx]
    generalize l[at'] = t at *
    obtain ⟨off, rfl, _, d0, d1, d2, d3, d4⟩ := tk1.at hx
    have k0 := nn_lt hl
    have e0 : w1.cell? ⟨cb, 0, none⟩ = some (.int .i64 0) := (cell_of_row _ _ 0 _ _ _ hc1).trans rfl
    have e1 : w1.cell? ⟨cb, 1, none⟩ = some (.int .i64 0) := (cell_of_row _ _ 1 _ _ _ hc1).trans rfl
    have e2 : w1.cell? ⟨cb, 2, none⟩ = some (.int .i64 0) := (cell_of_row _ _ 2 _ _ _ hc1).trans rfl
    have e3 : w1.cell? ⟨cb, 3, none⟩ = some (.string ⟨#[]⟩) := (cell_of_row _ _ 3 _ _ _ hc1).trans rfl
    have e4 : w1.cell? ⟨cb, 4, none⟩ = some (.bool false) := (cell_of_row _ _ 4 _ _ _ hc1).trans rfl
    have f0 : w1.frozen? ⟨cb, 0, none⟩ = false := frozen_of_row _ _ _ _ _ hc1
    have f1 : w1.frozen? ⟨cb, 1, none⟩ = false := frozen_of_row _ _ _ _ _ hc1
    have f2 : w1.frozen? ⟨cb, 2, none⟩ = false := frozen_of_row _ _ _ _ _ hc1
    have f3 : w1.frozen? ⟨cb, 3, none⟩ = false := frozen_of_row _ _ _ _ _ hc1
    have f4 : w1.frozen? ⟨cb, 4, none⟩ = false := frozen_of_row _ _ _ _ _ hc1
    replace hx := Lib.hid hx
    replace hb := Lib.hid hb
    replace hb1 := Lib.hid hb1
    replace hc1 := Lib.hid hc1
    replace tk := Lib.hid tk
    replace tk1 := Lib.hid tk1
    replace t1 := Lib.hid t1
    replace hk := Lib.hid hk
    go_enter Try.func47, Try.ntmps47
    go_upto_region 1 with fail
    rw [show (w.alloc (.cells #[.int .i64 0, .int .i64 0, .int .i64 0, .string ⟨#[]⟩, .bool false] 39)) = w1 from hw1.symm, ← hcb]
    replace hw1 := Lib.hid hw1
    replace hcb := Lib.hid hcb
    go_quiet (fail)
    go_upto_region 2 with fail
    go_region
    obtain ⟨h5, t5⟩ := set5 (w := w1.drewN (nq + 1)) hc1.out (.int .i64 t.kind) (.int .i64 t.line) (.int .i64 t.col) (.string t.text) (.bool t.quoted)
    obtain ⟨w5, hw5⟩ : ∃ w5, w5 = ((((((w1.drewN (nq + 1)).setCell ⟨cb, 0, none⟩ (.int .i64 t.kind)).setCell ⟨cb, 1, none⟩ (.int .i64 t.line)).setCell ⟨cb, 2, none⟩ (.int .i64 t.col)).setCell ⟨cb, 3, none⟩ (.string t.text)).setCell ⟨cb, 4, none⟩ (.bool t.quoted)) := ⟨_, rfl⟩
    rw [← hw5] at h5 t5 ⊢
    obtain ⟨m0, m1, m2, m3, m4⟩ := tokO_cells h5
    have tt : Tch No w w5 := (t1.out.trans (Tch.drewN No w1 (nq + 1)) (fun _ h => h.elim)).trans t5 (fun k hk => .inr (by rw [hk, hcb.out]; exact Nat.le_refl _))
    replace hw5 := Lib.hid hw5
    go_wp2
    exact bodyPost_ret (v := tokA t) (by simp [results, Try.results47, go_sem, m0, m1, m2, m3, m4]) rfl ⟨rfl, tt⟩
  · have hx : l[at']? = none := List.getElem?_eq_none (by omega)
    rw [hx]
    have k0 := nn_ge hl
    have e0 : w1.cell? ⟨cb, 0, none⟩ = some (.int .i64 0) := (cell_of_row _ _ 0 _ _ _ hc1).trans rfl
    have e1 : w1.cell? ⟨cb, 1, none⟩ = some (.int .i64 0) := (cell_of_row _ _ 1 _ _ _ hc1).trans rfl
    have e2 : w1.cell? ⟨cb, 2, none⟩ = some (.int .i64 0) := (cell_of_row _ _ 2 _ _ _ hc1).trans rfl
    have e3 : w1.cell? ⟨cb, 3, none⟩ = some (.string ⟨#[]⟩) := (cell_of_row _ _ 3 _ _ _ hc1).trans rfl
    have e4 : w1.cell? ⟨cb, 4, none⟩ = some (.bool false) := (cell_of_row _ _ 4 _ _ _ hc1).trans rfl
    have f0 : w1.frozen? ⟨cb, 0, none⟩ = false := frozen_of_row _ _ _ _ _ hc1
    have f1 : w1.frozen? ⟨cb, 1, none⟩ = false := frozen_of_row _ _ _ _ _ hc1
    have f2 : w1.frozen? ⟨cb, 2, none⟩ = false := frozen_of_row _ _ _ _ _ hc1
    have f3 : w1.frozen? ⟨cb, 3, none⟩ = false := frozen_of_row _ _ _ _ _ hc1
    have f4 : w1.frozen? ⟨cb, 4, none⟩ = false := frozen_of_row _ _ _ _ _ hc1
    replace hx := Lib.hid hx
    replace hb := Lib.hid hb
    replace hb1 := Lib.hid hb1
    replace hc1 := Lib.hid hc1
    replace tk := Lib.hid tk
    replace tk1 := Lib.hid tk1
    replace t1 := Lib.hid t1
    replace hk := Lib.hid hk
    go_enter Try.func47, Try.ntmps47
    go_upto_region 1 with fail
    rw [show (w.alloc (.cells #[.int .i64 0, .int .i64 0, .int .i64 0, .string ⟨#[]⟩, .bool false] 39)) = w1 from hw1.symm, ← hcb]
    replace hw1 := Lib.hid hw1
    replace hcb := Lib.hid hcb
    go_quiet (fail)
    go_wp2
    obtain ⟨h5, t5⟩ := set5 (w := w1.drewN nq) hc1.out (.int .i64 0) (.int .i64 0) (.int .i64 0) (.string ⟨#[]⟩) (.bool false)
    obtain ⟨w5, hw5⟩ : ∃ w5, w5 = ((((((w1.drewN nq).setCell ⟨cb, 0, none⟩ (.int .i64 0)).setCell ⟨cb, 1, none⟩ (.int .i64 0)).setCell ⟨cb, 2, none⟩ (.int .i64 0)).setCell ⟨cb, 3, none⟩ (.string ⟨#[]⟩)).setCell ⟨cb, 4, none⟩ (.bool false)) := ⟨_, rfl⟩
    rw [← hw5] at h5 t5 ⊢
    obtain ⟨m0, m1, m2, m3, m4⟩ := tokO_cells (t := zero) h5
    have tt : Tch No w w5 := (t1.out.trans (Tch.drewN No w1 nq) (fun _ h => h.elim)).trans t5 (fun k hk => .inr (by rw [hk, hcb.out]; exact Nat.le_refl _))
    replace hw5 := Lib.hid hw5
    exact bodyPost_ret (v := tokA zero) (by simp [results, Try.results47, go_sem, m0, m1, m2, m3, m4]) rfl ⟨rfl, tt⟩
theorem has_any {w : World} (t : Tok) : Calls Try.prog 46 #[tokA t] w fun e w' => e = .returned (.bool (has t)) ∧ Tch No w w' := by
  obtain ⟨w1, hw1⟩ : ∃ w1, w1 = w.alloc (tokO t 39) := ⟨_, rfl⟩
  have t1 : Tch No w w1 := by rw [hw1]; exact Tch.alloc No w _
  obtain ⟨cb, hcb⟩ : ∃ cb, cb = w.heap.size := ⟨_, rfl⟩
  have hc1 : w1.heap[cb]? = some (tokO t 39) := by rw [hw1, hcb]; exact heap_alloc_new w _
  have c0 := (tokO_cells hc1).1
  have hh : has t = (t.kind == 2 || (t.kind == 3 || t.kind == 4)) := by
    unfold has
    rw [Bool.or_assoc]
    rfl
  replace hc1 := Lib.hid hc1
  replace t1 := Lib.hid t1
  replace hh := Lib.hid hh
  by_cases k2 : t.kind = 2
  · have q2 : (t.kind == 2) = true := by rw [beq_iff_eq]; exact k2
    replace k2 := Lib.hid k2
    go_enter Try.func46, Try.ntmps46
    go_upto_region 1 with fail
    rw [show (w.alloc (tokO t 39)) = w1 from hw1.symm, ← hcb]
    replace hw1 := Lib.hid hw1
    replace hcb := Lib.hid hcb
    go_wp2
    go_ret
    exact ⟨by rw [hh.out, q2]; rfl, t1.out⟩
  have q2 : (t.kind == 2) = false := by rw [beq_eq_false_iff_ne]; exact k2
  replace k2 := Lib.hid k2
  by_cases k3 : t.kind = 3
  · have q3 : (t.kind == 3) = true := by rw [beq_iff_eq]; exact k3
    replace k3 := Lib.hid k3
    go_enter Try.func46, Try.ntmps46
    go_upto_region 1 with fail
    rw [show (w.alloc (tokO t 39)) = w1 from hw1.symm, ← hcb]
    replace hw1 := Lib.hid hw1
    replace hcb := Lib.hid hcb
    go_wp2
    go_ret
    exact ⟨by rw [hh.out, q2, q3]; rfl, t1.out⟩
  have q3 : (t.kind == 3) = false := by rw [beq_eq_false_iff_ne]; exact k3
  replace k3 := Lib.hid k3
  obtain ⟨x, q4⟩ : ∃ x, (t.kind == 4) = x := ⟨_, rfl⟩
  go_enter Try.func46, Try.ntmps46
  go_upto_region 1 with fail
  rw [show (w.alloc (tokO t 39)) = w1 from hw1.symm, ← hcb]
  replace hw1 := Lib.hid hw1
  replace hcb := Lib.hid hcb
  go_wp2
  go_ret
  exact ⟨by rw [hh.out, q2, q3, q4]; rfl, t1.out⟩
end Go.Proofs.Ytcnjmkjfgghgoaa
end

section
/- begin: a node more, or a panic. -/
namespace Go.Proofs.Ytcnjmkjfgghgoaa
open Go.RowKit Go.Mp Go.Tr
set_option linter.unusedVariables false
set_option maxRecDepth 20000
theorem info58 : (Try.prog.info? 58).map (fun i => (i.zero, i.size, i.bytes)) = some (some (.agg #[.int .i64 0, .string ⟨#[]⟩, .string ⟨#[]⟩, .bool false, .int .i64 0, .slice none 0 0]), 6, 80) := by kernel_rfl
def faultP (line e : Int) : Ending := .panicked [{ v := .iface 85 (.agg #[.int .i64 line, .int .i64 e]), recovered := false }]
theorem full_true {d m : Nat} (h : full d m = true) : 16 < d ∨ m = 4096 := by
  unfold full at h
  simpa using h
theorem begin_bad {w : World} {B b kb at' : Nat} {F : Nat → Prop} {lv : Value} {l : List Tok} {N : List Nd} (h : RdM w B F b kb lv l at' N) (kind : Int) (d : Nat) (key : ByteArray) (t : Tok) (hf : full d N.length = true) :
    Calls Try.prog 56 #[.pointer (some ⟨b, 0, none⟩), .int .i64 kind, .int .i64 d, .string key, tokA t] w fun e w' => e = faultP t.line 92 ∧ Tch No w w' := by
  obtain ⟨v, R, rfl, h⟩ := h
  obtain ⟨ao, cap, rfl⟩ := ownsRow_shape h.nm.row
  rw [List.length_map] at hf
  obtain ⟨w1, hw1⟩ : ∃ w1, w1 = w.alloc (tokO t 39) := ⟨_, rfl⟩
  have t1 : Tch No w w1 := by rw [hw1]; exact Tch.alloc No w _
  obtain ⟨cb, hcb⟩ : ∃ cb, cb = w.heap.size := ⟨_, rfl⟩
  have hc1 : w1.heap[cb]? = some (tokO t 39) := by rw [hw1, hcb]; exact heap_alloc_new w _
  obtain ⟨e0, e1, e2, e3, e4⟩ := tokO_cells hc1
  have h1 := h.tch t1 (fun _ _ h => h) id
  have c2 : w1.cell? ⟨b, 2, none⟩ = some (.slice ao R.length cap) := (cell_of_row _ _ 2 _ _ _ h1.hb).trans rfl
  replace h := Lib.hid h
  replace h1 := Lib.hid h1
  replace hc1 := Lib.hid hc1
  replace t1 := Lib.hid t1
  by_cases kd : 16 < d
  · have q1 : decide ((16 : Int) < (d : Int)) = true := decide_eq_true (by omega)
    go_enter Try.func56, Try.ntmps56
    go_upto_region 1 with fail
    rw [show (w.alloc (tokO t 39)) = w1 from hw1.symm, ← hcb]
    replace hw1 := Lib.hid hw1
    replace hcb := Lib.hid hcb
    go_wp2
    exact ⟨rfl, rfl, t1.out⟩
  · have kn : R.length = 4096 := (full_true hf).resolve_left kd
    have q1 : decide ((16 : Int) < (d : Int)) = false := decide_eq_false (by omega)
    have q2 : ((R.length : Int) == 4096) = true := by rw [beq_iff_eq]; omega
    replace kn := Lib.hid kn
    go_enter Try.func56, Try.ntmps56
    go_upto_region 1 with fail
    rw [show (w.alloc (tokO t 39)) = w1 from hw1.symm, ← hcb]
    replace hw1 := Lib.hid hw1
    replace hcb := Lib.hid hcb
    go_wp2
    exact ⟨rfl, rfl, t1.out⟩
theorem begin_ok {w : World} {B b kb at' : Nat} {F : Nat → Prop} {lv : Value} {l : List Tok} {N : List Nd} (h : RdM w B F b kb lv l at' N) (hB : B ≤ w.heap.size) (kind : Int) (d : Nat) (key : ByteArray) (t : Tok) (hf : full d N.length = false) (hN : N.length ≤ 4096) :
    Calls Try.prog 56 #[.pointer (some ⟨b, 0, none⟩), .int .i64 kind, .int .i64 d, .string key, tokA t] w fun e w' => e = .returned (.int .i64 N.length) ∧ RPost w B F b kb lv l at' (N ++ [⟨kind, key, ⟨#[]⟩, false, t.line, []⟩]) w' := by
  obtain ⟨v, R, rfl, h⟩ := h
  obtain ⟨ao, cap, rfl⟩ := ownsRow_shape h.nm.row
  rw [List.length_map] at hf hN ⊢
  obtain ⟨kd, kn⟩ := Go.Tr.full_false (by rw [hf]; simp)
  have q1 : decide ((16 : Int) < (d : Int)) = false := decide_eq_false (by omega)
  have q2 : ((R.length : Int) == 4096) = false := by rw [beq_eq_false_iff_ne]; omega
  obtain ⟨i0, hi, hz0, hz1, hz2⟩ := info_parts info58
  obtain ⟨w1, hw1⟩ : ∃ w1, w1 = w.alloc (tokO t 39) := ⟨_, rfl⟩
  have t1 : Tch No w w1 := by rw [hw1]; exact Tch.alloc No w _
  obtain ⟨cb, hcb⟩ : ∃ cb, cb = w.heap.size := ⟨_, rfl⟩
  have hc1 : w1.heap[cb]? = some (tokO t 39) := by rw [hw1, hcb]; exact heap_alloc_new w _
  obtain ⟨e0, e1, e2, e3, e4⟩ := tokO_cells hc1
  have h1 := h.tch t1 (fun _ _ h => h) id
  have hd := h1.tch (Tch.drew No w1) (fun _ _ h => h) id
  have hBd : B ≤ w1.drew.heap.size := Nat.le_trans hB t1.size
  have c2 : w1.cell? ⟨b, 2, none⟩ = some (.slice ao R.length cap) := (cell_of_row _ _ 2 _ _ _ h1.hb).trans rfl
  have c2' : (w1.alloc (.cells #[.int .i64 kind, .string key, .string ⟨#[]⟩, .bool false, .int .i64 t.line, .slice none 0 0] 58)).cell? ⟨b, 2, none⟩ = some (.slice ao R.length cap) := (Tch.alloc No w1 _).cell_some c2 id
  have tF : Tch F w w1.drew := (t1.trans (Tch.drew No w1) (fun _ h => h.elim)).mono (fun _ h => h.elim)
  replace h := Lib.hid h
  replace h1 := Lib.hid h1
  replace hd := Lib.hid hd
  replace hc1 := Lib.hid hc1
  replace t1 := Lib.hid t1
  replace tF := Lib.hid tF
  replace hi := Lib.hid hi
  replace hz0 := Lib.hid hz0
  replace hz1 := Lib.hid hz1
  replace hz2 := Lib.hid hz2
  replace kn := Lib.hid kn
  replace hBd := Lib.hid hBd
  go_enter Try.func56, Try.ntmps56
  go_upto_region 1 with fail
  rw [show (w.alloc (tokO t 39)) = w1 from hw1.symm, ← hcb]
  replace hw1 := Lib.hid hw1
  replace hcb := Lib.hid hcb
  go_upto_region 3 with fail
  go_region_law ((refine step_append_us rfl _ _ 50 (by rfl) B 58 i0 (.agg #[.int .i64 0, .string ⟨#[]⟩, .string ⟨#[]⟩, .bool false, .int .i64 0, .slice none 0 0]) 6 80 Try.underlying50 hi.out hz0.out hz1.out hz2.out rfl (by decide) _ R.length (ncs R) (by rfl) hd.out.nm.row 1 (by rfl) rfl (by simp [Value.oneCell']) (by unfold maxLen; omega) (by omega) hBd.out ?_; intro v7 w7 hr7 hg7 hl7; obtain ⟨no, nc', rfl⟩ := ownsRow_shape hr7; have hT7 := (Tch.grown (S := fun k => (Value.slice ao R.length cap).ownBlock = some k) hg7 (fun k hk => .inl hk)); have hN7 := hd.out.nm.push (n := ⟨kind, key, ⟨#[]⟩, false, t.line, []⟩) rfl hr7 hT7 hl7; obtain ⟨f7, e7, hP7⟩ := hd.out.setNodes (hT7.mono (fun k hk => ⟨hd.out.nm.own.1 k hk, fun e => row_not hd.out.nm.row hd.out.hb (by decide) (e ▸ hk)⟩)) hN7 (fun k hk => .inl hk) (fun k hk => hk.elim .inl (fun h => (hl7 k h).imp (fun h => hd.out.nm.own.1 k h) id)); replace hP7 := Lib.hid hP7; replace hN7 := Lib.hid hN7; replace hr7 := Lib.hid hr7; replace hT7 := Lib.hid hT7; clear hg7 hl7; have g7 : (w7.setCell ⟨b, 2, none⟩ (.slice no (R.length + 1) nc')).cell? ⟨b, 2, none⟩ = some (.slice no (R.length + 1) nc') := World.cell?_setCell_same _ _ _ e7))
  all_goals
    go_wp2
    go_ret
    exact ⟨rfl, rpost_trans tF.out (fun _ h => .inl h) (by have := hP7.out; rwa [List.map_append] at this)⟩
end Go.Proofs.Ytcnjmkjfgghgoaa
end

section

namespace Go.Proofs.Ytcnjmkjfgghgoaa
open Go.RowKit Go.Mp Go.Tr
set_option linter.unusedVariables false
set_option maxRecDepth 20000
def Out (w : World) (B : Nat) (F : Nat → Prop) (b kb : Nat) (lv : Value) (l : List Tok) (N : List Nd) (r : Res T) (e : Ending) (w' : World) : Prop :=
  match r with
  | .error (ln, er) => e = faultP ln er ∧ Tch F w w'
  | .ok (t, at2, _) => e = .returned (.int .i64 N.length) ∧ RPost w B F b kb lv l at2 (N ++ lay N.length t) w'
def BlockOK (l : List Tok) (f : Nat) : Prop := ∀ (w : World) (B : Nat) (F : Nat → Prop) (b kb : Nat) (lv : Value) (at' : Nat) (N : List Nd) (d : Nat) (key : ByteArray), RdM w B F b kb lv l at' N → B ≤ w.heap.size → N.length ≤ 4096 → d ≤ 17 → has ((l[at']?).getD zero) = true → l.length - at' ≤ f →
  Calls Try.prog 48 #[.pointer (some ⟨b, 0, none⟩), .int .i64 d, .string key] w (Out w B F b kb lv l N (blockW (loop l f) l at' d N.length key))
def KidsOK (fn : Nat) (kind : Int) (l : List Tok) (f : Nat) : Prop := ∀ (w : World) (B : Nat) (F : Nat → Prop) (b kb : Nat) (lv : Value) (at' : Nat) (N : List Nd) (d : Nat) (key : ByteArray) (t : Tok), RdM w B F b kb lv l at' N → B ≤ w.heap.size → N.length ≤ 4096 → d ≤ 17 → l[at']? = some t → t.kind = kind → l.length - at' ≤ f →
  Calls Try.prog fn #[.pointer (some ⟨b, 0, none⟩), tokA t, .int .i64 d, .string key] w (Out w B F b kb lv l N (blockW (loop l f) l at' d N.length key))
def ValueOK (l : List Tok) (f : Nat) : Prop := ∀ (w : World) (B : Nat) (F : Nat → Prop) (b kb : Nat) (lv : Value) (at' : Nat) (N : List Nd) (d : Nat) (key : ByteArray) (is : Bool) (u : Tok), RdM w B F b kb lv l at' N → B ≤ w.heap.size → N.length ≤ 4096 → d ≤ 17 → l.length - at' ≤ f →
  Calls Try.prog 65 #[.pointer (some ⟨b, 0, none⟩), .bool is, tokA u, .int .i64 d, .string key] w (Out w B F b kb lv l N (valueW (loop l f) l is u at' d N.length key))
theorem out_trans {w w1 w2 : World} {B b kb : Nat} {F F1 : Nat → Prop} {lv : Value} {l : List Tok} {N : List Nd} {r : Res T} {e : Ending} (t1 : Tch F w w1) (h1 : ∀ k, F1 k → F k ∨ w.heap.size ≤ k) (h : Out w1 B F1 b kb lv l N r e w2) : Out w B F b kb lv l N r e w2 := by
  unfold Out at *
  split at h
  · exact ⟨h.1, t1.trans h.2 h1⟩
  · exact ⟨h.1, rpost_trans t1 h1 h.2⟩
theorem RD.inNodes {w w2 : World} {B b kb at' : Nat} {F F2 : Nat → Prop} {lv v : Value} {l : List Tok} {R R2 : List (Nd × Value)} (h : RD w B F b kb lv l at' v R) (t : Tch (fun k => F k ∧ k ≠ b) w w2) (hN : NM w2 B F2 v R2) (hf : ∀ k, F k → F2 k) (hf2 : ∀ k, F2 k → F k ∨ w.heap.size ≤ k) : RD w2 B F2 b kb lv l at' v R2 :=
  ⟨(t.block b (h.nm.lt b h.fb).2 (fun e => e.2 rfl)).trans h.hb, hN, hf b h.fb, h.tk.keep (t.block kb h.kl (fun e => h.kn e.1)), Nat.lt_of_lt_of_le h.kl t.size, fun hk => by
    rcases hf2 kb hk with h1 | h1
    · exact h.kn h1
    · have := h.kl; omega⟩
/-- The reader steps on. -/
theorem RdM.setAt {w : World} {B b kb at' : Nat} {F : Nat → Prop} {lv : Value} {l : List Tok} {N : List Nd} (h : RdM w B F b kb lv l at' N) (at2 : Nat) : w.frozen? ⟨b, 1, none⟩ = false ∧ w.cell? ⟨b, 1, none⟩ = some (.int .i64 at') ∧ RdM (w.setCell ⟨b, 1, none⟩ (.int .i64 at2)) B F b kb lv l at2 N ∧ Tch F w (w.setCell ⟨b, 1, none⟩ (.int .i64 at2)) := by
  obtain ⟨v, R, rfl, h⟩ := h
  obtain ⟨h1, h2, h3, h4⟩ := h.setAt at2
  exact ⟨h1, h2, ⟨v, R, rfl, h3⟩, h4⟩
theorem RdM.next {w : World} {B b kb at' : Nat} {F : Nat → Prop} {lv : Value} {l : List Tok} {N : List Nd} (h : RdM w B F b kb lv l at' N) : Calls Try.prog 47 #[.pointer (some ⟨b, 0, none⟩)] w fun e w' => e = .returned (tokA ((l[at']?).getD zero)) ∧ RdM w' B F b kb lv l at' N ∧ Tch No w w' := by
  have h0 := h
  obtain ⟨v, R, rfl, h⟩ := h
  refine (next_any h.hb h.tk h.kl).mono ?_
  rintro e w' ⟨rfl, t⟩
  exact ⟨rfl, h0.same t, t⟩
theorem has_some {l : List Tok} {at' : Nat} (h : has ((l[at']?).getD zero) = true) : ∃ t, l[at']? = some t ∧ has t = true := by
  cases hx : l[at']? with
  | none => rw [hx] at h; exact absurd h (by decide)
  | some t => rw [hx] at h; exact ⟨t, rfl, h⟩
theorem value_any {l : List Tok} {f : Nat} (hb : BlockOK l f) : ValueOK l f := by
  intro w B F b kb lv at' N d key is u h hB hN hd hl
  obtain ⟨w1, hw1⟩ : ∃ w1, w1 = w.alloc (tokO u 39) := ⟨_, rfl⟩
  have t1 : Tch No w w1 := by rw [hw1]; exact Tch.alloc No w _
  obtain ⟨cb, hcb⟩ : ∃ cb, cb = w.heap.size := ⟨_, rfl⟩
  have hc1 : w1.heap[cb]? = some (tokO u 39) := by rw [hw1, hcb]; exact heap_alloc_new w _
  have hcF : ¬ F cb := fun hk => by have := (h.lt cb hk).2; omega
  have h1 := h.same t1
  have hB1 := Nat.le_trans hB t1.size
  obtain ⟨e0, e1, e2, e3, e4⟩ := tokO_cells hc1
  have tF : Tch F w w1 := t1.mono (fun _ h => h.elim)
  replace h := Lib.hid h
  replace hc1 := Lib.hid hc1
  replace t1 := Lib.hid t1
  replace tF := Lib.hid tF
  replace hcF := Lib.hid hcF
  replace hB1 := Lib.hid hB1
  by_cases hi : is = true ∧ has ((l[at']?).getD zero) = true
  · obtain ⟨rfl, hh⟩ := hi
    have hv : valueW (loop l f) l true u at' d N.length key = blockW (loop l f) l at' d N.length key := by unfold valueW; rw [hh]; rfl
    rw [hv]
    have hn := Lib.hid h1.next
    have hC : ∀ w3, RdM w3 B F b kb lv l at' N → B ≤ w3.heap.size → Calls Try.prog 48 #[.pointer (some ⟨b, 0, none⟩), .int .i64 d, .string key] w3 (Out w3 B F b kb lv l N (blockW (loop l f) l at' d N.length key)) := fun w3 h3 hB3 => hb w3 B F b kb lv at' N d key h3 hB3 hN hd hh hl
    clear hv
    generalize blockW (loop l f) l at' d N.length key = r at *
    replace hC := Lib.hid hC
    replace h1 := Lib.hid h1
    replace hh := Lib.hid hh
    rcases r with ⟨ln, er⟩ | ⟨t, at2, m2⟩
    · go_enter Try.func65, Try.ntmps65
      go_upto_region 1 with fail
      rw [show (w.alloc (tokO u 39)) = w1 from hw1.symm, ← hcb]
      replace hw1 := Lib.hid hw1
      replace hcb := Lib.hid hcb
      go_wp2_with (first
        | (go_at_call 47; have _t := hn; refine hn.out.mono ?_; clear _t hn; rintro _ w2 ⟨rfl, h2, t2⟩; have h2 := Lib.hid h2; have t2 := Lib.hid t2; have hH := Lib.hid (has_any (w := w2) ((l[at']?).getD zero)))
        | (go_at_call 46; have _t := hH; refine hH.out.mono ?_; clear _t hH; rintro _ w3 ⟨rfl, t3⟩; rw [hh.out]; have h3 := Lib.hid (h2.out.same t3); have t3 := Lib.hid (t2.out.trans t3 (fun _ h => .inl h)))
        | (go_at_call 48; refine (hC.out w3 h3.out (Nat.le_trans hB1.out t3.out.size)).mono ?_; rintro e w4 ⟨he, tt⟩; simp only [faultP] at he; subst he)
        | fail)
      exact ⟨rfl, rfl, (tF.out.trans (t3.out.mono (fun _ h => h.elim) : Tch F w1 w3) (fun _ h => .inl h)).trans tt (fun _ h => .inl h)⟩
    · go_enter Try.func65, Try.ntmps65
      go_upto_region 1 with fail
      rw [show (w.alloc (tokO u 39)) = w1 from hw1.symm, ← hcb]
      replace hw1 := Lib.hid hw1
      replace hcb := Lib.hid hcb
      go_wp2_with (first
        | (go_at_call 47; have _t := hn; refine hn.out.mono ?_; clear _t hn; rintro _ w2 ⟨rfl, h2, t2⟩; have h2 := Lib.hid h2; have t2 := Lib.hid t2; have hH := Lib.hid (has_any (w := w2) ((l[at']?).getD zero)))
        | (go_at_call 46; have _t := hH; refine hH.out.mono ?_; clear _t hH; rintro _ w3 ⟨rfl, t3⟩; rw [hh.out]; have h3 := Lib.hid (h2.out.same t3); have t3 := Lib.hid (t2.out.trans t3 (fun _ h => .inl h)))
        | (go_at_call 48; refine (hC.out w3 h3.out (Nat.le_trans hB1.out t3.out.size)).mono ?_; rintro e w4 ⟨he, hP⟩; subst he; have hP := Lib.hid hP)
        | fail)
      go_ret
      exact ⟨rfl, rpost_trans (tF.out.trans (t3.out.mono (fun _ h => h.elim) : Tch F w1 w3) (fun _ h => .inl h)) (fun _ h => .inl h) hP.out⟩
  · have hv : valueW (loop l f) l is u at' d N.length key = if full d N.length = true then .error (u.line, 92) else .ok (.node 1 key ⟨#[]⟩ false u.line [], at', N.length + 1) := by
      unfold valueW
      rw [if_neg (by simpa using hi)]
    rw [hv]
    clear hv
    by_cases hf : full d N.length = true
    · rw [if_pos hf]
      have hC : ∀ w3, RdM w3 B F b kb lv l at' N → Calls Try.prog 56 #[.pointer (some ⟨b, 0, none⟩), .int .i64 1, .int .i64 d, .string key, tokA u] w3 fun e w4 => e = faultP u.line 92 ∧ Tch No w3 w4 := fun w3 h3 => begin_bad h3 1 d key u hf
      replace hf := Lib.hid hf
      replace hC := Lib.hid hC
      have hn := Lib.hid h1.next
      replace h1 := Lib.hid h1
      cases is with
      | false =>
        replace hi := Lib.hid hi
        go_enter Try.func65, Try.ntmps65
        go_upto_region 1 with fail
        rw [show (w.alloc (tokO u 39)) = w1 from hw1.symm, ← hcb]
        replace hw1 := Lib.hid hw1
        replace hcb := Lib.hid hcb
        go_wp2_with (first
          | (go_at_call 56; refine (hC.out w1 h1.out).mono ?_; rintro e w4 ⟨he, tt⟩; simp only [faultP] at he; subst he)
          | fail)
        exact ⟨rfl, rfl, tF.out.trans tt (fun _ h => h.elim)⟩
      | true =>
        have hh : has ((l[at']?).getD zero) = false := by simpa using hi
        replace hi := Lib.hid hi
        replace hh := Lib.hid hh
        go_enter Try.func65, Try.ntmps65
        go_upto_region 1 with fail
        rw [show (w.alloc (tokO u 39)) = w1 from hw1.symm, ← hcb]
        replace hw1 := Lib.hid hw1
        replace hcb := Lib.hid hcb
        go_wp2_with (first
          | (go_at_call 47; have _t := hn; refine hn.out.mono ?_; clear _t hn; rintro _ w2 ⟨rfl, h2, t2⟩; have h2 := Lib.hid h2; have t2 := Lib.hid t2; have hH := Lib.hid (has_any (w := w2) ((l[at']?).getD zero)))
          | (go_at_call 46; have _t := hH; refine hH.out.mono ?_; clear _t hH; rintro _ w3 ⟨rfl, t3⟩; rw [hh.out]; have h3 := Lib.hid (h2.out.same t3); have t3 := Lib.hid (t2.out.trans t3 (fun _ h => .inl h)); clear e0 e1 e2 e3 e4; obtain ⟨e0, e1, e2, e3, e4⟩ := tokO_cells ((t3.out.block cb (Array.getElem?_eq_some_iff.1 hc1.out).1 id).trans hc1.out))
          | (go_at_call 56; refine (hC.out w3 h3.out).mono ?_; rintro e w4 ⟨he, tt⟩; simp only [faultP] at he; subst he)
          | fail)
        exact ⟨rfl, rfl, (tF.out.trans t3.out (fun _ h => h.elim)).trans tt (fun _ h => h.elim)⟩
    · rw [if_neg hf]
      have hC : ∀ w3, RdM w3 B F b kb lv l at' N → B ≤ w3.heap.size → Calls Try.prog 56 #[.pointer (some ⟨b, 0, none⟩), .int .i64 1, .int .i64 d, .string key, tokA u] w3 fun e w4 => e = .returned (.int .i64 N.length) ∧ RPost w3 B F b kb lv l at' (N ++ [⟨1, key, ⟨#[]⟩, false, u.line, []⟩]) w4 := fun w3 h3 hB3 => begin_ok h3 hB3 1 d key u (by simpa using hf) hN
      have hlay : lay N.length (.node 1 key ⟨#[]⟩ false u.line []) = [⟨1, key, ⟨#[]⟩, false, u.line, []⟩] := by simp [lay, lays, kidAts]
      replace hlay := Lib.hid hlay
      replace hf := Lib.hid hf
      replace hC := Lib.hid hC
      have hn := Lib.hid h1.next
      replace h1 := Lib.hid h1
      cases is with
      | false =>
        replace hi := Lib.hid hi
        go_enter Try.func65, Try.ntmps65
        go_upto_region 1 with fail
        rw [show (w.alloc (tokO u 39)) = w1 from hw1.symm, ← hcb]
        replace hw1 := Lib.hid hw1
        replace hcb := Lib.hid hcb
        go_wp2_with (first
          | (go_at_call 56; refine (hC.out w1 h1.out hB1.out).mono ?_; rintro e w4 ⟨he, hP⟩; subst he; have hP := Lib.hid hP)
          | fail)
        go_ret
        exact ⟨rfl, by rw [hlay.out]; exact rpost_trans tF.out (fun _ h => .inl h) hP.out⟩
      | true =>
        have hh : has ((l[at']?).getD zero) = false := by simpa using hi
        replace hi := Lib.hid hi
        replace hh := Lib.hid hh
        go_enter Try.func65, Try.ntmps65
        go_upto_region 1 with fail
        rw [show (w.alloc (tokO u 39)) = w1 from hw1.symm, ← hcb]
        replace hw1 := Lib.hid hw1
        replace hcb := Lib.hid hcb
        go_wp2_with (first
          | (go_at_call 47; have _t := hn; refine hn.out.mono ?_; clear _t hn; rintro _ w2 ⟨rfl, h2, t2⟩; have h2 := Lib.hid h2; have t2 := Lib.hid t2; have hH := Lib.hid (has_any (w := w2) ((l[at']?).getD zero)))
          | (go_at_call 46; have _t := hH; refine hH.out.mono ?_; clear _t hH; rintro _ w3 ⟨rfl, t3⟩; rw [hh.out]; have h3 := Lib.hid (h2.out.same t3); have t3 := Lib.hid (t2.out.trans t3 (fun _ h => .inl h)); clear e0 e1 e2 e3 e4; obtain ⟨e0, e1, e2, e3, e4⟩ := tokO_cells ((t3.out.block cb (Array.getElem?_eq_some_iff.1 hc1.out).1 id).trans hc1.out))
          | (go_at_call 56; refine (hC.out w3 h3.out (Nat.le_trans hB1.out t3.out.size)).mono ?_; rintro e w4 ⟨he, hP⟩; subst he; have hP := Lib.hid hP)
          | fail)
        go_ret
        exact ⟨rfl, by rw [hlay.out]; exact rpost_trans (tF.out.trans t3.out (fun _ h => h.elim)) (fun _ h => .inl h) hP.out⟩
end Go.Proofs.Ytcnjmkjfgghgoaa
end
