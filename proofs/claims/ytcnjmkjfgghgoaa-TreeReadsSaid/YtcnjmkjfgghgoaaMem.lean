/- Tokens and nodes in memory; a reader. -/
import Derived.Test.YtcnjmkjfgghgoaaBase
import Derived.Test.YtcnjmkjfgghgoaaPl
import Derived.Test.YtcnjmkjfgghgoaaProg
namespace Go.Proofs.Ytcnjmkjfgghgoaa
open Go.RowKit Go.Mp Go.Tr
set_option linter.unusedVariables false
noncomputable abbrev sk : KeyOf Try.prog 9 ByteArray := strKey Try.underlying9
abbrev tokA (t : Tok) : Value := .agg #[.int .i64 t.kind, .int .i64 t.line, .int .i64 t.col, .string t.text, .bool t.quoted]
abbrev tokO (t : Tok) (e : TypeId) : Obj := .cells #[.int .i64 t.kind, .int .i64 t.line, .int .i64 t.col, .string t.text, .bool t.quoted] e
def TokS (w : World) (kb : Nat) (v : Value) (l : List Tok) : Prop := ∃ ao cap, v = .slice ao l.length cap ∧ ∀ i t, l[i]? = some t → ∃ off, ao = some ⟨kb, off, none⟩ ∧ w.cell? ⟨kb, off + i * 5, none⟩ = some (.int .i64 t.kind) ∧ w.cell? ⟨kb, off + i * 5 + 1, none⟩ = some (.int .i64 t.line) ∧ w.cell? ⟨kb, off + i * 5 + 2, none⟩ = some (.int .i64 t.col) ∧ w.cell? ⟨kb, off + i * 5 + 3, none⟩ = some (.string t.text) ∧ w.cell? ⟨kb, off + i * 5 + 4, none⟩ = some (.bool t.quoted)
theorem TokS.keep {w w' : World} {kb : Nat} {v : Value} {l : List Tok} (h : TokS w kb v l) (hb : w'.heap[kb]? = w.heap[kb]?) : TokS w' kb v l := by
  obtain ⟨ao, cap, hv, h⟩ := h
  refine ⟨ao, cap, hv, fun i t ht => ?_⟩
  obtain ⟨off, h0, h1, h2, h3, h4, h5⟩ := h i t ht
  have hc : ∀ j, w'.cell? ⟨kb, j, none⟩ = w.cell? ⟨kb, j, none⟩ := fun j => World.cell?_of_block (w := w) hb
  exact ⟨off, h0, (hc _).trans h1, (hc _).trans h2, (hc _).trans h3, (hc _).trans h4, (hc _).trans h5⟩
theorem TokS.at {w : World} {kb n cap : Nat} {ao : Option Addr} {l : List Tok} (h : TokS w kb (.slice ao n cap) l) {i : Nat} {t : Tok} (ht : l[i]? = some t) :
    ∃ off, ao = some ⟨kb, off, none⟩ ∧ n = l.length ∧ w.cell? ⟨kb, off + i * 5, none⟩ = some (.int .i64 t.kind) ∧ w.cell? ⟨kb, off + i * 5 + 1, none⟩ = some (.int .i64 t.line) ∧ w.cell? ⟨kb, off + i * 5 + 2, none⟩ = some (.int .i64 t.col) ∧ w.cell? ⟨kb, off + i * 5 + 3, none⟩ = some (.string t.text) ∧ w.cell? ⟨kb, off + i * 5 + 4, none⟩ = some (.bool t.quoted) := by
  obtain ⟨ao', cap', hv, h⟩ := h
  cases hv
  obtain ⟨off, h0, h1⟩ := h i t ht
  exact ⟨off, h0, rfl, h1⟩
/-! ### nodes -/
abbrev icells (l : List Int) : List Value := l.map (Value.int .i64)
def nc (x : Nd × Value) : List Value := [.int .i64 x.1.kind, .string x.1.key, .string x.1.text, .bool x.1.quoted, .int .i64 x.1.line, x.2]
def ncs (R : List (Nd × Value)) : List Value := R.flatMap nc
theorem ncs_length (R : List (Nd × Value)) : (ncs R).length = R.length * 6 := by
  induction R with
  | nil => rfl
  | cons x R ih => simp only [ncs, List.flatMap_cons, List.length_append, List.length_cons] at ih ⊢; simp only [nc, List.length_cons, List.length_nil]; omega
theorem ncs_append (R S : List (Nd × Value)) : ncs (R ++ S) = ncs R ++ ncs S := List.flatMap_append
theorem ncs_at {R : List (Nd × Value)} {i : Nat} {x : Nd × Value} (hx : R[i]? = some x) (j : Nat) (hj : j < 6) : (ncs R)[i * 6 + j]? = (nc x)[j]? := by
  induction R generalizing i with
  | nil => simp at hx
  | cons a R ih =>
    have e : ncs (a :: R) = nc a ++ ncs R := rfl
    have la : (nc a).length = 6 := rfl
    cases i with
    | zero =>
      simp at hx; subst hx
      rw [e, List.getElem?_append_left (by rw [la]; omega)]
      simp
    | succ i =>
      simp at hx
      rw [e, List.getElem?_append_right (by rw [la]; omega), ← ih hx, la]
      congr 1
      omega
theorem ncs_set {R : List (Nd × Value)} {i : Nat} {x x' : Nd × Value} (hx : R[i]? = some x) (j : Nat) (hj : j < 6) {u : Value} (hu : nc x' = (nc x).set j u) : (ncs R).set (i * 6 + j) u = ncs (R.set i x') := by
  induction R generalizing i with
  | nil => simp at hx
  | cons a R ih =>
    have e : ncs (a :: R) = nc a ++ ncs R := rfl
    have la : (nc a).length = 6 := rfl
    cases i with
    | zero =>
      simp at hx; subst hx
      have e2 : ncs ((a :: R).set 0 x') = nc x' ++ ncs R := rfl
      rw [e, e2, hu, List.set_append_left _ _ (by rw [la]; omega)]
      simp
    | succ i =>
      simp at hx
      have e2 : ncs ((a :: R).set (i + 1) x') = nc a ++ ncs (R.set i x') := rfl
      rw [e, e2, ← ih hx, List.set_append_right _ _ (by rw [la]; omega), la]
      congr 2
      omega
structure NM (w : World) (B : Nat) (F : Nat → Prop) (v : Value) (R : List (Nd × Value)) : Prop where
  row : w.ownsRow B 58 6 v R.length (ncs R)
  kid : ∀ (i : Nat) (x : Nd × Value), R[i]? = some x → w.ownsRow B 3 1 x.2 x.1.kids.length (icells x.1.kids)
  apart : ∀ (i j : Nat) (x y : Nd × Value), i ≠ j → R[i]? = some x → R[j]? = some y → ∀ g, x.2.ownBlock = some g → y.2.ownBlock ≠ some g
  own : (∀ g, v.ownBlock = some g → F g) ∧ ∀ (i : Nat) (x : Nd × Value), R[i]? = some x → ∀ g, x.2.ownBlock = some g → F g
  lt : ∀ k, F k → B ≤ k ∧ k < w.heap.size
section
variable {w w2 : World} {B : Nat} {F S : Nat → Prop} {v v' kv' : Value} {R : List (Nd × Value)}
theorem NM.tch (h : NM w B F v R) (t : Tch S w w2) (hn : ∀ k, F k → ¬ S k) : NM w2 B F v R :=
  ⟨ownsRow_tch h.row t (fun g hg => hn g (h.own.1 g hg)), fun i x hx => ownsRow_tch (h.kid i x hx) t (fun g hg => hn g (h.own.2 i x hx g hg)), h.apart, h.own, fun k hk => ⟨(h.lt k hk).1, Nat.lt_of_lt_of_le (h.lt k hk).2 t.size⟩⟩
theorem NM.wide {F' : Nat → Prop} (h : NM w B F v R) (hf : ∀ k, F k → F' k) (hl : ∀ k, F' k → B ≤ k ∧ k < w.heap.size) : NM w B F' v R :=
  ⟨h.row, h.kid, h.apart, ⟨fun g hg => hf g (h.own.1 g hg), fun i x hx g hg => hf g (h.own.2 i x hx g hg)⟩, hl⟩
/-- One node more. -/
theorem NM.push (h : NM w B F v R) {n : Nd} (hk : n.kids = []) (row : w2.ownsRow B 58 6 v' (R.length + 1) (ncs R ++ nc (n, .slice none 0 0))) (t : Tch (fun k => v.ownBlock = some k) w w2) (hloc : ∀ g, v'.ownBlock = some g → v.ownBlock = some g ∨ w.heap.size ≤ g) :
    NM w2 B (fun k => F k ∨ v'.ownBlock = some k) v' (R ++ [(n, .slice none 0 0)]) := by
  have hat : ∀ (i : Nat) (x : Nd × Value), (R ++ [(n, (Value.slice none 0 0))])[i]? = some x → R[i]? = some x ∨ x = (n, .slice none 0 0) := fun i x hx => by
    by_cases hi : i < R.length
    · rw [List.getElem?_append_left hi] at hx; exact .inl hx
    · rw [List.getElem?_append_right (by omega)] at hx
      have := List.mem_of_getElem? hx
      simp at this; exact .inr this
  refine ⟨?_, fun i x hx => ?_, fun i j x y hij hx hy g hg => ?_, ⟨fun g hg => .inr hg, fun i x hx g hg => ?_⟩, fun k hk => ?_⟩
  · rw [ncs_append, List.length_append]; simpa [ncs] using row
  · rcases hat i x hx with hx | rfl
    · exact ownsRow_tch (h.kid i x hx) t (fun g hg he => rows_apart h.row (h.kid i x hx) (by decide) g he hg)
    · simp only [hk]; exact World.ownsRow_nil _ _ _ _
  · rcases hat i x hx with hx | rfl
    · rcases hat j y hy with hy | rfl
      · exact h.apart i j x y hij hx hy g hg
      · intro he; cases he
    · cases hg
  · rcases hat i x hx with hx | rfl
    · exact .inl (h.own.2 i x hx g hg)
    · cases hg
  · rcases hk with hk | hk
    · exact ⟨(h.lt k hk).1, Nat.lt_of_lt_of_le (h.lt k hk).2 t.size⟩
    · exact ownsRow_ge row hk
/-- What a node holds. -/
theorem NM.at (h : NM w B F v R) {i : Nat} {x : Nd × Value} (hx : R[i]? = some x) : ∃ g cap, v = .slice (some ⟨g, 0, none⟩) R.length cap ∧ ∀ j u, j < 6 → (nc x)[j]? = some u → w.cell? ⟨g, i * 6 + j, none⟩ = some u ∧ w.frozen? ⟨g, i * 6 + j, none⟩ = false := by
  obtain ⟨ao, cap, rfl⟩ := ownsRow_shape h.row
  obtain ⟨g, rfl, _⟩ := ownsRow_cell h.row (j := i * 6 + 0) (u := .int .i64 x.1.kind) (by rw [ncs_at hx 0 (by omega)]; rfl)
  refine ⟨g, cap, rfl, fun j u hj hu => ?_⟩
  obtain ⟨g', hg, _, _, h1, h2⟩ := ownsRow_cell h.row (j := i * 6 + j) (u := u) (by rw [ncs_at hx j hj, hu])
  cases hg
  exact ⟨h1, h2⟩
/-- A store into a node that leaves its kids. -/
theorem NM.store {g cap : Nat} (h : NM w B F (.slice (some ⟨g, 0, none⟩) R.length cap) R) {i : Nat} {x x' : Nd × Value} (hx : R[i]? = some x) {j : Nat} (hj : j < 6) {u : Value} (hu : nc x' = (nc x).set j u) (h2 : x'.2 = x.2) (hk : x'.1.kids = x.1.kids) :
    NM (w.setCell ⟨g, i * 6 + j, none⟩ u) B F (.slice (some ⟨g, 0, none⟩) R.length cap) (R.set i x') := by
  have hil := (List.getElem?_eq_some_iff.1 hx).1
  have hat : ∀ (j : Nat) (y : Nd × Value), (R.set i x')[j]? = some y → ∃ z : Nd × Value, R[j]? = some z ∧ z.2 = y.2 ∧ z.1.kids = y.1.kids := fun j y hy => by
    by_cases hij : i = j
    · subst hij
      rw [List.getElem?_set_self hil] at hy
      cases hy
      exact ⟨x, hx, h2.symm, hk.symm⟩
    · rw [List.getElem?_set_ne hij] at hy
      exact ⟨y, hy, rfl, rfl⟩
  refine ⟨?_, fun a y hy => ?_, fun a b y z hab hy hz g' hg => ?_, ⟨h.own.1, fun a y hy g' hg => ?_⟩, fun k hk => ⟨(h.lt k hk).1, by simpa [World.setCell] using (h.lt k hk).2⟩⟩
  · rw [List.length_set, ← ncs_set hx j hj hu]
    exact (h.row.stored (i * 6 + j) u).1
  · obtain ⟨z, hz, e1, e2⟩ := hat a y hy
    rw [← e1, ← e2]
    exact ownsRow_setCell_other (a := ⟨g, i * 6 + j, none⟩) (h.kid a z hz) (fun he => rows_apart (h.kid a z hz) h.row (by decide) _ he rfl) u
  · obtain ⟨y', hy', e1, _⟩ := hat a y hy
    obtain ⟨z', hz', e2, _⟩ := hat b z hz
    rw [← e2]
    exact h.apart a b y' z' hab hy' hz' g' (by rw [e1]; exact hg)
  · obtain ⟨z, hz, e1, _⟩ := hat a y hy
    exact h.own.2 a z hz g' (by rw [e1]; exact hg)
/-- A node's kids anew: the list was appended to, and is laid into the node. -/
theorem NM.setKid {g cap : Nat} (h : NM w B F (.slice (some ⟨g, 0, none⟩) R.length cap) R) {i : Nat} {x : Nd × Value} (hx : R[i]? = some x) {ks' : List Int} (row2 : w2.ownsRow B 3 1 kv' ks'.length (icells ks')) (t : Tch (fun k => x.2.ownBlock = some k) w w2) (hloc : ∀ g, kv'.ownBlock = some g → x.2.ownBlock = some g ∨ w.heap.size ≤ g) :
    w2.cell? ⟨g, i * 6 + 5, none⟩ = some x.2 ∧ w2.frozen? ⟨g, i * 6 + 5, none⟩ = false ∧ NM (w2.setCell ⟨g, i * 6 + 5, none⟩ kv') B (fun k => F k ∨ kv'.ownBlock = some k) (.slice (some ⟨g, 0, none⟩) R.length cap) (R.set i ({ x.1 with kids := ks' }, kv')) := by
  have hil := (List.getElem?_eq_some_iff.1 hx).1
  have row3 : w2.ownsRow B 58 6 (.slice (some ⟨g, 0, none⟩) R.length cap) R.length (ncs R) := ownsRow_tch h.row t (fun g' hg he => rows_apart h.row (h.kid i x hx) (by decide) g' hg he)
  obtain ⟨g', hg, _, _, c1, c2⟩ := ownsRow_cell row3 (j := i * 6 + 5) (u := x.2) (by rw [ncs_at hx 5 (by omega)]; rfl)
  cases hg
  refine ⟨c1, c2, ⟨?_, fun a y hy => ?_, fun a b y z hab hy hz g' hg => ?_, ⟨fun g' hg => .inl (h.own.1 g' hg), fun a y hy g' hg => ?_⟩, fun k hk => ?_⟩⟩
  · rw [List.length_set, ← ncs_set (x' := ({ x.1 with kids := ks' }, kv')) hx 5 (by omega) (u := kv') rfl]
    exact (row3.stored (i * 6 + 5) kv').1
  · by_cases hij : i = a
    · subst hij
      rw [List.getElem?_set_self hil] at hy
      cases hy
      exact ownsRow_setCell_other (a := ⟨g, i * 6 + 5, none⟩) row2 (fun he => rows_apart row2 row3 (by decide) _ he rfl) kv'
    · rw [List.getElem?_set_ne hij] at hy
      exact ownsRow_setCell_other (a := ⟨g, i * 6 + 5, none⟩) (ownsRow_tch (h.kid a y hy) t (fun g' hg he => h.apart i a x y hij hx hy g' he hg)) (fun he => rows_apart (h.kid a y hy) h.row (by decide) _ he rfl) kv'
  · have hne : ∀ (a : Nat) (y : Nd × Value), i ≠ a → R[a]? = some y → ∀ g', kv'.ownBlock = some g' → y.2.ownBlock ≠ some g' := fun a y ha hy g' hg hy' => by
      rcases hloc g' hg with h1 | h1
      · exact h.apart i a x y ha hx hy g' h1 hy'
      · have := (h.lt g' (h.own.2 a y hy g' hy')).2; omega
    by_cases hia : i = a
    · subst hia
      rw [List.getElem?_set_self hil] at hy
      cases hy
      rw [List.getElem?_set_ne hab] at hz
      exact hne b z hab hz g' hg
    · rw [List.getElem?_set_ne hia] at hy
      by_cases hib : i = b
      · subst hib
        rw [List.getElem?_set_self hil] at hz
        cases hz
        exact fun he => hne a y hia hy g' he hg
      · rw [List.getElem?_set_ne hib] at hz
        exact h.apart a b y z hab hy hz g' hg
  · by_cases hia : i = a
    · subst hia
      rw [List.getElem?_set_self hil] at hy
      cases hy
      exact .inr hg
    · rw [List.getElem?_set_ne hia] at hy
      exact .inl (h.own.2 a y hy g' hg)
  · rcases hk with hk | hk
    · exact ⟨(h.lt k hk).1, Nat.lt_of_lt_of_le (h.lt k hk).2 (by simpa [World.setCell] using t.size)⟩
    · exact ⟨(ownsRow_ge row2 hk).1, by simpa [World.setCell] using (ownsRow_ge row2 hk).2⟩
end
/-! ### a reader -/
structure RD (w : World) (B : Nat) (F : Nat → Prop) (b kb : Nat) (lv : Value) (l : List Tok) (at' : Nat) (v : Value) (R : List (Nd × Value)) : Prop where
  hb : w.heap[b]? = some (.cells #[lv, .int .i64 at', v] 89)
  nm : NM w B F v R
  fb : F b
  tk : TokS w kb lv l
  kl : kb < w.heap.size
  kn : ¬ F kb
def RdM (w : World) (B : Nat) (F : Nat → Prop) (b kb : Nat) (lv : Value) (l : List Tok) (at' : Nat) (N : List Nd) : Prop := ∃ v R, R.map (·.1) = N ∧ RD w B F b kb lv l at' v R
/-- What a call leaves. -/
def RPost (w : World) (B : Nat) (F : Nat → Prop) (b kb : Nat) (lv : Value) (l : List Tok) (at' : Nat) (N : List Nd) (w' : World) : Prop := ∃ F', RdM w' B F' b kb lv l at' N ∧ Tch F w w' ∧ ∀ k, F' k → F k ∨ w.heap.size ≤ k
section
variable {w w' w2 : World} {B b kb at' : Nat} {F S : Nat → Prop} {v lv : Value} {R : List (Nd × Value)} {l : List Tok} {N : List Nd}
theorem RD.tch (h : RD w B F b kb lv l at' v R) (t : Tch S w w') (hn : ∀ k, F k → ¬ S k) (hk : ¬ S kb) : RD w' B F b kb lv l at' v R :=
  ⟨(t.block b (h.nm.lt b h.fb).2 (hn b h.fb)).trans h.hb, h.nm.tch t hn, h.fb, h.tk.keep (t.block kb h.kl hk), Nat.lt_of_lt_of_le h.kl t.size, h.kn⟩
theorem RdM.tch (h : RdM w B F b kb lv l at' N) (t : Tch S w w') (hn : ∀ k, F k → ¬ S k) (hk : ¬ S kb) : RdM w' B F b kb lv l at' N := by
  obtain ⟨v, R, h1, h⟩ := h
  exact ⟨v, R, h1, h.tch t hn hk⟩
theorem RdM.same (h : RdM w B F b kb lv l at' N) (t : Tch No w w') : RdM w' B F b kb lv l at' N := h.tch t (fun _ _ h => h) id
theorem RdM.lt (h : RdM w B F b kb lv l at' N) : ∀ k, F k → B ≤ k ∧ k < w.heap.size := by
  obtain ⟨v, R, h1, h⟩ := h
  exact h.nm.lt
theorem RdM.kl (h : RdM w B F b kb lv l at' N) : kb < w.heap.size ∧ ¬ F kb := by
  obtain ⟨v, R, h1, h⟩ := h
  exact ⟨h.kl, h.kn⟩
theorem rpost_same (h : RdM w B F b kb lv l at' N) (t : Tch No w w') : RPost w B F b kb lv l at' N w' := ⟨F, h.same t, t.mono (fun _ h => h.elim), fun _ h => .inl h⟩
theorem rpost_trans {F1 : Nat → Prop} {at2 : Nat} {N2 : List Nd} (t1 : Tch F w w') (h1 : ∀ k, F1 k → F k ∨ w.heap.size ≤ k) (h2 : RPost w' B F1 b kb lv l at2 N2 w2) : RPost w B F b kb lv l at2 N2 w2 := by
  obtain ⟨F2, hM, t2, h2⟩ := h2
  refine ⟨F2, hM, t1.trans t2 h1, fun k hk => ?_⟩
  rcases h2 k hk with hk | hk
  · exact h1 k hk
  · exact .inr (Nat.le_trans t1.size hk)
/-- A block beside the reader stays. -/
theorem guest {F' : Nat → Prop} {k : Nat} {o : Obj} (hk : w.heap[k]? = some o) (hn : ¬ F k) (t : Tch F w w') (hf : ∀ k, F' k → F k ∨ w.heap.size ≤ k) : w'.heap[k]? = some o ∧ ¬ F' k := by
  have hl := (Array.getElem?_eq_some_iff.1 hk).1
  refine ⟨(t.block k hl hn).trans hk, fun h => ?_⟩
  rcases hf k h with h1 | h1
  · exact hn h1
  · omega
/-- The reader's own cells, written. -/
theorem RD.setAt (h : RD w B F b kb lv l at' v R) (at2 : Nat) : w.frozen? ⟨b, 1, none⟩ = false ∧ w.cell? ⟨b, 1, none⟩ = some (.int .i64 at') ∧ RD (w.setCell ⟨b, 1, none⟩ (.int .i64 at2)) B F b kb lv l at2 v R ∧ Tch F w (w.setCell ⟨b, 1, none⟩ (.int .i64 at2)) := by
  have t : Tch (fun k => k = b) w (w.setCell ⟨b, 1, none⟩ (.int .i64 at2)) := Tch.setCell (S := fun k => k = b) w (p := ⟨b, 1, none⟩) rfl _
  have nb : v.ownBlock ≠ some b := row_not h.nm.row h.hb (by decide)
  have nk : ∀ (i : Nat) (x : Nd × Value), R[i]? = some x → x.2.ownBlock ≠ some b := fun i x hx => row_not (h.nm.kid i x hx) h.hb (by decide)
  refine ⟨frozen_of_row _ _ _ _ _ h.hb, (cell_of_row _ _ 1 _ _ _ h.hb).trans rfl, ⟨?_, ⟨?_, ?_, h.nm.apart, h.nm.own, fun k hk => ⟨(h.nm.lt k hk).1, Nat.lt_of_lt_of_le (h.nm.lt k hk).2 t.size⟩⟩, h.fb, h.tk.keep (t.block kb h.kl (fun e => h.kn (e ▸ h.fb))), Nat.lt_of_lt_of_le h.kl t.size, h.kn⟩, t.mono (fun k hk => by rw [hk]; exact h.fb)⟩
  · simp [World.setCell, Array.getElem?_modify, h.hb]
  · exact ownsRow_tch h.nm.row t (fun g hg he => nb (he ▸ hg))
  · exact fun i x hx => ownsRow_tch (h.nm.kid i x hx) t (fun g hg he => nk i x hx (he ▸ hg))
/-- The nodes changed, and laid into the reader. -/
theorem RD.setNodes (h : RD w B F b kb lv l at' v R) {v2 : Value} {R2 : List (Nd × Value)} {F2 : Nat → Prop} (t : Tch (fun k => F k ∧ k ≠ b) w w2) (hN : NM w2 B F2 v2 R2) (hf : ∀ k, F k → F2 k) (hf2 : ∀ k, F2 k → F k ∨ w.heap.size ≤ k) :
    w2.frozen? ⟨b, 2, none⟩ = false ∧ w2.cell? ⟨b, 2, none⟩ = some v ∧ RPost w B F b kb lv l at' (R2.map (·.1)) (w2.setCell ⟨b, 2, none⟩ v2) := by
  have hbl := (h.nm.lt b h.fb).2
  have hb2 : w2.heap[b]? = some (.cells #[lv, .int .i64 at', v] 89) := (t.block b hbl (fun e => e.2 rfl)).trans h.hb
  have t1 : Tch (fun k => k = b) w2 (w2.setCell ⟨b, 2, none⟩ v2) := Tch.setCell (S := fun k => k = b) w2 (p := ⟨b, 2, none⟩) rfl _
  have nb : v2.ownBlock ≠ some b := row_not hN.row hb2 (by decide)
  have nk : ∀ (i : Nat) (x : Nd × Value), R2[i]? = some x → x.2.ownBlock ≠ some b := fun i x hx => row_not (hN.kid i x hx) hb2 (by decide)
  have hkb : kb ≠ b := fun e => h.kn (e ▸ h.fb)
  have tF : Tch F w w2 := t.mono (fun k hk => hk.1)
  refine ⟨frozen_of_row _ _ _ _ _ hb2, (cell_of_row _ _ 2 _ _ _ hb2).trans rfl, F2, ⟨v2, R2, rfl, ⟨?_, ⟨?_, ?_, hN.apart, hN.own, fun k hk => ⟨(hN.lt k hk).1, Nat.lt_of_lt_of_le (hN.lt k hk).2 t1.size⟩⟩, hf b h.fb, ?_, ?_, ?_⟩⟩, tF.trans t1 (fun k hk => .inl (by rw [hk]; exact h.fb)), hf2⟩
  · simp [World.setCell, Array.getElem?_modify, hb2]
  · exact ownsRow_tch hN.row t1 (fun g hg he => nb (he ▸ hg))
  · exact fun i x hx => ownsRow_tch (hN.kid i x hx) t1 (fun g hg he => nk i x hx (he ▸ hg))
  · exact (h.tk.keep (tF.block kb h.kl h.kn)).keep (t1.block kb (Nat.lt_of_lt_of_le h.kl t.size) hkb)
  · exact Nat.lt_of_lt_of_le (Nat.lt_of_lt_of_le h.kl t.size) t1.size
  · exact fun hk => by
      rcases hf2 kb hk with h1 | h1
      · exact h.kn h1
      · have := h.kl; omega
end
end Go.Proofs.Ytcnjmkjfgghgoaa
