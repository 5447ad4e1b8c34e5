/- The document's block, on what its value does. -/
import Derived.Test.YtcnjmkjfgghgoaaZt28
import Derived.Test.YtcnjmkjfgghgoaaZt3
section

namespace Go.Tr
def kyOf (kind : Int) (u : Tok) : ByteArray := if kind = 3 then u.text else ⟨#[]⟩
theorem loop_step {l : List Tok} {at' : Nat} {u : Tok} {kind col : Int} (h : l[at']? = some u) (hn : u.kind = kind ∧ u.col = col) (g d made : Nat) {acc : List T} (ht : kind = 3 → (acc.any fun k => decide (k.key = u.text)) = false) :
    loop l (g + 1) kind col at' d made acc = match valueW (loop l g) l (isVal kind u ((l[at' + 1]?).getD zero)) u (at' + 1) (d + 1) made (kyOf kind u) with
    | .error e => .error e
    | .ok (v, at2, made2) => loop l g kind col at2 d made2 (acc ++ [v]) := by
  conv => lhs; unfold loop
  rw [h]; simp only [if_pos hn]
  rw [if_neg (by rintro ⟨h1, h2⟩; rw [ht h1] at h2; cases h2)]
  rfl
end Go.Tr
namespace Go.Proofs.Ytcnjmkjfgghgoaa
open Go.RowKit Go.Mp Go.Tr
set_option linter.unusedVariables false
set_option maxRecDepth 100000
set_option maxHeartbeats 4000000
/-- What holds at a round's head. -/
structure BL (w0 w : World) (B rb kb xb tb : Nat) (lv : Value) (l : List Tok) (t : Tok) (kd : Int) (at' made : Nat) (acc : List T) (bs : List Nat) (kv : Value) (Fk : Nat → Prop) : Prop where
  rr : RR w rb kb lv l at' made
  x : w.heap[xb]? = some (treeO kd ⟨#[]⟩ ⟨#[]⟩ false t.line kv)
  row : w.ownsRow B 71 1 kv bs.length (bs.map ptr)
  pts : PTs w B acc bs Fk
  tok : w.heap[tb]? = some (tokO t 48)
  fk : ∀ g, Fk g → w0.heap.size ≤ g ∧ g < w.heap.size ∧ g ≠ xb ∧ g ≠ tb ∧ kv.ownBlock ≠ some g
  own : ∀ g, kv.ownBlock = some g → w0.heap.size ≤ g
  t : Tch (fun k => k = rb) w0 w
  xt : xb ≠ tb ∧ w0.heap.size ≤ xb ∧ w0.heap.size ≤ tb ∧ rb < w0.heap.size ∧ kb < w0.heap.size
section
variable {w0 w w2 : World} {B rb kb xb tb at' made : Nat} {lv kv : Value} {l : List Tok} {t : Tok} {kd : Int} {acc : List T} {bs : List Nat} {Fk : Nat → Prop}
theorem BL.no (h : BL w0 w B rb kb xb tb lv l t kd at' made acc bs kv Fk) (tt : Tch No w w2) : BL w0 w2 B rb kb xb tb lv l t kd at' made acc bs kv Fk :=
  ⟨h.rr.tch tt id id, (tt.block xb (Array.getElem?_eq_some_iff.1 h.x).1 id).trans h.x, ownsRow_tch h.row tt (fun _ _ h => h), h.pts.tch tt _ _ _ (fun _ _ h => h), (tt.block tb (Array.getElem?_eq_some_iff.1 h.tok).1 id).trans h.tok, fun g hg => ⟨(h.fk g hg).1, Nat.lt_of_lt_of_le (h.fk g hg).2.1 tt.size, (h.fk g hg).2.2⟩, h.own, h.t.trans tt (fun _ h => h.elim), h.xt⟩
/-- The reading went on. -/
theorem BL.went {at2 made2 : Nat} (h : BL w0 w B rb kb xb tb lv l t kd at' made acc bs kv Fk) (tt : Tch (fun k => k = rb) w w2) (hr : RR w2 rb kb lv l at2 made2) : BL w0 w2 B rb kb xb tb lv l t kd at2 made2 acc bs kv Fk := by
  have x1 := h.xt
  have n1 : xb ≠ rb := by omega
  have n2 : tb ≠ rb := by omega
  refine ⟨hr, (tt.block xb (Array.getElem?_eq_some_iff.1 h.x).1 n1).trans h.x, ownsRow_tch h.row tt (fun g hg e => ?_), h.pts.tch tt _ _ _ (fun g hg e => ?_), (tt.block tb (Array.getElem?_eq_some_iff.1 h.tok).1 n2).trans h.tok, fun g hg => ⟨(h.fk g hg).1, Nat.lt_of_lt_of_le (h.fk g hg).2.1 tt.size, (h.fk g hg).2.2⟩, h.own, h.t.trans tt (fun _ h => .inl h), h.xt⟩
  · have := h.own g hg; omega
  · have := (h.fk g hg).1; omega
theorem BL.xcells (h : BL w0 w B rb kb xb tb lv l t kd at' made acc bs kv Fk) : w.cell? ⟨xb, 5, none⟩ = some kv ∧ w.frozen? ⟨xb, 5, none⟩ = false :=
  ⟨(cell_of_row _ _ 5 _ _ _ h.x).trans rfl, frozen_of_row _ _ _ _ _ h.x⟩
theorem BL.kid (h : BL w0 w B rb kb xb tb lv l t kd at' made acc bs kv Fk) {i : Nat} {v : T} (hv : acc[i]? = some v) : ∃ g cap b, kv = .slice (some ⟨g, 0, none⟩) acc.length cap ∧ w.cell? ⟨g, i, none⟩ = some (ptr b) ∧ w.cell? ⟨b, 1, none⟩ = some (.string v.key) := by
  obtain ⟨b, F1, hb, hp, _⟩ := PTs.at _ _ _ h.pts i v hv
  obtain ⟨ko, kc, e⟩ := ownsRow_shape h.row
  have hr := h.row
  rw [e] at hr
  obtain ⟨g, e2, _, _, c, _⟩ := ownsRow_cell hr (j := i) (u := ptr b) (by simp [hb])
  refine ⟨g, kc, b, by rw [e, e2, PTs.len _ _ _ h.pts], c, (PT.keyCell v b F1 hp).1⟩
/-- The tree that it has become. -/
theorem BL.tree (h : BL w0 w B rb kb xb tb lv l t kd at' made acc bs kv Fk) : PT w B (.node kd ⟨#[]⟩ ⟨#[]⟩ false t.line acc) xb (fun g => g = xb ∨ kv.ownBlock = some g ∨ Fk g) ∧ ∀ g, (g = xb ∨ kv.ownBlock = some g ∨ Fk g) → w0.heap.size ≤ g ∧ g < w.heap.size := by
  refine ⟨?_, fun g hg => ?_⟩
  · unfold PT
    exact ⟨kv, bs, Fk, h.x, h.row, h.pts, .inl rfl, fun g hg => .inr (.inl hg), fun g hg => ⟨.inr (.inr hg), (h.fk g hg).2.2.1, (h.fk g hg).2.2.2.2⟩⟩
  · rcases hg with hg | hg | hg
    · subst hg; exact ⟨h.xt.2.1, (Array.getElem?_eq_some_iff.1 h.x).1⟩
    · exact ⟨h.own g hg, (ownsRow_ge h.row hg).2⟩
    · exact ⟨(h.fk g hg).1, (h.fk g hg).2.1⟩
/-- A kid more. -/
theorem BL.push {v : T} {b : Nat} {Fv : Nat → Prop} {w3 : World} {kv2 : Value} (h : BL w0 w B rb kb xb tb lv l t kd at' made acc bs kv Fk) (hv : PT w B v b Fv) (hf : ∀ g, Fv g → w0.heap.size ≤ g ∧ g ≠ xb ∧ g ≠ tb ∧ kv.ownBlock ≠ some g ∧ g < w.heap.size)
    (row : w3.ownsRow B 71 1 kv2 (bs.length + 1) (bs.map ptr ++ [ptr b])) (tt : Tch (fun k => kv.ownBlock = some k) w w3) (hloc : ∀ g, kv2.ownBlock = some g → kv.ownBlock = some g ∨ w.heap.size ≤ g) :
    w3.cell? ⟨xb, 5, none⟩ = some kv ∧ w3.frozen? ⟨xb, 5, none⟩ = false ∧ BL w0 (w3.setCell ⟨xb, 5, none⟩ kv2) B rb kb xb tb lv l t kd at' made (acc ++ [v]) (bs ++ [b]) kv2 (fun g => Fk g ∨ Fv g) := by
  have hx1 : kv.ownBlock ≠ some xb := row_not h.row h.x (by decide)
  have hx3 : w3.heap[xb]? = some (treeO kd ⟨#[]⟩ ⟨#[]⟩ false t.line kv) := (tt.block xb (Array.getElem?_eq_some_iff.1 h.x).1 hx1).trans h.x
  have hx2 : kv2.ownBlock ≠ some xb := row_not row hx3 (by decide)
  have t3 : Tch (fun k => k = xb) w3 (w3.setCell ⟨xb, 5, none⟩ kv2) := Tch.setCell (S := fun k => k = xb) w3 (p := ⟨xb, 5, none⟩) rfl _
  have ta : Tch (fun k => kv.ownBlock = some k ∨ k = xb) w (w3.setCell ⟨xb, 5, none⟩ kv2) := (tt.mono (fun _ h => .inl h)).trans t3 (fun _ h => .inl (.inr h))
  have x1 := h.xt
  have nrb : ¬ (kv.ownBlock = some rb ∨ rb = xb) := by
    rintro (e | e)
    · have := h.own rb e; omega
    · omega
  have nkb : ¬ (kv.ownBlock = some kb ∨ kb = xb) := by
    rintro (e | e)
    · have := h.own kb e; omega
    · omega
  refine ⟨(cell_of_row _ _ 5 _ _ _ hx3).trans rfl, frozen_of_row _ _ _ _ _ hx3, h.rr.tch ta nrb nkb, by simp [World.setCell, Array.getElem?_modify, hx3], ?_, ?_, ?_, fun g hg => ?_, fun g hg => ?_, ?_, h.xt⟩
  · have := ownsRow_tch row t3 (fun g hg e => hx2 (e ▸ hg))
    simpa using this
  · refine PTs.tch ta _ _ _ (PTs.snoc _ _ _ _ _ _ h.pts hv) (fun g hg e => ?_)
    rcases hg with hg | hg
    · rcases e with e | e
      · exact (h.fk g hg).2.2.2.2 e
      · exact (h.fk g hg).2.2.1 e
    · rcases e with e | e
      · exact (hf g hg).2.2.2.1 e
      · exact (hf g hg).2.1 e
  · refine (ta.block tb (Array.getElem?_eq_some_iff.1 h.tok).1 (fun e => ?_)).trans h.tok
    rcases e with e | e
    · exact row_not h.row h.tok (by decide) e
    · exact h.xt.1 e.symm
  · have hs := ta.size
    rcases hg with hg | hg
    · refine ⟨(h.fk g hg).1, by have := (h.fk g hg).2.1; omega, (h.fk g hg).2.2.1, (h.fk g hg).2.2.2.1, fun e => ?_⟩
      rcases hloc g e with h1 | h1
      · exact (h.fk g hg).2.2.2.2 h1
      · have := (h.fk g hg).2.1; omega
    · refine ⟨(hf g hg).1, by have := (hf g hg).2.2.2.2; omega, (hf g hg).2.1, (hf g hg).2.2.1, fun e => ?_⟩
      rcases hloc g e with h1 | h1
      · exact (hf g hg).2.2.2.1 h1
      · have := (hf g hg).2.2.2.2; omega
  · rcases hloc g hg with h1 | h1
    · exact h.own g h1
    · exact Nat.le_trans h.t.size h1
  · refine h.t.trans ta (fun g hg => .inr ?_)
    rcases hg with e | e
    · exact h.own g e
    · rw [e]; exact h.xt.2.1
end
end Go.Proofs.Ytcnjmkjfgghgoaa
end
