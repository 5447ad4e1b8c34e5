/- The document's trees of pointers in memory; its reading; fail. -/
import Derived.Test.YtcnjmkjfgghgoaaTrs
namespace Go.Tr
theorem withKey_node (key : ByteArray) (n : Int) (k t : ByteArray) (q : Bool) (l : Int) (ks : List T) : (T.node n k t q l ks).withKey key = .node n key t q l ks := rfl
def Res.key (key : ByteArray) : Res T → Res T
  | .error x => .error x
  | .ok (t, a, m) => .ok (t.withKey key, a, m)
theorem block_key (lp : Lp) (l : List Tok) (at' d made : Nat) (key : ByteArray) : blockW lp l at' d made key = Res.key key (blockW lp l at' d made ⟨#[]⟩) := by
  unfold blockW
  split
  · rfl
  · split
    · rfl
    · split
      · rfl
      · split <;> rfl
theorem value_key (lp : Lp) (l : List Tok) (is : Bool) (u : Tok) (at' d made : Nat) (key : ByteArray) : valueW lp l is u at' d made key = Res.key key (valueW lp l is u at' d made ⟨#[]⟩) := by
  unfold valueW
  split
  · exact block_key _ _ _ _ _ _
  · split <;> rfl
end Go.Tr
namespace Go.Proofs.Ytcnjmkjfgghgoaa
open Go.RowKit Go.Mp Go.Tr
set_option linter.unusedVariables false
set_option maxRecDepth 20000
abbrev ptr (b : Nat) : Value := .pointer (some ⟨b, 0, none⟩)
abbrev treeO (k : Int) (key text : ByteArray) (q : Bool) (ln : Int) (kv : Value) : Obj := .cells #[.int .i64 k, .string key, .string text, .bool q, .int .i64 ln, kv] 99
mutual
def PT (w : World) (B : Nat) : T → Nat → (Nat → Prop) → Prop
  | .node k key text q ln ks, b, F => ∃ kv bs F', w.heap[b]? = some (treeO k key text q ln kv) ∧ w.ownsRow B 71 1 kv bs.length (bs.map ptr) ∧ PTs w B ks bs F' ∧ F b ∧ (∀ g, kv.ownBlock = some g → F g) ∧ (∀ g, F' g → F g ∧ g ≠ b ∧ kv.ownBlock ≠ some g)
def PTs (w : World) (B : Nat) : List T → List Nat → (Nat → Prop) → Prop
  | [], [], _ => True
  | t :: ts, b :: bs, F => ∃ F1 F2, PT w B t b F1 ∧ PTs w B ts bs F2 ∧ (∀ g, F1 g → F g) ∧ (∀ g, F2 g → F g)
  | _, _, _ => False
end
section
variable {w w2 : World} {B : Nat} {S : Nat → Prop}
mutual
theorem PT.tch (tt : Tch S w w2) : ∀ (t : T) (b : Nat) (F : Nat → Prop), PT w B t b F → (∀ k, F k → ¬ S k) → PT w2 B t b F
  | .node k key text q ln ks, b, F, h, hn => by
    simp only [PT] at h ⊢
    obtain ⟨kv, bs, F', h1, h2, h3, h4, h5, h6⟩ := h
    exact ⟨kv, bs, F', (tt.block b (Array.getElem?_eq_some_iff.1 h1).1 (hn b h4)).trans h1, ownsRow_tch h2 tt (fun g hg => hn g (h5 g hg)), PTs.tch tt ks bs F' h3 (fun g hg => hn g (h6 g hg).1), h4, h5, h6⟩
theorem PTs.tch (tt : Tch S w w2) : ∀ (ts : List T) (bs : List Nat) (F : Nat → Prop), PTs w B ts bs F → (∀ k, F k → ¬ S k) → PTs w2 B ts bs F
  | [], [], F, h, hn => trivial
  | t :: ts, b :: bs, F, h, hn => by
    simp only [PTs] at h ⊢
    obtain ⟨F1, F2, h1, h2, h3, h4⟩ := h
    exact ⟨F1, F2, PT.tch tt t b F1 h1 (fun g hg => hn g (h3 g hg)), PTs.tch tt ts bs F2 h2 (fun g hg => hn g (h4 g hg)), h3, h4⟩
  | [], _ :: _, F, h, hn => by simp only [PTs] at h
  | _ :: _, [], F, h, hn => by simp only [PTs] at h
end
theorem PTs.len : ∀ (ts : List T) (bs : List Nat) (F : Nat → Prop), PTs w B ts bs F → bs.length = ts.length
  | [], [], F, h => rfl
  | t :: ts, b :: bs, F, h => by
    simp only [PTs] at h
    obtain ⟨F1, F2, h1, h2, h3, h4⟩ := h
    simp [PTs.len ts bs F2 h2]
  | [], _ :: _, F, h => by simp only [PTs] at h
  | _ :: _, [], F, h => by simp only [PTs] at h
theorem PTs.wide : ∀ (ts : List T) (bs : List Nat) (F F' : Nat → Prop), PTs w B ts bs F → (∀ g, F g → F' g) → PTs w B ts bs F'
  | [], [], F, F', h, hf => trivial
  | t :: ts, b :: bs, F, F', h, hf => by
    simp only [PTs] at h ⊢
    obtain ⟨F1, F2, h1, h2, h3, h4⟩ := h
    exact ⟨F1, F2, h1, h2, fun g hg => hf g (h3 g hg), fun g hg => hf g (h4 g hg)⟩
  | [], _ :: _, F, F', h, hf => by simp only [PTs] at h
  | _ :: _, [], F, F', h, hf => by simp only [PTs] at h
theorem PTs.snoc : ∀ (ts : List T) (bs : List Nat) (F F1 : Nat → Prop) (t : T) (b : Nat), PTs w B ts bs F → PT w B t b F1 → PTs w B (ts ++ [t]) (bs ++ [b]) (fun g => F g ∨ F1 g)
  | [], [], F, F1, t, b, h, h1 => by
    simp only [List.nil_append, PTs]
    exact ⟨F1, F1, h1, trivial, fun g hg => .inr hg, fun g hg => .inr hg⟩
  | t0 :: ts, b0 :: bs, F, F1, t, b, h, h1 => by
    simp only [List.cons_append, PTs] at h ⊢
    obtain ⟨G1, G2, g1, g2, g3, g4⟩ := h
    exact ⟨G1, _, g1, PTs.snoc ts bs G2 F1 t b g2 h1, fun g hg => .inl (g3 g hg), fun g hg => hg.imp (g4 g) id⟩
  | [], _ :: _, F, F1, t, b, h, h1 => by simp only [PTs] at h
  | _ :: _, [], F, F1, t, b, h, h1 => by simp only [PTs] at h
theorem PTs.at : ∀ (ts : List T) (bs : List Nat) (F : Nat → Prop), PTs w B ts bs F → ∀ (i : Nat) (t : T), ts[i]? = some t → ∃ b F1, bs[i]? = some b ∧ PT w B t b F1 ∧ ∀ g, F1 g → F g
  | [], [], F, h, i, t, ht => by simp at ht
  | t0 :: ts, b0 :: bs, F, h, i, t, ht => by
    simp only [PTs] at h
    obtain ⟨F1, F2, h1, h2, h3, h4⟩ := h
    cases i with
    | zero => simp at ht; subst ht; exact ⟨b0, F1, rfl, h1, h3⟩
    | succ i =>
      simp at ht
      obtain ⟨b, G, e, hp, hg⟩ := PTs.at ts bs F2 h2 i t ht
      exact ⟨b, G, by simpa using e, hp, fun g hh => h4 g (hg g hh)⟩
  | [], _ :: _, F, h, i, t, ht => by simp only [PTs] at h
  | _ :: _, [], F, h, i, t, ht => by simp only [PTs] at h
theorem PT.root : ∀ (t : T) (b : Nat) (F : Nat → Prop), PT w B t b F → F b ∧ b < w.heap.size
  | .node k key text q ln ks, b, F, h => by
    simp only [PT] at h
    obtain ⟨kv, bs, F', h1, h2, h3, h4, h5, h6⟩ := h
    exact ⟨h4, (Array.getElem?_eq_some_iff.1 h1).1⟩
/-- The key, as it lies in the root. -/
theorem PT.keyCell : ∀ (t : T) (b : Nat) (F : Nat → Prop), PT w B t b F → w.cell? ⟨b, 1, none⟩ = some (.string t.key) ∧ w.frozen? ⟨b, 1, none⟩ = false
  | .node k key text q ln ks, b, F, h => by
    simp only [PT] at h
    obtain ⟨kv, bs, F', h1, h2, h3, h4, h5, h6⟩ := h
    exact ⟨(cell_of_row _ _ 1 _ _ _ h1).trans rfl, frozen_of_row _ _ _ _ _ h1⟩
/-- Another key. -/
theorem PT.setKey (nk : ByteArray) : ∀ (t : T) (b : Nat) (F : Nat → Prop), PT w B t b F → PT (w.setCell ⟨b, 1, none⟩ (.string nk)) B (t.withKey nk) b F ∧ Tch (fun k => k = b) w (w.setCell ⟨b, 1, none⟩ (.string nk))
  | .node k key text q ln ks, b, F, h => by
    simp only [PT] at h
    obtain ⟨kv, bs, F', h1, h2, h3, h4, h5, h6⟩ := h
    have t1 : Tch (fun k => k = b) w (w.setCell ⟨b, 1, none⟩ (.string nk)) := Tch.setCell (S := fun k => k = b) w (p := ⟨b, 1, none⟩) rfl _
    refine ⟨?_, t1⟩
    simp only [T.withKey, PT]
    refine ⟨kv, bs, F', ?_, ownsRow_tch h2 t1 (fun g hg e => row_not h2 h1 (by decide) (e ▸ hg)), PTs.tch t1 ks bs F' h3 (fun g hg e => (h6 g hg).2.1 e), h4, h5, h6⟩
    simp [World.setCell, Array.getElem?_modify, h1]
end
/-- A reading of the document's, with no fault so far. -/
structure RR (w : World) (rb kb : Nat) (lv : Value) (l : List Tok) (at' made : Nat) : Prop where
  hb : w.heap[rb]? = some (.cells #[lv, .int .i64 at', .int .i64 0, .int .i64 0, .int .i64 made] 94)
  tk : TokS w kb lv l
  kl : kb < w.heap.size
  ne : kb ≠ rb
section
variable {w w2 : World} {rb kb at' made : Nat} {lv : Value} {l : List Tok} {S : Nat → Prop}
theorem RR.tch (h : RR w rb kb lv l at' made) (t : Tch S w w2) (h1 : ¬ S rb) (h2 : ¬ S kb) : RR w2 rb kb lv l at' made :=
  ⟨(t.block rb (Array.getElem?_eq_some_iff.1 h.hb).1 h1).trans h.hb, h.tk.keep (t.block kb h.kl h2), Nat.lt_of_lt_of_le h.kl t.size, h.ne⟩
theorem RR.cells (h : RR w rb kb lv l at' made) : w.cell? ⟨rb, 0, none⟩ = some lv ∧ w.cell? ⟨rb, 1, none⟩ = some (.int .i64 at') ∧ w.cell? ⟨rb, 2, none⟩ = some (.int .i64 0) ∧ w.cell? ⟨rb, 3, none⟩ = some (.int .i64 0) ∧ w.cell? ⟨rb, 4, none⟩ = some (.int .i64 made) :=
  ⟨(cell_of_row _ _ 0 _ _ _ h.hb).trans rfl, (cell_of_row _ _ 1 _ _ _ h.hb).trans rfl, (cell_of_row _ _ 2 _ _ _ h.hb).trans rfl, (cell_of_row _ _ 3 _ _ _ h.hb).trans rfl, (cell_of_row _ _ 4 _ _ _ h.hb).trans rfl⟩
theorem RR.free (h : RR w rb kb lv l at' made) (j : Nat) : w.frozen? ⟨rb, j, none⟩ = false := frozen_of_row _ _ _ _ _ h.hb
theorem RR.setAt (h : RR w rb kb lv l at' made) (a : Nat) : RR (w.setCell ⟨rb, 1, none⟩ (.int .i64 a)) rb kb lv l a made ∧ Tch (fun k => k = rb) w (w.setCell ⟨rb, 1, none⟩ (.int .i64 a)) := by
  have t1 : Tch (fun k => k = rb) w (w.setCell ⟨rb, 1, none⟩ (.int .i64 a)) := Tch.setCell (S := fun k => k = rb) w (p := ⟨rb, 1, none⟩) rfl _
  exact ⟨⟨by simp [World.setCell, Array.getElem?_modify, h.hb], h.tk.keep (t1.block kb h.kl h.ne), Nat.lt_of_lt_of_le h.kl t1.size, h.ne⟩, t1⟩
theorem RR.setMade (h : RR w rb kb lv l at' made) (a : Nat) : RR (w.setCell ⟨rb, 4, none⟩ (.int .i64 a)) rb kb lv l at' a ∧ Tch (fun k => k = rb) w (w.setCell ⟨rb, 4, none⟩ (.int .i64 a)) := by
  have t1 : Tch (fun k => k = rb) w (w.setCell ⟨rb, 4, none⟩ (.int .i64 a)) := Tch.setCell (S := fun k => k = rb) w (p := ⟨rb, 4, none⟩) rfl _
  exact ⟨⟨by simp [World.setCell, Array.getElem?_modify, h.hb], h.tk.keep (t1.block kb h.kl h.ne), Nat.lt_of_lt_of_le h.kl t1.size, h.ne⟩, t1⟩
end
/-- A reading with a fault. -/
def RBad (w : World) (rb : Nat) (lv : Value) (ln er : Int) : Prop := ∃ at' made : Nat, w.heap[rb]? = some (.cells #[lv, .int .i64 at', .int .i64 ln, .int .i64 er, .int .i64 made] 94)
theorem fail_any {w : World} {rb kb at' made : Nat} {lv : Value} {l : List Tok} (h : RR w rb kb lv l at' made) (ln er : Int) :
    Calls Try.prog 50 #[ptr rb, .int .i64 ln, .int .i64 er] w fun e w' => e = .returned (.pointer none) ∧ RBad w' rb lv ln er ∧ Tch (fun k => k = rb) w w' := by
  obtain ⟨c0, c1, c2, c3, c4⟩ := h.cells
  have f2 := h.free 2
  have f3 := h.free 3
  have fin : RBad ((w.setCell ⟨rb, 2, none⟩ (.int .i64 ln)).setCell ⟨rb, 3, none⟩ (.int .i64 er)) rb lv ln er := ⟨at', made, by simp [World.setCell, Array.getElem?_modify, h.hb]⟩
  have t : Tch (fun k => k = rb) w ((w.setCell ⟨rb, 2, none⟩ (.int .i64 ln)).setCell ⟨rb, 3, none⟩ (.int .i64 er)) := (Tch.setCell (S := fun k => k = rb) w (p := ⟨rb, 2, none⟩) rfl _).trans (Tch.setCell (S := fun k => k = rb) _ (p := ⟨rb, 3, none⟩) rfl _) (fun _ h => .inl h)
  replace h := Lib.hid h
  replace fin := Lib.hid fin
  replace t := Lib.hid t
  go_enter Try.func50, Try.ntmps50
  go_wp2
  go_ret
  exact ⟨rfl, fin.out, t.out⟩
end Go.Proofs.Ytcnjmkjfgghgoaa
