/- A node whose kids are being read; what stands beside the reader. -/
import Derived.Test.YtcnjmkjfgghgoaaBlock
namespace Go.Tr
def openN (N : List Nd) (kd : Int) (key : ByteArray) (ln : Int) (acc : List T) : List Nd := N ++ ⟨kd, key, ⟨#[]⟩, false, ln, kidAts (N.length + 1) acc⟩ :: lays (N.length + 1) acc
theorem openN_length (N : List Nd) (kd : Int) (key : ByteArray) (ln : Int) (acc : List T) : (openN N kd key ln acc).length = N.length + 1 + sizes acc := by
  unfold openN
  rw [List.length_append, List.length_cons, lays_length]; omega
theorem openN_at (N : List Nd) (kd : Int) (key : ByteArray) (ln : Int) (acc : List T) (M : List Nd) : (openN N kd key ln acc ++ M)[N.length]? = some ⟨kd, key, ⟨#[]⟩, false, ln, kidAts (N.length + 1) acc⟩ := by
  unfold openN
  rw [List.append_assoc, List.getElem?_append_right (Nat.le_refl _)]
  simp
theorem openN_kid (N : List Nd) (kd : Int) (key : ByteArray) (ln : Int) (acc : List T) (v : T) :
    (openN N kd key ln acc ++ lay (openN N kd key ln acc).length v).set N.length ⟨kd, key, ⟨#[]⟩, false, ln, kidAts (N.length + 1) acc ++ [((openN N kd key ln acc).length : Int)]⟩ = openN N kd key ln (acc ++ [v]) := by
  rw [openN_length]
  unfold openN
  rw [List.append_assoc, List.set_append_right _ _ (Nat.le_refl _), kidAts_append, lays_append]
  simp [kidAts, lays]
theorem openN_nil (N : List Nd) (kd : Int) (key : ByteArray) (ln : Int) : openN N kd key ln [] = N ++ [⟨kd, key, ⟨#[]⟩, false, ln, []⟩] := by
  simp [openN, kidAts, lays]
theorem openN_lay (N : List Nd) (kd : Int) (key : ByteArray) (ln : Int) (acc : List T) : openN N kd key ln acc = N ++ lay N.length (.node kd key ⟨#[]⟩ false ln acc) := by
  simp [openN, lay]
theorem size_pos : ∀ t : T, 1 ≤ t.size
  | .node _ _ _ _ _ ks => by simp only [T.size]; omega
theorem le_sizes (acc : List T) : acc.length ≤ sizes acc := by
  induction acc with
  | nil => exact Nat.le_refl _
  | cons t ts ih => have := size_pos t; simp only [List.length_cons, sizes]; omega
end Go.Tr
namespace Go.Proofs.Ytcnjmkjfgghgoaa
open Go.RowKit Go.Mp Go.Tr
set_option linter.unusedVariables false
theorem RdM.kidOf {w : World} {B b kb at' : Nat} {F : Nat → Prop} {lv : Value} {l : List Tok} {N : List Nd} (h : RdM w B F b kb lv l at' N) {i : Nat} {n : Nd} (hn : N[i]? = some n) :
    ∃ g cap m kv, m = N.length ∧ i < m ∧ g ≠ b ∧ w.cell? ⟨b, 2, none⟩ = some (.slice (some ⟨g, 0, none⟩) m cap) ∧ w.cell? ⟨g, i * 6 + 5, none⟩ = some kv ∧ w.ownsRow B 3 1 kv n.kids.length (icells n.kids) ∧
      (∀ w2 kv' (k : Int), w2.ownsRow B 3 1 kv' (n.kids.length + 1) (icells n.kids ++ [.int .i64 k]) → Tch (fun z => kv.ownBlock = some z) w w2 → (∀ z, kv'.ownBlock = some z → kv.ownBlock = some z ∨ w.heap.size ≤ z) →
        w2.cell? ⟨g, i * 6 + 5, none⟩ = some kv ∧ w2.frozen? ⟨g, i * 6 + 5, none⟩ = false ∧ w2.cell? ⟨b, 2, none⟩ = some (.slice (some ⟨g, 0, none⟩) m cap) ∧ RPost w B F b kb lv l at' (N.set i { n with kids := n.kids ++ [k] }) (w2.setCell ⟨g, i * 6 + 5, none⟩ kv')) := by
  obtain ⟨v, R, rfl, h⟩ := h
  rw [List.getElem?_map] at hn
  obtain ⟨x, hx, rfl⟩ : ∃ x, R[i]? = some x ∧ x.1 = n := by
    cases hr : R[i]? with
    | none => rw [hr] at hn; cases hn
    | some x => rw [hr] at hn; exact ⟨x, rfl, by simpa using hn⟩
  have hlen := (List.getElem?_eq_some_iff.1 hx).1
  obtain ⟨g, cap, rfl, hc⟩ := h.nm.at hx
  have hfg : F g := h.nm.own.1 g rfl
  have hgb : g ≠ b := fun e => row_not h.nm.row h.hb (by decide) (e ▸ rfl)
  refine ⟨g, cap, R.length, x.2, by simp, hlen, hgb, (cell_of_row _ _ 2 _ _ _ h.hb).trans rfl, (hc 5 _ (by omega) rfl).1, h.nm.kid i x hx, fun w2 kv' k row2 t hloc => ?_⟩
  obtain ⟨c1, c2, hN⟩ := h.nm.setKid hx (ks' := x.1.kids ++ [k]) (by simpa [icells] using row2) t hloc
  have hkb : ∀ z, x.2.ownBlock = some z → F z ∧ z ≠ b := fun z hz => ⟨h.nm.own.2 i x hx z hz, fun e => row_not (h.nm.kid i x hx) h.hb (by decide) (e ▸ hz)⟩
  have t1 : Tch (fun k => k = g) w2 (w2.setCell ⟨g, i * 6 + 5, none⟩ kv') := Tch.setCell (S := fun k => k = g) w2 (p := ⟨g, i * 6 + 5, none⟩) rfl _
  have tt : Tch (fun k => F k ∧ k ≠ b) w (w2.setCell ⟨g, i * 6 + 5, none⟩ kv') := (t.mono (fun z hz => hkb z hz)).trans t1 (fun z hz => .inl (by rw [hz]; exact ⟨hfg, hgb⟩))
  refine ⟨c1, c2, (t.cell_some ((cell_of_row _ _ 2 _ _ _ h.hb).trans rfl) (fun e => (hkb b e).2 rfl)), fun k => F k ∨ kv'.ownBlock = some k, ⟨_, _, ?_, h.inNodes tt hN (fun _ h => .inl h) (fun z hz => ?_)⟩, tt.mono (fun _ h => h.1), fun z hz => ?_⟩
  · rw [List.map_set]
  · rcases hz with hz | hz
    · exact .inl hz
    · exact (hloc z hz).imp (fun h => (hkb z h).1) id
  · rcases hz with hz | hz
    · exact .inl hz
    · exact (hloc z hz).imp (fun h => (hkb z h).1) id
structure KS (w0 w : World) (B : Nat) (F0 F : Nat → Prop) (b kb : Nat) (lv : Value) (l : List Tok) (at' : Nat) (N : List Nd) (gs : List (Nat × Obj)) : Prop where
  rd : RdM w B F b kb lv l at' N
  t : Tch F0 w0 w
  fs : ∀ k, F k → F0 k ∨ w0.heap.size ≤ k
  gu : ∀ x ∈ gs, w.heap[x.1]? = some x.2 ∧ ¬ F x.1
section
variable {w0 w w' : World} {B b kb at' at2 : Nat} {F0 F : Nat → Prop} {lv : Value} {l : List Tok} {N N2 : List Nd} {gs gs' : List (Nat × Obj)}
theorem KS.post (h : KS w0 w B F0 F b kb lv l at' N gs) (hp : RPost w B F b kb lv l at2 N2 w') : ∃ F', KS w0 w' B F0 F' b kb lv l at2 N2 gs := by
  obtain ⟨F', h1, h2, h3⟩ := hp
  refine ⟨F', h1, h.t.trans h2 h.fs, fun k hk => ?_, fun x hx => ?_⟩
  · rcases h3 k hk with h4 | h4
    · exact h.fs k h4
    · exact .inr (Nat.le_trans h.t.size h4)
  · exact guest (h.gu x hx).1 (h.gu x hx).2 h2 h3
theorem KS.same (h : KS w0 w B F0 F b kb lv l at' N gs) (t : Tch No w w') : KS w0 w' B F0 F b kb lv l at' N gs :=
  ⟨h.rd.same t, h.t.trans t (fun _ h => h.elim), h.fs, fun x hx => ⟨(t.block x.1 (Array.getElem?_eq_some_iff.1 (h.gu x hx).1).1 id).trans (h.gu x hx).1, (h.gu x hx).2⟩⟩
theorem KS.less (h : KS w0 w B F0 F b kb lv l at' N gs) (hg : ∀ x ∈ gs', x ∈ gs) : KS w0 w B F0 F b kb lv l at' N gs' := ⟨h.rd, h.t, h.fs, fun x hx => h.gu x (hg x hx)⟩
/-- A new variable. -/
theorem KS.new (h : KS w0 w B F0 F b kb lv l at' N gs) (o : Obj) : KS w0 (w.alloc o) B F0 F b kb lv l at' N ((w.heap.size, o) :: gs) := by
  have h1 := h.same (Tch.alloc No w o)
  refine ⟨h1.rd, h1.t, h1.fs, fun x hx => ?_⟩
  rcases List.mem_cons.1 hx with rfl | hx
  · exact ⟨heap_alloc_new w o, fun hk => by have := (h.rd.lt _ hk).2; simp at this⟩
  · exact h1.gu x hx
/-- A variable beside the reader, written. -/
theorem KS.write {k : Nat} {o o' : Obj} (h : KS w0 w B F0 F b kb lv l at' N ((k, o) :: gs)) (hn : ∀ x ∈ gs, x.1 ≠ k) (hk : w0.heap.size ≤ k) (hkb : kb ≠ k) (t : Tch (fun z => z = k) w w') (ho : w'.heap[k]? = some o') : KS w0 w' B F0 F b kb lv l at' N ((k, o') :: gs) := by
  have hkF := (h.gu (k, o) List.mem_cons_self).2
  refine ⟨h.rd.tch t (fun z hz e => hkF (e ▸ hz)) hkb, h.t.trans t (fun z hz => .inr (by rw [hz]; exact hk)), h.fs, fun x hx => ?_⟩
  rcases List.mem_cons.1 hx with rfl | hx
  · exact ⟨ho, hkF⟩
  · have hg := h.gu x (List.mem_cons_of_mem _ hx)
    exact ⟨(t.block x.1 (Array.getElem?_eq_some_iff.1 hg.1).1 (hn x hx)).trans hg.1, hg.2⟩
end
end Go.Proofs.Ytcnjmkjfgghgoaa
