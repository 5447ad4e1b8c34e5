/- The document's trees, laid out as nodes. -/
import Derived.Test.YtcnjmkjfgghgoaaRdoc
namespace Go.Tr
theorem kid_size {ks : List T} {i : Nat} {t : T} (h : ks[i]? = some t) : t.size ≤ sizes ks := by
  induction ks generalizing i with
  | nil => simp at h
  | cons a ks ih =>
    cases i with
    | zero => simp at h; subst h; simp only [sizes]; omega
    | succ i => simp at h; have := ih h; simp only [sizes]; omega
theorem take_size {ks : List T} {i : Nat} {t : T} (h : ks[i]? = some t) : sizes (ks.take i) + t.size ≤ sizes ks := by
  have hi := (List.getElem?_eq_some_iff.1 h).1
  have e : ks.take (i + 1) = ks.take i ++ [t] := by
    rw [List.take_succ_eq_append_getElem hi]
    rw [List.getElem?_eq_getElem hi] at h
    cases h; rfl
  have h2 : sizes ks = sizes (ks.take (i + 1)) + sizes (ks.drop (i + 1)) := by rw [← sizes_append, List.take_append_drop]
  rw [e, sizes_append] at h2
  simp only [sizes] at h2
  omega
theorem doc_size {l : List Tok} {t : T} (h : doc l = .ok t) : t.size ≤ 4096 := by
  unfold doc at h
  split at h
  · split at h
    · cases h
    · rename_i t' a2 m2 he
      split at h
      · cases h
      · cases h
        have h1 := block_caps (loop_caps l _) (Nat.zero_le _) he
        have h2 := block_goes (loop_goes l _) he
        omega
  · cases h
end Go.Tr
namespace Go.Proofs.Ytcnjmkjfgghgoaa
open Go.RowKit Go.Mp Go.Tr
set_option linter.unusedVariables false
set_option maxRecDepth 100000
set_option maxHeartbeats 2000000
/-- A node's kids anew, out of a list beside the nodes. -/
theorem NM.putKid {w : World} {B : Nat} {F : Nat → Prop} {R : List (Nd × Value)} {g cap : Nat} {kv' : Value} (h : NM w B F (.slice (some ⟨g, 0, none⟩) R.length cap) R) {i : Nat} {x : Nd × Value} (hx : R[i]? = some x) {ks' : List Int} (row2 : w.ownsRow B 3 1 kv' ks'.length (icells ks')) (hn : ∀ g', kv'.ownBlock = some g' → ¬ F g') :
    w.cell? ⟨g, i * 6 + 5, none⟩ = some x.2 ∧ w.frozen? ⟨g, i * 6 + 5, none⟩ = false ∧ NM (w.setCell ⟨g, i * 6 + 5, none⟩ kv') B (fun k => F k ∨ kv'.ownBlock = some k) (.slice (some ⟨g, 0, none⟩) R.length cap) (R.set i ({ x.1 with kids := ks' }, kv')) := by
  have hil := (List.getElem?_eq_some_iff.1 hx).1
  obtain ⟨g', hg, _, _, c1, c2⟩ := ownsRow_cell h.row (j := i * 6 + 5) (u := x.2) (by rw [ncs_at hx 5 (by omega)]; rfl)
  cases hg
  refine ⟨c1, c2, ⟨?_, fun a y hy => ?_, fun a b y z hab hy hz g' hg => ?_, ⟨fun g' hg => .inl (h.own.1 g' hg), fun a y hy g' hg => ?_⟩, fun k hk => ?_⟩⟩
  · rw [List.length_set, ← ncs_set (x' := ({ x.1 with kids := ks' }, kv')) hx 5 (by omega) (u := kv') rfl]
    exact (h.row.stored (i * 6 + 5) kv').1
  · by_cases hij : i = a
    · subst hij
      rw [List.getElem?_set_self hil] at hy
      cases hy
      exact ownsRow_setCell_other (a := ⟨g, i * 6 + 5, none⟩) row2 (fun he => rows_apart row2 h.row (by decide) _ he rfl) kv'
    · rw [List.getElem?_set_ne hij] at hy
      exact ownsRow_setCell_other (a := ⟨g, i * 6 + 5, none⟩) (h.kid a y hy) (fun he => rows_apart (h.kid a y hy) h.row (by decide) _ he rfl) kv'
  · by_cases hia : i = a
    · subst hia
      rw [List.getElem?_set_self hil] at hy
      cases hy
      rw [List.getElem?_set_ne hab] at hz
      exact fun he => hn g' hg (h.own.2 b z hz g' he)
    · rw [List.getElem?_set_ne hia] at hy
      by_cases hib : i = b
      · subst hib
        rw [List.getElem?_set_self hil] at hz
        cases hz
        exact fun he => hn g' he (h.own.2 a y hy g' hg)
      · rw [List.getElem?_set_ne hib] at hz
        exact h.apart a b y z hab hy hz g' hg
  · by_cases hia : i = a
    · subst hia
      rw [List.getElem?_set_self hil] at hy
      cases hy
      exact .inr hg
    · rw [List.getElem?_set_ne hia] at hy
      exact .inl (h.own.2 a y hy g' hg)
  · rcases hk with hk | hk
    · exact ⟨(h.lt k hk).1, by simpa [World.setCell] using (h.lt k hk).2⟩
    · exact ⟨(ownsRow_ge row2 hk).1, by simpa [World.setCell] using (ownsRow_ge row2 hk).2⟩
def LOut (w : World) (B : Nat) (Fn : Nat → Prop) (R : List (Nd × Value)) (t : T) (e : Ending) (w' : World) : Prop := ∃ v' Fn' R', e = .returned v' ∧ NM w' B Fn' v' R' ∧ R'.map (·.1) = R.map (·.1) ++ lay R.length t ∧ Tch Fn w w' ∧ ∀ k, Fn' k → Fn k ∨ w.heap.size ≤ k
def LaidOK (t : T) : Prop := ∀ (w : World) (B b : Nat) (F Fn : Nat → Prop) (nv : Value) (R : List (Nd × Value)), PT w B t b F → NM w B Fn nv R → (∀ k, F k → ¬ Fn k ∧ k < w.heap.size) → B ≤ w.heap.size → R.length + t.size ≤ 4096 →
  Calls Try.prog 36 #[ptr b, nv] w (LOut w B Fn R t)
/-- What holds at a round's head. -/
structure LL (w wr : World) (B b : Nat) (F Fn : Nat → Prop) (R : List (Nd × Value)) (n0 : Nd) (ks : List T) (i : Nat) (ov kv : Value) (F1 : Nat → Prop) (R1 : List (Nd × Value)) : Prop where
  nm : NM wr B F1 ov R1
  map : R1.map (·.1) = R.map (·.1) ++ n0 :: lays (R.length + 1) (ks.take i)
  sub : ∀ k, F1 k → Fn k ∨ w.heap.size ≤ k
  row : wr.ownsRow w.heap.size 3 1 kv i (icells (kidAts (R.length + 1) (ks.take i)))
  kn : ∀ k, kv.ownBlock = some k → ¬ F1 k
  t : Tch Fn w wr
section
variable {w wr w2 : World} {B b i : Nat} {F Fn F1 : Nat → Prop} {R R1 : List (Nd × Value)} {n0 : Nd} {ks : List T} {ov kv : Value}
theorem LL.len (h : LL w wr B b F Fn R n0 ks i ov kv F1 R1) : R1.length = R.length + 1 + sizes (ks.take i) := by
  have := congrArg List.length h.map
  simp only [List.length_map, List.length_append, List.length_cons, lays_length] at this
  omega
/-- A kid's number more. -/
theorem LL.kidNo {kv2 : Value} (h : LL w wr B b F Fn R n0 ks i ov kv F1 R1) {t : T} (ht : ks[i]? = some t) (row : w2.ownsRow w.heap.size 3 1 kv2 (i + 1) (icells (kidAts (R.length + 1) (ks.take i)) ++ [.int .i64 (R1.length : Int)])) (hg : wr.grownBy w2 kv.ownBlock) (hl : ∀ g, kv2.ownBlock = some g → kv.ownBlock = some g ∨ wr.heap.size ≤ g) :
    NM w2 B F1 ov R1 ∧ w2.ownsRow w.heap.size 3 1 kv2 (i + 1) (icells (kidAts (R.length + 1) (ks.take (i + 1)))) ∧ (∀ k, kv2.ownBlock = some k → ¬ F1 k ∧ k < w2.heap.size) ∧ Tch Fn w w2 := by
  have tt : Tch (fun k => kv.ownBlock = some k) wr w2 := Tch.grown hg (fun k hk => .inl hk)
  have hi := (List.getElem?_eq_some_iff.1 ht).1
  have e : ks.take (i + 1) = ks.take i ++ [t] := by
    rw [List.take_succ_eq_append_getElem hi]
    rw [List.getElem?_eq_getElem hi] at ht
    cases ht; rfl
  refine ⟨h.nm.tch tt (fun k hk e => h.kn k e hk), ?_, fun k hk => ⟨fun hf => ?_, (ownsRow_ge row hk).2⟩, h.t.trans tt (fun k hk => .inr (ownsRow_ge h.row hk).1)⟩
  · rw [e, kidAts_append]
    rw [h.len] at row
    simpa [icells, kidAts] using row
  · rcases hl k hk with h1 | h1
    · exact h.kn k h1 hf
    · have := (h.nm.lt k hf).2; omega
end
theorem take_lay {ks : List T} {i b : Nat} {t : T} (ht : ks[i]? = some t) : lays b (ks.take (i + 1)) = lays b (ks.take i) ++ lay (b + sizes (ks.take i)) t := by
  have hi := (List.getElem?_eq_some_iff.1 ht).1
  have e : ks.take (i + 1) = ks.take i ++ [t] := by
    rw [List.take_succ_eq_append_getElem hi]
    rw [List.getElem?_eq_getElem hi] at ht
    cases ht; rfl
  rw [e, lays_append]
  simp [lays]
section
variable {w wr w2 w3 : World} {B b i : Nat} {F Fn F1 F2 : Nat → Prop} {R R1 R2 : List (Nd × Value)} {n0 : Nd} {ks : List T} {ov kv kv2 ov2 : Value}
theorem LL.next (h : LL w wr B b F Fn R n0 ks i ov kv F1 R1) {t : T} (ht : ks[i]? = some t) (hrow : w2.ownsRow w.heap.size 3 1 kv2 (i + 1) (icells (kidAts (R.length + 1) (ks.take (i + 1))))) (hkn : ∀ k, kv2.ownBlock = some k → ¬ F1 k ∧ k < w2.heap.size) (t2 : Tch Fn w w2)
    (hN : NM w3 B F2 ov2 R2) (hm : R2.map (·.1) = R1.map (·.1) ++ lay R1.length t) (t3 : Tch F1 w2 w3) (hs : ∀ k, F2 k → F1 k ∨ w2.heap.size ≤ k) : LL w w3 B b F Fn R n0 ks (i + 1) ov2 kv2 F2 R2 := by
  refine ⟨hN, ?_, fun k hk => ?_, ownsRow_tch hrow t3 (fun g hg => (hkn g hg).1), fun k hk hf => ?_, t2.trans t3 (fun k hk => h.sub k hk)⟩
  · rw [hm, h.map, h.len, take_lay ht, List.append_assoc]; rfl
  · rcases hs k hk with h1 | h1
    · exact h.sub k h1
    · exact .inr (Nat.le_trans t2.size h1)
  · rcases hs k hf with h1 | h1
    · exact (hkn k hk).1 h1
    · have := (hkn k hk).2; omega
/-- All kids are laid: the node gets them. -/
theorem LL.done {on oc : Nat} {oo : Option Addr} (h : LL w wr B b F Fn R n0 ks ks.length (.slice oo on oc) kv F1 R1) (hB : B ≤ w.heap.size) (h0 : n0.kids = []) :
    ∃ g u, oo = some ⟨g, 0, none⟩ ∧ on = R1.length ∧ R.length < R1.length ∧ wr.cell? ⟨g, R.length * 6 + 5, none⟩ = some u ∧ wr.frozen? ⟨g, R.length * 6 + 5, none⟩ = false ∧
      ∃ F2 R2, NM (wr.setCell ⟨g, R.length * 6 + 5, none⟩ kv) B F2 (.slice (some ⟨g, 0, none⟩) on oc) R2 ∧ R2.map (·.1) = R.map (·.1) ++ { n0 with kids := kidAts (R.length + 1) ks } :: lays (R.length + 1) ks ∧ Tch Fn w (wr.setCell ⟨g, R.length * 6 + 5, none⟩ kv) ∧ ∀ k, F2 k → Fn k ∨ w.heap.size ≤ k := by
  have hm := h.map
  rw [List.take_of_length_le (Nat.le_refl _)] at hm
  have hrow := h.row
  rw [List.take_of_length_le (Nat.le_refl _)] at hrow
  have hl := h.len
  have hx : ∃ x, R1[R.length]? = some x ∧ x.1 = n0 := by
    have h1 := congrArg (fun l => l[R.length]?) hm
    simp only [List.getElem?_map] at h1
    rw [List.getElem?_append_right (by simp)] at h1
    cases hr : R1[R.length]? with
    | none => rw [hr] at h1; simp at h1
    | some x => rw [hr] at h1; exact ⟨x, rfl, by simpa using h1⟩
  obtain ⟨x, hx, hxn⟩ := hx
  obtain ⟨g, cp, e, _⟩ := h.nm.at hx
  simp only [Value.slice.injEq] at e
  obtain ⟨rfl, rfl, rfl⟩ := e
  have hkl : (kidAts (R.length + 1) ks).length = ks.length := kidAts_length _ _
  obtain ⟨c1, c2, hN⟩ := h.nm.putKid hx (ks' := kidAts (R.length + 1) ks) (kv' := kv) (by rw [hkl]; exact ownsRow_base hrow hB) h.kn
  refine ⟨g, x.2, rfl, rfl, by omega, c1, c2, _, _, hN, ?_, h.t.trans (Tch.setCell (S := fun k => k = g) wr (p := ⟨g, R.length * 6 + 5, none⟩) rfl kv) (fun k hk => h.sub k (by rw [hk]; exact h.nm.own.1 g rfl)), fun k hk => ?_⟩
  · rw [List.map_set, hm, List.set_append_right _ _ (by simp)]
    simp [hxn]
  · rcases hk with hk | hk
    · exact h.sub k hk
    · exact .inr (ownsRow_ge h.row hk).1
end
end Go.Proofs.Ytcnjmkjfgghgoaa
