/- The law TreeParts at its arguments as they are handed in. -/
import Derived.Test.YtcnjmkjfgghgoaaZt13
import Derived.Test.YtcnjmkjfgghgoaaZt11
import Derived.Test.YtcnjmkjfgghgoaaZt33
import Derived.Test.YtcnjmkjfgghgoaaZt27
import Derived.Test.YtcnjmkjfgghgoaaZt36
import Derived.Test.YtcnjmkjfgghgoaaZt9
import Derived.HandedShaped
import Derived.Shelf.Vars
import Derived.Test.YtcnjmkjfgghgoaaZt5
section
/- Parts of a tree: whose child a node is, how deep it lies, what stands under its keys. No program in sight. -/
namespace Go.Tr
open Go.RowKit
set_option linter.unusedVariables false
def isKid (ns : List Nd) (a : Nat) (i : Nat) : Bool := match ns[i]? with
  | some n => n.kids.any fun k => k == (a : Int)
  | none => false
def parR (ns : List Nd) (a : Nat) : Nat := ((List.range a).find? (isKid ns a)).getD 0
theorem find_range (p : Nat → Bool) : ∀ (a i : Nat), i < a → (∀ j, j < i → p j = false) → p i = true → (List.range a).find? p = some i := by
  intro a
  induction a with
  | zero => intro i h; omega
  | succ a ih =>
    intro i hi h1 h2
    rw [List.range_succ, List.find?_append]
    by_cases hia : i < a
    · rw [ih i hia h1 h2]; rfl
    · have e : i = a := by omega
      subst e
      have hn : (List.range i).find? p = none := by
        rw [List.find?_eq_none]
        intro x hx
        rw [h1 x (List.mem_range.1 hx)]; decide
      rw [hn]
      simp [h2]
theorem parR_some {ns : List Nd} {a i : Nat} (hi : i < a) (h1 : ∀ j, j < i → isKid ns a j = false) (h2 : isKid ns a i = true) : parR ns a = i := by
  unfold parR; rw [find_range _ a i hi h1 h2]; rfl
theorem parR_none {ns : List Nd} {a : Nat} (h : ∀ j, j < a → isKid ns a j = false) : parR ns a = 0 := by
  unfold parR
  have hn : (List.range a).find? (isKid ns a) = none := by
    rw [List.find?_eq_none]
    intro x hx
    rw [h x (List.mem_range.1 hx)]; decide
  rw [hn]; rfl
mutual
theorem kid_of : ∀ (b a : Nat) (t : T), b < a → a < b + t.size → ∃ j n, b ≤ j ∧ j < a ∧ (lay b t)[j - b]? = some n ∧ (a : Int) ∈ n.kids
  | b, a, .node k key tx q ln ks, h1, h2 => by
    simp only [T.size] at h2
    by_cases hm : (a : Int) ∈ kidAts (b + 1) ks
    · exact ⟨b, _, Nat.le_refl _, h1, by rw [Nat.sub_self]; rfl, hm⟩
    · obtain ⟨j, n, g1, g2, g3, g4⟩ := kids_of (b + 1) a ks (by omega) (by omega) hm
      refine ⟨j, n, by omega, g2, ?_, g4⟩
      simp only [lay]
      rw [show j - b = (j - (b + 1)) + 1 by omega, List.getElem?_cons_succ]
      exact g3
theorem kids_of : ∀ (b a : Nat) (ks : List T), b ≤ a → a < b + sizes ks → (a : Int) ∉ kidAts b ks → ∃ j n, b ≤ j ∧ j < a ∧ (lays b ks)[j - b]? = some n ∧ (a : Int) ∈ n.kids
  | b, a, [], h1, h2, _ => by simp only [sizes] at h2; omega
  | b, a, c :: cs, h1, h2, h3 => by
    simp only [sizes] at h2
    simp only [kidAts, List.mem_cons, not_or] at h3
    simp only [lays]
    by_cases ha : a < b + c.size
    · obtain ⟨j, n, g1, g2, g3, g4⟩ := kid_of b a c (by omega) ha
      refine ⟨j, n, g1, g2, ?_, g4⟩
      rw [List.getElem?_append_left (by rw [lay_length]; omega)]
      exact g3
    · obtain ⟨j, n, g1, g2, g3, g4⟩ := kids_of (b + c.size) a cs (by omega) (by omega) h3.2
      refine ⟨j, n, by omega, g2, ?_, g4⟩
      rw [List.getElem?_append_right (by rw [lay_length]; omega), lay_length, show j - b - c.size = j - (b + c.size) by omega]
      exact g3
end
theorem parR_tree {t : T} {a : Nat} (h1 : 0 < a) (h2 : a < t.size) : parR (lay 0 t) a < a ∧ ∃ n, (lay 0 t)[parR (lay 0 t) a]? = some n ∧ (a : Int) ∈ n.kids := by
  obtain ⟨j, n, _, g2, g3, g4⟩ := kid_of 0 a t h1 (by omega)
  rw [Nat.sub_zero] at g3
  have hj : isKid (lay 0 t) a j = true := by
    unfold isKid; rw [g3]
    exact List.any_eq_true.2 ⟨_, g4, by simp⟩
  have hex : ∃ i, (List.range a).find? (isKid (lay 0 t) a) = some i := by
    cases hf : (List.range a).find? (isKid (lay 0 t) a) with
    | none =>
      rw [List.find?_eq_none] at hf
      exact absurd hj (hf j (List.mem_range.2 g2))
    | some i => exact ⟨i, rfl⟩
  obtain ⟨i, hi⟩ := hex
  have hp : parR (lay 0 t) a = i := by unfold parR; rw [hi]; rfl
  have hia := List.mem_range.1 (List.mem_of_find?_eq_some hi)
  have hik := List.find?_some hi
  rw [hp]
  refine ⟨hia, ?_⟩
  unfold isKid at hik
  split at hik
  · rename_i n' hn'
    refine ⟨n', hn', ?_⟩
    obtain ⟨x, hx, hxe⟩ := List.any_eq_true.1 hik
    rw [beq_iff_eq] at hxe
    rw [← hxe]; exact hx
  · cases hik
/-! ### how high a node's tree is, told by its number alone -/
def highR (ns : List Nd) : Nat → Nat → Nat
  | 0, _ => 0
  | f + 1, i => match ns[i]? with
    | none => 0
    | some n => (n.kids.map fun k => highR ns f k.toNat).foldr max 0 + 1
theorem highR_eq (ns : List Nd) : ∀ f s i, okT f s → lay i s <+: ns.drop i → ∀ g, f ≤ g → highR ns g i = high s := by
  intro f
  induction f with
  | zero => intro s i h; exact h.elim
  | succ f ih =>
    intro s i h hp g hg
    obtain ⟨g, rfl⟩ : ∃ g', g = g' + 1 := ⟨g - 1, by omega⟩
    obtain ⟨k, key, tx, q, ln, ks⟩ := s
    obtain ⟨z1, z2, z3, z4, z5, z6, z7, h8⟩ := h
    clear z1 z2 z3 z4 z5 z6 z7
    simp only [lay] at hp
    obtain ⟨g1, _, hp2⟩ := prefix_get hp
    unfold highR
    rw [g1]
    simp only [high]
    congr 1
    clear g1 hp
    generalize hb : i + 1 = b at hp2
    clear hb
    induction ks generalizing b with
    | nil => rfl
    | cons c cs ihc =>
      simp only [lays] at hp2
      obtain ⟨q1, q2⟩ := drop_of_prefix hp2
      rw [lay_length] at q2
      simp only [kidAts, List.map_cons, List.foldr_cons, highs, Int.toNat_natCast]
      rw [ih c b (h8 c List.mem_cons_self) q1 g (by omega), ihc (fun x hx => h8 x (List.mem_cons_of_mem _ hx)) (b + c.size) q2]
theorem kidAts_get {b : Nat} {ks : List T} {x : Int} (h : x ∈ kidAts b ks) : ∃ r c, ks[r]? = some c ∧ x = ((b + sizes (ks.take r) : Nat) : Int) := by
  obtain ⟨r, hr⟩ := List.mem_iff_getElem?.1 h
  have hl := (List.getElem?_eq_some_iff.1 hr).1
  rw [kidAts_length] at hl
  have hk := kidAts_at (b := b) (List.getElem?_eq_getElem hl)
  rw [hr] at hk
  exact ⟨r, _, List.getElem?_eq_getElem hl, Option.some.inj hk⟩
theorem high_mem {ks : List T} {c : T} (h : c ∈ ks) : high c ≤ highs ks := by
  induction ks with
  | nil => cases h
  | cons x xs ih =>
    simp only [highs]
    rcases List.mem_cons.1 h with rfl | h
    · omega
    · have := ih h; omega
/-- A node's parent stands higher. -/
theorem high_par {t : T} (hok : okT 16 t) {a : Nat} (h1 : 0 < a) (h2 : a < t.size) : highR (lay 0 t) 16 a + 1 ≤ highR (lay 0 t) 16 (parR (lay 0 t) a) := by
  obtain ⟨p1, n, p2, p3⟩ := parR_tree h1 h2
  obtain ⟨j, hj⟩ : ∃ j, j = parR (lay 0 t) a := ⟨_, rfl⟩
  rw [← hj] at p1 p2 ⊢
  obtain ⟨s, s1, s2, _⟩ := at_lay 16 0 j t hok (Nat.zero_le _) (by omega)
  rw [Nat.sub_zero] at s2
  rw [highR_eq _ 16 s j s1 s2 16 (Nat.le_refl _)]
  obtain ⟨k, key, tx, q, ln, ks⟩ := s
  obtain ⟨_, _, _, _, _, _, _, h8⟩ := s1
  simp only [lay] at s2
  obtain ⟨g1, _, hp2⟩ := prefix_get s2
  rw [p2] at g1
  cases g1
  obtain ⟨r, c, hc, he⟩ := kidAts_get p3
  have hl := lays_at hc hp2
  have hea : a = j + 1 + sizes (ks.take r) := by omega
  rw [← hea] at hl
  have hcm := List.mem_of_getElem? hc
  rw [highR_eq _ 15 c a (h8 c hcm) hl 16 (by omega)]
  simp only [high]
  have := high_mem hcm
  omega
theorem high_withKey (k : ByteArray) : ∀ t : T, high (t.withKey k) = high t
  | .node _ _ _ _ _ ks => rfl
theorem okT_withKey {d : Nat} {k : ByteArray} : ∀ {t : T}, okT d t → okT d (t.withKey k) := by
  intro t h
  cases d with
  | zero => exact h.elim
  | succ d =>
    obtain ⟨n, key, tx, q, l, ks⟩ := t
    exact h
theorem withKey_self {t : T} (h : t.key.toList = []) : t.withKey ⟨#[]⟩ = t := by
  obtain ⟨n, key, tx, q, l, ks⟩ := t
  have : key = ⟨#[]⟩ := by
    rw [Lib.toList_data] at h
    obtain ⟨d⟩ := key
    have : d.toList = [] := h
    rw [Array.toList_eq_nil_iff.1 this]
  subst this
  rfl
/-! ### what stands under a node's keys -/
theorem find_key {ns : List Nd} {key : ByteArray} : ∀ (ks : List T) (b : Nat), lays b ks <+: ns.drop b → ((ks.map T.key).Nodup) → ∀ (r : Nat) (c : T), ks[r]? = some c → c.key = key → (kidAts b ks).find? (hit ns key) = some ((b + sizes (ks.take r) : Nat) : Int) := by
  intro ks
  induction ks with
  | nil => intro b _ _ r c h; cases h
  | cons k ks ih =>
    intro b hp hnd r c hc hk
    simp only [lays] at hp
    obtain ⟨q1, q2⟩ := drop_of_prefix hp
    rw [lay_length] at q2
    obtain ⟨n, rr, hl, hkey, _⟩ := lay_head b k
    rw [hl] at q1
    obtain ⟨g1, g2, _⟩ := prefix_get q1
    rw [List.map_cons, List.nodup_cons] at hnd
    have hhit : hit ns key b = (k.key.toList == key.toList) := by
      unfold hit
      rw [decide_eq_true (show (0 : Int) ≤ (b : Int) by omega), decide_eq_true (show (b : Int) < (ns.length : Int) by omega)]
      simp only [Int.toNat_natCast, g1, hkey, Bool.true_and]
    simp only [kidAts, List.find?_cons, hhit]
    cases r with
    | zero =>
      simp only [List.getElem?_cons_zero, Option.some.injEq] at hc
      subst hc
      rw [hk]
      simp [sizes]
    | succ r =>
      simp only [List.getElem?_cons_succ] at hc
      have hne : (k.key.toList == key.toList) = false := by
        rw [beq_eq_false_iff_ne]
        intro e
        refine hnd.1 ?_
        have : k.key = c.key := by
          rw [hk]
          exact Go.Mp.bytes_of_toList e
        rw [this]
        exact List.mem_map_of_mem (List.mem_of_getElem? hc)
      rw [hne]
      simp only [List.take_succ_cons, sizes]
      rw [ih (b + k.size) q2 hnd.2 r c hc hk, Nat.add_assoc]
theorem get_kid {ns : List Nd} {f i : Nat} {s : T} (hok : okT (f + 1) s) (hp : lay i s <+: ns.drop i) {r : Nat} {c : T} (hc : s.kids[r]? = some c) : getR ns i c.key = if s.kind = 2 then some ((i + 1 + sizes (s.kids.take r) : Nat) : Int) else none := by
  obtain ⟨k, key, tx, q, ln, ks⟩ := s
  obtain ⟨_, _, _, _, _, h6, _, h8⟩ := hok
  simp only [lay] at hp
  obtain ⟨g1, g2, hp2⟩ := prefix_get hp
  unfold getR
  rw [if_neg (by omega)]
  simp only [Int.toNat_natCast, g1]
  by_cases hk : k = 2
  · have hk' : (T.node k key tx q ln ks).kind = 2 := hk
    rw [if_pos hk, if_pos hk']
    exact find_key ks (i + 1) hp2 (h6 hk) r c hc rfl
  · have hk' : ¬ (T.node k key tx q ln ks).kind = 2 := hk
    rw [if_neg hk, if_neg hk']
end Go.Tr
end

section
/- Sub: walked. -/
namespace Go.Proofs.Ytcnjmkjfgghgoaa
open Go.RowKit Go.Mp Go.Tr
set_option linter.unusedVariables false
set_option maxRecDepth 100000
set_option maxHeartbeats 4000000
theorem sub_run {g off len cap i n : Nat} (hi : i + n ≤ cap) (hne : i < cap) (I E : Int) (hI : I = (i : Int)) (hE : E = ((i + n : Nat) : Int)) :
    (∀ w, (Instr.sliceAt 50 (.slice (some ⟨g, off, none⟩) len cap) (some (.int .i64 I)) (some (.int .i64 E)) none).run Try.prog w = .ok (.slice (some ⟨g, off + i * 6, none⟩) n (cap - i)) w) ∧ (∀ w, (Instr.slice 50 (.slice (some ⟨g, off, none⟩) len cap) (some (.int .i64 I)) (some (.int .i64 E)) none).run Try.prog w = .ok (.slice (some ⟨g, off + i * 6, none⟩) n (cap - i)) w) := by
  have e : Try.prog.underlying 50 = some (.slice (Try.prog.elem 50)) := by kernel_rfl
  have run2 : ∀ w, (Instr.slice 50 (.slice (some ⟨g, off, none⟩) len cap) (some (.int .i64 I)) (some (.int .i64 E)) none).run Try.prog w = .ok (.slice (some ⟨g, off + i * 6, none⟩) n (cap - i)) w := fun w => by
    have z : (sizeOf (Try.prog.elem 50)).run Try.prog w = .ok 6 w := by kernel_rfl
    rw [run_slice_lh (ht := e) (h0 := by omega) (h1 := by omega) (h2 := by omega), z]
    rw [show I.toNat = i by omega, show E.toNat = i + n by omega]
    simp only [Result.andThen_ok, sliced, if_neg (show ¬ cap = i by omega), Option.map_some, add_at, Nat.add_sub_cancel_left]
  refine ⟨fun w => ?_, run2⟩
  rw [run_sliceAt_slice (h := e)]; exact run2 w
structure SubM (w : World) (B g cap : Nat) (D E : List (Nd × Value)) : Prop where
  row : w.ownsRow B 58 6 (.slice (some ⟨g, 0, none⟩) (D ++ E).length cap) (D ++ E).length (ncs (D ++ E))
  kid : ∀ (i : Nat) (x : Nd × Value), D[i]? = some x → w.ownsRow B 3 1 x.2 x.1.kids.length (icells x.1.kids)
  apart : ∀ (i j : Nat) (x y : Nd × Value), i ≠ j → D[i]? = some x → D[j]? = some y → ∀ g, x.2.ownBlock = some g → y.2.ownBlock ≠ some g
theorem ncs_same {D E : List (Nd × Value)} {n n' : Nd} {v : Value} (h : nc (n, v) = nc (n', v)) : ncs (D ++ (n, v) :: E) = ncs (D ++ (n', v) :: E) := by
  simp only [ncs_append]
  congr 1
  show nc (n, v) ++ ncs E = nc (n', v) ++ ncs E
  rw [h]
section
variable {w w1 : World} {B g cap i : Nat} {D E : List (Nd × Value)} {x : Nd × Value} {v' : Value} {n' : Nd}
theorem SubM.tch {S : Nat → Prop} (h : SubM w B g cap D E) (t : Tch S w w1) (hg : ¬ S g) (hk : ∀ (i : Nat) (x : Nd × Value), D[i]? = some x → ∀ b, x.2.ownBlock = some b → ¬ S b) : SubM w1 B g cap D E :=
  ⟨ownsRow_tch h.row t (fun b hb => by cases hb; exact hg), fun i x hx => ownsRow_tch (h.kid i x hx) t (hk i x hx), h.apart⟩
theorem SubM.at (h : SubM w B g cap D (x :: E)) : ∀ j u, j < 6 → (nc x)[j]? = some u → w.cell? ⟨g, D.length * 6 + j, none⟩ = some u ∧ w.frozen? ⟨g, D.length * 6 + j, none⟩ = false := by
  intro j u hj hu
  have hx : (D ++ x :: E)[D.length]? = some x := by simp
  obtain ⟨g', e, _, _, c, f⟩ := ownsRow_cell h.row (j := D.length * 6 + j) (u := u) (by rw [ncs_at hx j hj, hu])
  cases e
  exact ⟨c, f⟩
theorem nc_set (n : Nd) (v v' : Value) : nc (n, v') = (nc (n, v)).set 5 v' := rfl
/-- The kids of the next node, cloned and laid into it. -/
theorem SubM.lay (h : SubM w B g cap D (x :: E)) {ks : List Int} (row : w1.ownsRow w.heap.size 3 1 v' ks.length (icells ks)) (t : Tch No w w1) (hB : B ≤ w.heap.size) :
    w1.cell? ⟨g, D.length * 6 + 5, none⟩ = some x.2 ∧ w1.frozen? ⟨g, D.length * 6 + 5, none⟩ = false ∧ SubM (w1.setCell ⟨g, D.length * 6 + 5, none⟩ v') B g cap D ((x.1, v') :: E) ∧ (w1.setCell ⟨g, D.length * 6 + 5, none⟩ v').ownsRow w.heap.size 3 1 v' ks.length (icells ks) := by
  have h1 := h.tch t id (fun _ _ _ _ _ => id)
  obtain ⟨c, f⟩ := h1.at 5 x.2 (by omega) rfl
  have hne : v'.ownBlock ≠ some g := fun e => rows_apart row h1.row (by decide) g e rfl
  have tc : Tch (fun k => k = g) w1 (w1.setCell ⟨g, D.length * 6 + 5, none⟩ v') := Tch.setCell (S := fun k => k = g) w1 (p := ⟨g, D.length * 6 + 5, none⟩) rfl _
  refine ⟨c, f, ⟨?_, fun a y hy => ?_, h.apart⟩, ownsRow_setCell_other (a := ⟨g, D.length * 6 + 5, none⟩) row (fun e => hne e) v'⟩
  · have hx : (D ++ x :: E)[D.length]? = some x := by simp
    have hs := (h1.row.stored (D.length * 6 + 5) v').1
    rw [ncs_set (x' := (x.1, v')) hx 5 (by omega) (nc_set x.1 x.2 v'), List.set_append_right _ _ (Nat.le_refl _), Nat.sub_self, List.set_cons_zero] at hs
    have e : (D ++ x :: E).length = (D ++ (x.1, v') :: E).length := by simp
    rw [← e]
    exact hs
  · exact ownsRow_setCell_other (a := ⟨g, D.length * 6 + 5, none⟩) (h1.kid a y hy) (fun e => rows_apart (h1.kid a y hy) h1.row (by decide) _ e rfl) v'
/-- A number of the next node's kids, written anew. -/
theorem SubM.kidSet {n0 : Nd} {kg kc m : Nat} (h : SubM w B g cap D ((n0, v') :: E)) (hv : v' = .slice (some ⟨kg, 0, none⟩) m kc) (hfresh : ∀ (i : Nat) (y : Nd × Value), D[i]? = some y → y.2.ownBlock ≠ some kg) {b2 : Nat} {L : List Value} (row : w.ownsRow b2 3 1 v' m L) (j : Nat) (u : Value) :
    SubM (w.setCell ⟨kg, j, none⟩ u) B g cap D ((n0, v') :: E) ∧ (w.setCell ⟨kg, j, none⟩ u).ownsRow b2 3 1 v' m (L.set j u) := by
  have hg : kg ≠ g := fun e => rows_apart row h.row (by decide) kg (by rw [hv]; rfl) (by rw [e]; rfl)
  refine ⟨h.tch (Tch.setCell (S := fun k => k = kg) w (p := ⟨kg, j, none⟩) rfl u) (fun e => hg e.symm) (fun i y hy b hb e => hfresh i y hy (by rw [hb, e])), ?_⟩
  subst hv
  exact (row.stored j u).1
/-- The next node is done. -/
theorem SubM.done {n0 : Nd} (h : SubM w B g cap D ((n0, v') :: E)) {n' : Nd} (hn : nc (n0, v') = nc (n', v')) (row : w.ownsRow B 3 1 v' n'.kids.length (icells n'.kids)) (hfresh : ∀ (i : Nat) (y : Nd × Value), D[i]? = some y → ∀ b, y.2.ownBlock = some b → v'.ownBlock ≠ some b) : SubM w B g cap (D ++ [(n', v')]) E := by
  have hat : ∀ (i : Nat) (y : Nd × Value), (D ++ [(n', v')])[i]? = some y → D[i]? = some y ∨ i = D.length ∧ y = (n', v') := fun i y hy => by
    by_cases hi : i < D.length
    · rw [List.getElem?_append_left hi] at hy; exact .inl hy
    · rw [List.getElem?_append_right (by omega)] at hy
      have h0 : i - D.length = 0 := by have := (List.getElem?_eq_some_iff.1 hy).1; simp at this; omega
      rw [h0] at hy; simp at hy
      exact .inr ⟨by omega, hy.symm⟩
  refine ⟨?_, fun i y hy => ?_, fun i j y z hij hy hz b hb hb2 => ?_⟩
  · have e : (D ++ (n0, v') :: E).length = (D ++ [(n', v')] ++ E).length := by simp
    rw [← e, List.append_assoc, List.singleton_append, ← ncs_same hn]
    exact h.row
  · rcases hat i y hy with h1 | ⟨_, rfl⟩
    · exact h.kid i y h1
    · exact row
  · rcases hat i y hy with h1 | ⟨h1, rfl⟩ <;> rcases hat j z hz with h2 | ⟨h2, rfl⟩
    · exact h.apart i j y z hij h1 h2 b hb hb2
    · exact hfresh i y h1 b hb hb2
    · exact hfresh j z h2 b hb2 hb
    · omega
theorem SubM.nm (h : SubM w B g cap D []) : NM w B (fun k => k = g ∨ ∃ (i : Nat) (x : Nd × Value), D[i]? = some x ∧ x.2.ownBlock = some k) (.slice (some ⟨g, 0, none⟩) D.length cap) D := by
  have hr := h.row
  rw [List.append_nil] at hr
  refine ⟨hr, h.kid, h.apart, ⟨fun b hb => by cases hb; exact .inl rfl, fun i x hx b hb => .inr ⟨i, x, hx, hb⟩⟩, fun k hk => ?_⟩
  rcases hk with rfl | ⟨i, x, hx, hb⟩
  · exact ownsRow_ge hr rfl
  · exact ownsRow_ge (h.kid i x hx) hb
end
end Go.Proofs.Ytcnjmkjfgghgoaa
end

section
/- Sub: walked whole. -/
namespace Go.Proofs.Ytcnjmkjfgghgoaa
open Go.RowKit Go.Mp Go.Tr
set_option linter.unusedVariables false
set_option maxRecDepth 100000
set_option maxHeartbeats 4000000
theorem set_turn {ks : List Int} {j : Nat} {y a : Int} (h : ks[j]? = some y) : ((ks.take j).map (· - a) ++ ks.drop j).set j (y - a) = (ks.take (j + 1)).map (· - a) ++ ks.drop (j + 1) := by
  obtain ⟨h1, h2⟩ := List.getElem?_eq_some_iff.1 h
  rw [List.set_append_right _ _ (by simp; omega), List.drop_eq_getElem_cons h1, h2]
  have e : j - ((ks.take j).map (· - a)).length = 0 := by simp; omega
  rw [e, List.set_cons_zero, List.take_succ_eq_append_getElem h1, h2]
  simp
theorem icells_set (l : List Int) (j : Nat) (y : Int) : (icells l).set j (.int .i64 y) = icells (l.set j y) := by
  simp [icells, List.map_set]
theorem turn_at {ks : List Int} {j : Nat} {y a : Int} (h : ks[j]? = some y) : ((ks.take j).map (· - a) ++ ks.drop j)[j]? = some y := by
  obtain ⟨h1, h2⟩ := List.getElem?_eq_some_iff.1 h
  rw [List.getElem?_append_right (by simp; omega)]
  have e : j - ((ks.take j).map (· - a)).length = 0 := by simp; omega
  rw [e, List.getElem?_drop]
  simpa using h
theorem sub_may {t s : T} {i : Nat} {w : World} {ao : Option Addr} {n cap : Nat} (hsz : t.size ≤ 4096) (hm : mayR (lay 0 t) = true) (hs : okT 16 s) (hp : lay i s <+: (lay 0 t).drop i) (hN : NdV w (.slice ao n cap) (lay 0 t)) (hcap : n ≤ cap) :
    Calls Try.prog 27 #[.slice ao n cap, .int .i64 i] w fun e w' => ∃ v' F R, e = .returned v' ∧ R.map (·.1) = lay 0 (s.withKey ⟨#[]⟩) ∧ NM w' w.heap.size F v' R ∧ Tch No w w' := by
  have hL := lay_length 0 t
  have hfit := lay_fits hp
  have hpos := Go.Tr.size_pos s
  have hbd := bounds_lay i s
  have hov := overR_lay (lay 0 t) 16 i s hs hp
  have hM := may_any (lay 0 t) _ w hN
  rw [hm] at hM
  have hn : n = (lay 0 t).length := by obtain ⟨_, _, _, e, _⟩ := hN; cases e; rfl
  obtain ⟨ns, hns⟩ : ∃ ns, ns = lay 0 t := ⟨_, rfl⟩
  rw [← hns] at hL hfit hov hn hN hp hm
  have hO : ∀ w', Tch No w w' → Calls Try.prog 39 #[.slice ao n cap, .int .i64 i, .int .i64 1] w' fun e w2 => e = .returned (.int .i64 (overR ns 16 i)) ∧ Below w'.heap.size w' w2 := fun w' t => overN_any ns _ 16 1 rfl w' i (hN.tch t)
  obtain ⟨g0, off, R0, rfl, hg0, hR0, hC0⟩ := hN.rows (fun e => by rw [e] at hL; have := Go.Tr.size_pos t; simp at hL; omega)
  have hlR0 : R0.length = ns.length := by rw [← hR0, List.length_map]
  obtain ⟨m, hmm⟩ : ∃ m, m = s.size := ⟨_, rfl⟩
  obtain ⟨E0, hE0⟩ : ∃ E0, E0 = (R0.drop i).take m := ⟨_, rfl⟩
  have hE0l : E0.length = m := by rw [hE0]; simp; omega
  have hE0m : E0.map (·.1) = lay i s := by
    rw [hE0, List.map_take, List.map_drop, hR0]
    obtain ⟨r, hr⟩ := hp
    rw [← hr, List.take_append_of_le_length (by rw [lay_length]; omega), List.take_of_length_le (by rw [lay_length]; omega)]
  have hCE : NdC w g0 (off + i * 6) E0 := by rw [hE0]; exact (hC0.drop i).take m
  obtain ⟨EE, hEE⟩ : ∃ EE, EE = overR ns 16 i := ⟨_, rfl⟩
  rw [← hEE] at hO hov
  obtain ⟨r1, r2⟩ := sub_run (g := g0) (off := off) (len := n) (cap := cap) (i := i) (n := m) (by omega) (by omega) i EE rfl (by rw [hov, hmm]; omega)
  have i0 : (0 : Int) ≤ (i : Int) := Int.natCast_nonneg i
  have i1 : decide ((i : Int) < 0) = false := decide_eq_false (by omega)
  have i2 : (i : Int) < (n : Int) := by omega
  have i3 : decide ((n : Int) ≤ (i : Int)) = false := decide_eq_false (by omega)
  have i4 : decide (n ≤ i) = false := decide_eq_false (by omega)
  have hi96 : i ≤ 4096 := by omega
  have hm96 : m ≤ 4096 := by omega
  have hmp : 0 < m := by omega
  replace hns := Lib.hid hns
  replace hL := Lib.hid hL
  replace hfit := Lib.hid hfit
  replace hov := Lib.hid hov
  replace hM := Lib.hid hM
  replace hn := Lib.hid hn
  replace hN := Lib.hid hN
  replace hp := Lib.hid hp
  replace hm := Lib.hid hm
  replace hO := Lib.hid hO
  replace hg0 := Lib.hid hg0
  replace hR0 := Lib.hid hR0
  replace hC0 := Lib.hid hC0
  replace hlR0 := Lib.hid hlR0
  replace hmm := Lib.hid hmm
  replace hE0 := Lib.hid hE0
  replace hE0l := Lib.hid hE0l
  replace hE0m := Lib.hid hE0m
  replace hCE := Lib.hid hCE
  replace hEE := Lib.hid hEE
  replace hsz := Lib.hid hsz
  replace hcap := Lib.hid hcap
  replace hpos := Lib.hid hpos
  replace hbd := Lib.hid hbd
  replace hs := Lib.hid hs
  replace hi96 := Lib.hid hi96
  replace hm96 := Lib.hid hm96
  replace hmp := Lib.hid hmp
  go_enter Try.func27, Try.ntmps27
  go_upto_region 4 with (first
    | (go_at_call 21; (with_reducible refine hM.out.mono ?_); rintro ev w1 ⟨rfl, hb1⟩; have t1 := Lib.hid (Tch.of_below (S := No) hb1); have hO1 := Lib.hid (hO.out w1 t1.out); clear hb1)
    | (go_at_call 39; (with_reducible refine hO1.out.mono ?_); rintro ev w2 ⟨rfl, hb2⟩; have t2 := Lib.hid (t1.out.trans (Tch.of_below (S := No) hb2) (fun _ h => h.elim)); clear hb2)
    | (go_at_call 41; (with_reducible refine (clone_nodes (hCE.out.tch t2.out) hE0l.out.symm (by have := hm96.out; omega)).mono ?_); rintro ev w3 ⟨v3, rfl, row3, hb3⟩; replace row3 := Lib.hid (ownsRow_base row3 t2.out.size); have t3 := Lib.hid (t2.out.trans (Tch.of_below (S := No) hb3) (fun _ h => h.elim)); clear hb3)
    | fail)
  obtain ⟨x0, hx0⟩ : ∃ x0, E0[0]? = some x0 := ⟨_, List.getElem?_eq_getElem (by rw [hE0l.out]; exact hmp.out)⟩
  obtain ⟨vo3, cap3, rfl⟩ := ownsRow_shape row3.out
  obtain ⟨g, rfl, _, _, _, _⟩ := ownsRow_cell row3.out (j := 0 * 6 + 0) (u := .int .i64 x0.1.kind) (by rw [ncs_at hx0 0 (by omega)]; rfl)
  have hS3 : SubM w3 w.heap.size g cap3 [] E0 := ⟨by rw [List.nil_append, hE0l.out]; exact row3.out, (fun i x hx => by cases hx), (fun i j x y _ hx => by cases hx)⟩
  replace hS3 := Lib.hid hS3
  replace hx0 := Lib.hid hx0
  clear r1 r2
  go_wp2
  go_loopg [30] (m + 1) (fun gg iv wr => ∃ D E : List (Nd × Value), gg = m - D.length + 1 ∧ iv = .int .i64 D.length ∧ D.length + E.length = m ∧ Hid (SubM wr w.heap.size g cap3 D E) ∧ D.map (·.1) = ((lay i s).take D.length).map (sh i) ∧ E = E0.drop D.length ∧ Tch No w wr)
  case atStart => exact ⟨[], E0, rfl, rfl, by rw [hE0l.out]; simp, hS3, by simp, by simp, t3.out⟩
  case round =>
    obtain ⟨D, E, rfl, rfl, hDE, hS, hDm, hEd, tr⟩ := hrel
    obtain ⟨r, hr⟩ : ∃ r, r = D.length := ⟨_, rfl⟩
    rw [← hr] at hDE hDm hEd ⊢
    replace hr := Lib.hid hr
    by_cases hlt : r < m
    · have k0 := nn_lt hlt
      obtain ⟨x, hx⟩ : ∃ x, E0[r]? = some x := ⟨_, List.getElem?_eq_getElem (by rw [hE0l.out]; exact hlt)⟩
      have hE : E = x :: E0.drop (r + 1) := by
        obtain ⟨hx1, hx2⟩ := List.getElem?_eq_some_iff.1 hx
        rw [hEd, List.drop_eq_getElem_cons hx1, hx2]
      obtain ⟨E', hE'⟩ : ∃ E', E' = E0.drop (r + 1) := ⟨_, rfl⟩
      rw [← hE'] at hE
      subst hE
      have hxl : (lay i s)[r]? = some x.1 := by rw [← hE0m.out, List.getElem?_map, hx]; rfl
      obtain ⟨b1, b2⟩ := hbd.out x.1 (List.mem_of_getElem? hxl)
      have hkx := (hCE.out.kid r x hx).tch tr
      obtain ⟨⟨nk, key, tx, qd, ln, ks⟩, kv⟩ := x
      dsimp only at hkx b1 b2
      obtain ⟨ko, kc, rfl⟩ := hkx.shape
      have hS5 := hS.out.at 5 (.slice ko ks.length kc) (by omega) rfl
      rw [← hr.out] at hS5
      obtain ⟨c5, f5⟩ := hS5
      have hSz := Lib.hid tr.size
      have hks : ks.length ≤ 4096 := by have := hmm.out; have := hm96.out; omega
      have hwk : Hid (wrap64 ((r : Int) + 1) = ((r + 1 : Nat) : Int)) := Lib.hid (by have := hm96.out; unfold wrap64; omega)
      replace hDE := Lib.hid hDE
      replace hDm := Lib.hid hDm
      replace hEd := Lib.hid hEd
      replace hxl := Lib.hid hxl
      replace hE' := Lib.hid hE'
      replace hx := Lib.hid hx
      replace b1 := Lib.hid b1
      replace b2 := Lib.hid b2
      replace hkx := Lib.hid hkx
      replace tr := Lib.hid tr
      replace f5 := Lib.hid f5
      replace hks := Lib.hid hks
      go_upto_region 8 with (first
        | (go_at_call 42; (with_reducible refine (clone_kids hkx.out (by have := hks.out; omega)).mono ?_); rintro ev w4 ⟨v4, rfl, row4, hb4⟩; obtain ⟨vo, vc, rfl⟩ := ownsRow_shape row4; have hl4 := hS.out.lay row4 (Tch.of_below (S := No) hb4) hSz.out; rw [← hr.out] at hl4; obtain ⟨c4, f4, hS4, row5⟩ := hl4; dsimp only at c4 hS4; replace row4 := Lib.hid row4; replace row5 := Lib.hid row5; replace hS4 := Lib.hid hS4; have t4 := Lib.hid (tr.out.trans (Tch.of_below (S := No) hb4) (fun _ h => h.elim)); replace hb4 := Lib.hid hb4)
        | fail)
      have hfr : ∀ (a : Nat) (y : Nd × Value), D[a]? = some y → ∀ b, y.2.ownBlock = some b → (Value.slice vo ks.length vc).ownBlock ≠ some b := fun a y hy b hb e => by
        have h1 := ownsRow_ge row5.out e
        have h2 := ownsRow_ge (hS.out.kid a y hy) hb
        omega
      have hgw : w.heap.size ≤ g := (ownsRow_ge hS.out.row rfl).1
      have hvw : ∀ b, (Value.slice vo ks.length vc).ownBlock = some b → w.heap.size ≤ b := fun b e => by
        have h1 := ownsRow_ge row5.out e
        have := hSz.out; omega
      have t5 : Tch No w (w4.setCell ⟨g, r * 6 + 5, none⟩ (.slice vo ks.length vc)) := t4.out.trans (Tch.setCell (S := fun k => k = g) w4 (p := ⟨g, r * 6 + 5, none⟩) rfl _) (fun k hk => .inr (by rw [hk]; exact hgw))
      replace row5 := Lib.hid (ownsRow_base row5.out hSz.out)
      obtain ⟨w5, hw5⟩ : ∃ w5, w5 = w4.setCell ⟨g, r * 6 + 5, none⟩ (.slice vo ks.length vc) := ⟨_, rfl⟩
      rw [← hw5] at hS4 row5 t5 ⊢
      have hS5 := hS4.out.at 5 (.slice vo ks.length vc) (by omega) rfl
      rw [← hr.out] at hS5
      obtain ⟨c6, f6⟩ := hS5
      replace hfr := Lib.hid hfr
      replace hgw := Lib.hid hgw
      replace hvw := Lib.hid hvw
      replace t5 := Lib.hid t5
      replace hw5 := Lib.hid hw5
      replace f6 := Lib.hid f6
      replace row4 := Lib.hid row4
      clear c4 f4 c5
      go_wp2
      go_loopg [49] (ks.length + 1) (fun g2 jv wq => ∃ j : Nat, g2 = ks.length - j + 1 ∧ jv = .int .i64 j ∧ j ≤ ks.length ∧ Hid (SubM wq w.heap.size g cap3 D ((⟨nk, key, tx, qd, ln, ks⟩, .slice vo ks.length vc) :: E')) ∧ Hid (wq.ownsRow w.heap.size 3 1 (.slice vo ks.length vc) ks.length (icells ((ks.take j).map (· - (i : Int)) ++ ks.drop j))) ∧ Tch No w wq)
      case atStart => exact ⟨0, rfl, rfl, Nat.zero_le _, hS4, Lib.hid (by simpa using row5.out), t5.out⟩
      case round =>
        obtain ⟨j, rfl, rfl, hjl, hSq, rowr, tq⟩ := hrel
        have hSq5 := hSq.out.at 5 (.slice vo ks.length vc) (by omega) rfl
        rw [← hr.out] at hSq5
        obtain ⟨c7, f7⟩ := hSq5
        clear c6
        by_cases hj : j < ks.length
        · have j0 := nn_lt hj
          obtain ⟨y, hy⟩ : ∃ y, ks[j]? = some y := ⟨_, List.getElem?_eq_getElem hj⟩
          obtain ⟨kg, rfl, _, _, cy, fy⟩ := ownsRow_cell rowr.out (j := j) (u := .int .i64 y) (by simp only [icells, List.getElem?_map, turn_at hy]; rfl)
          have hby := b2.out y (List.mem_of_getElem? hy)
          have hwy : wrap64 (y - (i : Int)) = y - (i : Int) := by have := hi96.out; have := hpos.out; have := hfit.out; have := hL.out; have := hsz.out; unfold wrap64; omega
          have hset := hSq.out.kidSet rfl (fun a z hz e => hfr.out a z hz kg e rfl) rowr.out j (.int .i64 (y - (i : Int)))
          obtain ⟨hSs, rows⟩ := hset
          rw [icells_set, set_turn hy] at rows
          have ts : Tch No w (wr.setCell ⟨kg, j, none⟩ (.int .i64 (y - (i : Int)))) := tq.trans (Tch.setCell (S := fun k => k = kg) wr (p := ⟨kg, j, none⟩) rfl _) (fun k hk => .inr (by rw [hk]; exact hvw.out kg rfl))
          have hwj : Hid (wrap64 ((j : Int) + 1) = ((j + 1 : Nat) : Int)) := Lib.hid (by have := hks.out; unfold wrap64; omega)
          obtain ⟨w6, hw6⟩ : ∃ w6, w6 = wr.setCell ⟨kg, j, none⟩ (.int .i64 (y - (i : Int))) := ⟨_, rfl⟩
          rw [← hw6] at hSs rows ts
          replace hSs := Lib.hid hSs
          replace rows := Lib.hid rows
          replace ts := Lib.hid ts
          replace hby := Lib.hid hby
          replace hy := Lib.hid hy
          replace tq := Lib.hid tq
          replace hjl := Lib.hid hjl
          replace f7 := Lib.hid f7
          go_wp2
          rw [← hw6]
          replace hw6 := Lib.hid hw6
          go_roundg (ks.length - (j + 1) + 1)
          case rel => exact ⟨j + 1, rfl, by rw [hwj.out], hj, hSs, rows, ts.out⟩
          case measure => exact nn_down2 hj
        · have j0 := nn_ge hj
          have j1 : decide (j < ks.length) = false := decide_eq_false hj
          have hjj : j = ks.length := by omega
          have hdone : SubM wr w.heap.size g cap3 (D ++ [(⟨nk, key, tx, qd, ln, ks.map (· - (i : Int))⟩, .slice vo ks.length vc)]) E' := hSq.out.done (n' := ⟨nk, key, tx, qd, ln, ks.map (· - (i : Int))⟩) rfl (by
            have h := rowr.out
            rw [hjj, List.take_length, List.drop_length, List.append_nil] at h
            simp only [List.length_map]
            exact h) hfr.out
          replace hdone := Lib.hid hdone
          replace tq := Lib.hid tq
          replace hjl := Lib.hid hjl
          replace hj := Lib.hid hj
          replace f7 := Lib.hid f7
          replace hjj := Lib.hid hjj
          go_wp2
          go_roundg (m - (r + 1) + 1)
          case rel =>
            refine ⟨_, _, by rw [List.length_append, ← hr.out]; rfl, by rw [hwk.out, List.length_append, ← hr.out]; rfl, ?_, hdone, ?_, ?_, tq.out⟩
            · rw [List.length_append, ← hr.out, hE'.out]
              have := hE0l.out
              simp only [List.length_cons, List.length_nil, List.length_drop]
              omega
            · have hxl2 := hxl.out
              obtain ⟨q1, q2⟩ := List.getElem?_eq_some_iff.1 hxl2
              rw [List.length_append, ← hr.out, List.map_append, hDm.out]
              show _ = ((lay i s).take (r + 1)).map (sh i)
              rw [List.take_succ_eq_append_getElem q1, q2, List.map_append]
              rfl
            · rw [List.length_append, ← hr.out]; exact hE'.out
          case measure => rw [← hr.out]; exact nn_down2 hlt
    · have k0 := nn_ge hlt
      have k1 : decide (r < m) = false := decide_eq_false hlt
      have hrm : r = m := by omega
      have hEn : E = [] := by
        have : E.length = 0 := by omega
        exact List.length_eq_zero_iff.1 this
      subst hEn
      have hNM := hS.out.nm
      obtain ⟨x, hx⟩ : ∃ x, D[0]? = some x := ⟨_, List.getElem?_eq_getElem (by have := hmp.out; have := hr.out; omega)⟩
      obtain ⟨g9, cap9, e9, hc9⟩ := hNM.at hx
      cases e9
      obtain ⟨c1, f1⟩ := hc9 1 (.string x.1.key) (by omega) rfl
      simp only [Nat.zero_mul, Nat.zero_add] at c1 f1
      have hN2 := hNM.store (i := 0) (x' := (noKey x.1, x.2)) hx (j := 1) (by omega) (u := .string ⟨#[]⟩) rfl rfl rfl
      simp only [Nat.zero_mul, Nat.zero_add] at hN2
      have hDl : D.map (·.1) = lay 0 s := by
        rw [hDm, hrm, List.take_of_length_le (by rw [lay_length, ← hmm.out]; exact Nat.le_refl _)]
        have := lay_shift 0 i s
        rw [Nat.zero_add] at this
        exact this
      have hgw : w.heap.size ≤ g := (ownsRow_ge hS.out.row rfl).1
      have tf : Tch No w (wr.setCell ⟨g, 1, none⟩ (.string ⟨#[]⟩)) := tr.trans (Tch.setCell (S := fun k => k = g) wr (p := ⟨g, 1, none⟩) rfl _) (fun k hk => .inr (by rw [hk]; exact hgw))
      have hk0 : (0 : Int) < (m : Int) := by have := hmp.out; omega
      have hDlen : D.length = m := by have := hr.out; omega
      rw [hDlen] at hN2
      replace hN2 := Lib.hid hN2
      replace hDl := Lib.hid hDl
      replace tf := Lib.hid tf
      replace tr := Lib.hid tr
      replace hDE := Lib.hid hDE
      replace hDm := Lib.hid hDm
      replace hEd := Lib.hid hEd
      replace hrm := Lib.hid hrm
      replace hlt := Lib.hid hlt
      replace hgw := Lib.hid hgw
      replace hNM := Lib.hid hNM
      replace hc9 := Lib.hid hc9
      replace hDlen := Lib.hid hDlen
      go_wp2
      go_ret
      refine ⟨_, _, _, rfl, ?_, hN2.out, tf.out⟩
      rw [List.map_set, hDl.out, lay_noKey]
      congr 2
      have h0 : (lay 0 s)[0]? = some x.1 := by rw [← hDl.out, List.getElem?_map, hx]; rfl
      obtain ⟨n9, r9, h9, _⟩ := lay_head 0 s
      rw [h9] at h0 ⊢
      simp only [List.getElem?_cons_zero, Option.some.injEq] at h0
      rw [h0]; rfl
theorem sub_not {ns : List Nd} {v : Value} {w : World} {i : Int} (hN : NdV w v ns) (h : mayR ns = false ∨ i < 0 ∨ (ns.length : Int) ≤ i) :
    Calls Try.prog 27 #[v, .int .i64 i] w fun e w' => e = .returned (.slice none 0 0) ∧ Tch No w w' := by
  have hM := may_any ns v w hN
  obtain ⟨ao, cap, rfl⟩ := hN.shape
  cases hm : mayR ns with
  | false =>
    rw [hm] at hM
    replace hM := Lib.hid hM
    replace hN := Lib.hid hN
    replace h := Lib.hid h
    replace hm := Lib.hid hm
    go_enter Try.func27, Try.ntmps27
    go_wp2_with (first
      | (go_at_call 21; (with_reducible refine hM.out.mono ?_); rintro ev w1 ⟨rfl, hb1⟩; have t1 := Lib.hid (Tch.of_below (S := No) hb1); clear hb1)
      | fail)
    go_ret
    exact ⟨rfl, t1.out⟩
  | true =>
    rw [hm] at hM
    rw [hm] at h
    by_cases hi : i < 0
    · skip
      replace hM := Lib.hid hM
      replace hN := Lib.hid hN
      replace h := Lib.hid h
      replace hm := Lib.hid hm
      go_enter Try.func27, Try.ntmps27
      go_wp2_with (first
        | (go_at_call 21; (with_reducible refine hM.out.mono ?_); rintro ev w1 ⟨rfl, hb1⟩; have t1 := Lib.hid (Tch.of_below (S := No) hb1); clear hb1)
        | fail)
      go_ret
      exact ⟨rfl, t1.out⟩
    · have hi' : decide (i < 0) = false := decide_eq_false hi
      have hl : (ns.length : Int) ≤ i := by rcases h with h | h | h; cases h; exact absurd h hi; exact h
      replace hM := Lib.hid hM
      replace hN := Lib.hid hN
      replace h := Lib.hid h
      replace hm := Lib.hid hm
      replace hi := Lib.hid hi
      go_enter Try.func27, Try.ntmps27
      go_wp2_with (first
        | (go_at_call 21; (with_reducible refine hM.out.mono ?_); rintro ev w1 ⟨rfl, hb1⟩; have t1 := Lib.hid (Tch.of_below (S := No) hb1); clear hb1)
        | fail)
      go_ret
      exact ⟨rfl, t1.out⟩
end Go.Proofs.Ytcnjmkjfgghgoaa
end

section
/- parent: walked; nodes told the same. -/
namespace Go.Proofs.Ytcnjmkjfgghgoaa
open Go.RowKit Go.Mp Go.Tr
set_option linter.unusedVariables false
set_option maxRecDepth 100000
set_option maxHeartbeats 4000000
theorem nn_succ2 {k m : Nat} (hk : k < m) (hm : m ≤ 140737488351232) : wrap64 ((k : Int) + 1) = ((k + 1 : Nat) : Int) := by unfold wrap64; omega
theorem parent_any {ns : List Nd} {v : Value} {a : Nat} {w : World} (hN : NdV w v ns) (ha : a ≤ ns.length) : Calls Try.prog 29 #[v, .int .i64 a] w fun e w' => e = .returned (.int .i64 (parR ns a : Nat)) ∧ w' = w := by
  obtain ⟨ao, cap, rfl⟩ := hN.shape
  have hbig := hN.1
  replace hN := Lib.hid hN
  replace ha := Lib.hid ha
  replace hbig := Lib.hid hbig
  go_enter Try.func29, Try.ntmps29
  go_wp2
  go_loopg [5] (a + 1) (fun gg iv wr => ∃ i : Nat, gg = a - i + 1 ∧ iv = .int .i64 i ∧ i ≤ a ∧ wr = w ∧ Hid (∀ j, j < i → isKid ns a j = false))
  case atStart => exact ⟨0, rfl, rfl, Nat.zero_le _, rfl, Lib.hid (fun j hj => absurd hj (Nat.not_lt_zero j))⟩
  case round =>
    obtain ⟨i, rfl, rfl, hil, rfl, hno⟩ := hrel
    by_cases hlt : i < a
    · have k0 := nn_lt hlt
      have hin : i < ns.length := by have := ha.out; omega
      have k2 : (i : Int) < (ns.length : Int) := by omega
      obtain ⟨nd, hnd⟩ : ∃ nd, ns[i]? = some nd := ⟨_, List.getElem?_eq_getElem hin⟩
      obtain ⟨g, off, kv, rfl, hg, _, _, _, _, _, c5, hkd⟩ := hN.out.at hnd
      obtain ⟨ko, kcap, rfl⟩ := hkd.shape
      obtain ⟨m, hm⟩ : ∃ m, m = nd.kids.length := ⟨_, rfl⟩
      have hml : m ≤ 140737488351232 := by obtain ⟨_, _, _, h, _⟩ := hkd; omega
      rw [← hm] at c5 hkd
      replace hil := Lib.hid hil
      replace hin := Lib.hid hin
      replace hnd := Lib.hid hnd
      replace hkd := Lib.hid hkd
      replace hm := Lib.hid hm
      replace hg := Lib.hid hg
      replace hml := Lib.hid hml
      go_wp2
      go_loopg [6] (m + 1) (fun g2 kv2 wx => ∃ k : Nat, g2 = m - k + 1 ∧ kv2 = .int .i64 k ∧ k ≤ m ∧ wx = wr ∧ Hid (∀ j x, j < k → nd.kids[j]? = some x → x ≠ (a : Int)))
      case atStart => exact ⟨0, rfl, rfl, Nat.zero_le _, rfl, Lib.hid (fun j x hj => absurd hj (Nat.not_lt_zero j))⟩
      case round =>
        obtain ⟨k, rfl, rfl, hkm, rfl, hnk⟩ := hrel
        by_cases hk2 : k < m
        · have j0 := nn_lt hk2
          obtain ⟨x, hx⟩ : ∃ x, nd.kids[k]? = some x := ⟨_, List.getElem?_eq_getElem (by rw [← hm.out]; exact hk2)⟩
          obtain ⟨kg, koff, rfl, _, e5⟩ := hkd.out.at hx
          by_cases hxa : x = (a : Int)
          · have hxb : (x == (a : Int)) = true := by rw [beq_iff_eq]; exact hxa
            have hp : parR ns a = i := parR_some hlt hno.out (by
              unfold isKid; rw [hnd.out]
              exact List.any_eq_true.2 ⟨x, List.mem_of_getElem? hx, hxb⟩)
            replace hxa := Lib.hid hxa
            replace hp := Lib.hid hp
            replace hx := Lib.hid hx
            replace hkm := Lib.hid hkm
            go_wp2
            go_ret
            exact ⟨by rw [hp.out]; rfl, rfl⟩
          · have hxb : (x == (a : Int)) = false := by rw [beq_eq_false_iff_ne]; exact hxa
            have hnk2 : ∀ j y, j < k + 1 → nd.kids[j]? = some y → y ≠ (a : Int) := fun j y hj hy => by
              by_cases e : j = k
              · subst e; rw [hx] at hy; cases hy; exact hxa
              · exact hnk.out j y (by omega) hy
            replace hxa := Lib.hid hxa
            replace hx := Lib.hid hx
            replace hkm := Lib.hid hkm
            replace hnk2 := Lib.hid hnk2
            go_wp2
            go_roundg (m - (k + 1) + 1)
            case rel => exact ⟨k + 1, rfl, by rw [nn_succ2 hk2 hml.out], hk2, rfl, hnk2⟩
            case measure => exact nn_down2 hk2
        · have j0 := nn_ge hk2
          have j1 : decide (k < m) = false := decide_eq_false hk2
          have hno2 : ∀ j, j < i + 1 → isKid ns a j = false := fun j hj => by
            by_cases e : j = i
            · subst e
              unfold isKid; rw [hnd.out]
              rw [List.any_eq_false]
              intro y hy
              obtain ⟨r, hr⟩ := List.mem_iff_getElem?.1 hy
              have hrl := (List.getElem?_eq_some_iff.1 hr).1
              rw [beq_iff_eq]
              exact hnk.out r y (by have := hm.out; omega) hr
            · exact hno.out j (by omega)
          replace hkm := Lib.hid hkm
          replace hk2 := Lib.hid hk2
          replace hno2 := Lib.hid hno2
          go_wp2
          go_roundg (a - (i + 1) + 1)
          case rel => exact ⟨i + 1, rfl, by rw [nn_succ2 hlt (by have := ha.out; have := hbig.out; omega)], hlt, rfl, hno2⟩
          case measure => exact nn_down2 hlt
    · have k0 := nn_ge hlt
      have k1 : decide (i < a) = false := decide_eq_false hlt
      have hp : parR ns a = 0 := parR_none (fun j hj => hno.out j (by omega))
      replace hp := Lib.hid hp
      replace hil := Lib.hid hil
      replace hlt := Lib.hid hlt
      go_wp2
      go_ret
      exact ⟨by rw [hp.out]; rfl, rfl⟩
theorem nodesR_of {w : World} {v : Value} {ns : List Nd} (h : NdV w v ns) : NodesR w v ns := by
  obtain ⟨_, ao, cap, rfl, h⟩ := h
  refine ⟨ao, cap, rfl, fun i n hn => ?_⟩
  obtain ⟨g, off, kv, rfl, hg, c0, c1, c2, c3, c4, c5, hk⟩ := h i n hn
  obtain ⟨ko, kc, rfl, _, hk2⟩ := hk
  refine ⟨g, off, ko, kc, rfl, c0, c1, c2, c3, c4, c5, ko, kc, rfl, fun r x hx => ?_⟩
  obtain ⟨kg, koff, e, _, hc⟩ := hk2 r x hx
  exact ⟨kg, koff, e, hc⟩
end Go.Proofs.Ytcnjmkjfgghgoaa
end

section
/- The law TreeParts, walked. -/
namespace Go.Proofs.Ytcnjmkjfgghgoaa
open Go.RowKit Go.Mp Go.Tr
set_option linter.unusedVariables false
set_option maxRecDepth 100000
set_option maxHeartbeats 4000000
theorem NM.view {w : World} {B : Nat} {F : Nat → Prop} {v : Value} {R : List (Nd × Value)} {t : T} (h : NM w B F v R) (hR : R.map (·.1) = lay 0 t) (hs : t.size ≤ 4096) : ∃ g nc, v = .slice (some ⟨g, 0, none⟩) (lay 0 t).length nc ∧ (lay 0 t).length ≤ nc ∧ NdV w v (lay 0 t) := by
  have hN := h.reads (by rw [← List.length_map (f := (·.1)), hR, lay_length]; omega) (fun j y hy => by
    have hm : y.1 ∈ lay 0 t := by rw [← hR]; exact List.mem_map_of_mem (List.mem_of_getElem? hy)
    have := (bounds_lay 0 t _ hm).1
    omega)
  rw [hR] at hN
  obtain ⟨no, nc, rfl⟩ := ownsRow_shape h.row
  have hl : R.length = (lay 0 t).length := by rw [← hR, List.length_map]
  have hp := Go.Tr.size_pos t
  rw [← lay_length 0 t] at hp
  obtain ⟨y, hy⟩ : ∃ y, R[0]? = some y := ⟨_, List.getElem?_eq_getElem (by omega)⟩
  obtain ⟨g, eg, _, hcc, _⟩ := ownsRow_cell h.row (j := 0 * 6 + 0) (u := .int .i64 y.1.kind) (by rw [ncs_at hy 0 (by omega)]; rfl)
  subst eg
  rw [hl] at hN hcc ⊢
  exact ⟨g, nc, rfl, hcc, hN⟩
theorem twin_to {w w' : World} {v : Value} {ns : List Nd} (hN : NdV w v ns) (hkb : ∀ n ∈ ns, n.kids.length * 8 ≤ 140737488351232) (hlb : (ns.length + 1) * 80 ≤ 140737488355328) (tt : Tch No w w') :
    Calls Try.prog 22 #[v] w' fun e w2 => ∃ g c, e = .returned (.slice (some ⟨g, 0, none⟩) ns.length c) ∧ ns.length ≤ c ∧ NdV w2 (.slice (some ⟨g, 0, none⟩) ns.length c) ns ∧ Tch No w w2 := by
  refine (twin_any (hN.tch tt) hkb hlb).mono ?_
  rintro e w2 ⟨g, c, F, R, rfl, h1, h2, h3, h4⟩
  exact ⟨g, c, rfl, by omega, h3.twin h2 hlb hkb, tt.trans h4 (fun _ h => h.elim)⟩
theorem may_to {w w' : World} {v : Value} {ns : List Nd} {b : Bool} (hb : mayR ns = b) (hN : NdV w' v ns) (tt : Tch No w w') : Calls Try.prog 21 #[v] w' fun e w2 => e = .returned (.bool b) ∧ Tch No w w2 :=
  (may_any ns v w' hN).mono (by rw [hb]; rintro e w2 ⟨rfl, h⟩; exact ⟨rfl, tt.trans (Tch.of_below (S := No) h) (fun _ h => h.elim)⟩)
theorem parts_off {W : World} {v : Value} {ns : List Nd} {i : Int} {m : Int} (hN : NdV W v ns) (hkb : ∀ n ∈ ns, n.kids.length * 8 ≤ 140737488351232) (hlb : (ns.length + 1) * 80 ≤ 140737488355328) (hm : W.cell? ⟨0, 0, none⟩ = some (.int .i64 m)) (hoff : mayR ns = false ∨ i < 0 ∨ (ns.length : Int) ≤ i) :
    Calls Try.prog 7 #[v, .int .i64 i] W fun e w' => e = .returned (.bool true) ∧ Tch No W w' := by
  have hAw := awake_any W m hm
  obtain ⟨ao, cap, rfl⟩ := hN.shape
  obtain ⟨b, hb⟩ : ∃ b, mayR ns = b := ⟨_, rfl⟩
  cases b with
  | false =>
    replace hN := Lib.hid hN
    replace hkb := Lib.hid hkb
    replace hlb := Lib.hid hlb
    replace hm := Lib.hid hm
    replace hoff := Lib.hid hoff
    replace hAw := Lib.hid hAw
    replace hb := Lib.hid hb
    go_enter Try.func7, Try.ntmps7
    go_upto_region 5 with (first
      | (go_at_call 19; (with_reducible refine hAw.out.mono ?_); rintro e w1 ⟨rfl, t1⟩; replace t1 := Lib.hid t1)
      | (go_at_call 22; (with_reducible refine (twin_to hN.out hkb.out hlb.out t1.out).mono ?_); rintro e w2 ⟨g2, c2, rfl, hc2, hN2, t2⟩; replace hc2 := Lib.hid hc2; replace hN2 := Lib.hid hN2; replace t2 := Lib.hid t2; replace t1 := trivial)
      | (go_at_call 21; (with_reducible refine (may_to hb.out hN2.out t2.out).mono ?_); rintro e w3 ⟨rfl, t3⟩; replace t3 := Lib.hid t3; replace t2 := trivial)
      | (go_at_call 22; (with_reducible refine (twin_to hN.out hkb.out hlb.out t3.out).mono ?_); rintro e w4 ⟨g4, c4, rfl, hc4, hN4, t4⟩; replace hc4 := Lib.hid hc4; replace hN4 := Lib.hid hN4; replace t4 := Lib.hid t4; replace t3 := trivial)
      | (go_at_call 27; (with_reducible refine (sub_not hN4.out hoff.out).mono ?_); rintro e w5 ⟨rfl, t5⟩; replace t5 := Lib.hid (t4.out.trans t5 (fun _ h => h.elim)); replace t4 := trivial)
      | fail)
    go_wp2_with (first
      | (go_at_call 22; (with_reducible refine (twin_to hN.out hkb.out hlb.out t5.out).mono ?_); rintro e w6 ⟨g6, c6, rfl, hc6, hN6, t6⟩; replace hc6 := Lib.hid hc6; replace hN6 := Lib.hid hN6; replace t6 := Lib.hid t6)
      | (go_at_call 28; (with_reducible refine (depth_not hb.out hN6.out).mono ?_); rintro e w7 ⟨rfl, h7⟩; replace h7 := Lib.hid h7)
      | fail)
    go_ret
    exact ⟨rfl, t6.out.trans (Tch.of_below (S := No) h7.out) (fun _ h => h.elim)⟩
  | true =>
    by_cases hi : i < 0
    · skip
      replace hN := Lib.hid hN
      replace hkb := Lib.hid hkb
      replace hlb := Lib.hid hlb
      replace hm := Lib.hid hm
      replace hoff := Lib.hid hoff
      replace hAw := Lib.hid hAw
      replace hb := Lib.hid hb
      go_enter Try.func7, Try.ntmps7
      go_upto_region 5 with (first
        | (go_at_call 19; (with_reducible refine hAw.out.mono ?_); rintro e w1 ⟨rfl, t1⟩; replace t1 := Lib.hid t1)
        | (go_at_call 22; (with_reducible refine (twin_to hN.out hkb.out hlb.out t1.out).mono ?_); rintro e w2 ⟨g2, c2, rfl, hc2, hN2, t2⟩; replace hc2 := Lib.hid hc2; replace hN2 := Lib.hid hN2; replace t2 := Lib.hid t2; replace t1 := trivial)
        | (go_at_call 21; (with_reducible refine (may_to hb.out hN2.out t2.out).mono ?_); rintro e w3 ⟨rfl, t3⟩; replace t3 := Lib.hid t3; replace t2 := trivial)
        | (go_at_call 22; (with_reducible refine (twin_to hN.out hkb.out hlb.out t3.out).mono ?_); rintro e w4 ⟨g4, c4, rfl, hc4, hN4, t4⟩; replace hc4 := Lib.hid hc4; replace hN4 := Lib.hid hN4; replace t4 := Lib.hid t4; replace t3 := trivial)
        | (go_at_call 27; (with_reducible refine (sub_not hN4.out hoff.out).mono ?_); rintro e w5 ⟨rfl, t5⟩; replace t5 := Lib.hid (t4.out.trans t5 (fun _ h => h.elim)); replace t4 := trivial)
        | fail)
      go_wp2
      go_ret
      exact ⟨rfl, t5.out⟩
    · have hi' : decide (i < 0) = false := decide_eq_false hi
      have hl : (ns.length : Int) ≤ i := by rcases hoff with h | h | h; rw [hb] at h; cases h; exact absurd h hi; exact h
      replace hN := Lib.hid hN
      replace hkb := Lib.hid hkb
      replace hlb := Lib.hid hlb
      replace hm := Lib.hid hm
      replace hoff := Lib.hid hoff
      replace hAw := Lib.hid hAw
      replace hb := Lib.hid hb
      replace hi := Lib.hid hi
      go_enter Try.func7, Try.ntmps7
      go_upto_region 5 with (first
        | (go_at_call 19; (with_reducible refine hAw.out.mono ?_); rintro e w1 ⟨rfl, t1⟩; replace t1 := Lib.hid t1)
        | (go_at_call 22; (with_reducible refine (twin_to hN.out hkb.out hlb.out t1.out).mono ?_); rintro e w2 ⟨g2, c2, rfl, hc2, hN2, t2⟩; replace hc2 := Lib.hid hc2; replace hN2 := Lib.hid hN2; replace t2 := Lib.hid t2; replace t1 := trivial)
        | (go_at_call 21; (with_reducible refine (may_to hb.out hN2.out t2.out).mono ?_); rintro e w3 ⟨rfl, t3⟩; replace t3 := Lib.hid t3; replace t2 := trivial)
        | (go_at_call 22; (with_reducible refine (twin_to hN.out hkb.out hlb.out t3.out).mono ?_); rintro e w4 ⟨g4, c4, rfl, hc4, hN4, t4⟩; replace hc4 := Lib.hid hc4; replace hN4 := Lib.hid hN4; replace t4 := Lib.hid t4; replace t3 := trivial)
        | (go_at_call 27; (with_reducible refine (sub_not hN4.out hoff.out).mono ?_); rintro e w5 ⟨rfl, t5⟩; replace t5 := Lib.hid (t4.out.trans t5 (fun _ h => h.elim)); replace t4 := trivial)
        | fail)
      go_wp2
      go_ret
      exact ⟨rfl, t5.out⟩
theorem pt_sum {Hs ab qq Ht : Nat} (h2 : Ht ≤ 4096) (h : Hs + ab ≤ Ht) (hq : qq = Hs + ab) : wrap64 ((Hs : Int) + (ab : Int)) = (qq : Int) ∧ decide ((Ht : Int) < (qq : Int)) = false ∧ decide (Ht < qq) = false ∧ IntKind.i64.wrap ((Hs : Int) + (ab : Int)) = (qq : Int) :=
  ⟨by unfold wrap64; omega, decide_eq_false (by omega), decide_eq_false (by omega), by rw [IntKind.wrap_i64]; omega⟩
theorem pt_sub {n i d m : Nat} (hn : n ≤ 4096) (hm : i + m ≤ n) (hm0 : 1 ≤ m) (hd : d = n - i) : wrap64 ((n : Int) - (i : Int)) = (d : Int) ∧ decide ((d : Int) < (m : Int)) = false ∧ decide (d < m) = false ∧ (0 : Int) < (m : Int) ∧ (0 : Int) ≤ (i : Int) ∧ (i : Int) < (n : Int) ∧ IntKind.i64.wrap ((n : Int) - (i : Int)) = (d : Int) ∧ 0 < m :=
  ⟨by unfold wrap64; omega, decide_eq_false (by omega), decide_eq_false (by omega), by omega, by omega, by omega, by rw [IntKind.wrap_i64]; omega, by omega⟩
theorem pt_kid {kk i d n : Nat} (h : kk = i + d) (hk : kk < n) (hn : n ≤ 4096) : (0 : Int) ≤ (kk : Int) ∧ (kk : Int) < (n : Int) ∧ wrap64 ((kk : Int) - (i : Int)) = (d : Int) ∧ IntKind.i64.wrap ((kk : Int) - (i : Int)) = (d : Int) :=
  ⟨by omega, by omega, by unfold wrap64; omega, by rw [IntKind.wrap_i64]; omega⟩
theorem parts_in {W : World} {v : Value} {t : T} {i : Nat} {m : Int} (hok : okT 16 t) (hsz : t.size ≤ 4096) (hky : t.key.toList = []) (hi : i < t.size) (hN : NdV W v (lay 0 t)) (hm : W.cell? ⟨0, 0, none⟩ = some (.int .i64 m)) :
    Calls Try.prog 7 #[v, .int .i64 i] W fun e w' => e = .returned (.bool true) ∧ Tch No W w' := by
  have hAw := awake_any W m hm
  have hmay := mayR_lay hok hsz hky
  obtain ⟨s, s1, s2, _, s4⟩ := at_lay 16 0 i t hok (Nat.zero_le _) (by omega)
  rw [Nat.sub_zero] at s2
  have hssz : i + s.size ≤ t.size := by have h := lay_fits s2; rw [lay_length] at h; exact h
  have hms := mayR_lay (okT_withKey (k := ⟨#[]⟩) s1) (by rw [withKey_size]; omega) (by rw [withKey_key]; exact nil_toList)
  have hH0 : highR (lay 0 t) 16 0 = high t := highR_eq _ 16 t 0 hok ⟨[], by simp⟩ 16 (Nat.le_refl _)
  have hHi : highR (lay 0 t) 16 i = high s := highR_eq _ 16 s i s1 s2 16 (Nat.le_refl _)
  have hpar : ∀ a, 0 < a → a < t.size → parR (lay 0 t) a < a ∧ highR (lay 0 t) 16 a + 1 ≤ highR (lay 0 t) 16 (parR (lay 0 t) a) := fun a h1 h2 => ⟨(parR_tree h1 h2).1, high_par hok h1 h2⟩
  have hht := high_size t
  have hHb : ∀ a, a < t.size → highR (lay 0 t) 16 a ≤ 4096 := fun a ha => by
    obtain ⟨sa, sa1, sa2, _⟩ := at_lay 16 0 a t hok (Nat.zero_le _) (by omega)
    rw [Nat.sub_zero] at sa2
    rw [highR_eq _ 16 sa a sa1 sa2 16 (Nat.le_refl _)]
    have h1 := high_size sa
    have h2 := lay_fits sa2
    rw [lay_length] at h2
    omega
  have hDl : ∀ w' v, NdV w' v (lay 0 t) → Calls Try.prog 28 #[v] w' fun e w2 => e = .returned (.int .i64 (high t : Nat)) ∧ Below w'.heap.size w' w2 := fun w' v h => depth_may hok hmay h
  have hDs : ∀ w' v, NdV w' v (lay 0 (s.withKey ⟨#[]⟩)) → Calls Try.prog 28 #[v] w' fun e w2 => e = .returned (.int .i64 (high s : Nat)) ∧ Below w'.heap.size w' w2 := fun w' v h => by
    have := depth_may (okT_withKey (k := ⟨#[]⟩) s1) hms h
    rw [high_withKey] at this
    exact this
  have hkb : ∀ n ∈ lay 0 t, n.kids.length * 8 ≤ 140737488351232 := fun n hn => by have := (bounds_lay 0 t n hn).1; omega
  have hkbs : ∀ n ∈ lay 0 (s.withKey ⟨#[]⟩), n.kids.length * 8 ≤ 140737488351232 := fun n hn => by have := (bounds_lay 0 _ n hn).1; rw [withKey_size] at this; omega
  have hsub : ∀ w' g c, NdV w' (.slice (some ⟨g, 0, none⟩) (lay 0 t).length c) (lay 0 t) → (lay 0 t).length ≤ c → Calls Try.prog 27 #[.slice (some ⟨g, 0, none⟩) (lay 0 t).length c, .int .i64 i] w' fun e w2 => ∃ gs cs, e = .returned (.slice (some ⟨gs, 0, none⟩) (lay 0 (s.withKey ⟨#[]⟩)).length cs) ∧ NdV w2 (.slice (some ⟨gs, 0, none⟩) (lay 0 (s.withKey ⟨#[]⟩)).length cs) (lay 0 (s.withKey ⟨#[]⟩)) ∧ Tch No w' w2 := fun w' g c h hc => by
    refine (sub_may hsz hmay s1 s2 h hc).mono ?_
    rintro e w2 ⟨v', F, R, rfl, h1, h2, h3⟩
    obtain ⟨gs, cs, rfl, _, h5⟩ := h2.view h1 (by rw [withKey_size]; omega)
    exact ⟨gs, cs, rfl, h5, h3⟩
  have hwhole : ∀ w' g c, NdV w' (.slice (some ⟨g, 0, none⟩) (lay 0 t).length c) (lay 0 t) → (lay 0 t).length ≤ c → Calls Try.prog 27 #[.slice (some ⟨g, 0, none⟩) (lay 0 t).length c, .int .i64 0] w' fun e w2 => ∃ gs cs, e = .returned (.slice (some ⟨gs, 0, none⟩) (lay 0 t).length cs) ∧ NdV w2 (.slice (some ⟨gs, 0, none⟩) (lay 0 t).length cs) (lay 0 t) ∧ Tch No w' w2 := fun w' g c h hc => by
    refine (sub_may (i := 0) (s := t) hsz hmay hok ⟨[], by simp⟩ h hc).mono ?_
    rw [withKey_self hky]
    rintro e w2 ⟨v', F, R, rfl, h1, h2, h3⟩
    obtain ⟨gs, cs, rfl, _, h5⟩ := h2.view h1 hsz
    exact ⟨gs, cs, rfl, h5, h3⟩
  have hGl : ∀ (r : Nat) (c : T), s.kids[r]? = some c → getR (lay 0 t) i c.key = if s.kind = 2 then some ((i + 1 + sizes (s.kids.take r) : Nat) : Int) else none := fun r c hc => get_kid s1 s2 hc
  have hGs : ∀ (r : Nat) (c : T), s.kids[r]? = some c → getR (lay 0 (s.withKey ⟨#[]⟩)) 0 c.key = if s.kind = 2 then some ((1 + sizes (s.kids.take r) : Nat) : Int) else none := fun r c hc => by
    have h := get_kid (ns := lay 0 (s.withKey ⟨#[]⟩)) (i := 0) (s := s.withKey ⟨#[]⟩) (okT_withKey s1) ⟨[], by simp⟩ (r := r) (c := c) (by cases s; exact hc)
    have e1 : (s.withKey ⟨#[]⟩).kind = s.kind := by cases s; rfl
    have e2 : (s.withKey ⟨#[]⟩).kids = s.kids := by cases s; rfl
    rw [e1, e2] at h
    rw [Nat.zero_add] at h
    exact h
  have hkid : ∀ (r : Nat) (c : T), s.kids[r]? = some c → ∃ n, (lay 0 t)[i + 1 + sizes (s.kids.take r)]? = some n ∧ n.key = c.key ∧ i + 1 + sizes (s.kids.take r) < t.size := fun r c hc => by
    obtain ⟨k, key, tx, q, ln, ks⟩ := s
    simp only [lay] at s2
    simp only [T.kids] at hc ⊢
    obtain ⟨_, _, hp2⟩ := prefix_get s2
    have hl := lays_at hc hp2
    obtain ⟨n, rr, he, hk, _⟩ := lay_head (i + 1 + sizes (ks.take r)) c
    rw [he] at hl
    obtain ⟨g1, g2, _⟩ := prefix_get hl
    rw [lay_length] at g2
    exact ⟨n, g1, hk, g2⟩
  obtain ⟨nl, hnl, hlkind, hlkids⟩ : ∃ n, (lay 0 t)[i]? = some n ∧ n.kind = s.kind ∧ n.kids = kidAts (i + 1) s.kids := by
    obtain ⟨n, rr, he, _, hk, hkk, _⟩ := lay_head i s
    rw [he] at s2
    exact ⟨n, (prefix_get s2).1, hk, hkk⟩
  obtain ⟨nsx, hnsx, hskind, hskey, hskids⟩ : ∃ n, (lay 0 (s.withKey ⟨#[]⟩))[0]? = some n ∧ n.kind = s.kind ∧ n.key = ⟨#[]⟩ ∧ n.kids = kidAts 1 s.kids := by
    cases s; exact ⟨_, rfl, rfl, rfl, rfl⟩
  have hslen : (lay 0 (s.withKey ⟨#[]⟩)).length = s.size := by rw [lay_length, withKey_size]
  have hllen : (lay 0 t).length = t.size := lay_length 0 t
  have hsp := Go.Tr.size_pos s
  have hslim : Slim (lay 0 t) := ⟨by rw [lay_length]; omega, fun j n hn => by have := (bounds_lay 0 t n (List.mem_of_getElem? hn)).1; omega⟩
  have hhs : high s ≤ 4096 := by have := high_size s; omega
  obtain ⟨ns, hns⟩ : ∃ ns, ns = lay 0 t := ⟨_, rfl⟩
  obtain ⟨ms, hmse⟩ : ∃ ms, ms = lay 0 (s.withKey ⟨#[]⟩) := ⟨_, rfl⟩
  rw [← hns] at hmay hH0 hHi hHb hpar hDl hkb hsub hwhole hGl hkid hnl hllen hslim hN
  rw [← hmse] at hms hDs hkbs hsub hGs hnsx hslen
  obtain ⟨ao, cap, rfl⟩ := hN.shape
  obtain ⟨Ht, hHt⟩ : ∃ x, x = high t := ⟨_, rfl⟩
  obtain ⟨Hs, hHs⟩ : ∃ x, x = high s := ⟨_, rfl⟩
  rw [← hHt] at hH0 hDl hht
  rw [← hHs] at hHi hDs hhs
  have hlb : (ns.length + 1) * 80 ≤ 140737488355328 := by rw [hllen]; omega
  have hlbs : (ms.length + 1) * 80 ≤ 140737488355328 := by rw [hslen]; omega
  have i0 : decide ((i : Int) < 0) = false := decide_eq_false (by omega)
  have i1 : decide ((ns.length : Int) ≤ (i : Int)) = false := decide_eq_false (by omega)
  have i2 : decide (ns.length ≤ i) = false := decide_eq_false (by omega)
  replace hok := Lib.hid hok
  replace hsz := Lib.hid hsz
  replace hky := Lib.hid hky
  replace hi := Lib.hid hi
  replace hN := Lib.hid hN
  replace hm := Lib.hid hm
  replace hAw := Lib.hid hAw
  replace hmay := Lib.hid hmay
  replace s1 := Lib.hid s1
  replace s2 := Lib.hid s2
  replace s4 := Lib.hid s4
  replace hssz := Lib.hid hssz
  replace hms := Lib.hid hms
  replace hH0 := Lib.hid hH0
  replace hHi := Lib.hid hHi
  replace hHb := Lib.hid hHb
  replace hpar := Lib.hid hpar
  replace hht := Lib.hid hht
  replace hDl := Lib.hid hDl
  replace hDs := Lib.hid hDs
  replace hkb := Lib.hid hkb
  replace hkbs := Lib.hid hkbs
  replace hsub := Lib.hid hsub
  replace hwhole := Lib.hid hwhole
  replace hGl := Lib.hid hGl
  replace hGs := Lib.hid hGs
  replace hkid := Lib.hid hkid
  replace hnl := Lib.hid hnl
  replace hlkind := Lib.hid hlkind
  replace hlkids := Lib.hid hlkids
  replace hnsx := Lib.hid hnsx
  replace hskind := Lib.hid hskind
  replace hskey := Lib.hid hskey
  replace hskids := Lib.hid hskids
  replace hslen := Lib.hid hslen
  replace hllen := Lib.hid hllen
  replace hsp := Lib.hid hsp
  replace hhs := Lib.hid hhs
  replace hns := Lib.hid hns
  replace hmse := Lib.hid hmse
  replace hHt := Lib.hid hHt
  replace hHs := Lib.hid hHs
  replace hlb := Lib.hid hlb
  replace hlbs := Lib.hid hlbs
  replace hslim := Lib.hid hslim
  go_enter Try.func7, Try.ntmps7
  go_upto_region 8 with (first
    | (go_at_call 19; (with_reducible refine hAw.out.mono ?_); rintro e w1 ⟨rfl, t1⟩; replace t1 := Lib.hid t1)
    | (go_at_call 22; (with_reducible refine (twin_to hN.out hkb.out hlb.out t1.out).mono ?_); rintro e w2 ⟨g2, c2, rfl, hc2, hN2, t2⟩; replace hc2 := Lib.hid hc2; replace hN2 := Lib.hid hN2; replace t2 := Lib.hid t2; replace t1 := trivial)
    | (go_at_call 21; (with_reducible refine (may_to hmay.out hN2.out t2.out).mono ?_); rintro e w3 ⟨rfl, t3⟩; replace t3 := Lib.hid t3; replace t2 := trivial)
    | (go_at_call 22; (with_reducible refine (twin_to hN.out hkb.out hlb.out t3.out).mono ?_); rintro e w4 ⟨g4, c4, rfl, hc4, hN4, t4⟩; replace hc4 := Lib.hid hc4; replace hN4 := Lib.hid hN4; replace t4 := Lib.hid t4; replace t3 := trivial)
    | (go_at_call 27; (with_reducible refine (hsub.out _ _ _ hN4.out hc4.out).mono ?_); rintro e w5 ⟨gs, cs, rfl, hNs5, t5⟩; replace hNs5 := Lib.hid hNs5; replace t5 := Lib.hid (t4.out.trans t5 (fun _ h => h.elim)); replace t4 := trivial; replace hsub := trivial)
    | (go_at_call 22; (with_reducible refine (twin_to (hN.out.tch t5.out) hkb.out hlb.out (Tch.refl No w5)).mono ?_); rintro e w6 ⟨g6, c6, rfl, hc6, hN6, t6⟩; replace hc6 := Lib.hid hc6; replace hN6 := Lib.hid hN6; replace t6 := Lib.hid t6)
    | (go_at_call 27; (with_reducible refine (hwhole.out _ _ _ hN6.out hc6.out).mono ?_); rintro e w7 ⟨gw, cw, rfl, hNw7, t7⟩; replace hNw7 := Lib.hid hNw7; replace t7 := Lib.hid t7)
    | fail)
  have t57 : Tch No w5 w7 := t6.out.trans t7.out (fun _ h => h.elim)
  have t07 : Tch No W w7 := t5.out.trans t57 (fun _ h => h.elim)
  have hL7 := hN.out.tch t07
  have hS7 := hNs5.out.tch t57
  have hg0 : Hs ≤ 4096 ∧ Ht ≤ 4096 := ⟨hhs.out, by have := hht.out; have := hsz.out; omega⟩
  replace t57 := Lib.hid t57
  replace t07 := Lib.hid t07
  replace hL7 := Lib.hid hL7
  replace hS7 := Lib.hid hS7
  replace hg0 := Lib.hid hg0
  clear hN2 hc2 hN4 hc4 hN6 hc6
  go_wp2
  go_loopg [8, 9] (i + 1) (fun gg av uv wr => ∃ up ab : Nat, gg = up + 1 ∧ av = .int .i64 ab ∧ uv = .int .i64 up ∧ up ≤ i ∧ Hs + ab ≤ highR ns 16 up ∧ wr = w7)
  case atStart => exact ⟨i, 0, rfl, rfl, rfl, Nat.le_refl _, by rw [hHi.out]; omega, rfl⟩
  case round =>
    obtain ⟨up, ab, rfl, rfl, rfl, hui, hab, rfl⟩ := hrel
    have hup16 : highR ns 16 up ≤ Ht ∨ 0 < up := by
      by_cases h : up = 0
      · subst h; exact .inl (Nat.le_of_eq hH0.out)
      · exact .inr (by omega)
    by_cases hlt : 0 < up
    · have k0 : (0 : Int) < (up : Int) := by omega
      obtain ⟨p1, p2⟩ := hpar.out up hlt (by have := hi.out; omega)
      have hCp := parent_any (a := up) hL7.out (by have := hllen.out; have := hi.out; omega)
      obtain ⟨pp, hpp⟩ : ∃ pp, pp = parR ns up := ⟨_, rfl⟩
      rw [← hpp] at p1 p2 hCp
      have habs : ab ≤ 4096 := by have := hHb.out up (by have := hi.out; omega); omega
      have hwk : Hid (wrap64 ((ab : Int) + 1) = ((ab + 1 : Nat) : Int)) := Lib.hid (by unfold wrap64; omega)
      replace hui := Lib.hid hui
      replace hab := Lib.hid hab
      replace hup16 := Lib.hid hup16
      replace p1 := Lib.hid p1
      replace p2 := Lib.hid p2
      replace hCp := Lib.hid hCp
      replace hpp := Lib.hid hpp
      replace habs := Lib.hid habs
      go_wp2_with (first
        | (go_at_call 29; (with_reducible refine hCp.out.mono ?_); rintro e wq ⟨rfl, rfl⟩)
        | fail)
      go_roundg (pp + 1)
      case rel => exact ⟨pp, ab + 1, rfl, by rw [hwk.out], rfl, by have := p1.out; have := hui.out; omega, by have := p2.out; have := hab.out; omega, rfl⟩
      case measure => have := p1.out; omega
    · have k0 : decide ((0 : Int) < (up : Int)) = false := decide_eq_false (by omega)
      have k1 : decide (0 < up) = false := decide_eq_false hlt
      have hu0 : up = 0 := by omega
      subst hu0
      rw [hH0.out] at hab
      obtain ⟨wz, hwz⟩ : ∃ wz, wz = wr := ⟨_, rfl⟩
      subst hwz
      obtain ⟨gl, offl, kvl, rfl, hgl, q0, _, _, _, _, q5, hkd⟩ := hL7.out.at hnl.out
      obtain ⟨ko, kc, rfl⟩ := hkd.shape
      obtain ⟨gs', offs, kvs, egs, hgs, z0, z1, _, _, _, z5, hkds⟩ := hS7.out.at hnsx.out
      simp only [Option.some.injEq, Addr.mk.injEq] at egs
      obtain ⟨rfl, rfl, _⟩ := egs
      obtain ⟨kso, ksc, rfl⟩ := hkds.shape
      obtain ⟨sk, hsk⟩ : ∃ sk, sk = s.kind := ⟨_, rfl⟩
      obtain ⟨km, hkm⟩ : ∃ km, km = s.kids.length := ⟨_, rfl⟩
      have hkl1 : nl.kids.length = km := by rw [hlkids.out, kidAts_length, hkm]
      have hkl2 : nsx.kids.length = km := by rw [hskids.out, kidAts_length, hkm]
      rw [hlkind.out, ← hsk] at q0
      rw [hskind.out, ← hsk] at z0
      rw [hskey.out] at z1
      rw [hkl1] at q5 hkd
      rw [hkl2] at z5 hkds
      simp only [Nat.zero_mul, Nat.zero_add] at z0 z1 z5
      have hkm96 : km ≤ 4096 := by
        have h1 := (bounds_lay 0 t nl (by rw [← hns.out]; exact List.mem_of_getElem? hnl.out)).1
        have := hsz.out; omega
      have hSk : (sk != sk) = false := by simp
      obtain ⟨qq, hqq⟩ : ∃ qq, qq = Hs + ab := ⟨_, rfl⟩
      obtain ⟨hq1, hq2, hq3, hq4⟩ := pt_sum hg0.out.2 hab hqq
      obtain ⟨dd, hdd⟩ : ∃ dd, dd = ns.length - i := ⟨_, rfl⟩
      obtain ⟨hd1, hd2, hd3, hm0, hi0, hi1, hd4, hm0n⟩ := pt_sub (n := ns.length) (i := i) (m := ms.length) (d := dd) (by rw [hllen.out]; exact hsz.out) (by rw [hllen.out, hslen.out]; exact hssz.out) (by rw [hslen.out]; exact hsp.out) hdd
      have hSH : ∀ w', Tch No wz w' → (Tch No wz w' ∧ w'.cell? ⟨gs, 1, none⟩ = some (.string ⟨#[]⟩) ∧ w'.cell? ⟨gs, 0, none⟩ = some (.int .i64 sk) ∧ w'.cell? ⟨gl, offl + i * 6, none⟩ = some (.int .i64 sk)) := fun w' tt => ⟨tt, tt.cell_some z1 id, tt.cell_some z0 id, tt.cell_some q0 id⟩
      have hWd : Tch No wz wz.drew := Tch.drew No wz
      have hNo : ∀ w', Tch No wz w' → Calls Try.prog 30 #[.slice (some ⟨gw, 0, none⟩) ns.length cw, .slice (some ⟨gl, offl, none⟩) ns.length cap] w' fun e w2 => e = .returned (.bool true) ∧ Tch No wz w2 := fun w' tt => by
        refine (nodes_same (nodesR_of (hNw7.out.tch tt)) (nodesR_of (hL7.out.tch tt)) hslim.out).mono ?_
        rintro e w2 ⟨rfl, q, rfl⟩
        exact ⟨rfl, tt.trans (Tch.drewN No w' q) (fun _ h => h.elim)⟩
      replace hgl := Lib.hid hgl
      replace hkd := Lib.hid hkd
      replace hgs := Lib.hid hgs
      replace hkds := Lib.hid hkds
      replace hsk := Lib.hid hsk
      replace hkm := Lib.hid hkm
      replace hkl1 := Lib.hid hkl1
      replace hkl2 := Lib.hid hkl2
      replace hkm96 := Lib.hid hkm96
      replace hqq := Lib.hid hqq
      replace hdd := Lib.hid hdd
      replace hSH := Lib.hid hSH
      replace hWd := Lib.hid hWd
      replace hNo := Lib.hid hNo
      replace hab := Lib.hid hab
      replace hui := Lib.hid hui
      replace hup16 := Lib.hid hup16
      replace q5 := Lib.hid q5
      replace z5 := Lib.hid z5
      go_wp2
      go_region_held3 (fun w' => Tch No wz w' ∧ w'.cell? ⟨gs, 1, none⟩ = some (.string ⟨#[]⟩) ∧ w'.cell? ⟨gs, 0, none⟩ = some (.int .i64 sk) ∧ w'.cell? ⟨gl, offl + i * 6, none⟩ = some (.int .i64 sk))
        (first | exact hSH.out _ hWd.out | exact hSH.out _ tA.out | exact hSH.out _ tB.out | exact hSH.out _ tC.out | exact hSH.out _ tD.out | exact hSH.out _ tE.out | exact hSH.out _ tF.out | fail)
        (first
          | (go_at_call 30; (with_reducible refine (hNo.out _ hWd.out).mono ?_); rintro e wA ⟨rfl, tA⟩; replace tA := Lib.hid tA)
          | (go_at_call 22; (with_reducible refine (twin_to hS7.out hkbs.out hlbs.out tA.out).mono ?_); rintro e wB ⟨gB, cB, rfl, _, hNB, tB⟩; replace hNB := Lib.hid hNB; replace tB := Lib.hid tB)
          | (go_at_call 21; (with_reducible refine (may_to hms.out hNB.out tB.out).mono ?_); rintro e wC ⟨rfl, tC⟩; replace tC := Lib.hid tC)
          | (go_at_call 28; (with_reducible refine (hDs.out _ _ (hS7.out.tch tC.out)).mono ?_); rintro e wD ⟨rfl, tD⟩; replace tD := Lib.hid (tC.out.trans (Tch.of_below (S := No) tD) (fun _ h => h.elim)))
          | (go_at_call 22; (with_reducible refine (twin_to hL7.out hkb.out hlb.out tD.out).mono ?_); rintro e wE ⟨gE, cE, rfl, _, hNE, tE⟩; replace hNE := Lib.hid hNE; replace tE := Lib.hid tE)
          | (go_at_call 28; (with_reducible refine (hDl.out _ _ hNE.out).mono ?_); rintro e wF ⟨rfl, tF⟩; replace tF := Lib.hid (tE.out.trans (Tch.of_below (S := No) tF) (fun _ h => h.elim)))
          | fail)
      have q0h := Lib.hid q0
      clear hNB hNE tA tB tC tD tE hSH hWd hNo q0 z0 z1 hq1 hq2 hq3 hq4 hd1 hd2 hd3 hd4 hSk
      obtain ⟨isM, hisM⟩ : ∃ b, b = decide (sk = 2) := ⟨_, rfl⟩
      have hisM2 : (sk == 2) = isM := by rw [hisM]; rfl
      replace hisM := Lib.hid hisM
      go_wp2
      go_loopg [10] (km + 1) (fun gg rv wx => ∃ r : Nat, gg = km - r + 1 ∧ rv = .int .i64 r ∧ r ≤ km ∧ Hid (Tch No wz wx))
      case atStart => exact ⟨0, rfl, rfl, Nat.zero_le _, tF⟩
      case round =>
        obtain ⟨r, rfl, rfl, hrm, tr⟩ := hrel
        have q5r := tr.out.cell_some q5.out id
        by_cases hlt2 : r < km
        · have j0 := nn_lt hlt2
          obtain ⟨c, hc⟩ : ∃ c, s.kids[r]? = some c := ⟨_, List.getElem?_eq_getElem (by rw [← hkm.out]; exact hlt2)⟩
          obtain ⟨ckn, hckn, hck, hckl⟩ := hkid.out r c hc
          have hG1' := hGl.out r c hc
          have hG2' := hGs.out r c hc
          have hka := kidAts_at (b := i + 1) hc
          have hkb' := kidAts_at (b := 1) hc
          obtain ⟨kk, hkk⟩ : ∃ kk, kk = i + 1 + sizes (s.kids.take r) := ⟨_, rfl⟩
          obtain ⟨d2, hd2⟩ : ∃ d2, d2 = 1 + sizes (s.kids.take r) := ⟨_, rfl⟩
          rw [← hkk] at hckn hckl hG1' hka
          rw [← hd2] at hG2' hkb'
          rw [← hlkids.out] at hka
          rw [← hskids.out] at hkb'
          obtain ⟨kg, koff, eko, _, ek1⟩ := hkd.out.at hka
          obtain ⟨sg, soff, eso, _, ek2⟩ := hkds.out.at hkb'
          subst eko
          subst eso
          obtain ⟨ck, hcke⟩ : ∃ ck, ck = c.key := ⟨_, rfl⟩
          rw [← hcke] at hck hG1' hG2'
          obtain ⟨gl', offl', _, egl, _, _, ekey, _, _, _, _, _⟩ := hL7.out.at hckn
          simp only [Option.some.injEq, Addr.mk.injEq] at egl
          obtain ⟨rfl, rfl, _⟩ := egl
          rw [hck] at ekey
          obtain ⟨hkn0, hkn1, hkd1, hkd2⟩ := pt_kid (kk := kk) (i := i) (d := d2) (n := ns.length) (by omega) (by rw [hllen.out]; exact hckl) (by rw [hllen.out]; exact hsz.out)
          rw [← hsk.out] at hG1' hG2'
          have hSH : ∀ w', Tch No wz w' → (Tch No wz w' ∧ w'.cell? ⟨gl, offl + kk * 6 + 1, none⟩ = some (.string ck)) := fun w' tt => ⟨tt, tt.cell_some ekey id⟩
          have hWd : Tch No wz wr.drew := tr.out.trans (Tch.drew No wr) (fun _ h => h.elim)
          have ek1r := tr.out.cell_some ek1 id
          have hwr := Lib.hid (nn_succ hlt2 (by have := hkm96.out; omega))
          replace hrm := Lib.hid hrm
          replace hc := Lib.hid hc
          replace hckn := Lib.hid hckn
          replace hck := Lib.hid hck
          replace hckl := Lib.hid hckl
          replace hka := Lib.hid hka
          replace hkb' := Lib.hid hkb'
          replace hkk := Lib.hid hkk
          replace hd2 := Lib.hid hd2
          replace hcke := Lib.hid hcke
          replace hSH := Lib.hid hSH
          replace hWd := Lib.hid hWd
          replace ek1 := Lib.hid ek1
          replace ek2 := Lib.hid ek2
          replace ekey := Lib.hid ekey
          cases isM with
          | true =>
            have hs2 : sk = 2 := of_decide_eq_true hisM.out.symm
            have hG1 : ∀ w' v, NdV w' v ns → Calls Try.prog 31 #[v, .int .i64 i, .string ck] w' fun e w2 => e = .returned (.tuple #[.int .i64 (kk : Int), .bool true]) ∧ w2 = w' := fun w' v hv => by
              have h := get_any ns v i ck w' hv
              rw [hG1', if_pos hs2] at h
              exact h
            have hG2 : ∀ w' v, NdV w' v ms → Calls Try.prog 31 #[v, .int .i64 0, .string ck] w' fun e w2 => e = .returned (.tuple #[.int .i64 (d2 : Int), .bool true]) ∧ w2 = w' := fun w' v hv => by
              have h := get_any ms v 0 ck w' hv
              rw [hG2', if_pos hs2] at h
              exact h
            replace hG1 := Lib.hid hG1
            replace hG2 := Lib.hid hG2
            replace hG1' := Lib.hid hG1'
            replace hG2' := Lib.hid hG2'
            replace hisM := Lib.hid hisM
            replace hs2 := Lib.hid hs2
            go_upto_region 19 with fail
            go_region_held3 (fun w' => Tch No wz w' ∧ w'.cell? ⟨gl, offl + kk * 6 + 1, none⟩ = some (.string ck))
              (first | exact hSH.out _ hWd.out | exact hSH.out _ tG.out | fail)
              (first
                | (go_at_call 22; (with_reducible refine (twin_to hL7.out hkb.out hlb.out hWd.out).mono ?_); rintro e wG ⟨gG, cG, rfl, _, hNG, tG⟩; replace hNG := Lib.hid hNG; replace tG := Lib.hid tG)
                | (go_at_call 31; (with_reducible refine (hG1.out _ _ hNG.out).mono ?_); rintro e wG2 ⟨rfl, rfl⟩)
                | fail)
            go_upto_region 20 with fail
            have hWd2 : Tch No wz wG2.drew := tG.out.trans (Tch.drew No wG2) (fun _ h => h.elim)
            replace hWd2 := Lib.hid hWd2
            go_region_held3 (fun w' => Tch No wz w' ∧ w'.cell? ⟨gl, offl + kk * 6 + 1, none⟩ = some (.string ck))
              (first | exact hSH.out _ hWd2.out | exact hSH.out _ tK.out | fail)
              (first
                | (go_at_call 22; (with_reducible refine (twin_to hS7.out hkbs.out hlbs.out hWd2.out).mono ?_); rintro e wK ⟨gK, cK, rfl, _, hNK, tK⟩; replace hNK := Lib.hid hNK; replace tK := Lib.hid tK)
                | (go_at_call 31; (with_reducible refine (hG2.out _ _ hNK.out).mono ?_); rintro e wK2 ⟨rfl, rfl⟩)
                | fail)
            have f0 := tK.out.cell_some q0h.out id
            have f5 := tK.out.cell_some z5.out id
            have f2 := tK.out.cell_some ek2.out id
            clear ek1r q5r
            go_wp2
            go_roundg (km - (r + 1) + 1)
            case rel => exact ⟨r + 1, rfl, by rw [hwr.out], hlt2, tK⟩
            case measure => exact nn_down2 hlt2
          | false =>
            have hs2 : ¬ sk = 2 := of_decide_eq_false hisM.out.symm
            have hG1 : ∀ w' v, NdV w' v ns → Calls Try.prog 31 #[v, .int .i64 i, .string ck] w' fun e w2 => e = .returned (.tuple #[.int .i64 0, .bool false]) ∧ w2 = w' := fun w' v hv => by
              have h := get_any ns v i ck w' hv
              rw [hG1', if_neg hs2] at h
              exact h
            have hG2 : ∀ w' v, NdV w' v ms → Calls Try.prog 31 #[v, .int .i64 0, .string ck] w' fun e w2 => e = .returned (.tuple #[.int .i64 0, .bool false]) ∧ w2 = w' := fun w' v hv => by
              have h := get_any ms v 0 ck w' hv
              rw [hG2', if_neg hs2] at h
              exact h
            replace hG1 := Lib.hid hG1
            replace hG2 := Lib.hid hG2
            replace hG1' := Lib.hid hG1'
            replace hG2' := Lib.hid hG2'
            replace hisM := Lib.hid hisM
            replace hs2 := Lib.hid hs2
            go_upto_region 19 with fail
            go_region_held3 (fun w' => Tch No wz w' ∧ w'.cell? ⟨gl, offl + kk * 6 + 1, none⟩ = some (.string ck))
              (first | exact hSH.out _ hWd.out | exact hSH.out _ tG.out | fail)
              (first
                | (go_at_call 22; (with_reducible refine (twin_to hL7.out hkb.out hlb.out hWd.out).mono ?_); rintro e wG ⟨gG, cG, rfl, _, hNG, tG⟩; replace hNG := Lib.hid hNG; replace tG := Lib.hid tG)
                | (go_at_call 31; (with_reducible refine (hG1.out _ _ hNG.out).mono ?_); rintro e wG2 ⟨rfl, rfl⟩)
                | fail)
            go_upto_region 20 with fail
            have hWd2 : Tch No wz wG2.drew := tG.out.trans (Tch.drew No wG2) (fun _ h => h.elim)
            replace hWd2 := Lib.hid hWd2
            go_region_held3 (fun w' => Tch No wz w' ∧ w'.cell? ⟨gl, offl + kk * 6 + 1, none⟩ = some (.string ck))
              (first | exact hSH.out _ hWd2.out | exact hSH.out _ tK.out | fail)
              (first
                | (go_at_call 22; (with_reducible refine (twin_to hS7.out hkbs.out hlbs.out hWd2.out).mono ?_); rintro e wK ⟨gK, cK, rfl, _, hNK, tK⟩; replace hNK := Lib.hid hNK; replace tK := Lib.hid tK)
                | (go_at_call 31; (with_reducible refine (hG2.out _ _ hNK.out).mono ?_); rintro e wK2 ⟨rfl, rfl⟩)
                | fail)
            have f0 := tK.out.cell_some q0h.out id
            have f5 := tK.out.cell_some z5.out id
            have f2 := tK.out.cell_some ek2.out id
            clear ek1r q5r
            go_wp2
            go_roundg (km - (r + 1) + 1)
            case rel => exact ⟨r + 1, rfl, by rw [hwr.out], hlt2, tK⟩
            case measure => exact nn_down2 hlt2
        · have j0 := nn_ge hlt2
          have j1 : decide (r < km) = false := decide_eq_false hlt2
          replace hrm := Lib.hid hrm
          replace hlt2 := Lib.hid hlt2
          go_wp2
          go_ret
          exact ⟨rfl, t07.out.trans tr.out (fun _ h => h.elim)⟩
end Go.Proofs.Ytcnjmkjfgghgoaa
end

section
/- What a law is handed: room behind a slice; the cell of a library's variable. -/
namespace Go.Proofs.Ytcnjmkjfgghgoaa
open Go.ChangeShapes Go.WideShapes Go.ChangeAt Go.RowKit
set_option linter.unusedVariables false
set_option maxRecDepth 100000
theorem okWide_cap {P : Program} {w : World} {base : Nat} {t e : TypeId} {ao : Option Addr} {n c : Nat} (ht : P.underlying t = some (.slice e)) (h : Value.okWide P w .any base t (.slice ao n c)) : n ≤ c ∧ (ao = none → c = 0) := by
  simp only [Value.okWide, ht, Cell.okWide] at h
  cases ao with
  | none =>
    cases n with
    | zero => cases c <;> simp_all [Cell.ok]
    | succ n => simp_all [Cell.ok]
  | some a => simp_all [Cell.ok]
theorem hm_of {W : World} (h : W.ShapedOpen Try.prog) : ∃ m, W.cell? ⟨0, 0, none⟩ = some (.int .i64 m) :=
  cell_of_shapedOpen_int (t := 3) (zero := #[.int .i64 0]) h (of_decide_eq_true (by kernel_rfl)) (by kernel_rfl) rfl (by kernel_rfl) (by kernel_rfl) Try.underlying3
theorem tokV_of {W : World} {kb base : Nat} {v : Value} {l : List Go.Tr.Tok} (h : TokS W kb v l) (hv : Value.okWide Try.prog W .any base 22 v) : TokV W kb v l := by
  obtain ⟨ao, cap, rfl, h2⟩ := id h
  exact ⟨h, _, _, rfl, (okWide_cap Try.underlying22 hv).1⟩
end Go.Proofs.Ytcnjmkjfgghgoaa
end

section
/- Nodes as a law is handed them. -/
namespace Go.Proofs.Ytcnjmkjfgghgoaa
open Go.ChangeShapes Go.WideShapes Go.ChangeAt Go.RowKit Go.Tr
set_option linter.unusedVariables false
set_option maxRecDepth 100000
abbrev NdT := Int × (ByteArray × (ByteArray × (Bool × (Int × (List Int × Unit)))))
def ndE : Rd.Elem NdT := Rd.pair Rd.int (Rd.pair Rd.str (Rd.pair Rd.str (Rd.pair Rd.bool (Rd.pair Rd.int (Rd.pair (Rd.sliceB Rd.int 8) Rd.none)))))
theorem co56 : Try.prog.cellsOf 56 = 1 := by kernel_rfl
theorem co58 : Try.prog.cellsOf 58 = 6 := by kernel_rfl
theorem oKid : Rd.Opens Try.prog (Rd.sliceB Rd.int 8) 56 := Rd.opens_sliceB Try.underlying56 co3 (show Try.prog.bytesOf 3 = 8 by kernel_rfl) (by decide) (by decide) (Rd.opens_int Try.underlying3)
theorem oNd : Rd.Opens Try.prog ndE 58 := Rd.opens_struct Try.underlying58 (Rd.opensF_cons rfl co3 (Rd.opens_int Try.underlying3) (Rd.opensF_cons rfl co9 (Rd.opens_str Try.underlying9) (Rd.opensF_cons rfl co9 (Rd.opens_str Try.underlying9) (Rd.opensF_cons rfl co4 (Rd.opens_bool Try.underlying4) (Rd.opensF_cons rfl co3 (Rd.opens_int Try.underlying3) (Rd.opensF_cons rfl co56 oKid (Rd.opensF_nil _)))))))
def ndOf (x : NdT) : Nd := ⟨x.1, x.2.1, x.2.2.1, x.2.2.2.1, x.2.2.2.2.1, x.2.2.2.2.2.1⟩
theorem nd_cells {w : World} {b off i : Nat} {x : NdT} (h : ndE.R w (Rd.cellsAt w b (off + i * ndE.k)) x) : w.cell? ⟨b, off + i * 6, none⟩ = some (.int .i64 x.1) ∧ w.cell? ⟨b, off + i * 6 + 1, none⟩ = some (.string x.2.1) ∧ w.cell? ⟨b, off + i * 6 + 2, none⟩ = some (.string x.2.2.1) ∧ w.cell? ⟨b, off + i * 6 + 3, none⟩ = some (.bool x.2.2.2.1) ∧ w.cell? ⟨b, off + i * 6 + 4, none⟩ = some (.int .i64 x.2.2.2.2.1) ∧
    ∃ kv, w.cell? ⟨b, off + i * 6 + 5, none⟩ = some kv ∧ KidV w kv x.2.2.2.2.2.1 ∧ x.2.2.2.2.2.1.length * 8 ≤ 140737488351232 := by
  obtain ⟨⟨q0, _⟩, ⟨q1, _⟩, ⟨q2, _⟩, q3, ⟨q4, _⟩, ⟨kv, q5, ⟨ql, ao, cap, rfl, hx⟩, qb⟩, _⟩ := h
  refine ⟨q0, q1, q2, q3, q4, _, q5, ⟨ao, cap, rfl, ql, fun r y hy => ?_⟩, qb⟩
  rcases hx with hx | ⟨kb, koff, rfl, hkb, hx⟩
  · rw [hx] at hy; cases hy
  · refine ⟨kb, koff, rfl, hkb, ?_⟩
    have := (hx r y hy).1
    simpa [Rd.cellsAt, Rd.int] using this
section
variable {H : Type} {enc : TypeId × Value → H} {W : World} {v : Value} {d : DataW H} {pl : List MemPlace} {ts : List TypeId} {ds : List (DataW H)} {j base : Nat}
theorem open_nodes (hval : Value.okWide Try.prog W .any base 50 v) (hd : DataW.Trod enc Try.prog W 0 (fun _ => true) true 50 v d pl) (hsz : (DataW.weightsEach Try.prog ts ds).all (· ≤ reachBytes) = true) (hts : ts[j]? = some 50) (hds : ds[j]? = some d) :
    ∃ ns, NdV W v ns ∧ ns.length * 80 ≤ 140737488351232 ∧ ∀ n ∈ ns, n.kids.length * 8 ≤ 140737488351232 := by
  obtain ⟨a0, l0, c0, rfl⟩ := okWide_slice Try.underlying50 hval
  obtain ⟨hs, v', q, r, hB⟩ := Rd.open_arg (Rd.opens_sliceB Try.underlying50 co58 (show Try.prog.bytesOf 58 = 80 by kernel_rfl) (by decide) (by decide) oNd) hd hsz hts hds
  replace q : some (Value.slice a0 l0 c0) = some v' := q
  cases q
  obtain ⟨hl, ao, cap, e, h⟩ := r
  cases e
  have key : ∀ (i : Nat) (n : Nd), (hs.map ndOf)[i]? = some n → ∃ x, hs[i]? = some x ∧ ndOf x = n := fun i n hn => by
    rw [List.getElem?_map] at hn
    cases hq : hs[i]? with
    | none => rw [hq] at hn; cases hn
    | some x => rw [hq] at hn; exact ⟨x, rfl, by simpa using hn⟩
  refine ⟨hs.map ndOf, ⟨by rw [List.length_map]; exact hl, _, _, by rw [List.length_map], fun i n hn => ?_⟩, by rw [List.length_map]; exact hB, fun n hn => ?_⟩
  · obtain ⟨x, hq, rfl⟩ := key i n hn
    rcases h with h | ⟨b, off, rfl, hb, hx⟩
    · rw [h] at hq; cases hq
    · obtain ⟨h0, h1, h2, h3, h4, kv, h5, h6, _⟩ := nd_cells (hx i x hq)
      exact ⟨b, off, kv, rfl, hb, h0, h1, h2, h3, h4, h5, h6⟩
  · obtain ⟨i, hi⟩ := List.mem_iff_getElem?.1 hn
    obtain ⟨x, hq, rfl⟩ := key i n hi
    rcases h with h | ⟨b, off, rfl, hb, hx⟩
    · rw [h] at hq; cases hq
    · obtain ⟨_, _, _, _, _, _, _, _, h7⟩ := nd_cells (hx i x hq)
      exact h7
end
end Go.Proofs.Ytcnjmkjfgghgoaa
end

section

namespace Go.Proofs.Ytcnjmkjfgghgoaa.treeParts
open Go.ChangeShapes Go.WideShapes Go.ChangeAt Go.RowKit Go.Mp Go.Tr
set_option maxRecDepth 100000
theorem below_of {w w' : World} (t : Tch No w w') : Below w.heap.size w w' := ⟨t.os, t.tape, t.output, t.size, fun k hk => t.block k hk id⟩
theorem walk {H : Type} (enc : TypeId × Value → H) (W : World) (base : Nat) (args : Array Value) (ds : List (DataW H)) (p : List MemPlace)
    (hval0 : ∀ (j : Nat) t v, Try.f7.params[j]? = some t → args[j]? = some v → Value.okWide Try.prog W .any base t v)
    (hA : DataW.TrodAll enc Try.prog W 0 (fun _ => true) true Try.f7.params.toList args.toList ds p) (hsh : W.ShapedOpen Try.prog)
    (hsz : (DataW.weightsEach Try.prog Try.f7.params.toList ds).all (· ≤ reachBytes) = true) :
    Calls Try.prog 7 args W fun e w' => e = .returned (.bool true) ∧ Below W.heap.size W w' := by
  have hval : ∀ (j : Nat) t v, Try.f7.params[j]? = some t → args[j]? = some v → Value.okWide Try.prog W .any base t v := hval0
  rw [Try.params7] at hA hval hsz
  obtain ⟨v0, v1, d0, d1, p0, p1, rfl, rfl, _, h0, h1⟩ := trodAll_two hA
  obtain ⟨m, hm⟩ := hm_of hsh
  obtain ⟨ns, hN, hlb, hkb⟩ := open_nodes (hval 0 50 v0 rfl rfl) h0 hsz (j := 0) rfl rfl
  obtain ⟨i, rfl⟩ := okWide_int Try.underlying3 (hval 1 3 v1 rfl rfl)
  have done : Calls Try.prog 7 #[v0, .int .i64 i] W fun e w' => e = .returned (.bool true) ∧ Tch No W w' := by
    by_cases h : mayR ns = false ∨ i < 0 ∨ (ns.length : Int) ≤ i
    · exact parts_off hN hkb (by omega) hm h
    · obtain ⟨t, rfl, t1, t2, t3⟩ := mayR_inv (ns := ns) (by cases hb : mayR ns with
        | true => rfl
        | false => exact absurd (.inl hb) h)
      obtain ⟨k, rfl⟩ : ∃ k : Nat, i = k := ⟨i.toNat, by omega⟩
      exact parts_in t1 t2 t3 (by rw [lay_length] at h; omega) hN hm
  exact done.mono (fun e w' h => ⟨h.1, below_of h.2⟩)
end Go.Proofs.Ytcnjmkjfgghgoaa.treeParts
end
