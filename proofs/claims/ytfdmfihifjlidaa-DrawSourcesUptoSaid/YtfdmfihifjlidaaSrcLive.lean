/- The law on sources, where both live: what stands at the head of a round, and the calls of a round. -/
import Derived.Test.YtfdmfihifjlidaaSrcNil
namespace Go.Tp
open Go.RowKit
set_option linter.unusedVariables false
def LeftR (lv tv : Value) (rest : List En) : Prop :=
  (lv = .pointer none ∧ tv = .pointer none ∧ rest = []) ∨ ∃ bl bt vl vt L, lv = .pointer (some ⟨bl, 0, none⟩) ∧ tv = .pointer (some ⟨bt, 0, none⟩) ∧ rest = [⟨67, bl, vl, L⟩, ⟨38, bt, vt, L⟩] ∧ L.xs.length ≤ 104857600
/-- The two in hand (with S1 and S2), and those that were left. -/
structure LiveS (w0 : World) (bs bm : Nat) (vs vm : Value) (S1 S2 : Sc) (lv tv : Value) (rest : List En) (w : World) : Prop where
  below : Below w0.heap.size w0 w
  pool : PoolS w w0.heap.size (⟨67, bs, vs, S1⟩ :: ⟨38, bm, vm, S2⟩ :: rest)
  left : LeftR lv tv rest
section
variable {w0 w w' : World} {bs bm : Nat} {vs vm lv tv : Value} {S1 S2 : Sc} {rest : List En}
theorem LiveS.after (h : LiveS w0 bs bm vs vm S1 S2 lv tv rest w) (hb : Below w.heap.size w w') : LiveS w0 bs bm vs vm S1 S2 lv tv rest w' := ⟨Below_seq h.below hb, h.pool.below hb, h.left⟩
theorem But.below {w w' : World} {B c1 : Nat} {c2 : Option Nat} (h : But w w' c1 c2) (h1 : B ≤ c1) (h2 : ∀ g, c2 = some g → B ≤ g) (hB : B ≤ w.heap.size) : Below B w w' :=
  ⟨h.os, h.tape, h.output, h.size, fun k hk => h.block k (by omega) (by omega) (fun e => by have := h2 k e; omega)⟩
theorem swap2 (a b : En) (l : List En) : (a :: b :: l).Perm (b :: a :: l) := List.Perm.swap b a l
theorem swap3 (a b c : En) (l : List En) : (a :: b :: c :: l).Perm (c :: a :: b :: l) := by
  have h1 : (b :: c :: l).Perm (c :: b :: l) := List.Perm.swap c b l
  exact (List.Perm.cons a h1).trans (List.Perm.swap c a (b :: l))
/-- The program's is worked on. -/
theorem LiveS.workS {S' : Sc} {v' : Value} {c : Option Nat} (h : LiveS w0 bs bm vs vm S1 S2 lv tv rest w) (hs : SrcM 67 w' w0.heap.size bs v' S') (hb : But w w' bs c) (hc : ∀ k, c = some k → vs.ownBlock = some k)
    (hv : v'.ownBlock = vs.ownBlock ∨ v'.ownBlock = none ∨ ∃ g, v'.ownBlock = some g ∧ w.heap.size ≤ g) : LiveS w0 bs bm v' vm S' S2 lv tv rest w' := by
  have hp := h.pool.work hs hb hc hv
  have he := (h.pool.all _ List.mem_cons_self).1
  refine ⟨h.below.trans (hb.below he.hb (fun g hg => ?_) h.below.size), hp, h.left⟩
  exact (row_block he.row (hc g hg)).choose_spec.2.1
/-- The document's is worked on. -/
theorem LiveS.workM {S' : Sc} {v' : Value} {c : Option Nat} (h : LiveS w0 bs bm vs vm S1 S2 lv tv rest w) (hs : SrcM 38 w' w0.heap.size bm v' S') (hb : But w w' bm c) (hc : ∀ k, c = some k → vm.ownBlock = some k)
    (hv : v'.ownBlock = vm.ownBlock ∨ v'.ownBlock = none ∨ ∃ g, v'.ownBlock = some g ∧ w.heap.size ≤ g) : LiveS w0 bs bm vs v' S1 S' lv tv rest w' := by
  have hp := ((h.pool.perm (swap2 _ _ _)).work hs hb hc hv).perm (swap2 _ _ _)
  have he := (h.pool.all _ (List.mem_cons_of_mem _ List.mem_cons_self)).1
  refine ⟨h.below.trans (hb.below he.hb (fun g hg => ?_) h.below.size), hp, h.left⟩
  exact (row_block he.row (hc g hg)).choose_spec.2.1
theorem LiveS.src (h : LiveS w0 bs bm vs vm S1 S2 lv tv rest w) : SrcM 67 w w0.heap.size bs vs S1 := (h.pool.all _ List.mem_cons_self).1
theorem LiveS.doc (h : LiveS w0 bs bm vs vm S1 S2 lv tv rest w) : SrcM 38 w w0.heap.size bm vm S2 := (h.pool.all _ (List.mem_cons_of_mem _ List.mem_cons_self)).1
/-- A row that is none of theirs is written. -/
theorem LiveS.foreign {g n : Nat} {xs : List Value} {u : Value} (h : LiveS w0 bs bm vs vm S1 S2 lv tv rest w) (hu : viewRow w w0.heap.size 22 u n xs) (hg : u.ownBlock = some g) (hn : NotRow (⟨67, bs, vs, S1⟩ :: ⟨38, bm, vm, S2⟩ :: rest) g) (hb : But w w' g none) : LiveS w0 bs bm vs vm S1 S2 lv tv rest w' :=
  ⟨h.below.trans (hb.below (row_block hu hg).choose_spec.2.1 (fun g' h' => by cases h') h.below.size), h.pool.foreign (viewRow_mono hu (Nat.zero_le _)) hg hn hb, h.left⟩
/-- A row that is none of theirs, by the values alone. -/
def NRow (vs vm : Value) (rest : List En) (g : Nat) : Prop := vs.ownBlock ≠ some g ∧ vm.ownBlock ≠ some g ∧ ∀ e ∈ rest, e.v.ownBlock ≠ some g
theorem NRow.not {g : Nat} (h : NRow vs vm rest g) : NotRow (⟨67, bs, vs, S1⟩ :: ⟨38, bm, vm, S2⟩ :: rest) g := by
  intro e he
  rcases List.mem_cons.1 he with rfl | he
  · exact h.1
  · rcases List.mem_cons.1 he with rfl | he
    · exact h.2.1
    · exact h.2.2 e he
/-- What is new is none of theirs. -/
theorem LiveS.fresh (h : LiveS w0 bs bm vs vm S1 S2 lv tv rest w) {g : Nat} (hg : w.heap.size ≤ g) : NRow vs vm rest g := by
  have hlt : ∀ e ∈ (⟨67, bs, vs, S1⟩ :: ⟨38, bm, vm, S2⟩ :: rest : List En), e.v.ownBlock ≠ some g := fun e he h0 => by
    have := (row_block (h.pool.all e he).1.row h0).choose_spec.2.2
    omega
  exact ⟨hlt _ List.mem_cons_self, hlt _ (List.mem_cons_of_mem _ List.mem_cons_self), fun e he => hlt e (List.mem_cons_of_mem _ (List.mem_cons_of_mem _ he))⟩
theorem NRow.turn {v v' : Value} {g : Nat} (h : v.ownBlock ≠ some g) (hg : g < w.heap.size) (hv : v'.ownBlock = v.ownBlock ∨ v'.ownBlock = none ∨ ∃ k, v'.ownBlock = some k ∧ w.heap.size ≤ k) : v'.ownBlock ≠ some g := by
  rcases hv with h1 | h1 | ⟨k, h1, h2⟩
  · rw [h1]; exact h
  · rw [h1]; intro h; cases h
  · rw [h1]; intro h; cases h; omega
/-- Words appended to a source's row, the new row stored. -/
theorem src_append {T : TypeId} {B b n m : Nat} {v v' : Value} {s : Sc} {ys : List Int} {w1 : World} (hT : T ≠ 22) (h : SrcM T w B b v s) (hr : viewRow w1 B 22 v' (s.xs.length + ys.length) (ucells s.xs ++ ucells ys)) (hg : Grew w w1 v v' n m) :
    w1.heap[b]? = some (.cells #[v, .int .u64 s.st] T) ∧ SrcM T (w1.setCell ⟨b, 0, none⟩ v') B b v' ⟨s.xs ++ ys, s.st⟩ ∧ But w (w1.setCell ⟨b, 0, none⟩ v') b v.ownBlock ∧ (v'.ownBlock = v.ownBlock ∨ ∃ g, v'.ownBlock = some g ∧ w.heap.size ≤ g) := by
  have hbl := (Array.getElem?_eq_some_iff.1 h.blk).1
  have hng : ∀ g, v.ownBlock = some g → g ≠ b := fun g hg => row_src hT h h.row hg
  have hb1 : w1.heap[b]? = some (.cells #[v, .int .u64 s.st] T) := by
    rcases hg.block b hbl with h3 | ⟨off, cap, cur, cur', e, _, h4, _⟩
    · exact h3.trans h.blk
    · exact absurd rfl (hng b (by rw [h4]; rfl))
  have hown := Go.Proofs.Ytfdmfihifjlidaa.grew_own hg
  have hne : v'.ownBlock ≠ some b := fun hg' => by
    rcases hown with h3 | ⟨g2, h3, h4⟩
    · exact hng b (by rw [← h3]; exact hg') rfl
    · rw [h3] at hg'; cases hg'; omega
  refine ⟨hb1, ⟨by simp [World.setCell, Array.getElem?_modify, hb1], ?_, h.hb⟩, Go.Proofs.Ytfdmfihifjlidaa.but_then_set (Go.Proofs.Ytfdmfihifjlidaa.grew_but (b := b) hg), hown⟩
  have hr' := row_but hr (Go.Proofs.Ytfdmfihifjlidaa.but_set w1 b 0 v') hne (fun g _ h => by cases h)
  rw [show (s.xs ++ ys).length = s.xs.length + ys.length from List.length_append, show ucells (s.xs ++ ys) = ucells s.xs ++ ucells ys from by simp [ucells]]
  exact hr'
end
end Go.Tp
namespace Go.Proofs.Ytfdmfihifjlidaa
open Go.RowKit Go.Tp
section
variable {w0 w w' : World} {bs bm : Nat} {vs vm lv tv : Value} {S1 S2 : Sc} {rest : List En}
/-- A block that is none of theirs. -/
def Free (bs bm : Nat) (vs vm : Value) (rest : List En) (k : Nat) : Prop := k ≠ bs ∧ k ≠ bm ∧ (∀ e ∈ rest, k ≠ e.b) ∧ NRow vs vm rest k
theorem live_fresh (h : LiveS w0 bs bm vs vm S1 S2 lv tv rest w) {k : Nat} (hk : w.heap.size ≤ k) : Free bs bm vs vm rest k := by
  have h1 := (Array.getElem?_eq_some_iff.1 h.src.blk).1
  have h2 := (Array.getElem?_eq_some_iff.1 h.doc.blk).1
  refine ⟨by omega, by omega, fun e he => ?_, h.fresh hk⟩
  have := (Array.getElem?_eq_some_iff.1 (h.pool.all e (List.mem_cons_of_mem _ (List.mem_cons_of_mem _ he))).1.blk).1
  omega
def LPost (w0 : World) (bs bm : Nat) (vs vm : Value) (S1 S2 : Sc) (lv tv : Value) (rest : List En) (w : World) (r : Value) (e : Ending) (w' : World) : Prop :=
  ∃ vs' vm', e = .returned r ∧ LiveS w0 bs bm vs' vm' S1 S2 lv tv rest w' ∧ w.heap.size ≤ w'.heap.size ∧ ∀ k, k < w.heap.size → Free bs bm vs vm rest k → w'.heap[k]? = w.heap[k]? ∧ Free bs bm vs' vm' rest k
theorem free_s {v' : Value} {c : Option Nat} (hb : But w w' bs c) (hc : ∀ k, c = some k → vs.ownBlock = some k) (hv : v'.ownBlock = vs.ownBlock ∨ v'.ownBlock = none ∨ ∃ g, v'.ownBlock = some g ∧ w.heap.size ≤ g) :
    ∀ k, k < w.heap.size → Free bs bm vs vm rest k → w'.heap[k]? = w.heap[k]? ∧ Free bs bm v' vm rest k := fun k hk hf =>
  ⟨hb.block k hk hf.1 (fun e => hf.2.2.2.1 (hc k e)), hf.1, hf.2.1, hf.2.2.1, NRow.turn hf.2.2.2.1 hk hv, hf.2.2.2.2⟩
theorem free_m {v' : Value} {c : Option Nat} (hb : But w w' bm c) (hc : ∀ k, c = some k → vm.ownBlock = some k) (hv : v'.ownBlock = vm.ownBlock ∨ v'.ownBlock = none ∨ ∃ g, v'.ownBlock = some g ∧ w.heap.size ≤ g) :
    ∀ k, k < w.heap.size → Free bs bm vs vm rest k → w'.heap[k]? = w.heap[k]? ∧ Free bs bm vs v' rest k := fun k hk hf =>
  ⟨hb.block k hk hf.2.1 (fun e => hf.2.2.2.2.1 (hc k e)), hf.1, hf.2.1, hf.2.2.1, hf.2.2.2.1, NRow.turn hf.2.2.2.2.1 hk hv, hf.2.2.2.2.2⟩
theorem live_next (h : LiveS w0 bs bm vs vm S1 S2 lv tv rest w) : Calls Try.prog 19 #[.pointer (some ⟨bs, 0, none⟩)] w (LPost w0 bs bm vs vm (nextS S1) S2 lv tv rest w (.int .u64 (nextW S1))) := by
  refine (next_any h.src).mono ?_
  rintro e w' ⟨v', rfl, hs, hb, hv⟩
  exact ⟨v', vm, rfl, h.workS hs hb (fun k hk => by cases hk) hv, hb.size, free_s hb (fun k hk => by cases hk) hv⟩
theorem live_refnext (h : LiveS w0 bs bm vs vm S1 S2 lv tv rest w) (hl : S2.xs.length ≤ 104857600) : Calls Try.prog 20 #[.pointer (some ⟨bm, 0, none⟩)] w (LPost w0 bs bm vs vm S1 (nextS S2) lv tv rest w (.int .u64 (nextW S2))) := by
  refine (refnext_any h.doc h.below.size (by omega)).mono ?_
  rintro e w' ⟨v', rfl, hs, hb, hv⟩
  exact ⟨vs, v', rfl, h.workM hs hb (fun k hk => by cases hk) hv, hb.size, free_m hb (fun k hk => by cases hk) hv⟩
theorem live_push (h : LiveS w0 bs bm vs vm S1 S2 lv tv rest w) (ys : List Int) (u : Value) (hu : viewRow w 0 22 u ys.length (ucells ys)) (h1 : S1.xs.length ≤ 104857600) (h2 : ys.length ≤ 1048576) : Calls Try.prog 16 #[.pointer (some ⟨bs, 0, none⟩), u] w (LPost w0 bs bm vs vm ⟨S1.xs ++ ys, S1.st⟩ S2 lv tv rest w (.tuple #[])) := by
  refine (push_any h.src ys u hu (by omega) h.below.size).mono ?_
  rintro e w' ⟨v', rfl, hs, hb, hv⟩
  have hv2 : v'.ownBlock = vs.ownBlock ∨ v'.ownBlock = none ∨ ∃ g, v'.ownBlock = some g ∧ w.heap.size ≤ g := by
    rcases hv with hv | hv
    · exact .inl hv
    · exact .inr (.inr hv)
  exact ⟨v', vm, rfl, h.workS hs hb (fun k hk => hk) hv2, hb.size, free_s hb (fun k hk => hk) hv2⟩
/-- Words appended to the document's, in the law's own text. -/
theorem live_docapp {w1 : World} {v' : Value} {ys : List Int} {n m : Nat} (h : LiveS w0 bs bm vs vm S1 S2 lv tv rest w) (hr : viewRow w1 w0.heap.size 22 v' (S2.xs.length + ys.length) (ucells S2.xs ++ ucells ys)) (hg : Grew w w1 vm v' n m) :
    w1.heap[bm]? = some (.cells #[vm, .int .u64 S2.st] 38) ∧ LiveS w0 bs bm vs v' S1 ⟨S2.xs ++ ys, S2.st⟩ lv tv rest (w1.setCell ⟨bm, 0, none⟩ v') ∧ ∀ k, k < w.heap.size → Free bs bm vs vm rest k → (w1.setCell ⟨bm, 0, none⟩ v').heap[k]? = w.heap[k]? ∧ Free bs bm vs v' rest k := by
  obtain ⟨h1, h2, h3, h4⟩ := src_append (by decide) h.doc hr hg
  have hv2 : v'.ownBlock = vm.ownBlock ∨ v'.ownBlock = none ∨ ∃ g, v'.ownBlock = some g ∧ w.heap.size ≤ g := by
    rcases h4 with hv | hv
    · exact .inl hv
    · exact .inr (.inr hv)
  exact ⟨h1, h.workM h2 h3 (fun k hk => hk) hv2, free_m h3 (fun k hk => hk) hv2⟩
/-- Both copies are made: the program's copy bc, the document's bt; what was left before is gone. 'on': the copy is gone on with. -/
theorem live_copies {S : Sc} {bc bt : Nat} {vc vt : Value} {w1 : World} (h : LiveS w0 bs bm vs vm S S lv tv rest w) (hc : SrcM 67 w1 w.heap.size bc vc S) (hb1 : Below w.heap.size w w1) (ht : SrcM 38 w' w1.heap.size bt vt S) (hb2 : Below w1.heap.size w1 w') (hl : S.xs.length ≤ 104857600) :
    LiveS w0 bs bm vs vm S S (.pointer (some ⟨bc, 0, none⟩)) (.pointer (some ⟨bt, 0, none⟩)) [⟨67, bc, vc, S⟩, ⟨38, bt, vt, S⟩] w' ∧ LiveS w0 bc bm vc vm S S (.pointer (some ⟨bs, 0, none⟩)) (.pointer (some ⟨bt, 0, none⟩)) [⟨67, bs, vs, S⟩, ⟨38, bt, vt, S⟩] w' := by
  have hp0 : PoolS w w0.heap.size [⟨67, bs, vs, S⟩, ⟨38, bm, vm, S⟩] := by
    refine ⟨fun e he => h.pool.all e ?_, ?_⟩
    · rcases List.mem_cons.1 he with rfl | he
      · exact List.mem_cons_self
      · exact List.mem_cons_of_mem _ (by rw [List.mem_singleton.1 he]; exact List.mem_cons_self)
    · have := List.pairwise_cons.1 h.pool.apart
      exact List.pairwise_cons.2 ⟨fun f hf => this.1 f (by rw [List.mem_singleton.1 hf]; exact List.mem_cons_self), List.pairwise_singleton _ _⟩
  have hp1 := hp0.add (e := ⟨67, bc, vc, S⟩) hb1 hc (show (67 : Nat) ≠ 22 by decide) h.below.size
  have hp2 := hp1.add (e := ⟨38, bt, vt, S⟩) hb2 ht (show (38 : Nat) ≠ 22 by decide) (Nat.le_trans h.below.size hb1.size)
  have hbw : Below w0.heap.size w0 w' := Below_seq (Below_seq h.below hb1) hb2
  refine ⟨⟨hbw, hp2.perm ?_, .inr ⟨bc, bt, vc, vt, S, rfl, rfl, rfl, hl⟩⟩, ⟨hbw, hp2.perm ?_, .inr ⟨bs, bt, vs, vt, S, rfl, rfl, rfl, hl⟩⟩⟩
  · -- [t, c, s, m] ~ [s, m, c, t]
    exact (List.reverse_perm [(⟨67, bs, vs, S⟩ : En), ⟨38, bm, vm, S⟩, ⟨67, bc, vc, S⟩, ⟨38, bt, vt, S⟩]).trans (.refl _) |> fun hh => by
      have h1 : [(⟨38, bt, vt, S⟩ : En), ⟨67, bc, vc, S⟩, ⟨67, bs, vs, S⟩, ⟨38, bm, vm, S⟩].Perm [⟨38, bt, vt, S⟩, ⟨67, bc, vc, S⟩, ⟨38, bm, vm, S⟩, ⟨67, bs, vs, S⟩] := List.Perm.cons _ (List.Perm.cons _ (List.Perm.swap _ _ _))
      exact h1.trans hh
  · have h1 : [(⟨38, bt, vt, S⟩ : En), ⟨67, bc, vc, S⟩, ⟨67, bs, vs, S⟩, ⟨38, bm, vm, S⟩].Perm [⟨38, bt, vt, S⟩, ⟨67, bs, vs, S⟩, ⟨67, bc, vc, S⟩, ⟨38, bm, vm, S⟩] := List.Perm.cons _ (List.Perm.swap _ _ _)
    have h2 : [(⟨38, bt, vt, S⟩ : En), ⟨67, bs, vs, S⟩, ⟨67, bc, vc, S⟩, ⟨38, bm, vm, S⟩].Perm [⟨38, bt, vt, S⟩, ⟨67, bs, vs, S⟩, ⟨38, bm, vm, S⟩, ⟨67, bc, vc, S⟩] := List.Perm.cons _ (List.Perm.cons _ (List.Perm.swap _ _ _))
    exact (h1.trans h2).trans (List.reverse_perm [(⟨67, bc, vc, S⟩ : En), ⟨38, bm, vm, S⟩, ⟨67, bs, vs, S⟩, ⟨38, bt, vt, S⟩])
end
end Go.Proofs.Ytfdmfihifjlidaa
