/- What stands in memory through the law on runs: the program's state, the document's, and the two that were left. -/
import Derived.Test.YteedjgkinmkmoaaRef2
namespace Go.Proofs.Yteedjgkinmkmoaa
open Go.RowKit Go.Tp
set_option linter.unusedVariables false

theorem row_type {w : World} {base e size : Nat} {v : Value} {n : Nat} {xs : List Value} (h : w.ownsRow base e size v n xs) {k : Nat} (hk : v.ownBlock = some k) : ∃ cur, w.heap[k]? = some (.cells cur e (0, 0)) ∧ base ≤ k ∧ k < w.heap.size := by
  rcases h.2 with ⟨rfl, _⟩ | ⟨g, cap, cur, rfl, hb, hg, _⟩
  · cases hk
  · cases hk
    exact ⟨cur, hg, hb, (Array.getElem?_eq_some_iff.1 hg).1⟩
theorem blk_ne {w : World} {b k : Nat} {s : St} {cur : Array Value} (h : w.heap[b]? = some (blk s)) (hk : w.heap[k]? = some (.cells cur 32 (0, 0))) : k ≠ b := by
  rintro rfl
  rw [h] at hk
  unfold blk at hk
  simp at hk
theorem rblk_ne {w : World} {b k : Nat} {r f : Int} {v : Value} {cur : Array Value} (h : w.heap[b]? = some (rblk r f v)) (hk : w.heap[k]? = some (.cells cur 32 (0, 0))) : k ≠ b := by
  rintro rfl
  rw [h] at hk
  unfold rblk at hk
  simp at hk
theorem blk_rblk {w : World} {b k : Nat} {s : St} {r f : Int} {v : Value} (h : w.heap[b]? = some (blk s)) (hk : w.heap[k]? = some (rblk r f v)) : k ≠ b := by
  rintro rfl
  rw [h] at hk
  unfold blk rblk at hk
  simp at hk
theorem rst_below {w w' : World} {base bd : Nat} {rise fall : Int} {ps : List (Bool × Nat)} {pv : Value} (h : RSt w base bd rise fall ps pv) (hb : Below w.heap.size w w') : RSt w' base bd rise fall ps pv :=
  ⟨(hb.block _ (Array.getElem?_eq_some_iff.1 h.blk).1).trans h.blk, own_below h.own hb⟩
/-- A state that stays where others are written. -/
theorem rst_rest {w w' : World} {base bt bd : Nat} {rise fall : Int} {qs : List (Bool × Nat)} {pt pv : Value} (h : RSt w base bt rise fall qs pt) (hR : Rest bd pv w w') (h1 : bt ≠ bd) (h2 : pv.ownBlock ≠ some bt) (h3 : ∀ k, pt.ownBlock = some k → k ≠ bd ∧ pv.ownBlock ≠ some k) : RSt w' base bt rise fall qs pt := by
  refine ⟨(hR.block _ (Array.getElem?_eq_some_iff.1 h.blk).1 h1 h2).trans h.blk, ?_⟩
  refine ⟨h.own.1, ?_⟩
  rcases h.own.2 with h0 | ⟨g, cap, cur, hv, hb, hg, r⟩
  · exact .inl h0
  · have := h3 g (by rw [hv]; rfl)
    exact .inr ⟨g, cap, cur, hv, hb, (hR.block _ (Array.getElem?_eq_some_iff.1 hg).1 this.1 this.2).trans hg, r⟩
theorem only_rest {bs : Nat} {w w' : World} (h : Only bs w w') : Rest bs (.slice none 0 0) w w' := ⟨h.os, h.tape, h.output, Nat.le_of_eq h.size.symm, fun k _ hne _ => h.block k hne⟩

/-- What the ones that were left are. -/
def LeftIs (bs bd : Nat) (pv lv tv : Value) (w : World) : Prop :=
  (lv = .pointer none ∧ tv = .pointer none) ∨
  ∃ (bl bt base : Nat) (rise fall : Int) (qs : List (Bool × Nat)) (pt : Value), lv = .pointer (some ⟨bl, 0, none⟩) ∧ tv = .pointer (some ⟨bt, 0, none⟩) ∧ bl ≠ bs ∧ bt ≠ bd ∧ (∀ k, pt.ownBlock = some k → pv.ownBlock ≠ some k) ∧
    w.heap[bl]? = some (blk (runS (newS rise fall) qs)) ∧ validT rise fall ∧ (∀ p ∈ qs, p.2 < 18446744073709551616) ∧ qs.length ≤ 1000000 ∧ RSt w base bt rise fall qs pt
structure Core (Wx : World) (rise fall : Int) (ps : List (Bool × Nat)) (base bs bd : Nat) (lv tv : Value) (nS nD : Nat) (pv : Value) (w : World) : Prop where
  below : Below Wx.heap.size Wx w
  hbs : Wx.heap.size ≤ bs
  hbd : Wx.heap.size ≤ bd
  hbase : Wx.heap.size ≤ base
  hsz : base ≤ w.heap.size
  s : w.heap[bs]? = some (blk (runS (newS rise fall) (ps.take nS)))
  ok : Ok (runS (newS rise fall) (ps.take nS)) nS
  rst : RSt w base bd rise fall (ps.take nD) pv
  left : LeftIs bs bd pv lv tv w
section
variable {Wx : World} {rise fall : Int} {ps : List (Bool × Nat)} {base bs bd : Nat} {lv tv : Value} {nS nD : Nat} {pv : Value} {w w' : World}
theorem left_below (h : LeftIs bs bd pv lv tv w) (hb : Below w.heap.size w w') : LeftIs bs bd pv lv tv w' := by
  rcases h with h | ⟨bl, bt, base, rise, fall, qs, pt, h1, h2, h3, h4, h5, h6, h7, h8, h9, h10⟩
  · exact .inl h
  · exact .inr ⟨bl, bt, base, rise, fall, qs, pt, h1, h2, h3, h4, h5, (hb.block _ (Array.getElem?_eq_some_iff.1 h6).1).trans h6, h7, h8, h9, rst_below h10 hb⟩
theorem core_below (h : Core Wx rise fall ps base bs bd lv tv nS nD pv w) (hb : Below w.heap.size w w') : Core Wx rise fall ps base bs bd lv tv nS nD pv w' :=
  ⟨Tp.Below_seq h.below hb, h.hbs, h.hbd, h.hbase, Nat.le_trans h.hsz hb.size, (hb.block _ (Array.getElem?_eq_some_iff.1 h.s).1).trans h.s, h.ok, rst_below h.rst hb, left_below h.left hb⟩
theorem core_probeS (h : Core Wx rise fall ps base bs bd lv tv nS nD pv w) {p : Bool × Nat} (hp : ps[nS]? = some p) (hp2 : p.2 < 18446744073709551616)
    (hs : w'.heap[bs]? = some (blk (probeS (runS (newS rise fall) (ps.take nS)) p.1 p.2))) (ho : Only bs w w') : Core Wx rise fall ps base bs bd lv tv (nS + 1) nD pv w' := by
  have htake : ps.take (nS + 1) = ps.take nS ++ [p] := by rw [List.take_add_one, hp]; rfl
  have hrun : runS (newS rise fall) (ps.take (nS + 1)) = probeS (runS (newS rise fall) (ps.take nS)) p.1 p.2 := by rw [htake, runS_snoc]
  have hR := only_rest ho
  have hrs : RSt w' base bd rise fall (ps.take nD) pv := rst_rest h.rst hR (blk_rblk h.s h.rst.blk) (by simp [Value.ownBlock]) fun k hk => by
    obtain ⟨cur, hc, _⟩ := row_type h.rst.own hk
    exact ⟨blk_ne h.s hc, by simp [Value.ownBlock]⟩
  refine ⟨h.below.trans (ho.below h.hbs), h.hbs, h.hbd, h.hbase, by rw [ho.size]; exact h.hsz, by rw [hrun]; exact hs, by rw [hrun]; exact probeS_ok h.ok _ _ hp2, hrs, ?_⟩
  rcases h.left with h0 | ⟨bl, bt, base', rise', fall', qs, pt, h1, h2, h3, h4, h5, h6, h7, h8, h9, h10⟩
  · exact .inl h0
  · refine .inr ⟨bl, bt, base', rise', fall', qs, pt, h1, h2, h3, h4, h5, (ho.block _ h3).trans h6, h7, h8, h9, ?_⟩
    exact rst_rest h10 hR (blk_rblk h.s h10.blk) (by simp [Value.ownBlock]) fun k hk => by
      obtain ⟨cur, hc, _⟩ := row_type h10.own hk
      exact ⟨blk_ne h.s hc, by simp [Value.ownBlock]⟩
theorem core_probeD (h : Core Wx rise fall ps base bs bd lv tv nS nD pv w) {p : Bool × Nat} (hp : ps[nD]? = some p) {pv' : Value}
    (hr : RSt w' base bd rise fall (ps.take nD ++ [p]) pv') (hR : Rest bd pv w w') (hv : pv'.ownBlock = pv.ownBlock ∨ ∃ k, pv'.ownBlock = some k ∧ w.heap.size ≤ k) : Core Wx rise fall ps base bs bd lv tv nS (nD + 1) pv' w' := by
  have htake : ps.take (nD + 1) = ps.take nD ++ [p] := by rw [List.take_add_one, hp]; rfl
  have hrow : ∀ k, pv.ownBlock = some k → ∃ cur, w.heap[k]? = some (.cells cur 32 (0, 0)) ∧ base ≤ k ∧ k < w.heap.size := fun k hk => row_type h.rst.own hk
  have hsrow : pv.ownBlock ≠ some bs := fun hk => by
    obtain ⟨cur, hc, _⟩ := hrow _ hk
    exact blk_ne h.s hc rfl
  refine ⟨?_, h.hbs, h.hbd, h.hbase, Nat.le_trans h.hsz hR.size, (hR.block _ (Array.getElem?_eq_some_iff.1 h.s).1 (fun e => (blk_rblk h.s h.rst.blk) e.symm) hsrow).trans h.s, h.ok, by rw [htake]; exact hr, ?_⟩
  · refine h.below.trans ⟨hR.os, hR.tape, hR.output, hR.size, fun k hk => ?_⟩
    have hsz := h.below.size
    refine hR.block k (by omega) (by have := h.hbd; omega) fun hk' => ?_
    obtain ⟨_, _, h1, _⟩ := hrow k hk'
    have := h.hbase
    omega
  · rcases h.left with h0 | ⟨bl, bt, base', rise', fall', qs, pt, h1, h2, h3, h4, h5, h6, h7, h8, h9, h10⟩
    · exact .inl h0
    · have hbl : pv.ownBlock ≠ some bl := fun hk => by
        obtain ⟨cur, hc, _⟩ := hrow _ hk
        exact blk_ne h6 hc rfl
      have hbt : pv.ownBlock ≠ some bt := fun hk => by
        obtain ⟨cur, hc, _⟩ := hrow _ hk
        exact rblk_ne h10.blk hc rfl
      refine .inr ⟨bl, bt, base', rise', fall', qs, pt, h1, h2, h3, h4, ?_, (hR.block _ (Array.getElem?_eq_some_iff.1 h6).1 (fun e => (blk_rblk h6 h.rst.blk) e.symm) hbl).trans h6, h7, h8, h9, ?_⟩
      · intro k hk hk'
        rcases hv with hv | ⟨k', hv, hge⟩
        · exact h5 k hk (by rw [← hv]; exact hk')
        · rw [hv] at hk'
          cases hk'
          have := (row_type h10.own hk).choose_spec.2.2
          omega
      · exact rst_rest h10 hR h4 hbt fun k hk => by
          obtain ⟨cur, hc, _⟩ := row_type h10.own hk
          exact ⟨rblk_ne h.rst.blk hc, h5 k hk⟩
/-- Behind the copies: the one that is gone on with is new, and so is the document's that is left. -/
theorem core_copy {n : Nat} (h : Core Wx rise fall ps base bs bd lv tv n n pv w) (hv : validT rise fall) (hps : ∀ p ∈ ps, p.2 < 18446744073709551616) (hn : n ≤ 1000000) {b : Nat} {pv' : Value}
    (hb : (w.alloc (blk (runS (newS rise fall) (ps.take n)))).heap.size ≤ b) (hr : RSt w' (w.alloc (blk (runS (newS rise fall) (ps.take n)))).heap.size b rise fall (ps.take n) pv') (hbel : Below (w.alloc (blk (runS (newS rise fall) (ps.take n)))).heap.size (w.alloc (blk (runS (newS rise fall) (ps.take n)))) w') :
    Core Wx rise fall ps base w.heap.size bd (.pointer (some ⟨bs, 0, none⟩)) (.pointer (some ⟨b, 0, none⟩)) n n pv w' := by
  have h1 := core_below h (Tp.Below_alloc w (blk (runS (newS rise fall) (ps.take n))))
  have hnew := heap_alloc_new w (blk (runS (newS rise fall) (ps.take n)))
  have hsz : (w.alloc (blk (runS (newS rise fall) (ps.take n)))).heap.size = w.heap.size + 1 := by simp
  have h2 := core_below h1 hbel
  have hlbs := (Array.getElem?_eq_some_iff.1 h.s).1
  have hlbd := (Array.getElem?_eq_some_iff.1 h.rst.blk).1
  have hwx := h.below.size
  refine ⟨h2.below, by omega, h2.hbd, h2.hbase, h2.hsz, (hbel.block _ (by omega)).trans hnew, h.ok, h2.rst, ?_⟩
  refine .inr ⟨bs, b, _, rise, fall, ps.take n, pv', rfl, rfl, by omega, by omega, ?_, h2.s, hv, fun p hp => hps p (List.mem_of_mem_take hp), by rw [List.length_take]; omega, hr⟩
  intro k hk hk'
  have e1 := (row_type hr.own hk).choose_spec.2.1
  have e2 := (row_type h.rst.own hk').choose_spec.2.2
  omega
end
end Go.Proofs.Yteedjgkinmkmoaa
