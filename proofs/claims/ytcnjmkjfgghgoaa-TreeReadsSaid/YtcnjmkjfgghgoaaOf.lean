/- Of: all documents of some tokens. -/
import Derived.Test.YtcnjmkjfgghgoaaTrs
namespace Go.Proofs.Ytcnjmkjfgghgoaa
open Go.RowKit Go.Mp Go.Tr
set_option linter.unusedVariables false
set_option maxRecDepth 100000
set_option maxHeartbeats 2000000
/-- What holds at a round's head. -/
structure OfM (w wr : World) (kb fb : Nat) (tv ov : Value) (l : List Tok) (F : Nat → Prop) (L : List TrX) (r : Except (Nat × Fa) (List T)) (m : Nat) : Prop where
  tk : TokV wr kb tv l
  tm : TM wr w.heap.size F ov L
  t : Tch No w wr
  fh : wr.heap[fb]? = some (.cells #[.int .i64 0, .int .i64 0, .int .i64 0] 28)
  nf : ¬ F fb
  le : L.length + l.length ≤ m
  run : r = rest (L.map (·.1)) l
theorem OfM.same {w wr w2 : World} {kb fb m : Nat} {tv ov : Value} {l : List Tok} {F : Nat → Prop} {L : List TrX} {r : Except (Nat × Fa) (List T)} (h : OfM w wr kb fb tv ov l F L r m) (hk : kb < w.heap.size) (t : Tch No wr w2) : OfM w w2 kb fb tv ov l F L r m :=
  ⟨h.tk.keep (t.block kb (Nat.lt_of_lt_of_le hk h.t.size) id), h.tm.tch t (fun _ _ h => h), h.t.trans t (fun _ h => h.elim), (t.block fb (Array.getElem?_eq_some_iff.1 h.fh).1 id).trans h.fh, h.nf, h.le, h.run⟩
theorem NM.lower {w : World} {B B' : Nat} {F : Nat → Prop} {v : Value} {R : List (Nd × Value)} (h : NM w B F v R) (hb : B' ≤ B) : NM w B' F v R :=
  ⟨ownsRow_base h.row hb, fun i x hx => ownsRow_base (h.kid i x hx) hb, h.apart, h.own, fun k hk => ⟨Nat.le_trans hb (h.lt k hk).1, (h.lt k hk).2⟩⟩
theorem OfM.push {w w3 w4 : World} {kb fb m B3 : Nat} {tv ov tv2 ov2 vx : Value} {l l2 : List Tok} {F F3 : Nat → Prop} {L : List TrX} {r : Except (Nat × Fa) (List T)} {t : T} {R3 : List (Nd × Value)} (h : OfM w w3 kb fb tv ov l F L r m) (hk : kb < w.heap.size)
    (h1 : R3.map (·.1) = lay 0 t) (hN : NM w3 B3 F3 vx R3) (hB3 : w.heap.size ≤ B3) (hFl : ∀ k, F k → k < B3) (hfl : fb < B3)
    (row : w4.ownsRow w.heap.size 50 1 ov2 (L.length + 1) (L.map (·.2.1) ++ [vx])) (hg : w3.grownBy w4 ov.ownBlock) (hl : ∀ g, ov2.ownBlock = some g → ov.ownBlock = some g ∨ w3.heap.size ≤ g)
    (tk2 : TokV w3 kb tv2 l2) (hle : l2.length < l.length) (hrun : r = rest (L.map (·.1) ++ [t]) l2) :
    OfM w w4 kb fb tv2 ov2 l2 (fun k => F k ∨ F3 k ∨ ov2.ownBlock = some k) (L ++ [(t, vx, F3)]) r m := by
  have hT : Tch (fun k => ov.ownBlock = some k) w3 w4 := Tch.grown hg (fun k hk => .inl hk)
  have hov : ∀ k, ov.ownBlock = some k → w.heap.size ≤ k := fun k hk => (h.tm.lt k (h.tm.own k hk)).1
  refine ⟨tk2.keep (hT.block kb (Nat.lt_of_lt_of_le hk h.t.size) (fun e => by have := hov kb e; omega)), h.tm.push h1 (hN.lower hB3) (fun k h3 hF => by have := (hN.lt k h3).1; have := hFl k hF; omega) row hT hl, h.t.trans hT (fun k hk => .inr (hov k hk)), (hT.block fb (Array.getElem?_eq_some_iff.1 h.fh).1 (fun e => h.nf (h.tm.own fb e))).trans h.fh, fun hf => ?_, ?_, by rw [hrun]; simp⟩
  · rcases hf with hf | hf | hf
    · exact h.nf hf
    · have := (hN.lt fb hf).1; omega
    · rcases hl fb hf with h2 | h2
      · exact h.nf (h.tm.own fb h2)
      · have := (Array.getElem?_eq_some_iff.1 h.fh).1; omega
  · have := h.le
    simp; omega
theorem OfM.skip {w w3 : World} {kb fb m : Nat} {tv ov tv2 : Value} {l l2 : List Tok} {F : Nat → Prop} {L : List TrX} {r : Except (Nat × Fa) (List T)} (h : OfM w w3 kb fb tv ov l F L r m) (tk2 : TokV w3 kb tv2 l2) (hle : l2.length < l.length) (hrun : r = rest (L.map (·.1)) l2) : OfM w w3 kb fb tv2 ov l2 F L r m :=
  ⟨tk2, h.tm, h.t, h.fh, h.nf, Nat.le_trans (by omega) h.le, hrun⟩
theorem info50 : (Try.prog.info? 50).map (fun i => (i.zero, i.size, i.bytes)) = some (some (.slice none 0 0), 1, 24) := by kernel_rfl
theorem drop_run {w : World} {kb cap k : Nat} {ao : Option Addr} {l : List Tok} (h : TokV w kb (.slice ao l.length cap) l) (hk : k ≤ l.length) (i : Int) (hi : i = (k : Int)) {n2 : Nat} (hn2 : n2 = l.length - k) :
    ∃ ao' cap', (∀ w, (Instr.sliceAt 23 (.slice ao l.length cap) (some (.int .i64 i)) none none).run Try.prog w = .ok (.slice ao' n2 cap') w) ∧ (∀ w, (Instr.slice 23 (.slice ao l.length cap) (some (.int .i64 i)) none none).run Try.prog w = .ok (.slice ao' n2 cap') w) ∧ TokV w kb (.slice ao' n2 cap') (l.drop k) := by
  obtain ⟨_, _, e, hc⟩ := h.2
  cases e
  subst hn2
  have hl : (l.drop k).length = l.length - k := by simp
  have e : Try.prog.underlying 23 = some (.slice (Try.prog.elem 23)) := by kernel_rfl
  have run2 : ∀ w, (Instr.slice 23 (.slice ao l.length cap) (some (.int .i64 i)) none none).run Try.prog w = .ok (sliced ao k l.length cap 5) w := fun w => by
    have z : (sizeOf (Try.prog.elem 23)).run Try.prog w = .ok 5 w := by kernel_rfl
    rw [run_slice_l (ht := e) (h0 := by omega) (h1 := by omega), z]
    rw [show i.toNat = k by omega]
    rfl
  have run : ∀ w, (Instr.sliceAt 23 (.slice ao l.length cap) (some (.int .i64 i)) none none).run Try.prog w = .ok (sliced ao k l.length cap 5) w := fun w => by
    rw [run_sliceAt_slice (h := e)]; exact run2 w
  by_cases hck : cap = k
  · have hs : sliced ao k l.length cap 5 = .slice ao (l.length - k) 0 := by simp [sliced, hck]
    rw [hs] at run2 run
    refine ⟨ao, 0, run, run2, ?_⟩
    have : l.drop k = [] := List.drop_eq_nil_of_le (by omega)
    rw [this, show l.length - k = 0 by omega]; exact TokV.any rfl
  · have hs : sliced ao k l.length cap 5 = .slice (ao.map (·.add (k * 5))) (l.length - k) (cap - k) := by simp [sliced, hck]
    rw [hs] at run2 run
    exact ⟨_, _, run, run2, h.drop hk⟩
theorem set3 {w : World} {cb : Nat} {e : TypeId} {x0 x1 x2 : Value} (h : w.heap[cb]? = some (.cells #[x0, x1, x2] e)) (y0 y1 y2 : Value) :
    (((w.setCell ⟨cb, 0, none⟩ y0).setCell ⟨cb, 1, none⟩ y1).setCell ⟨cb, 2, none⟩ y2).heap[cb]? = some (.cells #[y0, y1, y2] e) ∧
    Tch (fun k => k = cb) w (((w.setCell ⟨cb, 0, none⟩ y0).setCell ⟨cb, 1, none⟩ y1).setCell ⟨cb, 2, none⟩ y2) := by
  refine ⟨by simp [World.setCell, Array.getElem?_modify, h], ?_⟩
  exact ((Tch.setCell (S := fun k => k = cb) w (p := ⟨cb, 0, none⟩) rfl y0).trans (Tch.setCell (S := fun k => k = cb) _ (p := ⟨cb, 1, none⟩) rfl y1) (fun _ h => .inl h)).trans (Tch.setCell (S := fun k => k = cb) _ (p := ⟨cb, 2, none⟩) rfl y2) (fun _ h => .inl h)
theorem row3_cells {w : World} {cb : Nat} {e : TypeId} {x0 x1 x2 : Value} (h : w.heap[cb]? = some (.cells #[x0, x1, x2] e)) : w.cell? ⟨cb, 0, none⟩ = some x0 ∧ w.cell? ⟨cb, 1, none⟩ = some x1 ∧ w.cell? ⟨cb, 2, none⟩ = some x2 ∧ w.frozen? ⟨cb, 0, none⟩ = false ∧ w.frozen? ⟨cb, 1, none⟩ = false ∧ w.frozen? ⟨cb, 2, none⟩ = false :=
  ⟨(cell_of_row _ _ 0 _ _ _ h).trans rfl, (cell_of_row _ _ 1 _ _ _ h).trans rfl, (cell_of_row _ _ 2 _ _ _ h).trans rfl, frozen_of_row _ _ _ _ _ h, frozen_of_row _ _ _ _ _ h, frozen_of_row _ _ _ _ _ h⟩
theorem min_a {a b : Nat} (h : a < b) : min ((a : Int) + 1) (b : Int) = (a : Int) + 1 := by omega
theorem min_b {a b : Nat} (h : b = a) : min ((a : Int) + 1) (b : Int) = (b : Int) := by omega
theorem nn_docs {a b m : Nat} (h : a + b ≤ m) (hb : 0 < b) (hm : m < 4398046511104) : a + 1 ≤ maxLen ∧ (a + 1) * 24 ≤ 140737488355328 := by unfold maxLen; omega
theorem of_any {w : World} {kb : Nat} {lv : Value} {l : List Tok} (tk : TokV w kb lv l) (hk : kb < w.heap.size) (hll : l.length < 4398046511104) :
    Calls Try.prog 10 #[lv] w (OfOut w (ofRun l)) := by
  obtain ⟨w1, hw1⟩ : ∃ w1, w1 = w.alloc (.cells #[.int .i64 0, .int .i64 0, .int .i64 0] 28) := ⟨_, rfl⟩
  have t1 : Tch No w w1 := by rw [hw1]; exact Tch.alloc No w _
  obtain ⟨fb, hfb⟩ : ∃ fb, fb = w.heap.size := ⟨_, rfl⟩
  have h1 : OfM w w1 kb fb lv (.slice none 0 0) l No [] (ofRun l) l.length := ⟨tk.keep (t1.block kb hk id), TM.nil _ _, t1, by rw [hw1, hfb]; exact heap_alloc_new w _, id, by simp, rest_start l⟩
  obtain ⟨ao, cap, rfl, _⟩ := id tk.2
  generalize ofRun l = r at *
  obtain ⟨m, hm⟩ : ∃ m, m = l.length := ⟨_, rfl⟩
  replace hll : m < 4398046511104 := hm ▸ hll
  rw [← hm] at h1 ⊢
  replace hm := Lib.hid hm
  replace tk := Lib.hid tk
  replace hk := Lib.hid hk
  replace t1 := Lib.hid t1
  replace h1 := Lib.hid h1
  replace hll := Lib.hid hll
  go_enter Try.func10, Try.ntmps10
  go_upto_region 1 with fail
  rw [← hw1, ← hfb]
  replace hw1 := Lib.hid hw1
  replace hfb := Lib.hid hfb
  go_wp2
  go_loopg [0, 4] (l.length + 1) (fun gg tv ov wr => ∃ (l' : List Tok) (F : Nat → Prop) (L : List TrX), gg = l'.length + 1 ∧ OfM w wr kb fb tv ov l' F L r m)
  case atStart => exact ⟨l, No, [], rfl, by rw [hm.out] at h1 ⊢; exact h1.out⟩
  case round =>
    obtain ⟨l', F, L, rfl, hM⟩ := hrel
    obtain ⟨ao', cap', rfl, hc⟩ := id hM.tk.2
    obtain ⟨oo, oc, rfl⟩ := ownsRow_shape hM.tm.row
    by_cases hl : l' = []
    · subst hl
      have hrun : r = .ok (L.map (·.1)) := by rw [hM.run, rest_end]
      have hfh := hM.fh
      obtain ⟨c0, c1, c2, f0, f1, f2⟩ := row3_cells hfh
      obtain ⟨hs, ts⟩ := set3 hfh (.int .i64 0) (.int .i64 0) (.int .i64 0)
      obtain ⟨s0, s1, s2, _, _, _⟩ := row3_cells hs
      obtain ⟨w4, hw4⟩ : ∃ w4, w4 = ((wr.setCell ⟨fb, 0, none⟩ (.int .i64 0)).setCell ⟨fb, 1, none⟩ (.int .i64 0)).setCell ⟨fb, 2, none⟩ (.int .i64 0) := ⟨_, rfl⟩
      rw [← hw4] at s0 s1 s2 ts
      replace hrun := Lib.hid hrun
      replace hfh := Lib.hid hfh
      replace hM := Lib.hid hM
      replace hs := Lib.hid hs
      replace ts := Lib.hid ts
      go_wp2
      rw [← hw4]
      exact bodyPost_ret (v := .tuple #[.slice oo L.length oc, .agg #[.int .i64 0, .int .i64 0, .int .i64 0]]) (by simp [results, Try.results10, go_sem, s0, s1, s2]) rfl (ofOut_ok hrun.out (hM.out.tm.tch ts.out (fun k hk e => hM.out.nf (e ▸ hk))) (hM.out.t.trans ts.out (fun k hk => .inr (by rw [hk, hfb.out]; exact Nat.le_refl _))))
    · have hlp : 0 < l'.length := List.length_pos_iff.2 hl
      have k0 := nn_lt hlp
      have k1 : decide (0 < l'.length) = true := decide_eq_true hlp
      have hI := Lib.hid (index_any hM.tk.1 (Nat.lt_of_lt_of_le hk.out hM.t.size) (Nat.lt_of_le_of_lt (Nat.le_trans (Nat.le_add_left _ _) hM.le) hll.out))
      obtain ⟨n, hn⟩ : ∃ n, n = upDoc l' := ⟨_, rfl⟩
      have hnl := upDoc_le l'
      rw [← hn] at hnl
      replace hM := Lib.hid hM
      replace hl := Lib.hid hl
      replace hlp := Lib.hid hlp
      obtain ⟨iv, hiv⟩ : ∃ iv, iv = idxV l' := ⟨_, rfl⟩
      rw [← hiv] at hI
      obtain ⟨q, hq⟩ : ∃ q, decide (iv < 0) = q := ⟨_, rfl⟩
      replace hiv := Lib.hid hiv
      replace hn := Lib.hid hn
      replace hnl := Lib.hid hnl
      go_upto_if 15 with (first
        | (go_at_call 32; refine hI.out.mono ?_; clear hI; rintro _ w2 ⟨rfl, t2⟩; replace t2 := Lib.hid t2)
        | fail)
      replace hq := Lib.hid hq
      go_cut [5] (fun nv wx => nv = .int .i64 n ∧ wx = w2)
      case first =>
        have hiv := hiv.out
        cases q with
        | false =>
          have hv : iv = (n : Int) := by
            have hq := of_decide_eq_false hq.out
            unfold idxV at hiv
            rw [← hn.out] at hiv
            split at hiv
            · exact hiv
            · omega
          replace hiv := Lib.hid hiv
          replace hv := Lib.hid hv
          go_wp2
          go_meet
          exact ⟨by rw [hv.out], rfl⟩
        | true =>
          have he : l'.length = n := by
            have hq := of_decide_eq_true hq.out
            unfold idxV at hiv
            rw [← hn.out] at hiv
            have := hnl.out
            split at hiv
            · omega
            · omega
          replace hiv := Lib.hid hiv
          replace he := Lib.hid he
          go_wp2
          go_meet
          exact ⟨by rw [he.out], rfl⟩
      case rest =>
        obtain ⟨rfl, rfl⟩ := hcut
        have hM2 := hM.out.same hk.out t2.out
        clear hM
        have hB : w.heap.size ≤ wc.heap.size := hM2.t.size
        have hkc : kb < wc.heap.size := Nat.lt_of_lt_of_le hk.out hB
        have hml : l'.length < 4398046511104 := Nat.lt_of_le_of_lt (Nat.le_trans (Nat.le_add_left _ _) hM2.le) hll.out
        by_cases hn0 : 0 < n
        · have hD := document_any (hM2.tk.take hnl.out).1 hkc (by rw [Ne, List.take_eq_nil_iff]; rintro (h | h); omega; exact hl.out h) (by simp; omega)
          have k2 : decide ((0 : Int) < (n : Int)) = true := decide_eq_true (by omega)
          have k3 : decide (0 < n) = true := decide_eq_true hn0
          have k4 : (n : Int) ≤ (cap' : Int) := by
            obtain ⟨_, _, e, h⟩ := hM2.tk.2
            cases e
            have := hnl.out
            omega
          rcases hd : doc (l'.take n) with ⟨ln, er⟩ | t
          · have her := doc_errs hd
            have hrun : r = .error (L.length, ln, er) := by rw [hM2.run, rest_bad hl.out (by rw [← hn.out]; exact hn0) (by rw [← hn.out]; exact hd)]; simp
            have q1 : (er == 0) = false := by rw [beq_eq_false_iff_ne]; exact her
            have q2 : (er != 0) = true := by simp [bne, q1]
            replace hd := Lib.hid hd
            replace her := Lib.hid her
            replace hrun := Lib.hid hrun
            replace hD := Lib.hid hD
            replace hM2 := Lib.hid hM2
            replace hn := Lib.hid hn
            replace hkc := Lib.hid hkc
            replace hml := Lib.hid hml
            replace hB := Lib.hid hB
            go_upto_region 9 with (first
              | (go_at_call 34; refine hD.out.mono ?_; clear hD; rintro e w3 hO; unfold DocOut at hO; rw [hd.out] at hO; simp only at hO; obtain ⟨rfl, t3⟩ := hO; have hM3 := hM2.out.same hk.out t3; replace t3 := Lib.hid t3)
              | fail)
            have hfh := hM3.fh
            obtain ⟨c0, c1, c2, f0, f1, f2⟩ := row3_cells hfh
            obtain ⟨hs, ts⟩ := set3 hfh (.int .i64 L.length) (.int .i64 ln) (.int .i64 er)
            obtain ⟨s0, s1, s2, _, _, _⟩ := row3_cells hs
            obtain ⟨w4, hw4⟩ : ∃ w4, w4 = ((w3.setCell ⟨fb, 0, none⟩ (.int .i64 L.length)).setCell ⟨fb, 1, none⟩ (.int .i64 ln)).setCell ⟨fb, 2, none⟩ (.int .i64 er) := ⟨_, rfl⟩
            rw [← hw4] at s0 s1 s2 ts
            replace hfh := Lib.hid hfh
            replace hM3 := Lib.hid hM3
            replace hs := Lib.hid hs
            replace ts := Lib.hid ts
            go_wp2
            rw [← hw4]
            exact bodyPost_ret (v := .tuple #[.slice none 0 0, .agg #[.int .i64 L.length, .int .i64 ln, .int .i64 er]]) (by simp [results, Try.results10, go_sem, s0, s1, s2]) rfl (ofOut_err hrun.out (hM3.out.t.trans ts.out (fun k hk => .inr (by rw [hk, hfb.out]; exact Nat.le_refl _))))
          · have hrun : r = rest (L.map (·.1) ++ [t]) (l'.drop (n + 1)) := by rw [hM2.run, rest_doc hl.out (by rw [← hn.out]; exact hn0) (by rw [← hn.out]; exact hd), hn.out]
            replace hd := Lib.hid hd
            replace hrun := Lib.hid hrun
            replace hD := Lib.hid hD
            replace hM2 := Lib.hid hM2
            replace hn := Lib.hid hn
            replace hkc := Lib.hid hkc
            replace hml := Lib.hid hml
            replace hB := Lib.hid hB
            obtain ⟨i0, hi, hz0, hz1, hz2⟩ := info_parts info50
            replace hi := Lib.hid hi
            replace hz0 := Lib.hid hz0
            replace hz1 := Lib.hid hz1
            replace hz2 := Lib.hid hz2
            go_upto_region 10 with (first
              | (go_at_call 34; refine hD.out.mono ?_; clear hD; rintro e w3 hO; unfold DocOut at hO; rw [hd.out] at hO; simp only at hO; obtain ⟨v3, rfl, hN3, t3⟩ := hO; obtain ⟨F3, R3, hR3, hN3⟩ := hN3; obtain ⟨vo, vc, rfl⟩ := ownsRow_shape hN3.row; have hM3 := hM2.out.same hk.out t3; replace t3 := Lib.hid t3; replace hR3 := Lib.hid hR3; replace hN3 := Lib.hid hN3)
              | fail)
            have hB3 := Lib.hid hM3.t.size
            have hrow := Lib.hid hM3.tm.row
            have hLm := Lib.hid hM3.le
            replace hM3 := Lib.hid hM3
            go_upto_region 11 with (first
              | (at_builtin; refine wp_append_us rfl _ _ 25 (by rfl) w.heap.size 50 i0 (.slice none 0 0) 1 24 Try.underlying25 hi.out hz0.out hz1.out hz2.out rfl (by decide) _ L.length _ (by rfl) hrow.out 1 (by rfl) rfl (by simp [Value.oneCell']) (nn_docs hLm.out hlp.out hll.out).1 (nn_docs hLm.out hlp.out hll.out).2 hB3.out ?_; intro v4 w4 hr4 hg4 hl4; obtain ⟨po, pc, rfl⟩ := ownsRow_shape hr4; replace hr4 := Lib.hid hr4; replace hg4 := Lib.hid hg4; replace hl4 := Lib.hid hl4)
              | fail)
            have hfl3 := Lib.hid (show fb < wc.heap.size from (Array.getElem?_eq_some_iff.1 hM2.out.fh).1)
            have hwk : wrap64 ((n : Int) + 1) = (n : Int) + 1 := by have := hml.out; have := hnl.out; unfold wrap64; omega
            by_cases hx : n < l'.length
            · have m1 : min ((n : Int) + 1) (l'.length : Int) = (n : Int) + 1 := min_a hx
              have hx1 : (n : Int) + 1 ≤ (l'.length : Int) := by omega
              have hx2 : decide ((l'.length : Int) < (n : Int) + 1) = false := decide_eq_false (by omega)
              obtain ⟨ao2, cap2, hr1, hr2, htv⟩ := drop_run hM3.out.tk (k := n + 1) hx ((n : Int) + 1) (by omega) (n2 := l'.length - (n + 1)) rfl
              have hdl : (l'.drop (n + 1)).length < l'.length := by simp; omega
              replace htv := Lib.hid htv
              replace hx := Lib.hid hx
              replace hdl := Lib.hid hdl
              go_wp2
              go_roundg ((l'.drop (n + 1)).length + 1)
              case rel => exact ⟨l'.drop (n + 1), _, L ++ [(t, .slice vo R3.length vc, F3)], rfl, hM3.out.push hk.out hR3.out hN3.out hB.out (fun k hk => (hM2.out.tm.lt k hk).2) hfl3.out hr4.out hg4.out hl4.out htv.out hdl.out hrun.out⟩
              case measure => exact Nat.succ_lt_succ hdl.out
            · have he : n = l'.length := Nat.le_antisymm hnl.out (Nat.not_lt.1 hx)
              have m1 : min ((n : Int) + 1) (l'.length : Int) = (l'.length : Int) := min_b he.symm
              have hx1 : ¬ (n : Int) + 1 ≤ (l'.length : Int) := by omega
              have hx2 : decide ((l'.length : Int) < (n : Int) + 1) = true := decide_eq_true (by omega)
              have hdl : (l'.drop (n + 1)).length < l'.length := by have := hlp.out; simp; omega
              have hnil : l'.drop (n + 1) = [] := List.drop_eq_nil_of_le (by omega)
              replace hnil := Lib.hid hnil
              replace he := Lib.hid he
              replace hx := Lib.hid hx
              replace hdl := Lib.hid hdl
              go_wp2
              all_goals
                go_roundg ((l'.drop (n + 1)).length + 1)
                case rel => exact ⟨l'.drop (n + 1), _, L ++ [(t, .slice vo R3.length vc, F3)], rfl, hM3.out.push hk.out hR3.out hN3.out hB.out (fun k hk => (hM2.out.tm.lt k hk).2) hfl3.out hr4.out hg4.out hl4.out (TokV.any hnil.out) hdl.out hrun.out⟩
                case measure => exact Nat.succ_lt_succ hdl.out
        · have hz : n = 0 := by omega
          have k2 : decide ((0 : Int) < (n : Int)) = false := decide_eq_false (by omega)
          have k3 : decide (0 < n) = false := decide_eq_false hn0
          have hrun : r = rest (L.map (·.1)) (l'.drop (n + 1)) := by rw [hM2.run, rest_skip (by rw [← hn.out]; exact hz), hn.out]
          replace hz := Lib.hid hz
          replace hn0 := Lib.hid hn0
          replace hrun := Lib.hid hrun
          replace hM2 := Lib.hid hM2
          replace hn := Lib.hid hn
          replace hkc := Lib.hid hkc
          replace hml := Lib.hid hml
          replace hB := Lib.hid hB
          go_upto_region 11 with fail
          have hwk : wrap64 ((n : Int) + 1) = (n : Int) + 1 := by have := hml.out; have := hnl.out; unfold wrap64; omega
          by_cases hx : n < l'.length
          · have m1 : min ((n : Int) + 1) (l'.length : Int) = (n : Int) + 1 := min_a hx
            have hx1 : (n : Int) + 1 ≤ (l'.length : Int) := by omega
            have hx2 : decide ((l'.length : Int) < (n : Int) + 1) = false := decide_eq_false (by omega)
            obtain ⟨ao2, cap2, hr1, hr2, htv⟩ := drop_run hM2.out.tk (k := n + 1) hx ((n : Int) + 1) (by omega) (n2 := l'.length - (n + 1)) rfl
            have hdl : (l'.drop (n + 1)).length < l'.length := by simp; omega
            replace htv := Lib.hid htv
            replace hx := Lib.hid hx
            replace hdl := Lib.hid hdl
            go_wp2
            go_roundg ((l'.drop (n + 1)).length + 1)
            case rel => exact ⟨l'.drop (n + 1), F, L, rfl, hM2.out.skip htv.out hdl.out hrun.out⟩
            case measure => exact Nat.succ_lt_succ hdl.out
          · have he : n = l'.length := Nat.le_antisymm hnl.out (Nat.not_lt.1 hx)
            have m1 : min ((n : Int) + 1) (l'.length : Int) = (l'.length : Int) := min_b he.symm
            have hx1 : ¬ (n : Int) + 1 ≤ (l'.length : Int) := by omega
            have hx2 : decide ((l'.length : Int) < (n : Int) + 1) = true := decide_eq_true (by omega)
            have hdl : (l'.drop (n + 1)).length < l'.length := by have := hlp.out; simp; omega
            have hnil : l'.drop (n + 1) = [] := List.drop_eq_nil_of_le (by omega)
            replace hnil := Lib.hid hnil
            replace he := Lib.hid he
            replace hx := Lib.hid hx
            replace hdl := Lib.hid hdl
            go_wp2
            all_goals
              go_roundg ((l'.drop (n + 1)).length + 1)
              case rel => exact ⟨l'.drop (n + 1), F, L, rfl, hM2.out.skip (TokV.any hnil.out) hdl.out hrun.out⟩
              case measure => exact Nat.succ_lt_succ hdl.out
end Go.Proofs.Ytcnjmkjfgghgoaa
