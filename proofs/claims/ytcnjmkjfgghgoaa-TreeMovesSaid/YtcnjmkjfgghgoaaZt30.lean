/- The document's block, walked. -/
import Derived.Test.YtcnjmkjfgghgoaaZt29
section

namespace Go.Proofs.Ytcnjmkjfgghgoaa
open Go.RowKit Go.Mp Go.Tr
set_option linter.unusedVariables false
set_option maxRecDepth 100000
set_option maxHeartbeats 4000000
theorem BL.away {w0 w w2 : World} {B rb kb xb tb at' made : Nat} {lv kv : Value} {l : List Tok} {t : Tok} {kd : Int} {acc : List T} {bs : List Nat} {Fk S : Nat → Prop} (h : BL w0 w B rb kb xb tb lv l t kd at' made acc bs kv Fk) (tt : Tch S w w2)
    (hs : ∀ g, S g → w0.heap.size ≤ g ∧ g ≠ xb ∧ g ≠ tb ∧ kv.ownBlock ≠ some g ∧ ¬ Fk g) : BL w0 w2 B rb kb xb tb lv l t kd at' made acc bs kv Fk := by
  have x1 := h.xt
  exact ⟨h.rr.tch tt (fun e => by have := (hs _ e).1; omega) (fun e => by have := (hs _ e).1; omega), (tt.block xb (Array.getElem?_eq_some_iff.1 h.x).1 (fun e => (hs _ e).2.1 rfl)).trans h.x, ownsRow_tch h.row tt (fun g hg e => (hs g e).2.2.2.1 hg), h.pts.tch tt _ _ _ (fun g hg e => (hs g e).2.2.2.2 hg),
    (tt.block tb (Array.getElem?_eq_some_iff.1 h.tok).1 (fun e => (hs _ e).2.2.1 rfl)).trans h.tok, fun g hg => ⟨(h.fk g hg).1, Nat.lt_of_lt_of_le (h.fk g hg).2.1 tt.size, (h.fk g hg).2.2⟩, h.own, h.t.trans tt (fun g hg => .inr (hs g hg).1), h.xt⟩
theorem info71 : (Try.prog.info? 71).map (fun i => (i.zero, i.size, i.bytes)) = some (some (.pointer none), 1, 8) := by kernel_rfl
theorem all_step {acc : List T} {i : Nat} {v : T} {x : ByteArray} (h : ∀ (j : Nat) (v : T), j < i → acc[j]? = some v → v.key ≠ x) (hv : acc[i]? = some v) (hk : ¬ v.key = x) : ∀ (j : Nat) (v : T), j < i + 1 → acc[j]? = some v → v.key ≠ x := fun j v' hj hv' => by
  by_cases hji : j = i
  · subst hji; rw [hv] at hv'; cases hv'; exact hk
  · exact h j v' (by omega) hv'
theorem any_none {acc : List T} {i : Nat} {x : ByteArray} (h : ∀ (j : Nat) (v : T), j < i → acc[j]? = some v → v.key ≠ x) (hi : ¬ i < acc.length) : (acc.any fun k => decide (k.key = x)) = false := by
  rw [List.any_eq_false]
  intro v hv
  obtain ⟨j, hj⟩ := List.getElem?_of_mem hv
  have := h j v (by have := (List.getElem?_eq_some_iff.1 hj).1; omega) hj
  simpa using this
theorem len_push {m2 m3 s : Nat} {acc : List T} {v : T} (h1 : m3 = m2 + s) (h2 : 1 ≤ s) (h3 : acc.length ≤ m2) : (acc ++ [v]).length ≤ m3 := by simp; omega
theorem nn_le (a m : Nat) (h1 : a ≤ m) (h2 : m ≤ 4096) : a < 8796093022208 ∧ a + 1 ≤ maxLen ∧ (a + 1) * 8 ≤ 140737488355328 := by unfold maxLen; omega
theorem rblock_any {l : List Tok} {f : Nat} (hll : l.length < 4398046511104) (hv : ∀ g, g < f → RValueOK l g) : RBlockOK l f := by
  intro w B rb kb lv at' d made h hB hm hd hh hl
  obtain ⟨r, hr⟩ : ∃ r, r = blockW (loop l f) l at' d made ⟨#[]⟩ := ⟨_, rfl⟩
  rw [← hr]
  obtain ⟨t, ht, hht⟩ := has_some hh
  have hlt := (List.getElem?_eq_some_iff.1 ht).1
  have hlt' := nn_lt hlt
  obtain ⟨c0, c1, c2, c3, c4⟩ := h.cells
  obtain ⟨ao, cap, rfl, _⟩ := id h.tk
  obtain ⟨off, rfl, _, d0, d1, d2, d3, d4⟩ := h.tk.at ht
  replace h := Lib.hid h
  replace hr := Lib.hid hr
  replace ht := Lib.hid ht
  replace hht := Lib.hid hht
  replace hh := Lib.hid hh
  replace hlt := Lib.hid hlt
  replace hB := Lib.hid hB
  go_enter Try.func49, Try.ntmps49
  go_upto_region 1 with fail
  obtain ⟨z0, z1, z2, z3, z4, z5, z6⟩ := new_seven w (o := .cells #[.int .i64 0, .int .i64 0, .int .i64 0, .string ⟨#[]⟩, .bool false] 48) c0 c1 d0 d1 d2 d3 d4
  obtain ⟨y0, y1, y2, y3, y4, y5, y6, y7, y8, y9⟩ := new_tok0 w w.heap.size rfl
  go_region
  clear z0 z1 z2 z3 z4 z5 z6 y0 y1 y2 y3 y4 y5 y6 y7 y8 y9 c0 c1 c2 c3 c4 d0 d1 d2 d3 d4
  obtain ⟨tb, htb⟩ : ∃ tb, tb = w.heap.size := ⟨_, rfl⟩
  obtain ⟨w1, hw1⟩ : ∃ w1, w1 = (w.alloc (tokO t 48)).drew := ⟨_, rfl⟩
  rw [← htb, show (w.alloc (tokO t 48)).drew = w1 from hw1.symm]
  have g1 : w1.heap[tb]? = some (tokO t 48) := by rw [hw1, htb]; exact heap_alloc_new w _
  have t1 : Tch No w w1 := by rw [hw1]; exact (Tch.alloc No w _).trans (Tch.drew No _) (fun _ h => h.elim)
  have h1 := h.out.tch t1 id id
  have hs1 : w1.heap.size = w.heap.size + 1 := by rw [hw1]; show (w.alloc _).heap.size = _; simp
  have hrbl := (Array.getElem?_eq_some_iff.1 h.out.hb).1
  obtain ⟨c0, c1, c2, c3, c4⟩ := h1.cells
  have f1 := h1.free 1
  have f4 := h1.free 4
  obtain ⟨e0, e1, e2, e3, e4⟩ := tokO_cells g1
  have tt := Lib.hid (t1.mono (fun _ h => h.elim) : Tch (fun k => k = rb) w w1)
  replace hw1 := Lib.hid hw1
  replace htb := Lib.hid htb
  replace g1 := Lib.hid g1
  replace t1 := Lib.hid t1
  replace h1 := Lib.hid h1
  replace hs1 := Lib.hid hs1
  replace hrbl := Lib.hid hrbl
  by_cases hf : full d made = true
  · have hv : r = .error (t.line, 92) := by rw [hr.out]; unfold blockW; rw [ht.out]; simp only [if_pos hf]
    subst hv
    have hF := Lib.hid (fail_any h1.out t.line 92)
    rcases full_true hf with kd | km
    · have q1 : decide ((16 : Int) < (d : Int)) = true := decide_eq_true (by omega)
      replace hf := Lib.hid hf
      replace kd := Lib.hid kd
      go_wp2_with (first
        | (go_at_call 50; refine hF.out.mono ?_; clear hF; rintro e w6 ⟨rfl, hR, tR⟩; replace hR := Lib.hid hR; replace tR := Lib.hid tR)
        | fail)
      go_ret
      exact rout_trans tt.out ⟨rfl, hR.out, tR.out⟩
    · obtain ⟨qd, hqd⟩ : ∃ q, decide ((16 : Int) < (d : Int)) = q := ⟨_, rfl⟩
      have q2 : ((made : Int) == 4096) = true := by rw [beq_iff_eq]; omega
      replace hf := Lib.hid hf
      replace km := Lib.hid km
      cases qd with
      | true =>
        go_wp2_with (first
          | (go_at_call 50; refine hF.out.mono ?_; clear hF; rintro e w6 ⟨rfl, hR, tR⟩; replace hR := Lib.hid hR; replace tR := Lib.hid tR)
          | fail)
        go_ret
        exact rout_trans tt.out ⟨rfl, hR.out, tR.out⟩
      | false =>
        go_wp2_with (first
          | (go_at_call 50; refine hF.out.mono ?_; clear hF; rintro e w6 ⟨rfl, hR, tR⟩; replace hR := Lib.hid hR; replace tR := Lib.hid tR)
          | fail)
        go_ret
        exact rout_trans tt.out ⟨rfl, hR.out, tR.out⟩
  · obtain ⟨kd, kn⟩ := Go.Tr.full_false hf
    have q1 : decide ((16 : Int) < (d : Int)) = false := decide_eq_false (by omega)
    have q2 : ((made : Int) == 4096) = false := by rw [beq_eq_false_iff_ne]; omega
    have hwm : wrap64 ((made : Int) + 1) = (made : Int) + 1 := by unfold wrap64; omega
    have hwa : wrap64 ((at' : Int) + 1) = (at' : Int) + 1 := by have := hlt.out; unfold wrap64; omega
    have hwd : wrap64 ((d : Int) + 1) = (d : Int) + 1 := by unfold wrap64; omega
    obtain ⟨h6, t6⟩ := h1.out.setMade (made + 1)
    rw [nn_cast] at h6 t6
    obtain ⟨w6, hw6⟩ : ∃ w6, w6 = w1.setCell ⟨rb, 4, none⟩ (.int .i64 ((made : Int) + 1)) := ⟨_, rfl⟩
    rw [← hw6] at h6 t6
    have ntr : tb ≠ rb := by have := hrbl.out; have := htb.out; omega
    have g6 : w6.heap[tb]? = some (tokO t 48) := (t6.block tb (Array.getElem?_eq_some_iff.1 g1.out).1 ntr).trans g1.out
    obtain ⟨s0, s1, s2, s3, s4⟩ := tokO_cells g6
    obtain ⟨b0, b1, b2, b3, b4⟩ := h6.cells
    have f6 := h6.free 1
    have tt6 := Lib.hid (tt.out.trans t6 (fun _ h => .inl h))
    replace g6 := Lib.hid g6
    replace h6 := Lib.hid h6
    replace t6 := Lib.hid t6
    replace ntr := Lib.hid ntr
    replace kd := Lib.hid kd
    replace kn := Lib.hid kn
    by_cases h4 : t.kind = 4
    · have hv : r = .ok (.node 1 ⟨#[]⟩ t.text t.quoted t.line [], at' + 1, made + 1) := by rw [hr.out]; unfold blockW; rw [ht.out]; simp only [if_neg hf, if_pos h4]
      subst hv
      have q4 : (t.kind == 4) = true := by rw [beq_iff_eq]; exact h4
      obtain ⟨h7, t7⟩ := h6.out.setAt (at' + 1)
      rw [nn_cast] at h7 t7
      obtain ⟨w7, hw7⟩ : ∃ w7, w7 = w6.setCell ⟨rb, 1, none⟩ (.int .i64 ((at' : Int) + 1)) := ⟨_, rfl⟩
      rw [← hw7] at h7 t7
      have g7 : w7.heap[tb]? = some (tokO t 48) := (t7.block tb (Array.getElem?_eq_some_iff.1 g6.out).1 ntr.out).trans g6.out
      obtain ⟨x0, x1, x2, x3, x4⟩ := tokO_cells g7
      have tt7 := Lib.hid (tt6.out.trans t7 (fun _ h => .inl h))
      replace g7 := Lib.hid g7
      replace h7 := Lib.hid h7
      replace t7 := Lib.hid t7
      replace hf := Lib.hid hf
      replace h4 := Lib.hid h4
      go_upto_region 5 with fail
      rw [← hw6]
      replace hw6 := Lib.hid hw6
      clear c0 c1 c2 c3 c4 e0 e1 e2 e3 e4
      go_upto_region 7 with fail
      rw [← hw7]
      replace hw7 := Lib.hid hw7
      clear s0 s1 s2 s3 s4 b0 b1 b2 b3 b4
      have t8 : Tch No w7 (w7.alloc (treeO 1 ⟨#[]⟩ t.text t.quoted t.line (.slice none 0 0))) := Tch.alloc No w7 _
      have g8 := heap_alloc_new w7 (treeO 1 ⟨#[]⟩ t.text t.quoted t.line (.slice none 0 0))
      replace t8 := Lib.hid t8
      replace g8 := Lib.hid g8
      go_wp2
      go_ret
      exact rout_trans tt7.out ⟨_, _, rfl, leaf_pt g8.out, h7.out.tch t8.out id id, t8.out.mono (fun _ h => h.elim), fun k hk => by rw [hk]; exact ⟨Nat.le_refl _, by simp⟩⟩
    · have q4 : (t.kind == 4) = false := by rw [beq_eq_false_iff_ne]; exact h4
      have hkk := kids_of_block (lp := loop l f) (key := ⟨#[]⟩) ht.out hf h4
      rw [← hr.out] at hkk
      have hk23 : t.kind = 2 ∨ t.kind = 3 := by
        have := hht.out
        unfold has at this
        simp [h4] at this
        exact this
      obtain ⟨kd3, hkd3⟩ : ∃ k : Int, k = if t.kind = 2 then 3 else 2 := ⟨_, rfl⟩
      rw [← hkd3] at hkk
      replace hkk := Lib.hid hkk
      replace hk23 := Lib.hid hk23
      replace hf := Lib.hid hf
      replace h4 := Lib.hid h4
      obtain ⟨w7, hw7⟩ : ∃ w7, w7 = w6.alloc (treeO 2 ⟨#[]⟩ ⟨#[]⟩ false t.line (.slice none 0 0)) := ⟨_, rfl⟩
      have t7 : Tch No w6 w7 := by rw [hw7]; exact Tch.alloc No w6 _
      obtain ⟨xb, hxb⟩ : ∃ xb, xb = w6.heap.size := ⟨_, rfl⟩
      have g7 : w7.heap[xb]? = some (treeO 2 ⟨#[]⟩ ⟨#[]⟩ false t.line (.slice none 0 0)) := by rw [hw7, hxb]; exact heap_alloc_new w6 _
      have u7 : w7.heap[tb]? = some (tokO t 48) := (t7.block tb (Array.getElem?_eq_some_iff.1 g6.out).1 id).trans g6.out
      have p0 := (tokO_cells u7).1
      have p1 : w7.cell? ⟨xb, 0, none⟩ = some (.int .i64 2) := (cell_of_row _ _ 0 _ _ _ g7).trans rfl
      have p2 : w7.frozen? ⟨xb, 0, none⟩ = false := frozen_of_row _ _ _ _ _ g7
      replace hkd3 := Lib.hid hkd3
      replace t7 := Lib.hid t7
      replace g7 := Lib.hid g7
      replace u7 := Lib.hid u7
      go_upto_region 5 with fail
      rw [← hw6]
      replace hw6 := Lib.hid hw6
      clear c0 c1 c2 c3 c4 e0 e1 e2 e3 e4
      go_upto_region 9 with fail
      rw [show (w6.alloc (treeO 2 ⟨#[]⟩ ⟨#[]⟩ false t.line (.slice none 0 0))) = w7 from hw7.symm, ← hxb]
      replace hw7 := Lib.hid hw7
      replace hxb := Lib.hid hxb
      clear s0 s1 s2 s3 s4 b0 b1 b2 b3 b4
      obtain ⟨q65, h65⟩ : ∃ q, (t.kind == 2) = q := ⟨_, rfl⟩
      go_upto_if 65 with fail
      replace h65 := Lib.hid h65
      go_cut [6] (fun xv wx => xv = .pointer (some ⟨xb, 0, none⟩) ∧ BL w wx B rb kb xb tb (.slice (some ⟨kb, off, none⟩) l.length cap) l t kd3 at' (made + 1) [] [] (.slice none 0 0) No)
      case first =>
        have xw : w.heap.size ≤ xb := by rw [hxb.out]; have := t6.out.size; have := hs1.out; omega
        have tw : w.heap.size ≤ tb := by rw [htb.out]; exact Nat.le_refl _
        have xt : xb ≠ tb := by have := (Array.getElem?_eq_some_iff.1 g6.out).1; have := hxb.out; omega
        have hx7 := h6.out.tch t7.out id id
        have tx7 := tt6.out.trans t7.out (fun _ h => h.elim)
        have kbl := h.out.kl
        cases q65 with
        | true =>
          have k2 : kd3 = 3 := by rw [hkd3.out, if_pos (by have := h65.out; rwa [beq_iff_eq] at this)]
          obtain ⟨w8, hw8⟩ : ∃ w8, w8 = w7.setCell ⟨xb, 0, none⟩ (.int .i64 3) := ⟨_, rfl⟩
          have t8 : Tch (fun k => k = xb) w7 w8 := by rw [hw8]; exact Tch.setCell (S := fun k => k = xb) w7 (p := ⟨xb, 0, none⟩) rfl _
          have g8 : w8.heap[xb]? = some (treeO 3 ⟨#[]⟩ ⟨#[]⟩ false t.line (.slice none 0 0)) := by rw [hw8]; simp [World.setCell, Array.getElem?_modify, g7.out]
          have hB8 : BL w w8 B rb kb xb tb (.slice (some ⟨kb, off, none⟩) l.length cap) l t kd3 at' (made + 1) [] [] (.slice none 0 0) No := by
            rw [k2]
            exact ⟨hx7.tch t8 (by have := hrbl.out; omega) (by omega), g8, World.ownsRow_nil _ _ _ _, trivial, (t8.block tb (Array.getElem?_eq_some_iff.1 u7.out).1 (fun e => xt e.symm)).trans u7.out, (fun g hg => hg.elim), (fun g hg => by cases hg), tx7.trans t8 (fun k hk => .inr (by rw [hk]; exact xw)), xt, xw, tw, hrbl.out, kbl⟩
          replace hB8 := Lib.hid hB8
          replace k2 := Lib.hid k2
          replace g8 := Lib.hid g8
          replace t8 := Lib.hid t8
          replace xw := Lib.hid xw
          replace tw := Lib.hid tw
          replace xt := Lib.hid xt
          replace hx7 := Lib.hid hx7
          replace tx7 := Lib.hid tx7
          replace kbl := Lib.hid kbl
          go_wp2
          rw [← hw8]
          go_meet
          exact ⟨rfl, hB8.out⟩
        | false =>
          have k2 : kd3 = 2 := by rw [hkd3.out, if_neg (by have := h65.out; rwa [beq_eq_false_iff_ne] at this)]
          have hB8 : BL w w7 B rb kb xb tb (.slice (some ⟨kb, off, none⟩) l.length cap) l t kd3 at' (made + 1) [] [] (.slice none 0 0) No := by
            rw [k2]
            exact ⟨hx7, g7.out, World.ownsRow_nil _ _ _ _, trivial, u7.out, (fun g hg => hg.elim), (fun g hg => by cases hg), tx7, xt, xw, tw, hrbl.out, kbl⟩
          replace hB8 := Lib.hid hB8
          replace k2 := Lib.hid k2
          replace xw := Lib.hid xw
          replace tw := Lib.hid tw
          replace xt := Lib.hid xt
          replace hx7 := Lib.hid hx7
          replace tx7 := Lib.hid tx7
          replace kbl := Lib.hid kbl
          go_wp2
          go_meet
          exact ⟨rfl, hB8.out⟩
      case rest =>
        obtain ⟨rfl, hM⟩ := hcut
        clear p0 p1 p2
        replace hM := Lib.hid hM
        go_wp2
        go_loopg [8] (f + 1) (fun gg xv wr => ∃ (g at2 made2 : Nat) (acc : List T) (bs : List Nat) (kv : Value) (Fk : Nat → Prop), gg = g + 1 ∧ BL w wr B rb kb xb tb (.slice (some ⟨kb, off, none⟩) l.length cap) l t kd3 at2 made2 acc bs kv Fk ∧ l.length - at2 ≤ g ∧ g ≤ f ∧ made2 ≤ 4096 ∧ acc.length ≤ made2 ∧ loop l f t.kind t.col at' d (made + 1) [] = loop l g t.kind t.col at2 d made2 acc)
        case atStart => exact ⟨f, at', made + 1, [], [], _, No, rfl, hM.out, hl, Nat.le_refl _, by have := kn.out; omega, Nat.zero_le _, rfl⟩
        case round =>
          obtain ⟨g, at2, made2, acc, bs, kv, Fk, rfl, hL, hlg, hgf, hm2, ham, hlp⟩ := hrel
          clear hlt' hm hl hM
          obtain ⟨U, hU⟩ : ∃ U, U = (l[at2]?).getD zero := ⟨_, rfl⟩
          obtain ⟨c0, c1, c2, c3, c4⟩ := hL.rr.cells
          obtain ⟨e0, e1, e2, e3, e4⟩ := tokO_cells hL.tok
          have htree := Lib.hid hL.tree
          have hrr := Lib.hid hL.rr
          have hLt := Lib.hid hL.t
          replace hlp := Lib.hid hlp
          replace hlg := Lib.hid hlg
          replace hgf := Lib.hid hgf
          replace hm2 := Lib.hid hm2
          replace ham := Lib.hid ham
          by_cases hl2 : at2 < l.length
          · have k0 := nn_lt hl2
            have hx := List.getElem?_eq_getElem hl2
            have hUx : l[at2]? = some U := by rw [hU, hx]; rfl
            obtain ⟨o2, eo, _, d0, d1, d2, d3, d4⟩ := hL.rr.tk.at hUx
            cases eo
            replace hL := Lib.hid hL
            replace hx := Lib.hid hx
            replace hUx := Lib.hid hUx
            replace hU := Lib.hid hU
            by_cases kk : U.kind = t.kind
            · have qk : (U.kind == t.kind) = true := by rw [beq_iff_eq]; exact kk
              by_cases kc : U.col = t.col
              · have qc : (U.col == t.col) = true := by rw [beq_iff_eq]; exact kc
                replace kk := Lib.hid kk
                replace kc := Lib.hid kc
                go_upto_region 11 with fail
                go_quiet (fail)
                obtain ⟨w2, hw2⟩ : ∃ w2, w2 = wr.drewN nq := ⟨_, rfl⟩
                rw [← hw2]
                have t2 : Tch No wr w2 := by rw [hw2]; exact Tch.drewN No wr nq
                have hL2 := hL.out.no t2
                clear c0 c1 c2 c3 c4 e0 e1 e2 e3 e4 d0 d1 d2 d3 d4 htree hrr hLt
                obtain ⟨c0, c1, c2, c3, c4⟩ := hL2.rr.cells
                obtain ⟨o3, eo, _, d0, d1, d2, d3, d4⟩ := hL2.rr.tk.at hUx.out
                cases eo
                obtain ⟨z0, z1, z2, z3, z4, z5, z6⟩ := new_seven w2 (o := .cells #[.int .i64 0, .int .i64 0, .int .i64 0, .string ⟨#[]⟩, .bool false] 48) c0 c1 d0 d1 d2 d3 d4
                obtain ⟨y0, y1, y2, y3, y4, y5, y6, y7, y8, y9⟩ := new_tok0 w2 w2.heap.size rfl
                replace hw2 := Lib.hid hw2
                replace t2 := Lib.hid t2
                replace hL2 := Lib.hid hL2
                replace hL := Lib.hid hL
                go_upto_region 12 with fail
                go_region
                clear z0 z1 z2 z3 z4 z5 z6 y0 y1 y2 y3 y4 y5 y6 y7 y8 y9 c0 c1 c2 c3 c4 d0 d1 d2 d3 d4
                obtain ⟨ub, hub⟩ : ∃ ub, ub = w2.heap.size := ⟨_, rfl⟩
                obtain ⟨w3, hw3⟩ : ∃ w3, w3 = (w2.alloc (tokO U 48)).drew := ⟨_, rfl⟩
                rw [← hub, show (w2.alloc (tokO U 48)).drew = w3 from hw3.symm]
                have g3 : w3.heap[ub]? = some (tokO U 48) := by rw [hw3, hub]; exact heap_alloc_new w2 _
                have t3 : Tch No w2 w3 := by rw [hw3]; exact (Tch.alloc No w2 _).trans (Tch.drew No _) (fun _ h => h.elim)
                have hL3 := hL2.out.no t3
                have hubw : w.heap.size ≤ ub := by rw [hub]; exact hL2.out.t.size
                have hubl : ∀ k, k < w2.heap.size → k ≠ ub := fun k hk => by rw [hub]; omega
                obtain ⟨x0, x1, x2, x3, x4⟩ := tokO_cells g3
                have hbs := PTs.len _ _ _ hL3.pts
                obtain ⟨ko, kcp, ekv⟩ := ownsRow_shape hL3.row
                rw [hbs] at ekv
                have p5 := hL3.xcells.1
                rw [ekv] at p5
                have hkd := fun (i : Nat) (v : T) (hv : acc[i]? = some v) => hL3.kid hv
                have hFl := Lib.hid (fail_any hL3.rr U.line 91)
                have hat2 := hl2
                obtain ⟨g', hg'⟩ := nn_ex hl2 hlg.out
                subst hg'
                have hst := Lib.hid (loop_step hUx.out ⟨kk.out, kc.out⟩ g' d made2 (acc := acc))
                have htw := Lib.hid (fun (h3 : t.kind = 3) => loop_twice hUx.out ⟨kk.out.trans h3, kc.out⟩ g' d made2 (acc := acc))
                have hLt3 := Lib.hid hL3.t
                replace hw3 := Lib.hid hw3
                replace hub := Lib.hid hub
                replace g3 := Lib.hid g3
                replace t3 := Lib.hid t3
                replace hL3 := Lib.hid hL3
                replace hubw := Lib.hid hubw
                replace hubl := Lib.hid hubl
                replace hbs := Lib.hid hbs
                replace ekv := Lib.hid ekv
                replace hkd := Lib.hid hkd
                obtain ⟨q123, h123⟩ : ∃ q, (U.kind == 3) = q := ⟨_, rfl⟩
                go_upto_if 123 with fail
                replace h123 := Lib.hid h123
                obtain ⟨ky, hky⟩ : ∃ ky, ky = kyOf t.kind U := ⟨_, rfl⟩
                replace hky := Lib.hid hky
                go_cut [8] (fun kyv wx => kyv = .string ky ∧ wx = w3 ∧ (t.kind = 3 → (acc.any fun k => decide (k.key = U.text)) = false))
                case first =>
                  have hri := Lib.hid (show rb ≠ ub from hubl.out rb (by have := (Array.getElem?_eq_some_iff.1 hL2.out.rr.hb).1; exact this))
                  cases q123 with
                  | true =>
                    have h3 : t.kind = 3 := by have := h123.out; rw [beq_iff_eq] at this; rw [← kk.out]; exact this
                    replace h3 := Lib.hid h3
                    have hacc := Lib.hid (Nat.le_refl acc.length)
                    go_wp2
                    go_loopg [9] (acc.length + 1) (fun gg iv wz => ∃ i : Nat, gg = acc.length - i + 1 ∧ iv = .int .i64 i ∧ i ≤ acc.length ∧ wz = w3 ∧ (∀ (j : Nat) (v : T), j < i → acc[j]? = some v → v.key ≠ U.text))
                    case atStart => exact ⟨0, rfl, rfl, Nat.zero_le _, rfl, fun j v hj => absurd hj (Nat.not_lt_zero j)⟩
                    case round =>
                      obtain ⟨i, rfl, rfl, hil, rfl, hall⟩ := hrel
                      replace hall := Lib.hid hall
                      by_cases hia : i < acc.length
                      · have i0 := nn_lt hia
                        have hvx := List.getElem?_eq_getElem hia
                        generalize acc[i] = v at *
                        obtain ⟨gk, gcap, vb, ek, ck1, ck2⟩ := hkd.out i v hvx
                        have ek2 := ekv.out.symm.trans ek
                        simp only [Value.slice.injEq, true_and] at ek2
                        obtain ⟨rfl, rfl⟩ := ek2
                        by_cases hkv : v.key = U.text
                        · have qs : (v.key.toList == U.text.toList) = true := by rw [hkv]; exact beq_self_eq_true _
                          have hr' : r = .error (U.line, 91) := by
                            rw [hkk.out, h3.out, ← h3.out, hlp.out, h3.out, htw.out h3.out (List.any_eq_true.2 ⟨v, List.mem_of_getElem? hvx, by simp [hkv]⟩)]
                          clear hkk hlp hkd3 hr hst htw
                          subst hr'
                          replace hvx := Lib.hid hvx
                          replace hkv := Lib.hid hkv
                          replace ek := Lib.hid ek
                          go_wp2_with (first
                            | (go_at_call 50; refine hFl.out.mono ?_; clear hFl; rintro e w6 ⟨rfl, hR, tR⟩; replace hR := Lib.hid hR; replace tR := Lib.hid tR)
                            | fail)
                          go_ret
                          exact ⟨rfl, hR.out, hLt3.out.trans tR.out (fun _ h => .inl h)⟩
                        · have qs : (v.key.toList == U.text.toList) = false := by rw [beq_eq_false_iff_ne]; exact fun e => hkv (bytes_of_toList e)
                          replace hvx := Lib.hid hvx
                          replace hkv := Lib.hid hkv
                          replace ek := Lib.hid ek
                          have hwi := nn_succ hia (nn_le _ _ ham.out hm2.out).1
                          go_wp2
                          go_roundg (acc.length - (i + 1) + 1)
                          case rel => exact ⟨i + 1, rfl, by rw [hwi], hia, rfl, all_step hall.out hvx.out hkv.out⟩
                          case measure => exact Nat.succ_lt_succ (nn_sub hia)
                      · have i0 := nn_ge hia
                        have i1 : decide (i < acc.length) = false := decide_eq_false hia
                        have hany := any_none hall.out hia
                        replace hany := Lib.hid hany
                        replace hia := Lib.hid hia
                        go_wp2
                        go_meet
                        exact ⟨by rw [hky.out, h3.out]; rfl, rfl, fun _ => hany.out⟩
                  | false =>
                    have h3 : ¬ t.kind = 3 := by have := h123.out; rw [beq_eq_false_iff_ne] at this; rw [← kk.out]; exact this
                    replace h3 := Lib.hid h3
                    go_wp2
                    go_meet
                    exact ⟨by rw [hky.out]; unfold kyOf; rw [if_neg h3.out], rfl, fun h => absurd h h3.out⟩
                case rest =>
                  obtain ⟨rfl, rfl, hnd⟩ := hcut
                  have hk23u : U.kind = 2 ∨ U.kind = 3 := by rw [kk.out]; exact hk23.out
                  replace hst := hst.out hnd
                  rw [← hky.out] at hst
                  obtain ⟨c0, c1, c2, c3, c4⟩ := hL3.out.rr.cells
                  have fr1 := hL3.out.rr.free 1
                  have hwk2 : wrap64 ((at2 : Int) + 1) = (at2 : Int) + 1 := by unfold wrap64; omega
                  obtain ⟨hr4, t4⟩ := hL3.out.rr.setAt (at2 + 1)
                  rw [nn_cast] at hr4 t4
                  obtain ⟨w4, hw4⟩ : ∃ w4, w4 = wc.setCell ⟨rb, 1, none⟩ (.int .i64 ((at2 : Int) + 1)) := ⟨_, rfl⟩
                  rw [← hw4] at hr4 t4
                  have hL4 := hL3.out.went t4 hr4
                  have hri := hubl.out rb (by have := (Array.getElem?_eq_some_iff.1 hL2.out.rr.hb).1; exact this)
                  have g4 : w4.heap[ub]? = some (tokO U 48) := (t4.block ub (Array.getElem?_eq_some_iff.1 g3.out).1 hri.symm).trans g3.out
                  obtain ⟨v0, v1, v2, v3, v4⟩ := tokO_cells g4
                  have hlg' : l.length - (at2 + 1) ≤ g' := nn_fuel hlg.out
                  have hC := hv g' hgf.out w4 B rb kb _ (at2 + 1) (d + 1) made2 U hk23u hr4 (Nat.le_trans hB.out hL4.t.size) hm2.out (by have := kd.out; omega) hlg'
                  rw [nn_cast] at hC
                  rw [value_key] at hst
                  rw [kk.out] at hC
                  generalize hrv : valueW (loop l g') l (isVal t.kind U ((l[at2 + 1]?).getD zero)) U (at2 + 1) (d + 1) made2 ⟨#[]⟩ = rv at hst hC
                  replace hst := Lib.hid hst
                  replace hrv := Lib.hid hrv
                  replace hr4 := Lib.hid hr4
                  replace t4 := Lib.hid t4
                  replace hL4 := Lib.hid hL4
                  replace hri := Lib.hid hri
                  replace g4 := Lib.hid g4
                  replace hlg' := Lib.hid hlg'
                  replace hC := Lib.hid hC
                  replace hnd := Lib.hid hnd
                  replace hk23u := Lib.hid hk23u
                  go_upto_region 22 with fail
                  rw [← hw4]
                  replace hw4 := Lib.hid hw4
                  clear c0 c1 c2 c3 c4 x0 x1 x2 x3 x4 p5 fr1
                  rcases rv with ⟨ln, er⟩ | ⟨v, at3, made3⟩
                  · have hr' : r = .error (ln, er) := by rw [hkk.out, hlp.out, hst.out]; rfl
                    clear hkk hlp hkd3 hr hst htw
                    subst hr'
                    go_wp2_with (first
                      | (go_at_call 57; refine hC.out.mono ?_; clear hC; rintro e w5 ⟨rfl, hR, tR⟩; replace hR := Lib.hid hR; replace tR := Lib.hid tR)
                      | fail)
                    go_ret
                    exact ⟨rfl, hR.out, hL4.out.t.trans tR.out (fun _ h => .inl h)⟩
                  · have hgo := value_goes (loop_goes l g') hrv.out
                    have hcap := value_caps (loop_caps l g') hm2.out hrv.out
                    have hlp2 : loop l f t.kind t.col at' d (made + 1) [] = loop l g' t.kind t.col at3 d made3 (acc ++ [v.withKey ky]) := by rw [hlp.out, hst.out]; rfl
                    have hsz := size_pos v
                    replace hgo := Lib.hid hgo
                    replace hcap := Lib.hid hcap
                    replace hlp2 := Lib.hid hlp2
                    replace hsz := Lib.hid hsz
                    obtain ⟨i0, hi, hz0, hz1, hz2⟩ := info_parts info71
                    replace hi := Lib.hid hi
                    replace hz0 := Lib.hid hz0
                    replace hz1 := Lib.hid hz1
                    replace hz2 := Lib.hid hz2
                    go_upto_region 25 with (first
                      | (go_at_call 57; refine hC.out.mono ?_; clear hC; rintro e w5 ⟨vb, Fv, rfl, hP, hR, tR, hFv⟩; replace hP := Lib.hid hP; replace hR := Lib.hid hR; replace tR := Lib.hid tR; replace hFv := Lib.hid hFv)
                      | fail)
                    have hL5 := hL4.out.went tR.out hR.out
                    obtain ⟨k5, z5⟩ := PT.keyCell _ _ _ hP.out
                    obtain ⟨hP6, t6'⟩ := PT.setKey ky _ _ _ hP.out
                    obtain ⟨w6', hw6'⟩ : ∃ w6', w6' = w5.setCell ⟨vb, 1, none⟩ (.string ky) := ⟨_, rfl⟩
                    rw [← hw6'] at hP6 t6'
                    have hvb := hFv.out vb (PT.root _ _ _ hP.out).1
                    have hL4s := hL4.out
                    have hne : ∀ g, w4.heap.size ≤ g → w.heap.size ≤ g ∧ g ≠ xb ∧ g ≠ tb ∧ kv.ownBlock ≠ some g ∧ ¬ Fk g := fun g hg => by
                      have h1 := (Array.getElem?_eq_some_iff.1 hL4s.x).1
                      have h2 := (Array.getElem?_eq_some_iff.1 hL4s.tok).1
                      refine ⟨Nat.le_trans hL4s.t.size hg, by omega, by omega, fun e => ?_, fun e => ?_⟩
                      · have := (ownsRow_ge hL4s.row e).2; omega
                      · have := (hL4s.fk g e).2.1; omega
                    have hL6 := hL5.away t6' (fun g hg => hne g (by rw [hg]; exact hvb.1))
                    have hfv := Lib.hid (fun g (hg : Fv g) => (show w.heap.size ≤ g ∧ g ≠ xb ∧ g ≠ tb ∧ kv.ownBlock ≠ some g ∧ g < w6'.heap.size from ⟨(hne g (hFv.out g hg).1).1, (hne g (hFv.out g hg).1).2.1, (hne g (hFv.out g hg).1).2.2.1, (hne g (hFv.out g hg).1).2.2.2.1, Nat.lt_of_lt_of_le (hFv.out g hg).2 t6'.size⟩))
                    have hB6 := Lib.hid (Nat.le_trans hB.out hL6.t.size)
                    have p5 := hL6.xcells.1
                    rw [ekv.out] at p5
                    have hrow : w6'.ownsRow B 71 1 (.slice ko acc.length kcp) acc.length (bs.map ptr) := by have := hL6.row; rw [hbs.out, ekv.out] at this; exact this
                    replace hrow := Lib.hid hrow
                    replace hL5 := Lib.hid hL5
                    replace hP6 := Lib.hid hP6
                    replace t6' := Lib.hid t6'
                    replace hvb := Lib.hid hvb
                    replace hL4s := Lib.hid hL4s
                    replace hne := Lib.hid hne
                    replace hL6 := Lib.hid hL6
                    clear v0 v1 v2 v3 v4
                    go_upto_region 26 with fail
                    rw [← hw6']
                    replace hw6' := Lib.hid hw6'
                    clear k5 z5
                    go_wp2_with (first
                      | (at_builtin; refine wp_append_us rfl _ _ 97 (by rfl) B 71 i0 (.pointer none) 1 8 Try.underlying97 hi.out hz0.out hz1.out hz2.out rfl (by decide) _ acc.length _ (by rfl) hrow.out 1 (by rfl) rfl (by simp [Value.oneCell']) (nn_le _ _ ham.out hm2.out).2.1 (nn_le _ _ ham.out hm2.out).2.2 hB6.out ?_; intro v8 w8 hr8 hg8 hl8; obtain ⟨po, pc, rfl⟩ := ownsRow_shape hr8; have hpush := hL6.out.push (kv2 := .slice po (acc.length + 1) pc) hP6.out hfv.out (by rw [hbs.out]; exact hr8) (Tch.grown (by rw [ekv.out]; exact hg8) (fun k hk => .inl hk)) (by rw [ekv.out]; exact hl8); obtain ⟨s5, s6, hL9⟩ := hpush; rw [ekv.out] at s5; replace hL9 := Lib.hid hL9; replace hr8 := Lib.hid hr8; replace hg8 := Lib.hid hg8; replace hl8 := Lib.hid hl8)
                      | fail)
                    go_roundg (g' + 1)
                    case rel => exact ⟨g', at3, made3, acc ++ [v.withKey ky], bs ++ [vb], _, _, rfl, hL9.out, nn_fuel2 hlg'.out hgo.out.1, Nat.le_of_succ_le hgf.out, hcap.out, len_push hgo.out.2.1 hsz.out ham.out, hlp2.out⟩
                    case measure => exact Nat.lt_succ_self _
              · have qc : (U.col == t.col) = false := by rw [beq_eq_false_iff_ne]; exact kc
                have hr' : r = .ok (.node kd3 ⟨#[]⟩ ⟨#[]⟩ false t.line acc, at2, made2) := by rw [hkk.out, hlp.out, loop_other hUx.out (fun h => kc h.2), hkd3.out]
                clear hkk hlp hkd3 hr
                subst hr'
                replace kk := Lib.hid kk
                replace kc := Lib.hid kc
                go_upto_region 11 with fail
                go_quiet (fail)
                have tq : Tch No wr (wr.drewN nq) := Tch.drewN No wr nq
                replace tq := Lib.hid tq
                go_wp2
                go_ret
                exact ⟨xb, _, rfl, PT.tch tq.out _ _ _ htree.out.1 (fun _ _ h => h), hrr.out.tch tq.out id id, hLt.out.trans tq.out (fun _ h => h.elim), fun k hk => htree.out.2 k hk⟩
            · have qk : (U.kind == t.kind) = false := by rw [beq_eq_false_iff_ne]; exact kk
              have hr' : r = .ok (.node kd3 ⟨#[]⟩ ⟨#[]⟩ false t.line acc, at2, made2) := by rw [hkk.out, hlp.out, loop_other hUx.out (fun h => kk h.1), hkd3.out]
              clear hkk hlp hkd3 hr
              subst hr'
              replace kk := Lib.hid kk
              go_upto_region 11 with fail
              go_quiet (fail)
              have tq : Tch No wr (wr.drewN nq) := Tch.drewN No wr nq
              replace tq := Lib.hid tq
              go_wp2
              go_ret
              exact ⟨xb, _, rfl, PT.tch tq.out _ _ _ htree.out.1 (fun _ _ h => h), hrr.out.tch tq.out id id, hLt.out.trans tq.out (fun _ h => h.elim), fun k hk => htree.out.2 k hk⟩
          · have k0 := nn_ge hl2
            have k1 : decide (at2 < l.length) = false := decide_eq_false hl2
            have hr' : r = .ok (.node kd3 ⟨#[]⟩ ⟨#[]⟩ false t.line acc, at2, made2) := by rw [hkk.out, hlp.out, loop_none (List.getElem?_eq_none (by omega)), hkd3.out]
            clear hkk hlp hkd3 hr
            subst hr'
            replace hL := Lib.hid hL
            replace hl2 := Lib.hid hl2
            replace hU := Lib.hid hU
            go_upto_region 11 with fail
            go_quiet (fail)
            have tq : Tch No wr (wr.drewN nq) := Tch.drewN No wr nq
            replace tq := Lib.hid tq
            go_wp2
            go_ret
            exact ⟨xb, _, rfl, PT.tch tq.out _ _ _ htree.out.1 (fun _ _ h => h), hrr.out.tch tq.out id id, hLt.out.trans tq.out (fun _ h => h.elim), fun k hk => htree.out.2 k hk⟩
end Go.Proofs.Ytcnjmkjfgghgoaa
end
