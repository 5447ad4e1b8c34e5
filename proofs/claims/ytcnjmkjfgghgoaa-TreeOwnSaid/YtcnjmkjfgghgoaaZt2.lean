/- A node whose kids are being read; what stands beside the reader. -/
import Derived.Test.YtcnjmkjfgghgoaaZt1
section
/- block of the reader, on dict and list. -/
namespace Go.Proofs.Ytcnjmkjfgghgoaa
open Go.RowKit Go.Mp Go.Tr
set_option linter.unusedVariables false
set_option maxRecDepth 20000
theorem map_last {R : List (Nd × Value)} {N : List Nd} {n : Nd} (h : R.map (·.1) = N ++ [n]) : ∃ x, R[N.length]? = some x ∧ x.1 = n ∧ ∀ m v, (R.set N.length (m, v)).map (·.1) = N ++ [m] := by
  have hl : R.length = N.length + 1 := by simpa using congrArg List.length h
  have h1 : N.length < R.length := by omega
  refine ⟨R[N.length], List.getElem?_eq_getElem h1, ?_, fun m v => ?_⟩
  · have := congrArg (fun L => L[N.length]?) h
    simp [List.getElem?_eq_getElem h1] at this
    exact this
  · rw [List.map_set, h, List.set_append_right _ _ (Nat.le_refl _)]
    simp
/-- The text of the node that was begun last. -/
theorem RdM.setText {w : World} {B b kb at' : Nat} {F : Nat → Prop} {lv : Value} {l : List Tok} {N : List Nd} {n : Nd} (h : RdM w B F b kb lv l at' (N ++ [n])) (tx : ByteArray) (q : Bool) :
    ∃ g cap, w.cell? ⟨b, 2, none⟩ = some (.slice (some ⟨g, 0, none⟩) (N.length + 1) cap) ∧ F g ∧ g ≠ b ∧
      (w.cell? ⟨g, N.length * 6 + 2, none⟩ = some (.string n.text) ∧ w.frozen? ⟨g, N.length * 6 + 2, none⟩ = false ∧ w.cell? ⟨g, N.length * 6 + 3, none⟩ = some (.bool n.quoted) ∧ w.frozen? ⟨g, N.length * 6 + 3, none⟩ = false) ∧
      (∀ w2, w2 = (w.setCell ⟨g, N.length * 6 + 2, none⟩ (.string tx)).setCell ⟨g, N.length * 6 + 3, none⟩ (.bool q) ∨ w2 = (w.setCell ⟨g, N.length * 6 + 3, none⟩ (.bool q)).setCell ⟨g, N.length * 6 + 2, none⟩ (.string tx) → RdM w2 B F b kb lv l at' (N ++ [{ n with text := tx, quoted := q }]) ∧ Tch F w w2) := by
  obtain ⟨v, R, hR, h⟩ := h
  obtain ⟨x, hx, rfl, hs⟩ := map_last hR
  have hl : R.length = N.length + 1 := by simpa using congrArg List.length hR
  obtain ⟨g, cap, rfl, hc⟩ := h.nm.at hx
  have hfg : F g := h.nm.own.1 g rfl
  have hgb : g ≠ b := fun e => row_not h.nm.row h.hb (by decide) (e ▸ rfl)
  have hlen := (List.getElem?_eq_some_iff.1 hx).1
  refine ⟨g, cap, (cell_of_row _ _ 2 _ _ _ h.hb).trans (by rw [hl]; rfl), hfg, hgb, ⟨(hc 2 _ (by omega) rfl).1, (hc 2 _ (by omega) rfl).2, (hc 3 _ (by omega) rfl).1, (hc 3 _ (by omega) rfl).2⟩, fun w2 hw2 => ?_⟩
  have tg : ∀ (u : World) (j : Nat) (y : Value), Tch (fun k => k = g) u (u.setCell ⟨g, j, none⟩ y) := fun u j y => Tch.setCell (S := fun k => k = g) u (p := ⟨g, j, none⟩) rfl y
  have hset : ∀ y : Nd × Value, (R.set N.length y)[N.length]? = some y := fun y => List.getElem?_set_self hlen
  rcases hw2 with rfl | rfl
  · have n1 := h.nm.store hx (x' := ({ x.1 with text := tx }, x.2)) (j := 2) (by omega) (u := .string tx) rfl rfl rfl
    have n1' : NM (w.setCell ⟨g, N.length * 6 + 2, none⟩ (.string tx)) B F (.slice (some ⟨g, 0, none⟩) (R.set N.length ({ x.1 with text := tx }, x.2)).length cap) (R.set N.length ({ x.1 with text := tx }, x.2)) := by rw [List.length_set]; exact n1
    have n2 := n1'.store (hset _) (x' := ({ x.1 with text := tx, quoted := q }, x.2)) (j := 3) (by omega) (u := .bool q) rfl rfl rfl
    rw [List.set_set, List.length_set] at n2
    have tt := (tg w (N.length * 6 + 2) (.string tx)).trans (tg _ (N.length * 6 + 3) (.bool q)) (fun _ h => .inl h)
    exact ⟨⟨_, _, hs _ _, h.inNodes (tt.mono (fun k hk => ⟨by rw [hk]; exact hfg, by rw [hk]; exact hgb⟩)) n2 (fun _ h => h) (fun _ h => .inl h)⟩, tt.mono (fun k hk => by rw [hk]; exact hfg)⟩
  · have n1 := h.nm.store hx (x' := ({ x.1 with quoted := q }, x.2)) (j := 3) (by omega) (u := .bool q) rfl rfl rfl
    have n1' : NM (w.setCell ⟨g, N.length * 6 + 3, none⟩ (.bool q)) B F (.slice (some ⟨g, 0, none⟩) (R.set N.length ({ x.1 with quoted := q }, x.2)).length cap) (R.set N.length ({ x.1 with quoted := q }, x.2)) := by rw [List.length_set]; exact n1
    have n2 := n1'.store (hset _) (x' := ({ x.1 with text := tx, quoted := q }, x.2)) (j := 2) (by omega) (u := .string tx) rfl rfl rfl
    rw [List.set_set, List.length_set] at n2
    have tt := (tg w (N.length * 6 + 3) (.bool q)).trans (tg _ (N.length * 6 + 2) (.string tx)) (fun _ h => .inl h)
    exact ⟨⟨_, _, hs _ _, h.inNodes (tt.mono (fun k hk => ⟨by rw [hk]; exact hfg, by rw [hk]; exact hgb⟩)) n2 (fun _ h => h) (fun _ h => .inl h)⟩, tt.mono (fun k hk => by rw [hk]; exact hfg)⟩
/-- A new variable that holds a token. -/
theorem new_tok (w : World) (t : Tok) : Tch No w (w.alloc (tokO t 39)) ∧ (w.alloc (tokO t 39)).heap[w.heap.size]? = some (tokO t 39) := ⟨Tch.alloc No w _, heap_alloc_new w _⟩
theorem block_any {l : List Tok} {f : Nat} (hll : l.length < 4398046511104) (hdi : KidsOK 54 3 l f) (hli : KidsOK 55 2 l f) : BlockOK l f := by
  intro w B F b kb lv at' N d key h hB hN hd hh hl
  obtain ⟨t, ht, hht⟩ := has_some hh
  have hn := Lib.hid h.next
  rw [ht] at hn
  change Hid (Calls Try.prog 47 #[.pointer (some ⟨b, 0, none⟩)] w fun e w' => e = .returned (tokA t) ∧ RdM w' B F b kb lv l at' N ∧ Tch No w w') at hn
  replace h := Lib.hid h
  by_cases h3 : t.kind = 3
  · have hC : ∀ w3, RdM w3 B F b kb lv l at' N → B ≤ w3.heap.size → Calls Try.prog 54 #[.pointer (some ⟨b, 0, none⟩), tokA t, .int .i64 d, .string key] w3 (Out w3 B F b kb lv l N (blockW (loop l f) l at' d N.length key)) := fun w3 h3' hB3 => hdi w3 B F b kb lv at' N d key t h3' hB3 hN hd ht h3 hl
    generalize blockW (loop l f) l at' d N.length key = r at *
    have k3 : (t.kind == 3) = true := by rw [beq_iff_eq]; exact h3
    replace hC := Lib.hid hC
    replace h3 := Lib.hid h3
    replace ht := Lib.hid ht
    replace hh := Lib.hid hh
    replace hht := Lib.hid hht
    go_enter Try.func48, Try.ntmps48
    go_upto_region 2 with (first
      | (go_at_call 47; have _t := hn; refine hn.out.mono ?_; clear _t hn; rintro _ w2 ⟨rfl, h2, t2⟩; have h2 := Lib.hid h2; have t2 := Lib.hid t2)
      | fail)
    obtain ⟨w3, hw3⟩ : ∃ w3, w3 = w2.alloc (tokO t 39) := ⟨_, rfl⟩
    obtain ⟨t3, x3⟩ := new_tok w2 t
    obtain ⟨cb, hcb⟩ : ∃ cb, cb = w2.heap.size := ⟨_, rfl⟩
    rw [show (w2.alloc (tokO t 39)) = w3 from hw3.symm, ← hcb]
    rw [← hw3] at t3 x3
    rw [← hcb] at x3
    obtain ⟨e0, e1, e2, e3, e4⟩ := tokO_cells x3
    have h3' := Lib.hid (h2.out.same t3)
    have tt := Lib.hid (t2.out.trans t3 (fun _ h => .inl h))
    replace hw3 := Lib.hid hw3
    replace hcb := Lib.hid hcb
    replace t3 := Lib.hid t3
    replace x3 := Lib.hid x3
    have tF := Lib.hid (tt.out.mono (fun _ h => h.elim) : Tch F w w3)
    rcases r with ⟨ln, er⟩ | ⟨tr, at2, m2⟩
    · go_wp2_with (first
        | (go_at_call 54; refine (hC.out w3 h3'.out (Nat.le_trans hB tt.out.size)).mono ?_; rintro e w4 ⟨he, t4⟩; simp only [faultP] at he; subst he)
        | fail)
      exact ⟨rfl, rfl, tF.out.trans t4 (fun _ h => .inl h)⟩
    · go_wp2_with (first
        | (go_at_call 54; refine (hC.out w3 h3'.out (Nat.le_trans hB tt.out.size)).mono ?_; rintro e w4 ⟨he, hP⟩; subst he; have hP := Lib.hid hP)
        | fail)
      go_ret
      exact ⟨rfl, rpost_trans tF.out (fun _ h => .inl h) hP.out⟩
  have k3 : (t.kind == 3) = false := by rw [beq_eq_false_iff_ne]; exact h3
  by_cases h2 : t.kind = 2
  · have hC : ∀ w3, RdM w3 B F b kb lv l at' N → B ≤ w3.heap.size → Calls Try.prog 55 #[.pointer (some ⟨b, 0, none⟩), tokA t, .int .i64 d, .string key] w3 (Out w3 B F b kb lv l N (blockW (loop l f) l at' d N.length key)) := fun w3 h3' hB3 => hli w3 B F b kb lv at' N d key t h3' hB3 hN hd ht h2 hl
    generalize blockW (loop l f) l at' d N.length key = r at *
    have k2 : (t.kind == 2) = true := by rw [beq_iff_eq]; exact h2
    replace hC := Lib.hid hC
    replace h3 := Lib.hid h3
    replace h2 := Lib.hid h2
    replace ht := Lib.hid ht
    replace hh := Lib.hid hh
    replace hht := Lib.hid hht
    go_enter Try.func48, Try.ntmps48
    go_upto_region 2 with (first
      | (go_at_call 47; have _t := hn; refine hn.out.mono ?_; clear _t hn; rintro _ w2 ⟨rfl, h2', t2⟩; have h2' := Lib.hid h2'; have t2 := Lib.hid t2)
      | fail)
    obtain ⟨w3, hw3⟩ : ∃ w3, w3 = w2.alloc (tokO t 39) := ⟨_, rfl⟩
    obtain ⟨t3, x3⟩ := new_tok w2 t
    obtain ⟨cb, hcb⟩ : ∃ cb, cb = w2.heap.size := ⟨_, rfl⟩
    rw [show (w2.alloc (tokO t 39)) = w3 from hw3.symm, ← hcb]
    rw [← hw3] at t3 x3
    rw [← hcb] at x3
    obtain ⟨e0, e1, e2, e3, e4⟩ := tokO_cells x3
    have h3' := Lib.hid (h2'.out.same t3)
    have tt := Lib.hid (t2.out.trans t3 (fun _ h => .inl h))
    replace hw3 := Lib.hid hw3
    replace hcb := Lib.hid hcb
    replace t3 := Lib.hid t3
    replace x3 := Lib.hid x3
    have tF := Lib.hid (tt.out.mono (fun _ h => h.elim) : Tch F w w3)
    rcases r with ⟨ln, er⟩ | ⟨tr, at2, m2⟩
    · go_wp2_with (first
        | (go_at_call 55; refine (hC.out w3 h3'.out (Nat.le_trans hB tt.out.size)).mono ?_; rintro e w4 ⟨he, t4⟩; simp only [faultP] at he; subst he)
        | fail)
      exact ⟨rfl, rfl, tF.out.trans t4 (fun _ h => .inl h)⟩
    · go_wp2_with (first
        | (go_at_call 55; refine (hC.out w3 h3'.out (Nat.le_trans hB tt.out.size)).mono ?_; rintro e w4 ⟨he, hP⟩; subst he; have hP := Lib.hid hP)
        | fail)
      go_ret
      exact ⟨rfl, rpost_trans tF.out (fun _ h => .inl h) hP.out⟩
  have k2 : (t.kind == 2) = false := by rw [beq_eq_false_iff_ne]; exact h2
  have h4 : t.kind = 4 := by
    unfold has at hht
    simp [h2, h3] at hht
    exact hht
  by_cases hf : full d N.length = true
  · have hv : blockW (loop l f) l at' d N.length key = .error (t.line, 92) := by unfold blockW; rw [ht]; simp only [if_pos hf]
    rw [hv]
    clear hv
    have hC : ∀ w3, RdM w3 B F b kb lv l at' N → Calls Try.prog 56 #[.pointer (some ⟨b, 0, none⟩), .int .i64 1, .int .i64 d, .string key, tokA t] w3 fun e w4 => e = faultP t.line 92 ∧ Tch No w3 w4 := fun w3 h3 => begin_bad h3 1 d key t hf
    replace hC := Lib.hid hC
    replace hf := Lib.hid hf
    replace h2 := Lib.hid h2
    replace h3 := Lib.hid h3
    replace h4 := Lib.hid h4
    replace ht := Lib.hid ht
    replace hh := Lib.hid hh
    replace hht := Lib.hid hht
    go_enter Try.func48, Try.ntmps48
    go_upto_region 2 with (first
      | (go_at_call 47; have _t := hn; refine hn.out.mono ?_; clear _t hn; rintro _ w2 ⟨rfl, h2', t2⟩; have h2' := Lib.hid h2'; have t2 := Lib.hid t2)
      | fail)
    obtain ⟨w3, hw3⟩ : ∃ w3, w3 = w2.alloc (tokO t 39) := ⟨_, rfl⟩
    obtain ⟨t3, x3⟩ := new_tok w2 t
    obtain ⟨cb, hcb⟩ : ∃ cb, cb = w2.heap.size := ⟨_, rfl⟩
    rw [show (w2.alloc (tokO t 39)) = w3 from hw3.symm, ← hcb]
    rw [← hw3] at t3 x3
    rw [← hcb] at x3
    obtain ⟨e0, e1, e2, e3, e4⟩ := tokO_cells x3
    have h3' := Lib.hid (h2'.out.same t3)
    have tt := Lib.hid (t2.out.trans t3 (fun _ h => .inl h))
    replace hw3 := Lib.hid hw3
    replace hcb := Lib.hid hcb
    replace t3 := Lib.hid t3
    replace x3 := Lib.hid x3
    have tF := Lib.hid (tt.out.mono (fun _ h => h.elim) : Tch F w w3)
    go_wp2_with (first
      | (go_at_call 56; refine (hC.out w3 h3'.out).mono ?_; rintro e w4 ⟨he, t4⟩; simp only [faultP] at he; subst he)
      | fail)
    exact ⟨rfl, rfl, tF.out.trans t4 (fun _ h => h.elim)⟩
  · have hv : blockW (loop l f) l at' d N.length key = .ok (.node 1 key t.text t.quoted t.line [], at' + 1, N.length + 1) := by unfold blockW; rw [ht]; simp only [if_neg hf, if_pos h4]
    rw [hv]
    clear hv
    have hlay : lay N.length (.node 1 key t.text t.quoted t.line []) = [⟨1, key, t.text, t.quoted, t.line, []⟩] := by simp [lay, lays, kidAts]
    have hC : ∀ w3, RdM w3 B F b kb lv l at' N → B ≤ w3.heap.size → Calls Try.prog 56 #[.pointer (some ⟨b, 0, none⟩), .int .i64 1, .int .i64 d, .string key, tokA t] w3 fun e w4 => e = .returned (.int .i64 N.length) ∧ RPost w3 B F b kb lv l at' (N ++ [⟨1, key, ⟨#[]⟩, false, t.line, []⟩]) w4 := fun w3 h3 hB3 => begin_ok h3 hB3 1 d key t (by simpa using hf) hN
    have hatl := Lib.hid (List.getElem?_eq_some_iff.1 ht).1
    replace hlay := Lib.hid hlay
    replace hC := Lib.hid hC
    replace hf := Lib.hid hf
    replace h2 := Lib.hid h2
    replace h3 := Lib.hid h3
    replace h4 := Lib.hid h4
    replace ht := Lib.hid ht
    replace hh := Lib.hid hh
    replace hht := Lib.hid hht
    go_enter Try.func48, Try.ntmps48
    go_upto_region 2 with (first
      | (go_at_call 47; have _t := hn; refine hn.out.mono ?_; clear _t hn; rintro _ w2 ⟨rfl, h2', t2⟩; have h2' := Lib.hid h2'; have t2 := Lib.hid t2)
      | fail)
    obtain ⟨w3, hw3⟩ : ∃ w3, w3 = w2.alloc (tokO t 39) := ⟨_, rfl⟩
    obtain ⟨t3, x3⟩ := new_tok w2 t
    obtain ⟨cb, hcb⟩ : ∃ cb, cb = w2.heap.size := ⟨_, rfl⟩
    rw [show (w2.alloc (tokO t 39)) = w3 from hw3.symm, ← hcb]
    rw [← hw3] at t3 x3
    rw [← hcb] at x3
    obtain ⟨e0, e1, e2, e3, e4⟩ := tokO_cells x3
    have h3' := Lib.hid (h2'.out.same t3)
    have tt := Lib.hid (t2.out.trans t3 (fun _ h => .inl h))
    have hcF := Lib.hid (show ¬ F cb from fun hk => by have := (h2'.out.lt cb hk).2; omega)
    replace hw3 := Lib.hid hw3
    replace hcb := Lib.hid hcb
    replace t3 := Lib.hid t3
    replace x3 := Lib.hid x3
    have tF := Lib.hid (tt.out.mono (fun _ h => h.elim) : Tch F w w3)
    go_upto_region 8 with (first
      | (go_at_call 56; refine (hC.out w3 h3'.out (Nat.le_trans hB tt.out.size)).mono ?_; rintro e w4 ⟨he, hP⟩; subst he; have hP := Lib.hid hP)
      | fail)
    obtain ⟨F4, h4', t4, f4⟩ := hP.out
    obtain ⟨x4, n4⟩ := guest x3.out hcF.out t4 f4
    clear e0 e1 e2 e3 e4
    obtain ⟨e0, e1, e2, e3, e4⟩ := tokO_cells x4
    obtain ⟨g, cap, c2, fg, gb, ⟨d2, q2, d3, q3⟩, hset⟩ := (h4'.same (Tch.drew No w4)).setText t.text t.quoted
    have hgc : g ≠ cb := fun e => n4 (e ▸ fg)
    obtain ⟨m, hm⟩ : ∃ m, m = N.length + 1 := ⟨_, rfl⟩
    have kk : (N.length : Int) < (m : Int) := by omega
    rw [← hm] at c2
    replace hm := Lib.hid hm
    replace c2 : w4.cell? ⟨b, 2, none⟩ = some (.slice (some ⟨g, 0, none⟩) m cap) := c2
    replace d2 : w4.cell? ⟨g, N.length * 6 + 2, none⟩ = some (.string ⟨#[]⟩) := d2
    replace d3 : w4.cell? ⟨g, N.length * 6 + 3, none⟩ = some (.bool false) := d3
    replace q2 : w4.frozen? ⟨g, N.length * 6 + 2, none⟩ = false := q2
    replace q3 : w4.frozen? ⟨g, N.length * 6 + 3, none⟩ = false := q3
    have hgcN : (g = cb) = False := eq_false hgc
    have hgbN : (g = b) = False := eq_false gb
    replace hset := Lib.hid hset
    replace x4 := Lib.hid x4
    replace n4 := Lib.hid n4
    replace fg := Lib.hid fg
    replace h4' := Lib.hid h4'
    replace t4 := Lib.hid t4
    replace f4 := Lib.hid f4
    go_region_held3 (fun w' => w'.cell? ⟨b, 2, none⟩ = some (.slice (some ⟨g, 0, none⟩) m cap) ∧ w'.cell? ⟨cb, 3, none⟩ = some (.string t.text) ∧ w'.cell? ⟨cb, 4, none⟩ = some (.bool t.quoted)) (go_keep) (fail)
    obtain ⟨h5, t5⟩ := hset.out _ (.inl rfl)
    obtain ⟨w5, hw5⟩ : ∃ w5, w5 = ((w4.setCell ⟨g, N.length * 6 + 2, none⟩ (.string t.text)).setCell ⟨g, N.length * 6 + 3, none⟩ (.bool t.quoted)).drew := ⟨_, rfl⟩
    rw [← hw5]
    replace h5 : RdM w5 B F4 b kb lv l at' (N ++ [⟨1, key, t.text, t.quoted, t.line, []⟩]) := by rw [hw5]; exact h5
    replace t5 : Tch F4 w4 w5 := by rw [hw5]; exact (Tch.drew F4 w4).trans t5 (fun _ h => .inl h)
    obtain ⟨f6, c6, h6, t6⟩ := h5.setAt (at' + 1)
    have hwk := nn_succ hatl.out (Nat.lt_trans hll (by decide))
    replace hw5 := Lib.hid hw5
    replace h5 := Lib.hid h5
    replace t5 := Lib.hid t5
    replace h6 := Lib.hid h6
    replace t6 := Lib.hid t6
    clear c2 d2 d3 q2 q3 e0 e1 e2 e3 e4
    go_wp2
    go_ret
    exact ⟨rfl, by rw [hlay.out]; exact rpost_trans (tF.out.trans t4.out (fun _ h => .inl h)) (fun k hk => (f4.out k hk).imp id (fun h => Nat.le_trans tF.out.size h)) ⟨F4, h6.out, t5.out.trans t6.out (fun _ h => .inl h), fun _ h => .inl h⟩⟩
end Go.Proofs.Ytcnjmkjfgghgoaa
end

section

namespace Go.Tr
def openN (N : List Nd) (kd : Int) (key : ByteArray) (ln : Int) (acc : List T) : List Nd := N ++ ⟨kd, key, ⟨#[]⟩, false, ln, kidAts (N.length + 1) acc⟩ :: lays (N.length + 1) acc
theorem openN_length (N : List Nd) (kd : Int) (key : ByteArray) (ln : Int) (acc : List T) : (openN N kd key ln acc).length = N.length + 1 + sizes acc := by
  unfold openN
  rw [List.length_append, List.length_cons, lays_length]; omega
theorem openN_at (N : List Nd) (kd : Int) (key : ByteArray) (ln : Int) (acc : List T) (M : List Nd) : (openN N kd key ln acc ++ M)[N.length]? = some ⟨kd, key, ⟨#[]⟩, false, ln, kidAts (N.length + 1) acc⟩ := by
  unfold openN
  rw [List.append_assoc, List.getElem?_append_right (Nat.le_refl _)]
  simp
theorem openN_kid (N : List Nd) (kd : Int) (key : ByteArray) (ln : Int) (acc : List T) (v : T) :
    (openN N kd key ln acc ++ lay (openN N kd key ln acc).length v).set N.length ⟨kd, key, ⟨#[]⟩, false, ln, kidAts (N.length + 1) acc ++ [((openN N kd key ln acc).length : Int)]⟩ = openN N kd key ln (acc ++ [v]) := by
  rw [openN_length]
  unfold openN
  rw [List.append_assoc, List.set_append_right _ _ (Nat.le_refl _), kidAts_append, lays_append]
  simp [kidAts, lays]
theorem openN_nil (N : List Nd) (kd : Int) (key : ByteArray) (ln : Int) : openN N kd key ln [] = N ++ [⟨kd, key, ⟨#[]⟩, false, ln, []⟩] := by
  simp [openN, kidAts, lays]
theorem openN_lay (N : List Nd) (kd : Int) (key : ByteArray) (ln : Int) (acc : List T) : openN N kd key ln acc = N ++ lay N.length (.node kd key ⟨#[]⟩ false ln acc) := by
  simp [openN, lay]
theorem size_pos : ∀ t : T, 1 ≤ t.size
  | .node _ _ _ _ _ ks => by simp only [T.size]; omega
theorem le_sizes (acc : List T) : acc.length ≤ sizes acc := by
  induction acc with
  | nil => exact Nat.le_refl _
  | cons t ts ih => have := size_pos t; simp only [List.length_cons, sizes]; omega
end Go.Tr
namespace Go.Proofs.Ytcnjmkjfgghgoaa
open Go.RowKit Go.Mp Go.Tr
set_option linter.unusedVariables false
theorem RdM.kidOf {w : World} {B b kb at' : Nat} {F : Nat → Prop} {lv : Value} {l : List Tok} {N : List Nd} (h : RdM w B F b kb lv l at' N) {i : Nat} {n : Nd} (hn : N[i]? = some n) :
    ∃ g cap m kv, m = N.length ∧ i < m ∧ g ≠ b ∧ w.cell? ⟨b, 2, none⟩ = some (.slice (some ⟨g, 0, none⟩) m cap) ∧ w.cell? ⟨g, i * 6 + 5, none⟩ = some kv ∧ w.ownsRow B 3 1 kv n.kids.length (icells n.kids) ∧
      (∀ w2 kv' (k : Int), w2.ownsRow B 3 1 kv' (n.kids.length + 1) (icells n.kids ++ [.int .i64 k]) → Tch (fun z => kv.ownBlock = some z) w w2 → (∀ z, kv'.ownBlock = some z → kv.ownBlock = some z ∨ w.heap.size ≤ z) →
        w2.cell? ⟨g, i * 6 + 5, none⟩ = some kv ∧ w2.frozen? ⟨g, i * 6 + 5, none⟩ = false ∧ w2.cell? ⟨b, 2, none⟩ = some (.slice (some ⟨g, 0, none⟩) m cap) ∧ RPost w B F b kb lv l at' (N.set i { n with kids := n.kids ++ [k] }) (w2.setCell ⟨g, i * 6 + 5, none⟩ kv')) := by
  obtain ⟨v, R, rfl, h⟩ := h
  rw [List.getElem?_map] at hn
  obtain ⟨x, hx, rfl⟩ : ∃ x, R[i]? = some x ∧ x.1 = n := by
    cases hr : R[i]? with
    | none => rw [hr] at hn; cases hn
    | some x => rw [hr] at hn; exact ⟨x, rfl, by simpa using hn⟩
  have hlen := (List.getElem?_eq_some_iff.1 hx).1
  obtain ⟨g, cap, rfl, hc⟩ := h.nm.at hx
  have hfg : F g := h.nm.own.1 g rfl
  have hgb : g ≠ b := fun e => row_not h.nm.row h.hb (by decide) (e ▸ rfl)
  refine ⟨g, cap, R.length, x.2, by simp, hlen, hgb, (cell_of_row _ _ 2 _ _ _ h.hb).trans rfl, (hc 5 _ (by omega) rfl).1, h.nm.kid i x hx, fun w2 kv' k row2 t hloc => ?_⟩
  obtain ⟨c1, c2, hN⟩ := h.nm.setKid hx (ks' := x.1.kids ++ [k]) (by simpa [icells] using row2) t hloc
  have hkb : ∀ z, x.2.ownBlock = some z → F z ∧ z ≠ b := fun z hz => ⟨h.nm.own.2 i x hx z hz, fun e => row_not (h.nm.kid i x hx) h.hb (by decide) (e ▸ hz)⟩
  have t1 : Tch (fun k => k = g) w2 (w2.setCell ⟨g, i * 6 + 5, none⟩ kv') := Tch.setCell (S := fun k => k = g) w2 (p := ⟨g, i * 6 + 5, none⟩) rfl _
  have tt : Tch (fun k => F k ∧ k ≠ b) w (w2.setCell ⟨g, i * 6 + 5, none⟩ kv') := (t.mono (fun z hz => hkb z hz)).trans t1 (fun z hz => .inl (by rw [hz]; exact ⟨hfg, hgb⟩))
  refine ⟨c1, c2, (t.cell_some ((cell_of_row _ _ 2 _ _ _ h.hb).trans rfl) (fun e => (hkb b e).2 rfl)), fun k => F k ∨ kv'.ownBlock = some k, ⟨_, _, ?_, h.inNodes tt hN (fun _ h => .inl h) (fun z hz => ?_)⟩, tt.mono (fun _ h => h.1), fun z hz => ?_⟩
  · rw [List.map_set]
  · rcases hz with hz | hz
    · exact .inl hz
    · exact (hloc z hz).imp (fun h => (hkb z h).1) id
  · rcases hz with hz | hz
    · exact .inl hz
    · exact (hloc z hz).imp (fun h => (hkb z h).1) id
structure KS (w0 w : World) (B : Nat) (F0 F : Nat → Prop) (b kb : Nat) (lv : Value) (l : List Tok) (at' : Nat) (N : List Nd) (gs : List (Nat × Obj)) : Prop where
  rd : RdM w B F b kb lv l at' N
  t : Tch F0 w0 w
  fs : ∀ k, F k → F0 k ∨ w0.heap.size ≤ k
  gu : ∀ x ∈ gs, w.heap[x.1]? = some x.2 ∧ ¬ F x.1
section
variable {w0 w w' : World} {B b kb at' at2 : Nat} {F0 F : Nat → Prop} {lv : Value} {l : List Tok} {N N2 : List Nd} {gs gs' : List (Nat × Obj)}
theorem KS.post (h : KS w0 w B F0 F b kb lv l at' N gs) (hp : RPost w B F b kb lv l at2 N2 w') : ∃ F', KS w0 w' B F0 F' b kb lv l at2 N2 gs := by
  obtain ⟨F', h1, h2, h3⟩ := hp
  refine ⟨F', h1, h.t.trans h2 h.fs, fun k hk => ?_, fun x hx => ?_⟩
  · rcases h3 k hk with h4 | h4
    · exact h.fs k h4
    · exact .inr (Nat.le_trans h.t.size h4)
  · exact guest (h.gu x hx).1 (h.gu x hx).2 h2 h3
theorem KS.same (h : KS w0 w B F0 F b kb lv l at' N gs) (t : Tch No w w') : KS w0 w' B F0 F b kb lv l at' N gs :=
  ⟨h.rd.same t, h.t.trans t (fun _ h => h.elim), h.fs, fun x hx => ⟨(t.block x.1 (Array.getElem?_eq_some_iff.1 (h.gu x hx).1).1 id).trans (h.gu x hx).1, (h.gu x hx).2⟩⟩
theorem KS.less (h : KS w0 w B F0 F b kb lv l at' N gs) (hg : ∀ x ∈ gs', x ∈ gs) : KS w0 w B F0 F b kb lv l at' N gs' := ⟨h.rd, h.t, h.fs, fun x hx => h.gu x (hg x hx)⟩
/-- A new variable. -/
theorem KS.new (h : KS w0 w B F0 F b kb lv l at' N gs) (o : Obj) : KS w0 (w.alloc o) B F0 F b kb lv l at' N ((w.heap.size, o) :: gs) := by
  have h1 := h.same (Tch.alloc No w o)
  refine ⟨h1.rd, h1.t, h1.fs, fun x hx => ?_⟩
  rcases List.mem_cons.1 hx with rfl | hx
  · exact ⟨heap_alloc_new w o, fun hk => by have := (h.rd.lt _ hk).2; simp at this⟩
  · exact h1.gu x hx
/-- A variable beside the reader, written. -/
theorem KS.write {k : Nat} {o o' : Obj} (h : KS w0 w B F0 F b kb lv l at' N ((k, o) :: gs)) (hn : ∀ x ∈ gs, x.1 ≠ k) (hk : w0.heap.size ≤ k) (hkb : kb ≠ k) (t : Tch (fun z => z = k) w w') (ho : w'.heap[k]? = some o') : KS w0 w' B F0 F b kb lv l at' N ((k, o') :: gs) := by
  have hkF := (h.gu (k, o) List.mem_cons_self).2
  refine ⟨h.rd.tch t (fun z hz e => hkF (e ▸ hz)) hkb, h.t.trans t (fun z hz => .inr (by rw [hz]; exact hk)), h.fs, fun x hx => ?_⟩
  rcases List.mem_cons.1 hx with rfl | hx
  · exact ⟨ho, hkF⟩
  · have hg := h.gu x (List.mem_cons_of_mem _ hx)
    exact ⟨(t.block x.1 (Array.getElem?_eq_some_iff.1 hg.1).1 (hn x hx)).trans hg.1, hg.2⟩
end
end Go.Proofs.Ytcnjmkjfgghgoaa
end
