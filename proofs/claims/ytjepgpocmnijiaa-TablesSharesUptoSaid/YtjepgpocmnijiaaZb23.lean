/- The walk of copied. -/
import Derived.Test.YtjepgpocmnijiaaZb22
section

namespace Go.Proofs.Ytjepgpocmnijiaa
open Go.RowKit Go.Mp Go.Ck
set_option linter.unusedVariables false
set_option maxRecDepth 100000
set_option maxHeartbeats 4000000
/-- A resource as it lies, with its lists' values. -/
def Rw.rv (x : Rw) : RV := ⟨x.r, .slice x.eo x.r.eps.length x.ec, .slice x.ta x.r.tgts.length x.tc, .slice x.ra x.r.rules.length x.rc⟩
theorem rvc_rv (x : Rw) : rvc x.rv = x.cells := rfl
def CopyOut (w : World) (r : Res) (e : Ending) (w' : World) : Prop := ∃ y : Rw, y.r = r ∧ e = .returned (.agg y.cells.toArray) ∧ RM w' w.heap.size y.rv ∧ Below w.heap.size w w'
def set8 (w : World) (b : Nat) (v0 v1 v2 v3 v4 v5 v6 v7 : Value) : World := (((((((w.setCell ⟨b, 0, none⟩ v0).setCell ⟨b, 1, none⟩ v1).setCell ⟨b, 2, none⟩ v2).setCell ⟨b, 3, none⟩ v3).setCell ⟨b, 4, none⟩ v4).setCell ⟨b, 5, none⟩ v5).setCell ⟨b, 6, none⟩ v6).setCell ⟨b, 7, none⟩ v7
theorem set1 {w : World} {b T i : Nat} {cs ds : Array Value} {v : Value} (h : w.heap[b]? = some (.cells cs T (0, 0))) (e : cs.setIfInBounds i v = ds) : (w.setCell ⟨b, i, none⟩ v).heap[b]? = some (.cells ds T (0, 0)) := by rw [← e]; exact box_set h
theorem set8_heap {w : World} {b T : Nat} {u0 u1 u2 u3 u4 u5 u6 u7 : Value} (h : w.heap[b]? = some (.cells #[u0, u1, u2, u3, u4, u5, u6, u7] T (0, 0))) (v0 v1 v2 v3 v4 v5 v6 v7 : Value) : (set8 w b v0 v1 v2 v3 v4 v5 v6 v7).heap[b]? = some (.cells #[v0, v1, v2, v3, v4, v5, v6, v7] T (0, 0)) := by
  unfold set8
  have h0 := set1 (i := 0) (v := v0) (ds := #[v0, u1, u2, u3, u4, u5, u6, u7]) h rfl
  have h1 := set1 (i := 1) (v := v1) (ds := #[v0, v1, u2, u3, u4, u5, u6, u7]) h0 rfl
  have h2 := set1 (i := 2) (v := v2) (ds := #[v0, v1, v2, u3, u4, u5, u6, u7]) h1 rfl
  have h3 := set1 (i := 3) (v := v3) (ds := #[v0, v1, v2, v3, u4, u5, u6, u7]) h2 rfl
  have h4 := set1 (i := 4) (v := v4) (ds := #[v0, v1, v2, v3, v4, u5, u6, u7]) h3 rfl
  have h5 := set1 (i := 5) (v := v5) (ds := #[v0, v1, v2, v3, v4, v5, u6, u7]) h4 rfl
  have h6 := set1 (i := 6) (v := v6) (ds := #[v0, v1, v2, v3, v4, v5, v6, u7]) h5 rfl
  have h7 := set1 (i := 7) (v := v7) (ds := #[v0, v1, v2, v3, v4, v5, v6, v7]) h6 rfl
  exact h7
theorem set8_tch (w : World) (b : Nat) (v0 v1 v2 v3 v4 v5 v6 v7 : Value) : Tch (fun q => q = b) w (set8 w b v0 v1 v2 v3 v4 v5 v6 v7) := by
  unfold set8
  have s : ∀ (w1 : World) (i : Nat) (v : Value), Tch (fun q => q = b) w w1 → Tch (fun q => q = b) w (w1.setCell ⟨b, i, none⟩ v) := fun w1 i v h => h.trans (Tch.setCell (S := fun q => q = b) w1 (p := ⟨b, i, none⟩) rfl v) (fun _ h => .inl h)
  exact s _ 7 v7 (s _ 6 v6 (s _ 5 v5 (s _ 4 v4 (s _ 3 v3 (s _ 2 v2 (s _ 1 v1 (s _ 0 v0 (Tch.refl _ _))))))))
def boxR (r : Res) (y : Rw) : Array Value := #[.int .i64 r.kind, .string r.name, .slice y.eo r.eps.length y.ec, .slice y.ta r.tgts.length y.tc, .string r.host, .slice y.ra r.rules.length y.rc, .string r.route, .bool r.del]
def box0 : Obj := .cells #[.int .i64 0, .string ⟨#[]⟩, .slice none 0 0, .slice none 0 0, .string ⟨#[]⟩, .slice none 0 0, .string ⟨#[]⟩, .bool false] 52 (0, 0)
def CopyR (w : World) (r : Res) (bk rb : Nat) (wx : World) : Prop := ∃ y : Rw, y.r = r ∧ wx.heap[bk]? = some (.cells (boxR r y) 52 (0, 0)) ∧ wx.heap[rb]? = some box0 ∧ RM wx w.heap.size y.rv ∧ Below w.heap.size w wx
theorem copy_fin {w w2 wX wY wZ : World} {r : Res} {bk rb : Nat} {x : Rw} {o1 o2 o3 : Option Addr} {k1 k2 k3 : Nat} (hp : ∃ w0 ev tv rv, RP w0 r ev tv rv) (hbk : w.heap.size ≤ bk) (hne : bk ≠ rb) (hb2 : Below w.heap.size w w2) (hbx : w2.heap[bk]? = some (.cells (boxR r x) 52 (0, 0))) (hrx : w2.heap[rb]? = some box0)
    (hbX : Below w2.drew.heap.size w2.drew wX) (h1 : wX.ownsRow w2.drew.heap.size 9 1 (.slice o1 r.eps.length k1) r.eps.length (r.eps.flatMap Rd.strC.enc)) (hbY : Below wX.heap.size wX wY) (h2 : wY.ownsRow wX.heap.size 57 3 (.slice o2 r.tgts.length k2) r.tgts.length (r.tgts.flatMap tgtC.enc))
    (hbZ : Below wY.heap.size wY wZ) (h3 : wZ.ownsRow wY.heap.size 101 4 (.slice o3 r.rules.length k3) r.rules.length (r.rules.flatMap rulC.enc)) :
    CopyR w r bk rb (((wZ.setCell ⟨bk, 2, none⟩ (.slice o1 r.eps.length k1)).setCell ⟨bk, 3, none⟩ (.slice o2 r.tgts.length k2)).setCell ⟨bk, 5, none⟩ (.slice o3 r.rules.length k3)) := by
  have hbl := (Array.getElem?_eq_some_iff.1 hbx).1
  have hrl := (Array.getElem?_eq_some_iff.1 hrx).1
  have bX : Below w2.heap.size w2 wX := ⟨hbX.os, hbX.tape, hbX.output, hbX.size, hbX.block⟩
  have bY := seq_below bX hbY
  have bZ := seq_below bY hbZ
  have x1 := (bZ.block bk hbl).trans hbx
  have y1 := (bZ.block rb hrl).trans hrx
  have x2 := box_set (g := bk) (i := 2) (v := .slice o1 r.eps.length k1) x1
  have x3 := box_set (g := bk) (i := 3) (v := .slice o2 r.tgts.length k2) x2
  have x4 := box_set (g := bk) (i := 5) (v := .slice o3 r.rules.length k3) x3
  have t1 : Tch (fun q => q = bk) wZ (wZ.setCell ⟨bk, 2, none⟩ (.slice o1 r.eps.length k1)) := Tch.setCell (S := fun q => q = bk) _ (p := ⟨bk, 2, none⟩) rfl _
  have t2 : Tch (fun q => q = bk) (wZ.setCell ⟨bk, 2, none⟩ (.slice o1 r.eps.length k1)) ((wZ.setCell ⟨bk, 2, none⟩ (.slice o1 r.eps.length k1)).setCell ⟨bk, 3, none⟩ (.slice o2 r.tgts.length k2)) := Tch.setCell (S := fun q => q = bk) _ (p := ⟨bk, 3, none⟩) rfl _
  have t3 : Tch (fun q => q = bk) ((wZ.setCell ⟨bk, 2, none⟩ (.slice o1 r.eps.length k1)).setCell ⟨bk, 3, none⟩ (.slice o2 r.tgts.length k2)) (((wZ.setCell ⟨bk, 2, none⟩ (.slice o1 r.eps.length k1)).setCell ⟨bk, 3, none⟩ (.slice o2 r.tgts.length k2)).setCell ⟨bk, 5, none⟩ (.slice o3 r.rules.length k3)) := Tch.setCell (S := fun q => q = bk) _ (p := ⟨bk, 5, none⟩) rfl _
  have t := (t1.trans t2 (fun _ h => .inl h)).trans t3 (fun _ h => .inl h)
  have s2 : w.heap.size ≤ w2.heap.size := hb2.size
  have sX : w2.heap.size ≤ wX.heap.size := bX.size
  have sY : wX.heap.size ≤ wY.heap.size := hbY.size
  have hY : w2.heap.size ≤ wY.heap.size := bY.size
  have r1 := ownsRow_base (base' := w.heap.size) (ownsRow_tch (ownsRow_tch (ownsRow_tch h1 (Tch.of_below (S := No) hbY) (fun _ _ q => q)) (Tch.of_below (S := No) hbZ) (fun _ _ q => q)) t (fun g hg e => by have := (ownsRow_ge h1 hg).1; have : w2.heap.size ≤ g := this; omega)) s2
  have r2 := ownsRow_base (base' := w.heap.size) (ownsRow_tch (ownsRow_tch h2 (Tch.of_below (S := No) hbZ) (fun _ _ q => q)) t (fun g hg e => by have := (ownsRow_ge h2 hg).1; omega)) (by omega)
  have r3 := ownsRow_base (base' := w.heap.size) (ownsRow_tch h3 t (fun g hg e => by have := (ownsRow_ge h3 hg).1; omega)) (by omega)
  refine ⟨⟨r, o1, k1, o2, k2, o3, k3⟩, rfl, x4, ?_, ⟨r1, r2, r3, hp⟩, Tch.below (seq_below hb2 bZ) t (seq_below hb2 bZ).size (fun q e => by rw [e]; exact hbk)⟩
  rw [t.block rb (Nat.lt_of_lt_of_le hrl bZ.size) (fun e => hne e.symm)]
  exact y1
theorem copied121 (x : Rw) (w : World) (hp : x.P w) (hM : SzR x.r) : Calls Try.prog 121 #[.agg x.cells.toArray] w (CopyOut w x.r) := by
  obtain ⟨r, eo, ec, ta, tc, ra, rc⟩ := x
  obtain ⟨m1, m2, m3⟩ := hM
  have hp' : RP w r (.slice eo r.eps.length ec) (.slice ta r.tgts.length tc) (.slice ra r.rules.length rc) := hp
  obtain ⟨bk, hbk⟩ : ∃ bk, bk = w.heap.size := ⟨_, rfl⟩
  obtain ⟨rb, hrb⟩ : ∃ rb, rb = w.heap.size + 1 := ⟨_, rfl⟩
  obtain ⟨w2, hw2⟩ : ∃ w2, w2 = (w.alloc (.cells #[.int .i64 r.kind, .string r.name, .slice eo r.eps.length ec, .slice ta r.tgts.length tc, .string r.host, .slice ra r.rules.length rc, .string r.route, .bool r.del] 52)).alloc (.cells #[.int .i64 0, .string ⟨#[]⟩, .slice none 0 0, .slice none 0 0, .string ⟨#[]⟩, .slice none 0 0, .string ⟨#[]⟩, .bool false] 52) := ⟨_, rfl⟩
  have hbx : w2.heap[bk]? = some (.cells #[.int .i64 r.kind, .string r.name, .slice eo r.eps.length ec, .slice ta r.tgts.length tc, .string r.host, .slice ra r.rules.length rc, .string r.route, .bool r.del] 52 (0, 0)) := by rw [hw2, Below.heap_alloc _ _ bk (by simp; omega), hbk]; exact heap_alloc_new w _
  have hrx : w2.heap[rb]? = some (.cells #[.int .i64 0, .string ⟨#[]⟩, .slice none 0 0, .slice none 0 0, .string ⟨#[]⟩, .slice none 0 0, .string ⟨#[]⟩, .bool false] 52 (0, 0)) := by
    have : rb = (w.alloc (.cells #[.int .i64 r.kind, .string r.name, .slice eo r.eps.length ec, .slice ta r.tgts.length tc, .string r.host, .slice ra r.rules.length rc, .string r.route, .bool r.del] 52)).heap.size := by simp; omega
    rw [hw2, this]; exact heap_alloc_new _ _
  have hb2 : Below w.heap.size w w2 := by rw [hw2]; exact seq_below (alloc_below _ _) (alloc_below _ _)
  have hS : Hid (∀ w', Below w2.heap.size w2 w' → w'.cell? ⟨bk, 2, none⟩ = some (.slice eo r.eps.length ec) ∧ w'.cell? ⟨bk, 3, none⟩ = some (.slice ta r.tgts.length tc) ∧ w'.cell? ⟨bk, 5, none⟩ = some (.slice ra r.rules.length rc) ∧ w'.frozen? ⟨bk, 2, none⟩ = false ∧ w'.frozen? ⟨bk, 3, none⟩ = false ∧ w'.frozen? ⟨bk, 5, none⟩ = false) := Lib.hid (fun w' h => by
    have x := (h.block bk (Array.getElem?_eq_some_iff.1 hbx).1).trans hbx
    exact ⟨box_at x rfl, box_at x rfl, box_at x rfl, frozen_of_row _ _ _ _ _ x, frozen_of_row _ _ _ _ _ x, frozen_of_row _ _ _ _ _ x⟩)
  have hcur : Hid (Below w2.heap.size w2 w2.drew) := Lib.hid ⟨rfl, rfl, rfl, Nat.le_refl _, fun _ _ => rfl⟩
  have c106 : Hid (∀ w', Below w2.heap.size w2 w' → Calls Try.prog 106 #[.slice eo r.eps.length ec] w' (CloneOut w' 9 1 r.eps.length (r.eps.flatMap Rd.strC.enc))) := Lib.hid (fun w' h => clone106 r.eps _ w' (hp'.e.below (seq_below hb2 h)) m1)
  have c147 : Hid (∀ w', Below w2.heap.size w2 w' → Calls Try.prog 147 #[.slice ta r.tgts.length tc] w' (CloneOut w' 57 3 r.tgts.length (r.tgts.flatMap tgtC.enc))) := Lib.hid (fun w' h => clone147 r.tgts _ w' (hp'.t.below (seq_below hb2 h)) m2)
  have c148 : Hid (∀ w', Below w2.heap.size w2 w' → Calls Try.prog 148 #[.slice ra r.rules.length rc] w' (CloneOut w' 101 4 r.rules.length (r.rules.flatMap rulC.enc))) := Lib.hid (fun w' h => clone148 r.rules _ w' (hp'.ru.below (seq_below hb2 h)) m3)
  replace hp := Lib.hid hp
  replace hp' := Lib.hid hp'
  replace hw2 := Lib.hid hw2
  replace hbk := Lib.hid hbk
  replace hrb := Lib.hid hrb
  replace hbx := Lib.hid hbx
  replace hrx := Lib.hid hrx
  replace hb2 := Lib.hid hb2
  clear m1 m2 m3
  show Calls Try.prog 121 #[.agg #[.int .i64 r.kind, .string r.name, .slice eo r.eps.length ec, .slice ta r.tgts.length tc, .string r.host, .slice ra r.rules.length rc, .string r.route, .bool r.del]] w (CopyOut w r)
  go_enter Try.func121, Try.ntmps121
  go_upto_region 1 with fail
  rw [← hrb.out, ← hbk.out, ← hw2.out]
  obtain ⟨s2, s3, s5, z2, z3, z5⟩ := hS.out _ hcur.out
  have hpp := Lib.hid (show ∃ w0 ev tv rv, RP w0 r ev tv rv from ⟨_, _, _, _, hp'.out⟩)
  have hbkl := Lib.hid (show w.heap.size ≤ bk by rw [hbk.out]; exact Nat.le_refl _)
  have hne := Lib.hid (show bk ≠ rb by rw [hbk.out, hrb.out]; omega)
  go_cut [5] (fun v wx => Hid (CopyR w r bk rb wx))
  case first =>
   go_region_with (first
     | (go_at_call 106; (with_reducible refine (c106.out _ hcur.out).mono ?_); rintro e wX ⟨o1, k1, rfl, h1, hbX⟩; replace hcur := Lib.hid (seq_below hcur.out hbX); (obtain ⟨s2, s3, s5, z2, z3, z5⟩ := hS.out _ hcur.out); replace h1 := Lib.hid h1; replace hbX := Lib.hid hbX)
     | (go_at_call 147; (with_reducible refine (c147.out _ hcur.out).mono ?_); rintro e wY ⟨o2, k2, rfl, h2, hbY⟩; replace hcur := Lib.hid (seq_below hcur.out hbY); (obtain ⟨s2, s3, s5, z2, z3, z5⟩ := hS.out _ hcur.out); replace h2 := Lib.hid h2; replace hbY := Lib.hid hbY)
     | (go_at_call 148; (with_reducible refine (c148.out _ hcur.out).mono ?_); rintro e wZ ⟨o3, k3, rfl, h3, hbZ⟩; replace hcur := Lib.hid (seq_below hcur.out hbZ); (obtain ⟨s2, s3, s5, z2, z3, z5⟩ := hS.out _ hcur.out); replace h3 := Lib.hid h3; replace hbZ := Lib.hid hbZ)
     | fail)
   all_goals
     go_wp2
     go_meet
     exact Lib.hid (copy_fin (x := ⟨r, eo, ec, ta, tc, ra, rc⟩) hpp.out hbkl.out hne.out hb2.out hbx.out hrx.out hbX.out h1.out hbY.out h2.out hbZ.out h3.out)
  case rest =>
    obtain ⟨⟨r', o1, k1, o2, k2, o3, k3⟩, e, x1, y1, hM, hB⟩ := hcut.out
    replace e : r' = r := e
    subst e
    have d0 : wc.cell? ⟨bk, 0, none⟩ = some (.int .i64 r'.kind) := box_at x1 rfl
    have d1 : wc.cell? ⟨bk, 1, none⟩ = some (.string r'.name) := box_at x1 rfl
    have d2 : wc.cell? ⟨bk, 2, none⟩ = some (.slice o1 r'.eps.length k1) := box_at x1 rfl
    have d3 : wc.cell? ⟨bk, 3, none⟩ = some (.slice o2 r'.tgts.length k2) := box_at x1 rfl
    have d4 : wc.cell? ⟨bk, 4, none⟩ = some (.string r'.host) := box_at x1 rfl
    have d5 : wc.cell? ⟨bk, 5, none⟩ = some (.slice o3 r'.rules.length k3) := box_at x1 rfl
    have d6 : wc.cell? ⟨bk, 6, none⟩ = some (.string r'.route) := box_at x1 rfl
    have d7 : wc.cell? ⟨bk, 7, none⟩ = some (.bool r'.del) := box_at x1 rfl
    have y1' : wc.heap[rb]? = some (.cells #[.int .i64 0, .string ⟨#[]⟩, .slice none 0 0, .slice none 0 0, .string ⟨#[]⟩, .slice none 0 0, .string ⟨#[]⟩, .bool false] 52 (0, 0)) := y1
    have f0 := frozen_of_row _ rb 0 _ _ y1'
    have f1 := frozen_of_row _ rb 1 _ _ y1'
    have f2 := frozen_of_row _ rb 2 _ _ y1'
    have f3 := frozen_of_row _ rb 3 _ _ y1'
    have f4 := frozen_of_row _ rb 4 _ _ y1'
    have f5 := frozen_of_row _ rb 5 _ _ y1'
    have f6 := frozen_of_row _ rb 6 _ _ y1'
    have f7 := frozen_of_row _ rb 7 _ _ y1'
    have g0 : wc.cell? ⟨rb, 0, none⟩ = some (.int .i64 0) := box_at y1' rfl
    have g1 : wc.cell? ⟨rb, 1, none⟩ = some (.string ⟨#[]⟩) := box_at y1' rfl
    have g2 : wc.cell? ⟨rb, 2, none⟩ = some (.slice none 0 0) := box_at y1' rfl
    have g3 : wc.cell? ⟨rb, 3, none⟩ = some (.slice none 0 0) := box_at y1' rfl
    have g4 : wc.cell? ⟨rb, 4, none⟩ = some (.string ⟨#[]⟩) := box_at y1' rfl
    have g5 : wc.cell? ⟨rb, 5, none⟩ = some (.slice none 0 0) := box_at y1' rfl
    have g6 : wc.cell? ⟨rb, 6, none⟩ = some (.string ⟨#[]⟩) := box_at y1' rfl
    have g7 : wc.cell? ⟨rb, 7, none⟩ = some (.bool false) := box_at y1' rfl
    have hrbl := Lib.hid (Array.getElem?_eq_some_iff.1 y1').1
    replace x1 := Lib.hid x1
    replace y1 := Lib.hid y1
    replace y1' := Lib.hid y1'
    replace hM := Lib.hid hM
    replace hB := Lib.hid hB
    go_wp2
    obtain ⟨wf, hwf⟩ : ∃ wf, wf = set8 wc rb (.int .i64 r'.kind) (.string r'.name) (.slice o1 r'.eps.length k1) (.slice o2 r'.tgts.length k2) (.string r'.host) (.slice o3 r'.rules.length k3) (.string r'.route) (.bool r'.del) := ⟨_, rfl⟩
    have hx8 := set8_heap y1'.out (.int .i64 r'.kind) (.string r'.name) (.slice o1 r'.eps.length k1) (.slice o2 r'.tgts.length k2) (.string r'.host) (.slice o3 r'.rules.length k3) (.string r'.route) (.bool r'.del)
    have ht8 := set8_tch wc rb (.int .i64 r'.kind) (.string r'.name) (.slice o1 r'.eps.length k1) (.slice o2 r'.tgts.length k2) (.string r'.host) (.slice o3 r'.rules.length k3) (.string r'.route) (.bool r'.del)
    rw [← hwf] at hx8 ht8
    unfold set8 at hwf
    rw [← hwf]
    have z0 : wf.cell? ⟨rb, 0, none⟩ = some (.int .i64 r'.kind) := box_at hx8 rfl
    have z1 : wf.cell? ⟨rb, 1, none⟩ = some (.string r'.name) := box_at hx8 rfl
    have z2 : wf.cell? ⟨rb, 2, none⟩ = some (.slice o1 r'.eps.length k1) := box_at hx8 rfl
    have z3 : wf.cell? ⟨rb, 3, none⟩ = some (.slice o2 r'.tgts.length k2) := box_at hx8 rfl
    have z4 : wf.cell? ⟨rb, 4, none⟩ = some (.string r'.host) := box_at hx8 rfl
    have z5 : wf.cell? ⟨rb, 5, none⟩ = some (.slice o3 r'.rules.length k3) := box_at hx8 rfl
    have z6 : wf.cell? ⟨rb, 6, none⟩ = some (.string r'.route) := box_at hx8 rfl
    have z7 : wf.cell? ⟨rb, 7, none⟩ = some (.bool r'.del) := box_at hx8 rfl
    refine bodyPost_ret (v := .agg #[.int .i64 r'.kind, .string r'.name, .slice o1 r'.eps.length k1, .slice o2 r'.tgts.length k2, .string r'.host, .slice o3 r'.rules.length k3, .string r'.route, .bool r'.del]) (by simp [results, Try.results121, go_sem, z0, z1, z2, z3, z4, z5, z6, z7]) rfl ?_
    refine ⟨⟨r', o1, k1, o2, k2, o3, k3⟩, rfl, rfl, ?_, Tch.below hB.out ht8 hB.out.size (fun q e => by rw [e, hrb.out]; exact Nat.le_succ _)⟩
    exact hM.out.tch ht8 (fun g hg e => row_block_ne hM.out.e y1'.out (by decide) g hg e) (fun g hg e => row_block_ne hM.out.t y1'.out (by decide) g hg e) (fun g hg e => row_block_ne hM.out.ru y1'.out (by decide) g hg e)
end Go.Proofs.Ytjepgpocmnijiaa
end
