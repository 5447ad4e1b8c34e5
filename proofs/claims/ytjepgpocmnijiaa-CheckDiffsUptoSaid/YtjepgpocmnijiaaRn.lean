/- The walks of own and of Lists. -/
import Derived.Test.YtjepgpocmnijiaaRm
namespace Go.Ck
theorem sameR_refl (r : Res) : sameR r r = true := by
  have h1 : ∀ s : ByteArray, seq s s = true := fun s => seq_iff.2 rfl
  have h2 : ∀ t : Tgt, sameT t t = true := fun t => by
    unfold sameT sameW
    rw [h1, h1]
    cases eqF t.weight t.weight <;> rfl
  have h3 : ∀ t : Rul, sameU t t = true := fun t => by
    unfold sameU
    rw [h1, h1, h1]
    simp
  have h4 : ∀ {α : Type} (p : α → α → Bool) (a : List α), (∀ x, p x x = true) → eqL p a a = true := fun p a h => eqL_yes rfl (fun j x y hx hy => by rw [hx] at hy; cases hy; exact h x)
  unfold sameR isK
  rw [h1, h1, h1, h4 _ _ h1, h4 _ _ h2, h4 _ _ h3]
  simp
theorem lists_refl (l : List Res) : eqL sameR l l = true := eqL_yes rfl (fun j x y hx hy => by rw [hx] at hy; cases hy; exact sameR_refl x)
end Go.Ck
namespace Go.Ck
/-- A resource's lists lie in memory: none is longer than any memory. -/
structure SzR (r : Res) : Prop where
  e : r.eps.length * 16 ≤ 140737488355328
  t : r.tgts.length * 40 ≤ 140737488355328
  r : r.rules.length * 56 ≤ 140737488355328
/-- Resources that lie in memory. -/
structure SzL (l : List Res) : Prop where
  n : l.length * 136 ≤ 140737488355328
  el : ∀ r ∈ l, SzR r
theorem sz_of {l : List Res} (h : listM l ≤ 1048576) : SzL l :=
  ⟨by have := len_le l; omega, fun r hr => by
    have h1 := mem_le hr
    have h2 := eps_le r
    have h3 := tgts_le r
    have h4 := rules_le r
    exact ⟨by omega, by omega, by omega⟩⟩
end Go.Ck
namespace Go.Proofs.Ytjepgpocmnijiaa
open Go.RowKit Go.Mp Go.Ck
set_option linter.unusedVariables false
set_option maxRecDepth 100000
set_option maxHeartbeats 4000000
theorem info9 : (Try.prog.info? 9).map (fun i => (i.zero, i.size, i.bytes)) = some (some (.string ⟨#[]⟩), 1, 16) := by kernel_rfl
theorem info57 : (Try.prog.info? 57).map (fun i => (i.zero, i.size, i.bytes)) = some (some (.agg #[.string ⟨#[]⟩, .string ⟨#[]⟩, .float .f64 0]), 3, 40) := by kernel_rfl
theorem info101 : (Try.prog.info? 101).map (fun i => (i.zero, i.size, i.bytes)) = some (some (.agg #[.string ⟨#[]⟩, .string ⟨#[]⟩, .string ⟨#[]⟩, .bool false]), 4, 56) := by kernel_rfl
theorem info52 : (Try.prog.info? 52).map (fun i => (i.zero, i.size, i.bytes)) = some (some (.agg #[.int .i64 0, .string ⟨#[]⟩, .slice none 0 0, .slice none 0 0, .string ⟨#[]⟩, .slice none 0 0, .string ⟨#[]⟩, .bool false]), 8, 136) := by kernel_rfl
def OwnOut (w : World) (l : List Res) (e : Ending) (w' : World) : Prop := ∃ v' L, e = .returned v' ∧ L.map RV.r = l ∧ OwnM w' w.heap.size v' L ∧ Below w.heap.size w w'
theorem ownM_tch {w w' : World} {B : Nat} {v : Value} {L : List RV} {S : Nat → Prop} (h : OwnM w B v L) (t : Tch S w w') (h1 : ∀ g, v.ownBlock = some g → ¬ S g) (h2 : ∀ x ∈ L, ∀ g, x.ev.ownBlock = some g ∨ x.tv.ownBlock = some g ∨ x.rv.ownBlock = some g → ¬ S g) : OwnM w' B v L :=
  ⟨ownsRow_tch h.row t h1, fun x hx => (h.el x hx).tch t (fun g q => h2 x hx g (.inl q)) (fun g q => h2 x hx g (.inr (.inl q))) (fun g q => h2 x hx g (.inr (.inr q)))⟩
theorem ownM_below {w w' : World} {B : Nat} {v : Value} {L : List RV} (h : OwnM w B v L) (hb : Below w.heap.size w w') : OwnM w' B v L := ownM_tch h (Tch.of_below (S := No) hb) (fun _ _ q => q) (fun _ _ _ _ q => q)
theorem empty_row (w : World) (B : Nat) (hB : B ≤ w.heap.size) (e size : Nat) : (w.alloc (.cells #[] e)).ownsRow B e size (.slice (some ⟨w.heap.size, 0, none⟩) 0 0) 0 [] :=
  World.ownsRow_made w #[] 0 hB (by unfold maxLen; omega) (by simp)
theorem box_set {w : World} {g i : Nat} {cs : Array Value} {T : TypeId} {v : Value} (h : w.heap[g]? = some (.cells cs T (0, 0))) : (w.setCell ⟨g, i, none⟩ v).heap[g]? = some (.cells (cs.setIfInBounds i v) T (0, 0)) := heap_setCell_same w g i cs T v h
theorem row_block_ne {w : World} {B e size n : Nat} {v : Value} {xs : List Value} {g T : Nat} {cs : Array Value} (h : w.ownsRow B e size v n xs) (hg : w.heap[g]? = some (.cells cs T (0, 0))) (he : e ≠ T) : ∀ k, v.ownBlock = some k → k ≠ g := fun k hk q => row_not h hg he (by rw [← q]; exact hk)
theorem own18z (l : List Res) (v : Value) (w : World) (hl : ResS w v l) (hM : SzL l) : Calls Try.prog 18 #[v] w (OwnOut w l) := by
  obtain ⟨ao, cap, rfl⟩ := slice_shape hl
  have hlen := hl.1
  obtain ⟨i9, h9, h90, h91, h92⟩ := info_parts info9
  obtain ⟨i57, h57, h570, h571, h572⟩ := info_parts info57
  obtain ⟨i101, h101, h1010, h1011, h1012⟩ := info_parts info101
  obtain ⟨i52, h52, h520, h521, h522⟩ := info_parts info52
  have hM0 : Hid (OwnM w w.heap.size (.slice none 0 0) []) := Lib.hid ⟨World.ownsRow_nil _ _ _ _, fun x hx => by cases hx⟩
  have hL0 : Hid (([] : List RV).map RV.r = l.take 0) := Lib.hid (by simp)
  replace hl := Lib.hid hl
  replace hM := Lib.hid hM
  replace h9 := Lib.hid h9
  replace h90 := Lib.hid h90
  replace h91 := Lib.hid h91
  replace h92 := Lib.hid h92
  replace h57 := Lib.hid h57
  replace h570 := Lib.hid h570
  replace h571 := Lib.hid h571
  replace h572 := Lib.hid h572
  replace h101 := Lib.hid h101
  replace h1010 := Lib.hid h1010
  replace h1011 := Lib.hid h1011
  replace h1012 := Lib.hid h1012
  replace h52 := Lib.hid h52
  replace h520 := Lib.hid h520
  replace h521 := Lib.hid h521
  replace h522 := Lib.hid h522
  go_enter Try.func18, Try.ntmps18
  go_wp2
  go_loopg [3, 4] (l.length + 1) (fun gg ov ic wr => ∃ (i : Nat) (L : List RV), gg = l.length - i + 1 ∧ i ≤ l.length ∧ ic = .int .i64 i ∧ Hid (L.map RV.r = l.take i) ∧ Hid (OwnM wr w.heap.size ov L) ∧ Hid (Below w.heap.size w wr))
  case atStart => exact ⟨0, [], rfl, Nat.zero_le _, rfl, hL0, hM0, Lib.hid (Below.refl _ _)⟩
  case round =>
    obtain ⟨i, L, rfl, hi, rfl, hLi, hO, hbw⟩ := hrel
    obtain ⟨oo, oc, rfl⟩ := ownsRow_shape hO.out.row
    by_cases hlt : i < l.length
    · obtain ⟨r, hr⟩ : ∃ r, l[i]? = some r := ⟨_, List.getElem?_eq_getElem hlt⟩
      obtain ⟨b, off, eo, ec, ta, tc, ra, rc, rfl, hbl, c, hp⟩ := res_at2 hl.out hr
      obtain ⟨c0, c1, c2, c3, c4, c5, c6, c7⟩ := c.below hbl hbw.out
      have hk0 : (i : Int) < (l.length : Int) := nn_lt hlt
      have hwk := Lib.hid (nn_succ2 hlt hlen)
      obtain ⟨wb, hwb⟩ : ∃ wb, wb = wr.alloc (.cells #[Value.int .i64 r.kind, .string r.name, .slice eo r.eps.length ec, .slice ta r.tgts.length tc, .string r.host, .slice ra r.rules.length rc, .string r.route, .bool r.del] 52) := ⟨_, rfl⟩
      obtain ⟨bk, hbk⟩ : ∃ bk, bk = wr.heap.size := ⟨_, rfl⟩
      have hbx : wb.heap[bk]? = some (.cells #[Value.int .i64 r.kind, .string r.name, .slice eo r.eps.length ec, .slice ta r.tgts.length tc, .string r.host, .slice ra r.rules.length rc, .string r.route, .bool r.del] 52 (0, 0)) := by rw [hwb, hbk]; exact heap_alloc_new wr _
      have hba : Below wr.heap.size wr wb := by rw [hwb]; exact alloc_below _ _
      have hbwb := Lib.hid (seq_below hbw.out hba)
      have hbwk : w.heap.size ≤ bk := by rw [hbk]; exact hbw.out.size
      have hOb := Lib.hid (ownM_below hO.out hba)
      have hrm := hM.out.el r (List.mem_of_getElem? hr)
      have z1 := hrm.e
      have z2 := hrm.t
      have z3 := hrm.r
      have lim1 : 0 + r.eps.length ≤ maxLen ∧ (0 + r.eps.length) * 16 ≤ 140737488355328 := by unfold maxLen; omega
      have lim2 : 0 + r.tgts.length ≤ maxLen ∧ (0 + r.tgts.length) * 40 ≤ 140737488355328 := by unfold maxLen; omega
      have lim3 : 0 + r.rules.length ≤ maxLen ∧ (0 + r.rules.length) * 56 ≤ 140737488355328 := by unfold maxLen; omega
      have hbl' := Lib.hid hbl
      have hcc := Lib.hid c
      have hne : Hid (∀ g, (Value.slice oo L.length oc).ownBlock = some g → g < bk) := Lib.hid (fun g hg => by rw [hbk]; exact (ownsRow_ge hO.out.row hg).2)
      have hbxwb := Lib.hid hbx
      have hbwbb := hbwb
      have hOwb := hOb
      replace hrm := Lib.hid hrm
      replace z1 := Lib.hid z1
      replace z2 := Lib.hid z2
      replace z3 := Lib.hid z3
      replace hp := Lib.hid hp
      replace hba := Lib.hid hba
      replace hr := Lib.hid hr
      replace hbwk := Lib.hid hbwk
      clear hbl c hbx
      have limA := Lib.hid lim1
      have limB := Lib.hid lim2
      have limC := Lib.hid lim3
      clear lim1 lim2 lim3
      go_upto_region 6 with fail
      rw [← hwb, ← hbk]
      replace hwb := Lib.hid hwb
      replace hbk := Lib.hid hbk
      clear c0 c1 c2 c3 c4 c5 c6 c7
      have hrowA := Lib.hid (empty_row wb w.heap.size hbwb.out.size 9 1)
      have hsrcA := Lib.hid (hp.out.e.below (seq_below hbwb.out (alloc_below wb (.cells #[] 9))))
      have hbAA := Lib.hid (seq_below hbwb.out (alloc_below wb (.cells #[] 9)))
      have hRA := Lib.hid (alloc_below wb (.cells #[] 9))
      have hblsA : b < wb.heap.size := Nat.lt_of_lt_of_le hbl'.out hbwb.out.size
      have gsA : wb.cell? ⟨b, off + i * 8 + 2, none⟩ = some (.slice eo r.eps.length ec) := (hcc.out.below hbl'.out hbwb.out).c2
      go_upto_region 7 with (first
        | (at_builtin; refine Rd.wp_append_src Rd.strC (by rfl) _ _ 48 (by rfl) w.heap.size 9 i9 _ 16 Try.underlying48 h9.out h90.out h91.out h92.out rfl _ 0 [] (by rfl) hrowA.out _ r.eps (by rfl) hsrcA.out limA.out.1 limA.out.2 hbAA.out.size ?_; intro v3 w3A hr3 hg3 hl3; obtain ⟨ea1, ec1, rfl⟩ := ownsRow_shape hr3; rw [Nat.zero_add, List.nil_append] at hr3; have hGA := Lib.hid (hRA.out.grown hg3 hRA.out.size (fun q hq => (by cases hq; exact Nat.le_refl _))); have hbx3 := (hGA.out.block bk (Array.getElem?_eq_some_iff.1 hbxwb.out).1).trans hbxwb.out; have fz := frozen_of_row _ bk 2 _ _ hbx3; have cz : w3A.cell? ⟨bk, 2, none⟩ = some (.slice eo r.eps.length ec) := box_at hbx3 rfl; replace hbx3 := Lib.hid hbx3; rw [Nat.zero_add]; have hrA := Lib.hid hr3; clear hr3 hg3 hl3)
        | fail)
      obtain ⟨w4A, hw4⟩ : ∃ w4, w4 = w3A.setCell ⟨bk, 2, none⟩ (.slice ea1 r.eps.length ec1) := ⟨_, rfl⟩
      rw [← hw4]
      have tS : Tch (fun q => q = bk) w3A w4A := by rw [hw4]; exact Tch.setCell (S := fun q => q = bk) w3A (p := ⟨bk, 2, none⟩) rfl _
      have hbw4A := Lib.hid (Tch.below (seq_below hbwb.out hGA.out) tS (seq_below hbwb.out hGA.out).size (fun q e => by rw [e]; exact hbwk.out))
      have hbxw4A : Hid (w4A.heap[bk]? = some (.cells #[Value.int .i64 r.kind, .string r.name, .slice ea1 r.eps.length ec1, .slice ta r.tgts.length tc, .string r.host, .slice ra r.rules.length rc, .string r.route, .bool r.del] 52 (0, 0))) := Lib.hid (by rw [hw4]; exact box_set hbx3.out)
      have hO3 := ownM_below hOwb.out hGA.out
      have hOw4A := Lib.hid (ownM_tch hO3 tS (fun g hg e => by have := hne.out g hg; omega) (fun x hx g hg e => by
        rcases hg with q | q | q
        · exact row_block_ne (hO3.el x hx).e hbx3.out (by decide) g q e
        · exact row_block_ne (hO3.el x hx).t hbx3.out (by decide) g q e
        · exact row_block_ne (hO3.el x hx).ru hbx3.out (by decide) g q e))
      have hownA := Lib.hid (ownsRow_tch hrA.out tS (fun g hg e => row_block_ne hrA.out hbx3.out (by decide) g hg e))
      replace hw4 := Lib.hid hw4
      replace tS := Lib.hid tS
      replace hO3 := Lib.hid hO3
      clear fz cz gsA hbx3
      have hrowB := Lib.hid (empty_row w4A w.heap.size hbw4A.out.size 57 3)
      have hsrcB := Lib.hid (hp.out.t.below (seq_below hbw4A.out (alloc_below w4A (.cells #[] 57))))
      have hbAB := Lib.hid (seq_below hbw4A.out (alloc_below w4A (.cells #[] 57)))
      have hRB := Lib.hid (alloc_below w4A (.cells #[] 57))
      have hblsB : b < w4A.heap.size := Nat.lt_of_lt_of_le hbl'.out hbw4A.out.size
      have gsB : w4A.cell? ⟨b, off + i * 8 + 3, none⟩ = some (.slice ta r.tgts.length tc) := (hcc.out.below hbl'.out hbw4A.out).c3
      go_upto_region 8 with (first
        | (at_builtin; refine Rd.wp_append_src tgtC (by rfl) _ _ 49 (by rfl) w.heap.size 57 i57 _ 40 Try.underlying49 h57.out h570.out h571.out h572.out rfl _ 0 [] (by rfl) hrowB.out _ r.tgts (by rfl) hsrcB.out limB.out.1 limB.out.2 hbAB.out.size ?_; intro v3 w3B hr3 hg3 hl3; obtain ⟨ta1, tc1, rfl⟩ := ownsRow_shape hr3; rw [Nat.zero_add, List.nil_append] at hr3; have hGB := Lib.hid (hRB.out.grown hg3 hRB.out.size (fun q hq => (by cases hq; exact Nat.le_refl _))); have hbx3 := (hGB.out.block bk (Array.getElem?_eq_some_iff.1 hbxw4A.out).1).trans hbxw4A.out; have fz := frozen_of_row _ bk 3 _ _ hbx3; have cz : w3B.cell? ⟨bk, 3, none⟩ = some (.slice ta r.tgts.length tc) := box_at hbx3 rfl; replace hbx3 := Lib.hid hbx3; rw [Nat.zero_add]; have hrB := Lib.hid hr3; clear hr3 hg3 hl3)
        | fail)
      obtain ⟨w4B, hw4⟩ : ∃ w4, w4 = w3B.setCell ⟨bk, 3, none⟩ (.slice ta1 r.tgts.length tc1) := ⟨_, rfl⟩
      rw [← hw4]
      have tS : Tch (fun q => q = bk) w3B w4B := by rw [hw4]; exact Tch.setCell (S := fun q => q = bk) w3B (p := ⟨bk, 3, none⟩) rfl _
      have hbw4B := Lib.hid (Tch.below (seq_below hbw4A.out hGB.out) tS (seq_below hbw4A.out hGB.out).size (fun q e => by rw [e]; exact hbwk.out))
      have hbxw4B : Hid (w4B.heap[bk]? = some (.cells #[Value.int .i64 r.kind, .string r.name, .slice ea1 r.eps.length ec1, .slice ta1 r.tgts.length tc1, .string r.host, .slice ra r.rules.length rc, .string r.route, .bool r.del] 52 (0, 0))) := Lib.hid (by rw [hw4]; exact box_set hbx3.out)
      have hO3 := ownM_below hOw4A.out hGB.out
      have hOw4B := Lib.hid (ownM_tch hO3 tS (fun g hg e => by have := hne.out g hg; omega) (fun x hx g hg e => by
        rcases hg with q | q | q
        · exact row_block_ne (hO3.el x hx).e hbx3.out (by decide) g q e
        · exact row_block_ne (hO3.el x hx).t hbx3.out (by decide) g q e
        · exact row_block_ne (hO3.el x hx).ru hbx3.out (by decide) g q e))
      have hownA := Lib.hid (ownsRow_tch (ownsRow_tch hownA.out (Tch.of_below (S := No) hGB.out) (fun _ _ q => q)) tS (fun g hg e => row_block_ne (ownsRow_tch hownA.out (Tch.of_below (S := No) hGB.out) (fun _ _ q => q)) hbx3.out (by decide) g hg e))
      have hownB := Lib.hid (ownsRow_tch hrB.out tS (fun g hg e => row_block_ne hrB.out hbx3.out (by decide) g hg e))
      replace hw4 := Lib.hid hw4
      replace tS := Lib.hid tS
      replace hO3 := Lib.hid hO3
      clear fz cz gsB hbx3
      have hrowC := Lib.hid (empty_row w4B w.heap.size hbw4B.out.size 101 4)
      have hsrcC := Lib.hid (hp.out.ru.below (seq_below hbw4B.out (alloc_below w4B (.cells #[] 101))))
      have hbAC := Lib.hid (seq_below hbw4B.out (alloc_below w4B (.cells #[] 101)))
      have hRC := Lib.hid (alloc_below w4B (.cells #[] 101))
      have hblsC : b < w4B.heap.size := Nat.lt_of_lt_of_le hbl'.out hbw4B.out.size
      have gsC : w4B.cell? ⟨b, off + i * 8 + 5, none⟩ = some (.slice ra r.rules.length rc) := (hcc.out.below hbl'.out hbw4B.out).c5
      go_upto_region 9 with (first
        | (at_builtin; refine Rd.wp_append_src rulC (by rfl) _ _ 50 (by rfl) w.heap.size 101 i101 _ 56 Try.underlying50 h101.out h1010.out h1011.out h1012.out rfl _ 0 [] (by rfl) hrowC.out _ r.rules (by rfl) hsrcC.out limC.out.1 limC.out.2 hbAC.out.size ?_; intro v3 w3C hr3 hg3 hl3; obtain ⟨ra1, rc1, rfl⟩ := ownsRow_shape hr3; rw [Nat.zero_add, List.nil_append] at hr3; have hGC := Lib.hid (hRC.out.grown hg3 hRC.out.size (fun q hq => (by cases hq; exact Nat.le_refl _))); have hbx3 := (hGC.out.block bk (Array.getElem?_eq_some_iff.1 hbxw4B.out).1).trans hbxw4B.out; have fz := frozen_of_row _ bk 5 _ _ hbx3; have cz : w3C.cell? ⟨bk, 5, none⟩ = some (.slice ra r.rules.length rc) := box_at hbx3 rfl; replace hbx3 := Lib.hid hbx3; rw [Nat.zero_add]; have hrC := Lib.hid hr3; clear hr3 hg3 hl3)
        | fail)
      obtain ⟨w4C, hw4⟩ : ∃ w4, w4 = w3C.setCell ⟨bk, 5, none⟩ (.slice ra1 r.rules.length rc1) := ⟨_, rfl⟩
      rw [← hw4]
      have tS : Tch (fun q => q = bk) w3C w4C := by rw [hw4]; exact Tch.setCell (S := fun q => q = bk) w3C (p := ⟨bk, 5, none⟩) rfl _
      have hbw4C := Lib.hid (Tch.below (seq_below hbw4B.out hGC.out) tS (seq_below hbw4B.out hGC.out).size (fun q e => by rw [e]; exact hbwk.out))
      have hbxw4C : Hid (w4C.heap[bk]? = some (.cells #[Value.int .i64 r.kind, .string r.name, .slice ea1 r.eps.length ec1, .slice ta1 r.tgts.length tc1, .string r.host, .slice ra1 r.rules.length rc1, .string r.route, .bool r.del] 52 (0, 0))) := Lib.hid (by rw [hw4]; exact box_set hbx3.out)
      have hO3 := ownM_below hOw4B.out hGC.out
      have hOw4C := Lib.hid (ownM_tch hO3 tS (fun g hg e => by have := hne.out g hg; omega) (fun x hx g hg e => by
        rcases hg with q | q | q
        · exact row_block_ne (hO3.el x hx).e hbx3.out (by decide) g q e
        · exact row_block_ne (hO3.el x hx).t hbx3.out (by decide) g q e
        · exact row_block_ne (hO3.el x hx).ru hbx3.out (by decide) g q e))
      have hownA := Lib.hid (ownsRow_tch (ownsRow_tch hownA.out (Tch.of_below (S := No) hGC.out) (fun _ _ q => q)) tS (fun g hg e => row_block_ne (ownsRow_tch hownA.out (Tch.of_below (S := No) hGC.out) (fun _ _ q => q)) hbx3.out (by decide) g hg e))
      have hownB := Lib.hid (ownsRow_tch (ownsRow_tch hownB.out (Tch.of_below (S := No) hGC.out) (fun _ _ q => q)) tS (fun g hg e => row_block_ne (ownsRow_tch hownB.out (Tch.of_below (S := No) hGC.out) (fun _ _ q => q)) hbx3.out (by decide) g hg e))
      have hownC := Lib.hid (ownsRow_tch hrC.out tS (fun g hg e => row_block_ne hrC.out hbx3.out (by decide) g hg e))
      replace hw4 := Lib.hid hw4
      replace tS := Lib.hid tS
      replace hO3 := Lib.hid hO3
      clear fz cz gsC hbx3
      have hN1 : L.length + 1 ≤ maxLen ∧ (L.length + 1) * 136 ≤ 140737488355328 := by
        have h1 : L.length ≤ i := by rw [← List.length_map (f := RV.r), hLi.out]; exact List.length_take_le _ _
        have h3 := hM.out.n
        unfold maxLen; omega
      obtain ⟨y0, y1, y2, y3, y4, y5, y6, y7⟩ : RC w4C bk 0 r (.slice ea1 r.eps.length ec1) (.slice ta1 r.tgts.length tc1) (.slice ra1 r.rules.length rc1) := rc_box (fun j u hu => box_at hbxw4C.out hu)
      replace hN1 := Lib.hid hN1
      go_wp2_with (first
        | (at_builtin; refine wp_append_us (us := rvc ⟨r, .slice ea1 r.eps.length ec1, .slice ta1 r.tgts.length tc1, .slice ra1 r.rules.length rc1⟩) (by rfl) _ _ 22 (by rfl) w.heap.size 52 i52 _ 8 136 Try.underlying22 h52.out h520.out h521.out h522.out rfl (by decide) _ L.length (L.flatMap rvc) (by rfl) hOw4C.out.row 1 (by rfl) rfl (by intro u hu; simp only [rvc, List.mem_cons, List.not_mem_nil, or_false] at hu; rcases hu with rfl | rfl | rfl | rfl | rfl | rfl | rfl | rfl <;> rfl) hN1.out.1 hN1.out.2 hbw4C.out.size ?_; intro v5 w5 hr5 hg5 hl5; replace hr5 := Lib.hid hr5; replace hg5 := Lib.hid hg5; replace hl5 := Lib.hid hl5)
        | fail)
      have t5 : Tch (fun q => (Value.slice oo L.length oc).ownBlock = some q) w4C w5 := Tch.grown hg5.out (fun q hq => .inl hq)
      have hO5 : Hid (OwnM w5 w.heap.size v5 (L ++ [⟨r, .slice ea1 r.eps.length ec1, .slice ta1 r.tgts.length tc1, .slice ra1 r.rules.length rc1⟩])) := Lib.hid ⟨by rw [List.length_append, List.flatMap_append]; simpa using hr5.out, fun x hx => by
        have hno : ∀ (e size n : Nat) (z : Value) (xs : List Value), w4C.ownsRow w.heap.size e size z n xs → e ≠ 52 → ∀ g, z.ownBlock = some g → ¬ (Value.slice oo L.length oc).ownBlock = some g := fun e size n z xs h he g hg hg2 => rows_apart h hOw4C.out.row he g hg hg2
        rcases List.mem_append.1 hx with hx | hx
        · have h := hOw4C.out.el x hx
          exact h.tch t5 (hno _ _ _ _ _ h.e (by decide)) (hno _ _ _ _ _ h.t (by decide)) (hno _ _ _ _ _ h.ru (by decide))
        · rw [List.mem_singleton.1 hx]
          exact ⟨ownsRow_tch hownA.out t5 (hno _ _ _ _ _ hownA.out (by decide)), ownsRow_tch hownB.out t5 (hno _ _ _ _ _ hownB.out (by decide)), ownsRow_tch hownC.out t5 (hno _ _ _ _ _ hownC.out (by decide)), ⟨w, _, _, _, hp.out⟩⟩⟩
      have hL5 : Hid ((L ++ [(⟨r, .slice ea1 r.eps.length ec1, .slice ta1 r.tgts.length tc1, .slice ra1 r.rules.length rc1⟩ : RV)]).map RV.r = l.take (i + 1)) := Lib.hid (by
        rw [List.map_append, hLi.out, List.take_succ_eq_append_getElem hlt, (List.getElem?_eq_some_iff.1 hr.out).2]; rfl)
      have hb5 := Lib.hid (hbw4C.out.grown hg5.out hbw4C.out.size (fun q hq => (ownsRow_ge hOw4C.out.row hq).1))
      replace t5 := Lib.hid t5
      go_wp2
      go_roundg (l.length - (i + 1) + 1)
      case rel => exact ⟨i + 1, _, rfl, hlt, by first | rw [hwk.out] | go_num, hL5, hO5, hb5⟩
      case measure => exact nn_downS hlt
    · have hk0 : decide ((i : Int) < (l.length : Int)) = false := decide_eq_false (by omega)
      have hil : l.take i = l := List.take_of_length_le (by omega)
      replace hil := Lib.hid hil
      go_wp2
      go_ret
      exact ⟨_, L, rfl, by rw [hLi.out, hil.out], hO.out, hbw.out⟩
theorem own18 (l : List Res) (v : Value) (w : World) (hl : ResS w v l) (hM : listM l ≤ 1048576) : Calls Try.prog 18 #[v] w (OwnOut w l) := own18z l v w hl (sz_of hM)
end Go.Proofs.Ytjepgpocmnijiaa
