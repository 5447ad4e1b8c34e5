/- A list of shares among the arguments, opened. -/
import Derived.Test.YtjepgpocmnijiaaZb15
import Derived.Test.YtjepgpocmnijiaaZs0
import Derived.Test.YtjepgpocmnijiaaZs1
import Derived.Test.YtjepgpocmnijiaaZb41
section
/- The laws' own twin: resources in memory of their own, with a mark behind them. -/
namespace Go.Proofs.Ytjepgpocmnijiaa
open Go.RowKit Go.Mp Go.Ck
set_option linter.unusedVariables false
set_option maxRecDepth 100000
set_option maxHeartbeats 4000000
theorem nil_slice {α : Type} {E : Rd.Elem α} (w : World) : Rd.SliceOf E w (.slice none 0 0) [] := ⟨by simp, _, _, rfl, Nat.le_refl _, .inl rfl⟩
/-- The mark. -/
def markR : Res := ⟨-77, ⟨#[]⟩, [], [], ⟨#[]⟩, [], ⟨#[]⟩, false⟩
def markV : RV := ⟨markR, .slice none 0 0, .slice none 0 0, .slice none 0 0⟩
def TwinO (w : World) (l : List Res) (e : Ending) (w' : World) : Prop := ∃ (g c : Nat) (L : List RV), e = .returned (.slice (some ⟨g, 0, none⟩) l.length c) ∧ l.length + 1 ≤ c ∧ L.map RV.r = l ++ [markR] ∧ OwnM w' w.heap.size (.slice (some ⟨g, 0, none⟩) (l.length + 1) c) L ∧ Below w.heap.size w w'
theorem twin38 (l : List Res) (v : Value) (w : World) (hl : ResS w v l) (hM : SzL l) (hn : l.length ≤ 1048576) : Calls Try.prog 38 #[v] w (TwinO w l) := by
  obtain ⟨ao, cap, rfl⟩ := slice_shape hl
  have hlen := hl.1
  obtain ⟨i9, h9, h90, h91, h92⟩ := info_parts info9
  obtain ⟨i57, h57, h570, h571, h572⟩ := info_parts info57
  obtain ⟨i101, h101, h1010, h1011, h1012⟩ := info_parts info101
  obtain ⟨i52, h52, h520, h521, h522⟩ := info_parts info52
  have hM0 : Hid (OwnM w w.heap.size (.slice none 0 0) []) := Lib.hid ⟨World.ownsRow_nil _ _ _ _, fun x hx => by cases hx⟩
  have hL0 : Hid (([] : List RV).map RV.r = l.take 0) := Lib.hid (by simp)
  replace hl := Lib.hid hl
  replace hM := Lib.hid hM
  replace h9 := Lib.hid h9
  replace h90 := Lib.hid h90
  replace h91 := Lib.hid h91
  replace h92 := Lib.hid h92
  replace h57 := Lib.hid h57
  replace h570 := Lib.hid h570
  replace h571 := Lib.hid h571
  replace h572 := Lib.hid h572
  replace h101 := Lib.hid h101
  replace h1010 := Lib.hid h1010
  replace h1011 := Lib.hid h1011
  replace h1012 := Lib.hid h1012
  replace h52 := Lib.hid h52
  replace h520 := Lib.hid h520
  replace h521 := Lib.hid h521
  replace h522 := Lib.hid h522
  go_enter Try.func38, Try.ntmps38
  go_wp2
  go_loopg [3, 4] (l.length + 1) (fun gg ov ic wr => ∃ (i : Nat) (L : List RV), gg = l.length - i + 1 ∧ i ≤ l.length ∧ ic = .int .i64 i ∧ Hid (L.map RV.r = l.take i) ∧ Hid (OwnM wr w.heap.size ov L) ∧ Hid (Below w.heap.size w wr))
  case atStart => exact ⟨0, [], rfl, Nat.zero_le _, rfl, hL0, hM0, Lib.hid (Below.refl _ _)⟩
  case round =>
    obtain ⟨i, L, rfl, hi, rfl, hLi, hO, hbw⟩ := hrel
    obtain ⟨oo, oc, rfl⟩ := ownsRow_shape hO.out.row
    by_cases hlt : i < l.length
    · obtain ⟨r, hr⟩ : ∃ r, l[i]? = some r := ⟨_, List.getElem?_eq_getElem hlt⟩
      obtain ⟨b, off, eo, ec, ta, tc, ra, rc, rfl, hbl, c, hp⟩ := res_at2 hl.out hr
      obtain ⟨c0, c1, c2, c3, c4, c5, c6, c7⟩ := c.below hbl hbw.out
      have hk0 : (i : Int) < (l.length : Int) := nn_lt hlt
      have hwk := Lib.hid (nn_succ2 hlt hlen)
      obtain ⟨wb, hwb⟩ : ∃ wb, wb = wr.alloc (.cells #[Value.int .i64 r.kind, .string r.name, .slice eo r.eps.length ec, .slice ta r.tgts.length tc, .string r.host, .slice ra r.rules.length rc, .string r.route, .bool r.del] 52) := ⟨_, rfl⟩
      obtain ⟨bk, hbk⟩ : ∃ bk, bk = wr.heap.size := ⟨_, rfl⟩
      have hbx : wb.heap[bk]? = some (.cells #[Value.int .i64 r.kind, .string r.name, .slice eo r.eps.length ec, .slice ta r.tgts.length tc, .string r.host, .slice ra r.rules.length rc, .string r.route, .bool r.del] 52 (0, 0)) := by rw [hwb, hbk]; exact heap_alloc_new wr _
      have hba : Below wr.heap.size wr wb := by rw [hwb]; exact alloc_below _ _
      have hbwb := Lib.hid (seq_below hbw.out hba)
      have hbwk : w.heap.size ≤ bk := by rw [hbk]; exact hbw.out.size
      have hOb := Lib.hid (ownM_below hO.out hba)
      have hrm := hM.out.el r (List.mem_of_getElem? hr)
      have z1 := hrm.e
      have z2 := hrm.t
      have z3 := hrm.r
      have lim1 : 0 + r.eps.length ≤ maxLen ∧ (0 + r.eps.length) * 16 ≤ 140737488355328 := by unfold maxLen; omega
      have lim2 : 0 + r.tgts.length ≤ maxLen ∧ (0 + r.tgts.length) * 40 ≤ 140737488355328 := by unfold maxLen; omega
      have lim3 : 0 + r.rules.length ≤ maxLen ∧ (0 + r.rules.length) * 56 ≤ 140737488355328 := by unfold maxLen; omega
      have hbl' := Lib.hid hbl
      have hcc := Lib.hid c
      have hne : Hid (∀ g, (Value.slice oo L.length oc).ownBlock = some g → g < bk) := Lib.hid (fun g hg => by rw [hbk]; exact (ownsRow_ge hO.out.row hg).2)
      have hbxwb := Lib.hid hbx
      have hbwbb := hbwb
      have hOwb := hOb
      replace hrm := Lib.hid hrm
      replace z1 := Lib.hid z1
      replace z2 := Lib.hid z2
      replace z3 := Lib.hid z3
      replace hp := Lib.hid hp
      replace hba := Lib.hid hba
      replace hr := Lib.hid hr
      replace hbwk := Lib.hid hbwk
      clear hbl c hbx
      have limA := Lib.hid lim1
      have limB := Lib.hid lim2
      have limC := Lib.hid lim3
      clear lim1 lim2 lim3
      go_upto_region 6 with fail
      rw [← hwb, ← hbk]
      replace hwb := Lib.hid hwb
      replace hbk := Lib.hid hbk
      clear c0 c1 c2 c3 c4 c5 c6 c7
      have hrowA := Lib.hid (empty_row wb w.heap.size hbwb.out.size 9 1)
      have hsrcA := Lib.hid (hp.out.e.below (seq_below hbwb.out (alloc_below wb (.cells #[] 9))))
      have hbAA := Lib.hid (seq_below hbwb.out (alloc_below wb (.cells #[] 9)))
      have hRA := Lib.hid (alloc_below wb (.cells #[] 9))
      have hblsA : b < wb.heap.size := Nat.lt_of_lt_of_le hbl'.out hbwb.out.size
      have gxA : wb.cell? ⟨bk, 2, none⟩ = some (.slice eo r.eps.length ec) := box_at hbxwb.out rfl
      have gyA : (wb.alloc (.cells #[] 9)).cell? ⟨bk, 2, none⟩ = some (.slice eo r.eps.length ec) := ((alloc_below wb (.cells #[] 9)).cell (p := ⟨bk, 2, none⟩) (Array.getElem?_eq_some_iff.1 hbxwb.out).1).trans gxA
      have gsA : wb.cell? ⟨b, off + i * 8 + 2, none⟩ = some (.slice eo r.eps.length ec) := (hcc.out.below hbl'.out hbwb.out).c2
      go_upto_region 7 with (first
        | (at_builtin; refine Rd.wp_append_src Rd.strC (by rfl) _ _ 48 (by rfl) w.heap.size 9 i9 _ 16 Try.underlying48 h9.out h90.out h91.out h92.out rfl _ 0 [] (by rfl) hrowA.out _ r.eps (by rfl) hsrcA.out limA.out.1 limA.out.2 hbAA.out.size ?_; intro v3 w3A hr3 hg3 hl3; obtain ⟨ea1, ec1, rfl⟩ := ownsRow_shape hr3; rw [Nat.zero_add, List.nil_append] at hr3; have hGA := Lib.hid (hRA.out.grown hg3 hRA.out.size (fun q hq => (by cases hq; exact Nat.le_refl _))); have hbx3 := (hGA.out.block bk (Array.getElem?_eq_some_iff.1 hbxwb.out).1).trans hbxwb.out; have fz := frozen_of_row _ bk 2 _ _ hbx3; have cz : w3A.cell? ⟨bk, 2, none⟩ = some (.slice eo r.eps.length ec) := box_at hbx3 rfl; replace hbx3 := Lib.hid hbx3; rw [Nat.zero_add]; have hrA := Lib.hid hr3; clear hr3 hg3 hl3)
        | fail)
      obtain ⟨w4A, hw4⟩ : ∃ w4, w4 = w3A.setCell ⟨bk, 2, none⟩ (.slice ea1 r.eps.length ec1) := ⟨_, rfl⟩
      rw [← hw4]
      have tS : Tch (fun q => q = bk) w3A w4A := by rw [hw4]; exact Tch.setCell (S := fun q => q = bk) w3A (p := ⟨bk, 2, none⟩) rfl _
      have hbw4A := Lib.hid (Tch.below (seq_below hbwb.out hGA.out) tS (seq_below hbwb.out hGA.out).size (fun q e => by rw [e]; exact hbwk.out))
      have hbxw4A : Hid (w4A.heap[bk]? = some (.cells #[Value.int .i64 r.kind, .string r.name, .slice ea1 r.eps.length ec1, .slice ta r.tgts.length tc, .string r.host, .slice ra r.rules.length rc, .string r.route, .bool r.del] 52 (0, 0))) := Lib.hid (by rw [hw4]; exact box_set hbx3.out)
      have hO3 := ownM_below hOwb.out hGA.out
      have hOw4A := Lib.hid (ownM_tch hO3 tS (fun g hg e => by have := hne.out g hg; omega) (fun x hx g hg e => by
        rcases hg with q | q | q
        · exact row_block_ne (hO3.el x hx).e hbx3.out (by decide) g q e
        · exact row_block_ne (hO3.el x hx).t hbx3.out (by decide) g q e
        · exact row_block_ne (hO3.el x hx).ru hbx3.out (by decide) g q e))
      have hownA := Lib.hid (ownsRow_tch hrA.out tS (fun g hg e => row_block_ne hrA.out hbx3.out (by decide) g hg e))
      replace hw4 := Lib.hid hw4
      replace tS := Lib.hid tS
      replace hO3 := Lib.hid hO3
      clear fz cz gsA hbx3 gxA gyA
      have hrowB := Lib.hid (empty_row w4A w.heap.size hbw4A.out.size 57 3)
      have hsrcB := Lib.hid (hp.out.t.below (seq_below hbw4A.out (alloc_below w4A (.cells #[] 57))))
      have hbAB := Lib.hid (seq_below hbw4A.out (alloc_below w4A (.cells #[] 57)))
      have hRB := Lib.hid (alloc_below w4A (.cells #[] 57))
      have hblsB : b < w4A.heap.size := Nat.lt_of_lt_of_le hbl'.out hbw4A.out.size
      have gxB : w4A.cell? ⟨bk, 3, none⟩ = some (.slice ta r.tgts.length tc) := box_at hbxw4A.out rfl
      have gyB : (w4A.alloc (.cells #[] 57)).cell? ⟨bk, 3, none⟩ = some (.slice ta r.tgts.length tc) := ((alloc_below w4A (.cells #[] 57)).cell (p := ⟨bk, 3, none⟩) (Array.getElem?_eq_some_iff.1 hbxw4A.out).1).trans gxB
      have gsB : w4A.cell? ⟨b, off + i * 8 + 3, none⟩ = some (.slice ta r.tgts.length tc) := (hcc.out.below hbl'.out hbw4A.out).c3
      go_upto_region 8 with (first
        | (at_builtin; refine Rd.wp_append_src tgtC (by rfl) _ _ 49 (by rfl) w.heap.size 57 i57 _ 40 Try.underlying49 h57.out h570.out h571.out h572.out rfl _ 0 [] (by rfl) hrowB.out _ r.tgts (by rfl) hsrcB.out limB.out.1 limB.out.2 hbAB.out.size ?_; intro v3 w3B hr3 hg3 hl3; obtain ⟨ta1, tc1, rfl⟩ := ownsRow_shape hr3; rw [Nat.zero_add, List.nil_append] at hr3; have hGB := Lib.hid (hRB.out.grown hg3 hRB.out.size (fun q hq => (by cases hq; exact Nat.le_refl _))); have hbx3 := (hGB.out.block bk (Array.getElem?_eq_some_iff.1 hbxw4A.out).1).trans hbxw4A.out; have fz := frozen_of_row _ bk 3 _ _ hbx3; have cz : w3B.cell? ⟨bk, 3, none⟩ = some (.slice ta r.tgts.length tc) := box_at hbx3 rfl; replace hbx3 := Lib.hid hbx3; rw [Nat.zero_add]; have hrB := Lib.hid hr3; clear hr3 hg3 hl3)
        | fail)
      obtain ⟨w4B, hw4⟩ : ∃ w4, w4 = w3B.setCell ⟨bk, 3, none⟩ (.slice ta1 r.tgts.length tc1) := ⟨_, rfl⟩
      rw [← hw4]
      have tS : Tch (fun q => q = bk) w3B w4B := by rw [hw4]; exact Tch.setCell (S := fun q => q = bk) w3B (p := ⟨bk, 3, none⟩) rfl _
      have hbw4B := Lib.hid (Tch.below (seq_below hbw4A.out hGB.out) tS (seq_below hbw4A.out hGB.out).size (fun q e => by rw [e]; exact hbwk.out))
      have hbxw4B : Hid (w4B.heap[bk]? = some (.cells #[Value.int .i64 r.kind, .string r.name, .slice ea1 r.eps.length ec1, .slice ta1 r.tgts.length tc1, .string r.host, .slice ra r.rules.length rc, .string r.route, .bool r.del] 52 (0, 0))) := Lib.hid (by rw [hw4]; exact box_set hbx3.out)
      have hO3 := ownM_below hOw4A.out hGB.out
      have hOw4B := Lib.hid (ownM_tch hO3 tS (fun g hg e => by have := hne.out g hg; omega) (fun x hx g hg e => by
        rcases hg with q | q | q
        · exact row_block_ne (hO3.el x hx).e hbx3.out (by decide) g q e
        · exact row_block_ne (hO3.el x hx).t hbx3.out (by decide) g q e
        · exact row_block_ne (hO3.el x hx).ru hbx3.out (by decide) g q e))
      have hownA := Lib.hid (ownsRow_tch (ownsRow_tch hownA.out (Tch.of_below (S := No) hGB.out) (fun _ _ q => q)) tS (fun g hg e => row_block_ne (ownsRow_tch hownA.out (Tch.of_below (S := No) hGB.out) (fun _ _ q => q)) hbx3.out (by decide) g hg e))
      have hownB := Lib.hid (ownsRow_tch hrB.out tS (fun g hg e => row_block_ne hrB.out hbx3.out (by decide) g hg e))
      replace hw4 := Lib.hid hw4
      replace tS := Lib.hid tS
      replace hO3 := Lib.hid hO3
      clear fz cz gsB hbx3 gxB gyB
      have hrowC := Lib.hid (empty_row w4B w.heap.size hbw4B.out.size 101 4)
      have hsrcC := Lib.hid (hp.out.ru.below (seq_below hbw4B.out (alloc_below w4B (.cells #[] 101))))
      have hbAC := Lib.hid (seq_below hbw4B.out (alloc_below w4B (.cells #[] 101)))
      have hRC := Lib.hid (alloc_below w4B (.cells #[] 101))
      have hblsC : b < w4B.heap.size := Nat.lt_of_lt_of_le hbl'.out hbw4B.out.size
      have gxC : w4B.cell? ⟨bk, 5, none⟩ = some (.slice ra r.rules.length rc) := box_at hbxw4B.out rfl
      have gyC : (w4B.alloc (.cells #[] 101)).cell? ⟨bk, 5, none⟩ = some (.slice ra r.rules.length rc) := ((alloc_below w4B (.cells #[] 101)).cell (p := ⟨bk, 5, none⟩) (Array.getElem?_eq_some_iff.1 hbxw4B.out).1).trans gxC
      have gsC : w4B.cell? ⟨b, off + i * 8 + 5, none⟩ = some (.slice ra r.rules.length rc) := (hcc.out.below hbl'.out hbw4B.out).c5
      go_upto_region 9 with (first
        | (at_builtin; refine Rd.wp_append_src rulC (by rfl) _ _ 50 (by rfl) w.heap.size 101 i101 _ 56 Try.underlying50 h101.out h1010.out h1011.out h1012.out rfl _ 0 [] (by rfl) hrowC.out _ r.rules (by rfl) hsrcC.out limC.out.1 limC.out.2 hbAC.out.size ?_; intro v3 w3C hr3 hg3 hl3; obtain ⟨ra1, rc1, rfl⟩ := ownsRow_shape hr3; rw [Nat.zero_add, List.nil_append] at hr3; have hGC := Lib.hid (hRC.out.grown hg3 hRC.out.size (fun q hq => (by cases hq; exact Nat.le_refl _))); have hbx3 := (hGC.out.block bk (Array.getElem?_eq_some_iff.1 hbxw4B.out).1).trans hbxw4B.out; have fz := frozen_of_row _ bk 5 _ _ hbx3; have cz : w3C.cell? ⟨bk, 5, none⟩ = some (.slice ra r.rules.length rc) := box_at hbx3 rfl; replace hbx3 := Lib.hid hbx3; rw [Nat.zero_add]; have hrC := Lib.hid hr3; clear hr3 hg3 hl3)
        | fail)
      obtain ⟨w4C, hw4⟩ : ∃ w4, w4 = w3C.setCell ⟨bk, 5, none⟩ (.slice ra1 r.rules.length rc1) := ⟨_, rfl⟩
      rw [← hw4]
      have tS : Tch (fun q => q = bk) w3C w4C := by rw [hw4]; exact Tch.setCell (S := fun q => q = bk) w3C (p := ⟨bk, 5, none⟩) rfl _
      have hbw4C := Lib.hid (Tch.below (seq_below hbw4B.out hGC.out) tS (seq_below hbw4B.out hGC.out).size (fun q e => by rw [e]; exact hbwk.out))
      have hbxw4C : Hid (w4C.heap[bk]? = some (.cells #[Value.int .i64 r.kind, .string r.name, .slice ea1 r.eps.length ec1, .slice ta1 r.tgts.length tc1, .string r.host, .slice ra1 r.rules.length rc1, .string r.route, .bool r.del] 52 (0, 0))) := Lib.hid (by rw [hw4]; exact box_set hbx3.out)
      have hO3 := ownM_below hOw4B.out hGC.out
      have hOw4C := Lib.hid (ownM_tch hO3 tS (fun g hg e => by have := hne.out g hg; omega) (fun x hx g hg e => by
        rcases hg with q | q | q
        · exact row_block_ne (hO3.el x hx).e hbx3.out (by decide) g q e
        · exact row_block_ne (hO3.el x hx).t hbx3.out (by decide) g q e
        · exact row_block_ne (hO3.el x hx).ru hbx3.out (by decide) g q e))
      have hownA := Lib.hid (ownsRow_tch (ownsRow_tch hownA.out (Tch.of_below (S := No) hGC.out) (fun _ _ q => q)) tS (fun g hg e => row_block_ne (ownsRow_tch hownA.out (Tch.of_below (S := No) hGC.out) (fun _ _ q => q)) hbx3.out (by decide) g hg e))
      have hownB := Lib.hid (ownsRow_tch (ownsRow_tch hownB.out (Tch.of_below (S := No) hGC.out) (fun _ _ q => q)) tS (fun g hg e => row_block_ne (ownsRow_tch hownB.out (Tch.of_below (S := No) hGC.out) (fun _ _ q => q)) hbx3.out (by decide) g hg e))
      have hownC := Lib.hid (ownsRow_tch hrC.out tS (fun g hg e => row_block_ne hrC.out hbx3.out (by decide) g hg e))
      replace hw4 := Lib.hid hw4
      replace tS := Lib.hid tS
      replace hO3 := Lib.hid hO3
      clear fz cz gsC hbx3 gxC gyC
      have hN1 : L.length + 1 ≤ maxLen ∧ (L.length + 1) * 136 ≤ 140737488355328 := by
        have h1 : L.length ≤ i := by rw [← List.length_map (f := RV.r), hLi.out]; exact List.length_take_le _ _
        have h3 := hM.out.n
        unfold maxLen; omega
      obtain ⟨y0, y1, y2, y3, y4, y5, y6, y7⟩ : RC w4C bk 0 r (.slice ea1 r.eps.length ec1) (.slice ta1 r.tgts.length tc1) (.slice ra1 r.rules.length rc1) := rc_box (fun j u hu => box_at hbxw4C.out hu)
      replace hN1 := Lib.hid hN1
      go_wp2_with (first
        | (at_builtin; refine wp_append_us (us := rvc ⟨r, .slice ea1 r.eps.length ec1, .slice ta1 r.tgts.length tc1, .slice ra1 r.rules.length rc1⟩) (by rfl) _ _ 22 (by rfl) w.heap.size 52 i52 _ 8 136 Try.underlying22 h52.out h520.out h521.out h522.out rfl (by decide) _ L.length (L.flatMap rvc) (by rfl) hOw4C.out.row 1 (by rfl) rfl (by intro u hu; simp only [rvc, List.mem_cons, List.not_mem_nil, or_false] at hu; rcases hu with rfl | rfl | rfl | rfl | rfl | rfl | rfl | rfl <;> rfl) hN1.out.1 hN1.out.2 hbw4C.out.size ?_; intro v5 w5 hr5 hg5 hl5; replace hr5 := Lib.hid hr5; replace hg5 := Lib.hid hg5; replace hl5 := Lib.hid hl5)
        | fail)
      have t5 : Tch (fun q => (Value.slice oo L.length oc).ownBlock = some q) w4C w5 := Tch.grown hg5.out (fun q hq => .inl hq)
      have hO5 : Hid (OwnM w5 w.heap.size v5 (L ++ [⟨r, .slice ea1 r.eps.length ec1, .slice ta1 r.tgts.length tc1, .slice ra1 r.rules.length rc1⟩])) := Lib.hid ⟨by rw [List.length_append, List.flatMap_append]; simpa using hr5.out, fun x hx => by
        have hno : ∀ (e size n : Nat) (z : Value) (xs : List Value), w4C.ownsRow w.heap.size e size z n xs → e ≠ 52 → ∀ g, z.ownBlock = some g → ¬ (Value.slice oo L.length oc).ownBlock = some g := fun e size n z xs h he g hg hg2 => rows_apart h hOw4C.out.row he g hg hg2
        rcases List.mem_append.1 hx with hx | hx
        · have h := hOw4C.out.el x hx
          exact h.tch t5 (hno _ _ _ _ _ h.e (by decide)) (hno _ _ _ _ _ h.t (by decide)) (hno _ _ _ _ _ h.ru (by decide))
        · rw [List.mem_singleton.1 hx]
          exact ⟨ownsRow_tch hownA.out t5 (hno _ _ _ _ _ hownA.out (by decide)), ownsRow_tch hownB.out t5 (hno _ _ _ _ _ hownB.out (by decide)), ownsRow_tch hownC.out t5 (hno _ _ _ _ _ hownC.out (by decide)), ⟨w, _, _, _, hp.out⟩⟩⟩
      have hL5 : Hid ((L ++ [(⟨r, .slice ea1 r.eps.length ec1, .slice ta1 r.tgts.length tc1, .slice ra1 r.rules.length rc1⟩ : RV)]).map RV.r = l.take (i + 1)) := Lib.hid (by
        rw [List.map_append, hLi.out, List.take_succ_eq_append_getElem hlt, (List.getElem?_eq_some_iff.1 hr.out).2]; rfl)
      have hb5 := Lib.hid (hbw4C.out.grown hg5.out hbw4C.out.size (fun q hq => (ownsRow_ge hOw4C.out.row hq).1))
      replace t5 := Lib.hid t5
      go_wp2
      go_roundg (l.length - (i + 1) + 1)
      case rel => exact ⟨i + 1, _, rfl, hlt, by first | rw [hwk.out] | go_num, hL5, hO5, hb5⟩
      case measure => exact nn_downS hlt
    · have hk0 : decide ((i : Int) < (l.length : Int)) = false := decide_eq_false (by omega)
      have hil : l.take i = l := List.take_of_length_le (by omega)
      replace hil := Lib.hid hil
      have hLl : L.map RV.r = l := by rw [hLi.out, hil.out]
      have hLn : L.length = l.length := by rw [← hLl, List.length_map]
      have hlim : L.length + 1 ≤ maxLen ∧ (L.length + 1) * 136 ≤ 140737488355328 := by unfold maxLen; omega
      replace hLl := Lib.hid hLl
      replace hlim := Lib.hid hlim
      go_wp2_with (first
        | (at_builtin; go_loud (refine wp_append_us (us := rvc markV) (by rfl) _ _ 22 (by rfl) w.heap.size 52 i52 _ 8 136 Try.underlying22 h52.out h520.out h521.out h522.out rfl (by decide) _ L.length (L.flatMap rvc) (by rfl) hO.out.row 1 (by rfl) rfl (by intro u hu; simp only [rvc, List.mem_cons, List.not_mem_nil, or_false] at hu; rcases hu with rfl | rfl | rfl | rfl | rfl | rfl | rfl | rfl <;> rfl) hlim.out.1 hlim.out.2 hbw.out.size ?_); intro v5 w5 hr5 hg5 hl5; obtain ⟨o5, c5, rfl⟩ := ownsRow_shape hr5; obtain ⟨g5, hgg5, _, hcp5, _, _⟩ := ownsRow_cell hr5 (j := L.length * 8) (u := .int .i64 (-77)) (by have h1 := hO.out.row.1; rw [List.getElem?_append_right (by omega), h1, Nat.sub_self]; rfl); subst hgg5; have hc5 : (l.length : Int) ≤ (c5 : Int) := (by omega); replace hr5 := Lib.hid hr5; replace hg5 := Lib.hid hg5; replace hl5 := Lib.hid hl5)
        | fail)
      go_ret
      have hno : ∀ (e size n : Nat) (z : Value) (xs : List Value), wr.ownsRow w.heap.size e size z n xs → e ≠ 52 → ∀ g, z.ownBlock = some g → ¬ (Value.slice oo L.length oc).ownBlock = some g := fun e size n z xs h he g hg hg2 => rows_apart h hO.out.row he g hg hg2
      have t5 : Tch (fun q => (Value.slice oo L.length oc).ownBlock = some q) wr w5 := Tch.grown hg5.out (fun q hq => .inl hq)
      have hcp : l.length + 1 ≤ c5 := by omega
      refine ⟨g5, c5, L ++ [markV], rfl, hcp, by rw [List.map_append, hLl.out]; rfl, ⟨?_, fun x hx => ?_⟩, hbw.out.grown hg5.out hbw.out.size (fun q hq => (ownsRow_ge hO.out.row hq).1)⟩
      · have := hr5.out
        rw [List.length_append, List.flatMap_append, ← hLn]
        simpa using this
      · rcases List.mem_append.1 hx with hx | hx
        · have h := hO.out.el x hx
          exact h.tch t5 (hno _ _ _ _ _ h.e (by decide)) (hno _ _ _ _ _ h.t (by decide)) (hno _ _ _ _ _ h.ru (by decide))
        · rw [List.mem_singleton.1 hx]
          exact ⟨World.ownsRow_nil _ _ _ _, World.ownsRow_nil _ _ _ _, World.ownsRow_nil _ _ _ _, ⟨w5, .slice none 0 0, .slice none 0 0, .slice none 0 0, ⟨by decide, by decide, nil_slice w5, nil_slice w5, by decide, nil_slice w5, by decide⟩⟩⟩
end Go.Proofs.Ytjepgpocmnijiaa
end

section
/- Steps: the program's and the document's. -/
namespace Go.Ck
open Go.RowKit Go.Mp
open Go.Proofs.Ytjepgpocmnijiaa.Fl
set_option linter.unusedVariables false
theorem oks_put {a : List Shr} (h : OkS a) {s : ByteArray} {u : Nat} (hs : s.size ≤ maxLen) (hu : u ≤ INF) : OkS (a ++ [⟨s, u⟩]) := Go.Proofs.Ytjepgpocmnijiaa.oks_snoc h hs (Nat.lt_of_le_of_lt hu (by decide))
theorem one_le : ONE ≤ INF := by decide
theorem stL_ok {l : List Shr} (hl : OkS l) (i : Nat) : OkS (stL (l.take i)).1 := by
  induction i with
  | zero => rw [List.take_zero]; exact fun s hs => by cases hs
  | succ i ih =>
    by_cases hi : i < l.length
    · have hx : l[i]? = some l[i] := List.getElem?_eq_getElem hi
      have hxo := hl _ (List.mem_of_getElem? hx)
      have hs := stL_sum (fun s hs => (hl s hs).2) i
      rw [stL_snoc hx]
      unfold stF
      split
      · rename_i hp
        exact oks_put ih hxo.1 (add_ge _ _ hs hxo.2 (pos_ge hp)).2
      · exact ih
    · rw [List.take_of_length_le (by omega)]
      rwa [List.take_of_length_le (by omega)] at ih
end Go.Ck
namespace Go.Proofs.Ytjepgpocmnijiaa
open Go.RowKit Go.Mp Go.Ck Fl
set_option linter.unusedVariables false
set_option maxRecDepth 100000
set_option maxHeartbeats 4000000
def StepsO (w : World) (l : List Shr) (e : Ending) (w' : World) : Prop := ∃ v', e = .returned v' ∧ OwnS w' w.heap.size v' (stepsS l) ∧ Below w.heap.size w w'
theorem steps41 (l : List Shr) (v : Value) (w : World) (hl : ShS w v l) (hM : l.length * 24 ≤ 140737488355328) : Calls Try.prog 41 #[v] w (StepsO w l) := by
  obtain ⟨ao, cap, rfl⟩ := slice_shape hl
  have hlen := hl.1
  have hok := hl.ok
  have hsum := stL_sum (l := l) (fun s hs => (hok s hs).2)
  have hall : stepsS l = lastOne (stL (l.take l.length)).1 := by rw [List.take_length]; rfl
  have hn := stL_len l
  obtain ⟨i73, h73, h730, h731, h732⟩ := info_parts info73
  have hr0 := Lib.hid (World.ownsRow_nil w w.heap.size 73 2)
  replace hl := Lib.hid hl
  replace hok := Lib.hid hok
  replace hsum := Lib.hid hsum
  replace hall := Lib.hid hall
  replace hn := Lib.hid hn
  replace h73 := Lib.hid h73
  replace h730 := Lib.hid h730
  replace h731 := Lib.hid h731
  replace h732 := Lib.hid h732
  go_enter Try.func41, Try.ntmps41
  go_wp2
  go_loopg [3, 4, 9] (l.length + 1) (fun gg ov sv ic wr => ∃ i : Nat, gg = l.length - i + 1 ∧ i ≤ l.length ∧ ic = .int .i64 i ∧ sv = .float .f64 (stL (l.take i)).2 ∧ Hid (OwnS wr w.heap.size ov (stL (l.take i)).1) ∧ Hid (Below w.heap.size w wr))
  case atStart => exact ⟨0, rfl, Nat.zero_le _, rfl, by rw [List.take_zero]; rfl, Lib.hid (by rw [List.take_zero]; exact ⟨hr0.out, fun s hs => by cases hs⟩), Lib.hid (Below.refl _ _)⟩
  case round =>
    obtain ⟨i, rfl, hi, rfl, rfl, hO, hbw⟩ := hrel
    have hni := hn.out i
    have hsi := hsum.out i
    obtain ⟨out, hst⟩ : ∃ p, p = (stL (l.take i)).1 := ⟨_, rfl⟩
    obtain ⟨sm, hsm⟩ : ∃ p, p = (stL (l.take i)).2 := ⟨_, rfl⟩
    rw [← hst] at hO hni
    rw [← hsm] at hsi ⊢
    obtain ⟨oo, oc, rfl⟩ := ownsRow_shape hO.out.row
    by_cases hlt : i < l.length
    · obtain ⟨x, hx⟩ : ∃ x, l[i]? = some x := ⟨_, List.getElem?_eq_getElem hlt⟩
      obtain ⟨b, off, rfl, hbl, c0, c1, hxs, hxu⟩ := shr_at hl.out hbw.out hx
      have hk0 : (i : Int) < (l.length : Int) := nn_lt hlt
      have hwk := Lib.hid (nn_succ2 hlt hlen)
      have hsn := stL_snoc hx
      unfold stF at hsn
      rw [← hst, ← hsm] at hsn
      obtain ⟨wb, hwb⟩ : ∃ wb, wb = wr.alloc (.cells #[.string x.service, .float .f64 x.upto] 73) := ⟨_, rfl⟩
      obtain ⟨bk, hbk⟩ : ∃ bk, bk = wr.heap.size := ⟨_, rfl⟩
      have hbx : wb.heap[bk]? = some (.cells #[.string x.service, .float .f64 x.upto] 73) := by rw [hwb, hbk]; exact heap_alloc_new wr _
      have hba := Lib.hid (alloc_below wr (.cells #[.string x.service, .float .f64 x.upto] 73))
      rw [← hwb] at hba
      have hO1 := Lib.hid (hO.out.tch (Tch.of_below (S := No) hba.out) (fun _ _ q => q))
      have hbw1 := Lib.hid (seq_below hbw.out hba.out)
      have b0 := box_at hbx (j := 0) rfl
      have b1 := box_at hbx (j := 1) rfl
      obtain ⟨kb, hkb⟩ : ∃ b, pos x.upto = b := ⟨_, rfl⟩
      have hA : (FloatKind.f64.format.order x.upto 0 == some Ordering.gt) = kb := hkb
      cases kb with
      | true =>
        rw [if_pos hkb] at hsn
        have hs1 : (stL (l.take (i + 1))).1 = out ++ [⟨x.service, fadd sm x.upto⟩] := by rw [hsn]
        have hs2 : (stL (l.take (i + 1))).2 = fadd sm x.upto := by rw [hsn]
        obtain ⟨ha1, ha2⟩ := add_ge sm x.upto hsi hxu (pos_ge hkb)
        have hadd := run_add ha1
        have hrow2 := Lib.hid (hO1.out.row.alloc (.cells #[.string x.service, .float .f64 (fadd sm x.upto)] 73))
        have hn2 := Lib.hid (new_cells wb [.string x.service, .float .f64 (fadd sm x.upto)] 73)
        have hB2 := Lib.hid (show w.heap.size ≤ (wb.alloc (.cells #[.string x.service, .float .f64 (fadd sm x.upto)] 73)).heap.size from Nat.le_trans hbw1.out.size (by simp))
        have hok2 := Lib.hid (oks_put hO1.out.ok hxs ha2)
        replace hx := Lib.hid hx
        replace hkb := Lib.hid hkb
        replace hsn := Lib.hid hsn
        replace hbx := Lib.hid hbx
        replace ha1 := Lib.hid ha1
        replace ha2 := Lib.hid ha2
        replace hsi := Lib.hid hsi
        replace hst := Lib.hid hst
        replace hsm := Lib.hid hsm
        replace hs1 := Lib.hid hs1
        replace hs2 := Lib.hid hs2
        go_upto_region 6 with fail
        rw [← hwb, ← hbk]
        replace hwb := Lib.hid hwb
        replace hbk := Lib.hid hbk
        clear c0 c1
        go_wp2_with (first
          | (at_builtin; go_loud (refine wp_append_lit (by rfl) _ _ 67 (by rfl) w.heap.size 73 i73 _ 2 24 Try.underlying67 h73.out h730.out h731.out h732.out rfl (by decide) _ out.length (flat out) (by rfl) hrow2.out ⟨wb.heap.size, 0, none⟩ 1 _ [.string x.service, .float .f64 (fadd sm x.upto)] (by rfl) rfl hn2.out (by simp [Value.oneCell']) (by unfold maxLen; omega) (by omega) hB2.out ?_); intro v3 w3 hr3 hg3 hl3; have hr3' := Lib.hid hr3; obtain ⟨o3, c3', rfl⟩ := ownsRow_shape hr3; replace hg3 := Lib.hid hg3; replace hl3 := Lib.hid hl3; clear hr3)
          | fail)
        go_roundg (l.length - (i + 1) + 1)
        case rel =>
          refine ⟨i + 1, rfl, hlt, by first | rw [hwk.out] | go_num, by rw [hs2.out], Lib.hid ?_, Lib.hid ((seq_below hbw1.out (alloc_below wb (.cells #[.string x.service, .float .f64 (fadd sm x.upto)] 73))).grown hg3.out hB2.out (fun q hq => (hO.out.row.lt q hq).1))⟩
          rw [hs1.out]
          exact ⟨by rw [List.length_append, flat_snoc]; exact hr3'.out, hok2.out⟩
        case measure => exact nn_downS hlt
      | false =>
        rw [if_neg (by rw [hkb]; decide)] at hsn
        have hs1 : (stL (l.take (i + 1))).1 = out := by rw [hsn, hst]
        have hs2 : (stL (l.take (i + 1))).2 = sm := by rw [hsn, hsm]
        replace hx := Lib.hid hx
        replace hkb := Lib.hid hkb
        replace hsn := Lib.hid hsn
        replace hbx := Lib.hid hbx
        replace hst := Lib.hid hst
        replace hsi := Lib.hid hsi
        replace hsm := Lib.hid hsm
        replace hs1 := Lib.hid hs1
        replace hs2 := Lib.hid hs2
        go_upto_region 6 with fail
        rw [← hwb, ← hbk]
        replace hwb := Lib.hid hwb
        replace hbk := Lib.hid hbk
        clear c0 c1
        go_wp2
        go_roundg (l.length - (i + 1) + 1)
        case rel => exact ⟨i + 1, rfl, hlt, by first | rw [hwk.out] | go_num, by rw [hs2.out], by rw [hs1.out]; exact hO1, hbw1⟩
        case measure => exact nn_downS hlt
    · have hk0 : decide ((i : Int) < (l.length : Int)) = false := decide_eq_false (by omega)
      have hk1 : ¬ (i : Int) < (l.length : Int) := by omega
      have hie : i = l.length := by omega
      have hfin := hall.out
      rw [← hie, ← hst] at hfin
      rcases Nat.eq_zero_or_pos out.length with h0 | h0
      · have g0 : decide ((0 : Int) < (out.length : Int)) = false := decide_eq_false (by omega)
        have g1 : ¬ (0 : Int) < (out.length : Int) := by omega
        have hnil : out = [] := List.length_eq_zero_iff.1 h0
        replace hie := Lib.hid hie
        replace hfin := Lib.hid hfin
        replace hst := Lib.hid hst
        replace hsi := Lib.hid hsi
        replace hnil := Lib.hid hnil
        replace hsm := Lib.hid hsm
        go_wp2
        go_ret
        refine ⟨_, rfl, ?_, hbw.out⟩
        rw [hfin.out]
        have := hO.out
        rw [hnil.out] at this ⊢
        exact this
      · obtain ⟨j, hj⟩ : ∃ j, j + 1 = out.length := ⟨out.length - 1, by omega⟩
        obtain ⟨y, hy⟩ : ∃ y, out[j]? = some y := ⟨_, List.getElem?_eq_getElem (by omega)⟩
        have hlast := lastOne_at (l := out) (s := y) (by rw [← hj, Nat.add_sub_cancel]; exact hy)
        rw [← hj, Nat.add_sub_cancel] at hlast
        obtain ⟨g, hg, _, _, cy, fy⟩ := ownsRow_cell hO.out.row (flat_at hy).2
        subst hg
        have g1 : (0 : Int) < (out.length : Int) := by omega
        have hwp := wrap_pred hj (by omega)
        have g6 : (0 : Int) ≤ (j : Int) := by omega
        have g7 : (j : Int) < (out.length : Int) := by omega
        have hst2 := hO.out.row.stored (j * 2 + 1) (.float .f64 ONE)
        rw [← flat_set _ hy] at hst2
        have hok2 := oks_some hO.out.ok hy (u := ONE) (by decide)
        have hbf := Lib.hid (Tch.below hbw.out (Tch.setCell (S := fun k => k = g) wr (p := ⟨g, j * 2 + 1, none⟩) rfl (.float .f64 ONE)) hbw.out.size (fun q e => by rw [e]; exact (hO.out.row.lt g rfl).1))
        replace hie := Lib.hid hie
        replace hfin := Lib.hid hfin
        replace hst := Lib.hid hst
        replace hsi := Lib.hid hsi
        replace hsm := Lib.hid hsm
        replace hj := Lib.hid hj
        replace hy := Lib.hid hy
        replace hlast := Lib.hid hlast
        replace hst2 := Lib.hid hst2
        replace hok2 := Lib.hid hok2
        go_wp2
        go_ret
        refine ⟨_, rfl, ?_, hbf.out⟩
        rw [hfin.out]
        show OwnS _ _ _ (lastOne out)
        rw [hlast.out]
        exact ⟨by rw [List.length_set]; exact hst2.out.1, hok2.out⟩
end Go.Proofs.Ytjepgpocmnijiaa
end

section
/- The document's Steps. -/
namespace Go.Proofs.Ytjepgpocmnijiaa
open Go.RowKit Go.Mp Go.Ck Fl
set_option linter.unusedVariables false
set_option maxRecDepth 100000
set_option maxHeartbeats 4000000
theorem refSt_len (l : List Shr) (i : Nat) : (refSt l i).length ≤ i := by
  have h := stL_len l i
  unfold refSt
  split
  · unfold lastOne
    split
    · rw [List.length_set]; exact h
    · exact h
  · exact h
theorem steps44 (l : List Shr) (v : Value) (w : World) (hl : ShS w v l) (hM : l.length * 24 ≤ 140737488355328) : Calls Try.prog 44 #[v] w (StepsO w l) := by
  obtain ⟨ao, cap, rfl⟩ := slice_shape hl
  have hlen := hl.1
  have hok := hl.ok
  have hsum := stL_sum (l := l) (fun s hs => (hok s hs).2)
  have hn := stL_len l
  obtain ⟨i73, h73, h730, h731, h732⟩ := info_parts info73
  have hr0 := Lib.hid (World.ownsRow_nil w w.heap.size 73 2)
  replace hl := Lib.hid hl
  replace hok := Lib.hid hok
  replace hsum := Lib.hid hsum
  replace hn := Lib.hid hn
  replace h73 := Lib.hid h73
  replace h730 := Lib.hid h730
  replace h731 := Lib.hid h731
  replace h732 := Lib.hid h732
  go_enter Try.func44, Try.ntmps44
  go_wp2
  go_loopg [4, 5] (l.length + 1) (fun gg pv ic wr => ∃ i : Nat, gg = l.length - i + 1 ∧ i ≤ l.length ∧ ic = .int .i64 i ∧ pv = .int .i64 (lastP l i) ∧ Hid (wr = w))
  case atStart => exact ⟨0, rfl, Nat.zero_le _, rfl, rfl, Lib.hid rfl⟩
  case round =>
    obtain ⟨i, rfl, hi, rfl, rfl, hw⟩ := hrel
    have hw' := hw.out.symm
    clear hw
    subst hw'
    by_cases hlt : i < l.length
    · obtain ⟨x, hx⟩ : ∃ x, l[i]? = some x := ⟨_, List.getElem?_eq_getElem hlt⟩
      obtain ⟨b, off, rfl, hbl, c0, c1, hxs, hxu⟩ := shr_at hl.out (Below.refl _ _) hx
      have hk0 : (i : Int) < (l.length : Int) := nn_lt hlt
      have hwk := Lib.hid (nn_succ2 hlt hlen)
      have hp := lastP_at hx
      obtain ⟨kb, hkb⟩ : ∃ b, pos x.upto = b := ⟨_, rfl⟩
      have hA : (FloatKind.f64.format.order x.upto 0 == some Ordering.gt) = kb := hkb
      rw [hkb] at hp
      cases kb with
      | true =>
        replace hx := Lib.hid hx
        replace hkb := Lib.hid hkb
        replace hp := Lib.hid hp
        go_wp2
        go_roundg (l.length - (i + 1) + 1)
        case rel => exact ⟨i + 1, rfl, hlt, by first | rw [hwk.out] | go_num, by rw [hp.out]; rfl, Lib.hid rfl⟩
        case measure => exact nn_downS hlt
      | false =>
        replace hx := Lib.hid hx
        replace hkb := Lib.hid hkb
        replace hp := Lib.hid hp
        go_wp2
        go_roundg (l.length - (i + 1) + 1)
        case rel => exact ⟨i + 1, rfl, hlt, by first | rw [hwk.out] | go_num, by rw [hp.out]; rfl, Lib.hid rfl⟩
        case measure => exact nn_downS hlt
    · have hk0 : decide ((i : Int) < (l.length : Int)) = false := decide_eq_false (by omega)
      have hk1 : ¬ (i : Int) < (l.length : Int) := by omega
      have hie : i = l.length := by omega
      subst hie
      clear hlt hi
      obtain ⟨P, hP⟩ : ∃ P, P = lastP l l.length := ⟨_, rfl⟩
      rw [← hP]
      have hz : refSt l 0 = [] := refSt_zero l
      replace hP := Lib.hid hP
      replace hz := Lib.hid hz

      go_upto_region 10 with fail
      go_loopg [3, 6, 7] (l.length + 1) (fun gg ov sv ic wx => ∃ i : Nat, gg = l.length - i + 1 ∧ i ≤ l.length ∧ ic = .int .i64 i ∧ sv = .float .f64 (stL (l.take i)).2 ∧ Hid (OwnS wx w.heap.size ov (refSt l i)) ∧ Hid (Below w.heap.size w wx))
      case atStart => exact ⟨0, rfl, Nat.zero_le _, rfl, by rw [List.take_zero]; rfl, Lib.hid (by rw [hz.out]; exact ⟨hr0.out, fun s hs => by cases hs⟩), Lib.hid (Below.refl _ _)⟩
      case round =>
        obtain ⟨i, rfl, hi, rfl, rfl, hO, hbw⟩ := hrel
        have hni := hn.out i
        have hsi := hsum.out i
        obtain ⟨out, hst⟩ : ∃ p, p = refSt l i := ⟨_, rfl⟩
        obtain ⟨sm, hsm⟩ : ∃ p, p = (stL (l.take i)).2 := ⟨_, rfl⟩
        have hol : out.length ≤ i := by rw [hst]; exact refSt_len l i
        rw [← hst] at hO
        rw [← hsm] at hsi ⊢
        obtain ⟨oo, oc, rfl⟩ := ownsRow_shape hO.out.row
        by_cases hlt : i < l.length
        · obtain ⟨x, hx⟩ : ∃ x, l[i]? = some x := ⟨_, List.getElem?_eq_getElem hlt⟩
          obtain ⟨b, off, rfl, hbl, c0, c1, hxs, hxu⟩ := shr_at hl.out hbw.out hx
          have hk0 : (i : Int) < (l.length : Int) := nn_lt hlt
          have hwk := Lib.hid (nn_succ2 hlt hlen)
          obtain ⟨kb, hkb⟩ : ∃ b, pos x.upto = b := ⟨_, rfl⟩
          have hA : (FloatKind.f64.format.order x.upto 0 == some Ordering.gt) = kb := hkb
          cases kb with
          | false =>
            obtain ⟨hs1, hs2⟩ := refSt_skip hx hkb
            rw [← hst] at hs1
            rw [← hsm] at hs2
            replace hx := Lib.hid hx
            replace hkb := Lib.hid hkb
            replace hst := Lib.hid hst
            replace hsi := Lib.hid hsi
            replace hsm := Lib.hid hsm
            replace hs1 := Lib.hid hs1
            replace hs2 := Lib.hid hs2
            replace hni := Lib.hid hni
            go_wp2
            go_roundg (l.length - (i + 1) + 1)
            case rel => exact ⟨i + 1, rfl, hlt, by first | rw [hwk.out] | go_num, by rw [hs2.out], by rw [hs1.out]; exact hO, hbw⟩
            case measure => exact nn_downS hlt
          | true =>
            obtain ⟨hs1, hs2⟩ := refSt_put hx hkb
            rw [hs2, ← hP.out, ← hst, ← hsm] at hs1
            rw [← hsm] at hs2
            obtain ⟨ha1, ha2⟩ := add_ge sm x.upto hsi hxu (pos_ge hkb)
            have hadd := run_add ha1
            obtain ⟨wb, hwb⟩ : ∃ wb, wb = wr.alloc (.cells #[.string x.service, .float .f64 (fadd sm x.upto)] 73) := ⟨_, rfl⟩
            obtain ⟨bk, hbk⟩ : ∃ bk, bk = wr.heap.size := ⟨_, rfl⟩
            have hbx : wb.heap[bk]? = some (.cells #[.string x.service, .float .f64 (fadd sm x.upto)] 73) := by rw [hwb, hbk]; exact heap_alloc_new wr _
            have hba := Lib.hid (alloc_below wr (.cells #[.string x.service, .float .f64 (fadd sm x.upto)] 73))
            rw [← hwb] at hba
            have hO1 := Lib.hid (hO.out.tch (Tch.of_below (S := No) hba.out) (fun _ _ q => q))
            have hbw1 := Lib.hid (seq_below hbw.out hba.out)
            have b0 := box_at hbx (j := 0) rfl
            have b1 := box_at hbx (j := 1) rfl
            have fz1 := frozen_of_row _ bk 1 _ _ hbx
            have hbkg : ∀ k, (Value.slice oo out.length oc).ownBlock = some k → k ≠ bk := fun k hk e => by
              have := (hO.out.row.lt k hk).2
              omega
            by_cases hiP : (i : Int) = P
            · rw [if_pos hiP] at hs1
              subst hiP
              have hO2 := Lib.hid (hO1.out.tch (Tch.setCell (S := fun k => k = bk) wb (p := ⟨bk, 1, none⟩) rfl (.float .f64 ONE)) (fun g hg q => hbkg g hg q))
              have hbw2 := Lib.hid (Tch.below hbw1.out (Tch.setCell (S := fun k => k = bk) wb (p := ⟨bk, 1, none⟩) rfl (.float .f64 ONE)) hbw1.out.size (fun q e => by rw [e, hbk]; exact hbw.out.size))
              have hbx2 := Lib.hid (box_set (i := 1) (v := .float .f64 ONE) hbx)
              replace hx := Lib.hid hx
              replace hkb := Lib.hid hkb
              replace hst := Lib.hid hst
              replace hsi := Lib.hid hsi
              replace hsm := Lib.hid hsm
              replace hs1 := Lib.hid hs1
              replace hs2 := Lib.hid hs2
              replace hbx := Lib.hid hbx
              replace ha1 := Lib.hid ha1
              replace ha2 := Lib.hid ha2
              replace hbkg := Lib.hid hbkg
              go_upto_region 15 with fail
              rw [← hwb, ← hbk]
              replace hwb := Lib.hid hwb
              replace hbk := Lib.hid hbk
              clear c0 c1
              go_upto_region 17 with fail
              obtain ⟨wq, hwq⟩ : ∃ wq, wq = wb.setCell ⟨bk, 1, none⟩ (.float .f64 ONE) := ⟨_, rfl⟩
              rw [← hwq] at hO2 hbw2 hbx2
              have hm := hwq
              rw [show (.float .f64 ONE : Value) = .float .f64 4607182418800017408 from rfl] at hm
              rw [← hm]
              have e0 := box_at hbx2.out (j := 0) rfl
              have e1 := box_at hbx2.out (j := 1) rfl
              replace hwq := Lib.hid hwq
              replace hm := Lib.hid hm
              clear b0 b1 fz1
              have hrow2 := Lib.hid (hO2.out.row.alloc (.cells #[.string x.service, .float .f64 ONE] 73))
              have hn2 := Lib.hid (new_cells wq [.string x.service, .float .f64 ONE] 73)
              have hB2 := Lib.hid (show w.heap.size ≤ (wq.alloc (.cells #[.string x.service, .float .f64 ONE] 73)).heap.size from Nat.le_trans hbw2.out.size (by simp))
              have hok2 := Lib.hid (oks_put hO2.out.ok hxs one_le)
              go_wp2_with (first
                | (at_builtin; go_loud (refine wp_append_lit (by rfl) _ _ 67 (by rfl) w.heap.size 73 i73 _ 2 24 Try.underlying67 h73.out h730.out h731.out h732.out rfl (by decide) _ out.length (flat out) (by rfl) hrow2.out ⟨wq.heap.size, 0, none⟩ 1 _ [.string x.service, .float .f64 ONE] (by rfl) rfl hn2.out (by simp [Value.oneCell']) (by unfold maxLen; omega) (by omega) hB2.out ?_); intro v3 w3 hr3 hg3 hl3; have hr3' := Lib.hid hr3; obtain ⟨o3, c3', rfl⟩ := ownsRow_shape hr3; replace hg3 := Lib.hid hg3; replace hl3 := Lib.hid hl3; clear hr3)
                | fail)
              go_roundg (l.length - (i + 1) + 1)
              case rel =>
                refine ⟨i + 1, rfl, hlt, by first | rw [hwk.out] | go_num, by rw [hs2.out], Lib.hid ?_, Lib.hid ((seq_below hbw2.out (alloc_below wq (.cells #[.string x.service, .float .f64 ONE] 73))).grown hg3.out hB2.out (fun q hq => (hO.out.row.lt q hq).1))⟩
                rw [hs1.out]
                exact ⟨by rw [List.length_append, flat_snoc]; exact hr3'.out, hok2.out⟩
              case measure => exact nn_downS hlt
            · have hc : ((i : Int) == P) = false := beq_eq_false_iff_ne.2 hiP
              rw [if_neg hiP] at hs1
              replace hx := Lib.hid hx
              replace hkb := Lib.hid hkb
              replace hst := Lib.hid hst
              replace hsi := Lib.hid hsi
              replace hsm := Lib.hid hsm
              replace hs1 := Lib.hid hs1
              replace hs2 := Lib.hid hs2
              replace hbx := Lib.hid hbx
              replace ha1 := Lib.hid ha1
              replace ha2 := Lib.hid ha2
              replace hbkg := Lib.hid hbkg
              go_upto_region 15 with fail
              rw [← hwb, ← hbk]
              replace hwb := Lib.hid hwb
              replace hbk := Lib.hid hbk
              clear c0 c1
              have hrow2 := Lib.hid (hO1.out.row.alloc (.cells #[.string x.service, .float .f64 (fadd sm x.upto)] 73))
              have hn2 := Lib.hid (new_cells wb [.string x.service, .float .f64 (fadd sm x.upto)] 73)
              have hB2 := Lib.hid (show w.heap.size ≤ (wb.alloc (.cells #[.string x.service, .float .f64 (fadd sm x.upto)] 73)).heap.size from Nat.le_trans hbw1.out.size (by simp))
              have hok2 := Lib.hid (oks_put hO1.out.ok hxs ha2.out)
              go_wp2_with (first
                | (at_builtin; go_loud (refine wp_append_lit (by rfl) _ _ 67 (by rfl) w.heap.size 73 i73 _ 2 24 Try.underlying67 h73.out h730.out h731.out h732.out rfl (by decide) _ out.length (flat out) (by rfl) hrow2.out ⟨wb.heap.size, 0, none⟩ 1 _ [.string x.service, .float .f64 (fadd sm x.upto)] (by rfl) rfl hn2.out (by simp [Value.oneCell']) (by unfold maxLen; omega) (by omega) hB2.out ?_); intro v3 w3 hr3 hg3 hl3; have hr3' := Lib.hid hr3; obtain ⟨o3, c3', rfl⟩ := ownsRow_shape hr3; replace hg3 := Lib.hid hg3; replace hl3 := Lib.hid hl3; clear hr3)
                | fail)
              go_roundg (l.length - (i + 1) + 1)
              case rel =>
                refine ⟨i + 1, rfl, hlt, by first | rw [hwk.out] | go_num, by rw [hs2.out], Lib.hid ?_, Lib.hid ((seq_below hbw1.out (alloc_below wb (.cells #[.string x.service, .float .f64 (fadd sm x.upto)] 73))).grown hg3.out hB2.out (fun q hq => (hO.out.row.lt q hq).1))⟩
                rw [hs1.out]
                exact ⟨by rw [List.length_append, flat_snoc]; exact hr3'.out, hok2.out⟩
              case measure => exact nn_downS hlt
        · have hk0 : decide ((i : Int) < (l.length : Int)) = false := decide_eq_false (by omega)
          have hk1 : ¬ (i : Int) < (l.length : Int) := by omega
          have hie : i = l.length := by omega
          have hfin := refSt_all l
          rw [← hie, ← hst] at hfin
          replace hie := Lib.hid hie
          replace hfin := Lib.hid hfin
          replace hst := Lib.hid hst
          replace hsi := Lib.hid hsi
          replace hsm := Lib.hid hsm
          replace hni := Lib.hid hni
          go_wp2
          go_ret
          exact ⟨_, rfl, by rw [← hfin.out]; exact hO.out, hbw.out⟩
end Go.Proofs.Ytjepgpocmnijiaa
end

section
/- The law TablesShares: its walk. -/
namespace Go.Proofs.Ytjepgpocmnijiaa
open Go.RowKit Go.Mp Go.Ck Fl
set_option linter.unusedVariables false
set_option maxRecDepth 100000
set_option maxHeartbeats 8000000
theorem cfg_fault {C : List Res} {v : Value} {w : World} (h : ResS w v C) (hM : listM C ≤ 1048576) (h0 : faultC C = 0) : Cfg C := by
  unfold faultC faultP at h0
  split at h0
  · cases h0
  · split at h0
    · cases h0
    · split at h0
      · cases h0
      · split at h0
        · cases h0
        · split at h0
          · cases h0
          · split at h0
            · cases h0
            · rename_i q1 q2 q3 q4 q5 q6
              have no : ∀ (p : Nat → Bool), ¬ 0 ≤ firstN C.length p → ∀ j, j < C.length → p j = false := fun p hp => by
                rcases firstN_cases C.length p with ⟨_, h⟩ | ⟨i, _, e, _, _⟩
                · exact h
                · rw [e] at hp; omega
              exact ⟨by omega, by omega, no _ q3, no _ q5, no _ q6, res_weights h, fun r hr => Nat.le_trans (tgts_le r) (Nat.le_trans (mem_le hr) hM)⟩
/-- The mark behind shares. -/
def markS : Shr := ⟨⟨#[109, 97, 114, 107]⟩, 0⟩
theorem twin38r {l : List Res} {v : Value} {w : World} (hl : ResS w v l) (hM : listM l ≤ 1048576) : Calls Try.prog 38 #[v] w fun e w' => ∃ g c, e = .returned (.slice (some ⟨g, 0, none⟩) l.length c) ∧ l.length + 1 ≤ c ∧ ResS w' (.slice (some ⟨g, 0, none⟩) l.length c) l ∧ w'.cell? ⟨g, l.length * 8, none⟩ = some (.int .i64 (-77)) ∧ g < w'.heap.size ∧ Below w.heap.size w w' := by
  have hn := Nat.le_trans (len_le l) hM
  refine (twin38 l v w hl (sz_of hM) hn).mono ?_
  rintro e w' ⟨g, c, L, rfl, hc, hL, hO, hb⟩
  have hLn : L.length = l.length + 1 := by
    have := congrArg List.length hL
    rw [List.length_map, List.length_append] at this
    exact this
  have hr := hO.reads (by omega)
  rw [hL] at hr
  have h1 := slice_take hr (k := l.length) (by simp)
  rw [List.take_left] at h1
  have hx : L[l.length]? = some L[l.length] := List.getElem?_eq_getElem (by omega)
  have hxr : L[l.length].r = markR := by
    have := congrArg (fun q => q[l.length]?) hL
    simp only [List.getElem?_map, hx, Option.map_some] at this
    simpa using this
  obtain ⟨g', e1, _, _, e2, _⟩ := ownsRow_cell hO.row (j := l.length * 8) (u := .int .i64 (-77)) (by
    have h2 := Rd.flat_at rvc_len hx 0 (by decide)
    have h3 : (rvc L[l.length])[0]? = some (.int .i64 (-77)) := by unfold rvc; rw [hxr]; rfl
    exact h2.trans h3)
  simp only [Option.some.injEq, Addr.mk.injEq, and_true] at e1
  subst e1
  have hgl := (hO.row.lt g rfl).2
  exact ⟨g, c, rfl, hc, h1, e2, hgl, hb⟩
theorem shares_le {C : List Res} {v : Value} {w : World} (h : ResS w v C) (hM : listM C ≤ 1048576) (h0 : faultC C = 0) (s : ByteArray) : (shOf C s).length ≤ 64 := shOf_len (cfg_fault h hM h0) s
theorem steps_len (l : List Shr) : (stepsS l).length ≤ l.length := by
  have h := stL_len l l.length
  rw [List.take_length] at h
  unfold stepsS lastOne
  split
  · rw [List.length_set]; exact h
  · exact h
theorem shares11 (C : List Res) (s : ByteArray) (l : List Shr) (v1 v3 : Value) (w : World) (h1 : ResS w v1 C) (h3 : ShS w v3 l) (hC : listM C ≤ 1048576) (hl : l.length ≤ 1048576) : Calls Try.prog 11 #[v1, .string s, v3] w fun e w' => e = .returned (.bool true) ∧ Below w.heap.size w w' := by
  obtain ⟨ao, cap, rfl⟩ := slice_shape h1
  obtain ⟨bo, bcp, rfl⟩ := slice_shape h3
  obtain ⟨i73, h73, h730, h731, h732⟩ := info_parts info73
  have hl24 : l.length * 24 ≤ 140737488355328 := by omega
  obtain ⟨A, hA⟩ : ∃ A, A = sharesL C s := ⟨_, rfl⟩
  obtain ⟨cc, hcc⟩ : ∃ cc, cc = sharesC C s := ⟨_, rfl⟩
  obtain ⟨ST, hST⟩ : ∃ ST, ST = stepsS l := ⟨_, rfl⟩
  obtain ⟨SA, hSA⟩ : ∃ SA, SA = stepsS A := ⟨_, rfl⟩
  have hAl : A.length ≤ 64 := by
    rw [hA]; unfold sharesL
    split
    · exact Nat.zero_le _
    · split
      · rename_i h0 _
        exact shares_le h1 hC (Classical.not_not.1 h0) s
      · exact Nat.zero_le _
  have k39 : ∀ v' w', ResS w' v' C → Calls Try.prog 39 #[v', .string s] w' fun e w2 => ∃ o c, e = .returned (.tuple #[.slice o A.length c, .int .i64 cc]) ∧ OwnS w2 w'.heap.size (.slice o A.length c) A ∧ Below w'.heap.size w' w2 := fun v' w' h => by
    refine (shares39 C s v' w' h hC).mono ?_
    rintro e w2 ⟨v2, rfl, hO, hb⟩
    rw [← hA] at hO
    obtain ⟨o, c, rfl⟩ := ownsRow_shape hO.row
    exact ⟨o, c, by rw [hcc], hO, hb⟩
  have k40 : ∀ v' w', ResS w' v' C → Calls Try.prog 40 #[v', .string s] w' fun e w2 => ∃ o c, e = .returned (.tuple #[.slice o A.length c, .int .i64 cc]) ∧ OwnS w2 w'.heap.size (.slice o A.length c) A ∧ Below w'.heap.size w' w2 := fun v' w' h => by
    refine (shares40 C s v' w' h hC).mono ?_
    rintro e w2 ⟨v2, rfl, hO, hb⟩
    rw [← hA] at hO
    obtain ⟨o, c, rfl⟩ := ownsRow_shape hO.row
    exact ⟨o, c, by rw [hcc], hO, hb⟩
  have k41 : ∀ (a : List Shr) v' w', ShS w' v' a → a.length * 24 ≤ 140737488355328 → Calls Try.prog 41 #[v'] w' fun e w2 => ∃ o c, e = .returned (.slice o (stepsS a).length c) ∧ OwnS w2 w'.heap.size (.slice o (stepsS a).length c) (stepsS a) ∧ Below w'.heap.size w' w2 := fun a v' w' h hn => by
    refine (steps41 a v' w' h hn).mono ?_
    rintro e w2 ⟨v2, rfl, hO, hb⟩
    obtain ⟨o, c, rfl⟩ := ownsRow_shape hO.row
    exact ⟨o, c, rfl, hO, hb⟩
  have k44 : ∀ (a : List Shr) v' w', ShS w' v' a → a.length * 24 ≤ 140737488355328 → Calls Try.prog 44 #[v'] w' fun e w2 => ∃ o c, e = .returned (.slice o (stepsS a).length c) ∧ OwnS w2 w'.heap.size (.slice o (stepsS a).length c) (stepsS a) ∧ Below w'.heap.size w' w2 := fun a v' w' h hn => by
    refine (steps44 a v' w' h hn).mono ?_
    rintro e w2 ⟨v2, rfl, hO, hb⟩
    obtain ⟨o, c, rfl⟩ := ownsRow_shape hO.row
    exact ⟨o, c, rfl, hO, hb⟩
  have hSTl : (stepsS l).length ≤ 1048576 := Nat.le_trans (steps_len l) hl
  have hSAl : (stepsS A).length ≤ 64 := Nat.le_trans (steps_len A) hAl
  replace h1 := Lib.hid h1
  replace h3 := Lib.hid h3
  replace hC := Lib.hid hC
  replace h73 := Lib.hid h73
  replace h730 := Lib.hid h730
  replace h731 := Lib.hid h731
  replace h732 := Lib.hid h732
  replace hA := Lib.hid hA
  replace hcc := Lib.hid hcc
  replace hST := Lib.hid hST
  replace hSA := Lib.hid hSA
  replace k39 := Lib.hid k39
  replace k40 := Lib.hid k40
  replace k41 := Lib.hid k41
  replace k44 := Lib.hid k44
  replace hSTl := Lib.hid hSTl
  replace hSAl := Lib.hid hSAl
  replace hl24 := Lib.hid hl24
  go_enter Try.func11, Try.ntmps11
  go_upto_region 2 with (first
    | (go_at_call 38; (with_reducible refine (twin38r h1.out hC.out).mono ?_); rintro e w1 ⟨g, gc, rfl, hgc, hG, hgm, hgl, hb1⟩; replace hG := Lib.hid hG; replace hb1 := Lib.hid hb1)
    | fail)
  go_upto_region 3 with (first
    | (go_at_call 39; (with_reducible refine (k39.out _ _ hG.out).mono ?_); rintro e w2 ⟨p2, q2, rfl, hOa, hb2⟩; have hB2 := Lib.hid (seq_below hb1.out hb2); replace hOa := Lib.hid hOa; replace hb2 := Lib.hid hb2)
    | fail)
  go_upto_region 4 with (first
    | (go_at_call 40; (with_reducible refine (k40.out _ _ (h1.out.below hB2.out)).mono ?_); rintro e w3 ⟨p3, q3, rfl, hOb, hb3⟩; have hB3 := Lib.hid (seq_below hB2.out hb3); replace hOb := Lib.hid hOb; replace hb3 := Lib.hid hb3)
    | fail)
  have hr0 := Lib.hid (World.ownsRow_nil w3 w3.heap.size 73 2)
  have hs3 := Lib.hid (h3.out.below hB3.out)
  have hs3' := hs3.out
  go_upto_region 6 with (first
    | (at_builtin; (refine Rd.wp_append_src shrC (by rfl) _ _ 67 (by rfl) w3.heap.size 73 i73 _ 24 Try.underlying67 h73.out h730.out h731.out h732.out rfl _ 0 [] (by rfl) hr0.out _ l (by rfl) hs3' (by unfold maxLen; omega) (by omega) (Nat.le_refl _) ?_); intro v4 w4 hr4 hg4 hl4; rw [Nat.zero_add, List.nil_append] at hr4; obtain ⟨o4, c4, rfl⟩ := ownsRow_shape hr4; have hb4 := Lib.hid ((Below.refl w3.heap.size w3).grown hg4 (Nat.le_refl _) (fun q hq => by cases hq)); have hrw4 := Lib.hid (hr4.alloc (.cells #[.string ⟨#[109, 97, 114, 107]⟩, .float .f64 0] 73)); have hn4 := Lib.hid (new_cells w4 [.string ⟨#[109, 97, 114, 107]⟩, .float .f64 0] 73); have hB4 := Lib.hid (show w3.heap.size ≤ (w4.alloc (.cells #[.string ⟨#[109, 97, 114, 107]⟩, .float .f64 0] 73)).heap.size from Nat.le_trans hb4.out.size (by simp)); have hr4' := Lib.hid hr4; clear hr4 hg4 hl4 hs3')
    | (at_builtin; (refine wp_append_lit (by rfl) _ _ 67 (by rfl) w3.heap.size 73 i73 _ 2 24 Try.underlying67 h73.out h730.out h731.out h732.out rfl (by decide) _ l.length (flat l) (by rfl) hrw4.out ⟨w4.heap.size, 0, none⟩ 1 _ [.string ⟨#[109, 97, 114, 107]⟩, .float .f64 0] (by rfl) rfl hn4.out (by simp [Value.oneCell']) (by unfold maxLen; omega) (by omega) hB4.out ?_); intro v5 w5 hr5 hg5 hl5; obtain ⟨o5, c5, rfl⟩ := ownsRow_shape hr5; have hb5 := Lib.hid ((seq_below hb4.out (alloc_below w4 (.cells #[.string ⟨#[109, 97, 114, 107]⟩, .float .f64 0] 73))).grown hg5 hB4.out (fun q hq => (hr4'.out.lt q hq).1)); replace hr5 := Lib.hid hr5; clear hg5 hl5)
    | fail)
  obtain ⟨B5, hB5⟩ : ∃ B, B = w5.heap.size := ⟨_, rfl⟩
  have hwl : Hid (w.heap.size ≤ w3.heap.size) := Lib.hid hB3.out.size
  have hAok : OkS (l ++ [markS]) := fun y hy => by
    rcases List.mem_append.1 hy with h | h
    · exact h3.out.ok y h
    · simp only [List.mem_singleton] at h
      subst h
      exact ⟨by decide, by decide⟩
  have hLr : ShS w5 (.slice o5 (l.length + 1) c5) (l ++ [markS]) := by
    have hO : OwnS w5 w3.heap.size (.slice o5 (l.length + 1) c5) (l ++ [markS]) := ⟨by rw [flat_snoc, List.length_append]; exact hr5.out, hAok⟩
    have := hO.reads (by rw [List.length_append]; show l.length + 1 ≤ _; omega)
    exact this
  have hLl := Lib.hid (slice_take hLr (k := l.length) (by simp))
  rw [List.take_left] at hLl
  obtain ⟨g5, e5, _, hc5, hm5, _⟩ := ownsRow_cell hr5.out (j := l.length * 2) (u := .string ⟨#[109, 97, 114, 107]⟩) (by
    have hfl : (flat l).length = l.length * 2 := hr4'.out.1
    rw [List.getElem?_append_right (by omega), hfl, Nat.sub_self]; rfl)
  subst e5
  have hg5 : g5 < w5.heap.size := (hr5.out.lt g5 rfl).2
  have q1 : (l.length : Int) ≤ (c5 : Int) := by omega
  have q2 : (0 : Int) ≤ (l.length : Int) := by omega
  have q3 : (l.length : Int) < ((l.length + 1 : Nat) : Int) := by omega
  have hb5w := Lib.hid (seq_below hB3.out hb5.out)
  replace hm5 := Lib.hid hm5
  replace hAok := Lib.hid hAok
  replace hLr := Lib.hid hLr
  replace hg5 := Lib.hid hg5
  replace hc5 := Lib.hid hc5
  go_upto_region 7 with (first
    | (go_at_call 41; (with_reducible refine (k41.out l _ _ hLl.out hl24.out).mono ?_); rintro e w6 ⟨o6, c6, rfl, hOs, hb6⟩; replace hOs := Lib.hid hOs; replace hb6 := Lib.hid hb6)
    | fail)
  have hb35 : Below w3.heap.size w3 w6 := seq_below hb5.out hb6.out
  have hb25 : Below w2.heap.size w2 w6 := seq_below hb3.out hb35
  have hb15 : Below w1.heap.size w1 w6 := seq_below hb2.out hb25
  have hAa := Lib.hid ((hOa.out.reads (by omega)).below hb25)
  have hAb := Lib.hid ((hOb.out.reads (by omega)).below hb35)
  have hG6 := Lib.hid (hG.out.below hb15)
  have hgm6 := Lib.hid ((hb15.cell (p := ⟨g, C.length * 8, none⟩) hgl).trans hgm)
  have hgl6 : g < w6.heap.size := Nat.lt_of_lt_of_le hgl hb15.size
  have hcur := Lib.hid (seq_below hb5w.out hb6.out)
  have hC6 := Lib.hid (h1.out.below hcur.out)
  have hl6 := Lib.hid (h3.out.below hcur.out)
  have hLl6 := Lib.hid (hLl.out.below hb6.out)
  have hm6 := Lib.hid ((hb6.out.cell (p := ⟨g5, l.length * 2, none⟩) hg5.out).trans hm5.out)
  have hg56 : g5 < w6.heap.size := Nat.lt_of_lt_of_le hg5.out hb6.out.size
  have hb56 := Lib.hid (show Below w5.heap.size w5 w6 from hb6.out)
  have hl5 := Lib.hid (h3.out.below hb5w.out)
  have hA5 := Lib.hid ((hOa.out.reads (by omega)).below (show Below w2.heap.size w2 w5 from seq_below hb3.out hb5.out))
  have hA5' := Lib.hid ((hOb.out.reads (by omega)).below (show Below w3.heap.size w3 w5 from hb5.out))
  have hany6 : Hid (Any w6 w5.heap.size 73 2 (.slice o6 (stepsS l).length c6) (stepsS l).length) := Lib.hid ⟨_, hOs.out.row⟩
  have hS6 := Lib.hid (hOs.out.reads (by have := hSTl.out; omega))
  have hloc : Hid (Below w6.heap.size w6 w6) := Lib.hid (Below.refl _ _)
  have hgc0 := Lib.hid hgc
  replace hgl6 := Lib.hid hgl6
  replace hg56 := Lib.hid hg56
  replace hB5 := Lib.hid hB5
  replace hb35 := Lib.hid hb35
  replace hb25 := Lib.hid hb25
  replace hb15 := Lib.hid hb15
  replace hg5 := Lib.hid hg5
  replace hc5 := Lib.hid hc5
  replace hLr := Lib.hid hLr
  clear hr0 hs3 hr4' hrw4 hn4 hB4 hb4 hr5 hb5 hB3 hB2 hb1 hb2 hb3 hG hgm hgl
  go_upto_region 9 with (first
    | (go_at_call 42; (with_reducible refine (shares42 A _ _ _ (hAa.out.below hloc.out) (hAb.out.below hloc.out)).mono ?_); rintro e wC ⟨rfl, hbC⟩; replace hloc := Lib.hid (seq_below hloc.out hbC); clear hbC)
    | (go_at_call 43; (with_reducible refine (stay43 C g gc _ _ (hG6.out.below hloc.out) (hC6.out.below hloc.out) hgc0.out ((hloc.out.cell (p := ⟨g, C.length * 8, none⟩) hgl6.out).trans hgm6.out) (Nat.lt_of_lt_of_le hgl6.out hloc.out.size)).mono ?_); rintro e wC ⟨rfl, hbC⟩; replace hloc := Lib.hid (seq_below hloc.out hbC); clear hbC)
    | (go_at_call 44; (with_reducible refine (k44.out l _ _ (hl6.out.below hloc.out) hl24.out).mono ?_); rintro e wC ⟨o7, c7, rfl, hOr, hbC⟩; have hr7 := Lib.hid (hOr.reads (by have := hSTl.out; omega)); replace hloc := Lib.hid (seq_below hloc.out hbC); clear hbC hOr)
    | (go_at_call 42; (with_reducible refine (shares42 (stepsS l) _ _ _ (hS6.out.below hloc.out) hr7.out).mono ?_); rintro e wC ⟨rfl, hbC⟩; replace hloc := Lib.hid (seq_below hloc.out hbC); clear hbC)
    | (go_at_call 42; (with_reducible refine (shares42 l _ _ _ (hLl6.out.below hloc.out) (hl6.out.below hloc.out)).mono ?_); rintro e wC ⟨rfl, hbC⟩; replace hloc := Lib.hid (seq_below hloc.out hbC); have hm7 := (hloc.out.cell (p := ⟨g5, l.length * 2, none⟩) hg56.out).trans hm6.out; clear hbC)
    | fail)
  obtain ⟨w7, hw7⟩ : ∃ w7, w7 = wC := ⟨_, rfl⟩
  rw [← hw7]
  rw [← hw7] at hloc
  obtain ⟨m, hm⟩ : ∃ m, m = (stepsS l).length := ⟨_, rfl⟩
  have hmle : m ≤ 1048576 := by rw [hm]; exact hSTl.out
  rw [← hm]
  rw [← hm] at hany6
  have hst : Hid (Below w5.heap.size w5 w7) := Lib.hid (seq_below hb56.out hloc.out)
  have hany7 := Lib.hid (hany6.out.shp (shp_below hloc.out))
  replace hm := Lib.hid hm
  replace hmle := Lib.hid hmle
  clear hw7
  clear hr7 hS6 hLl6 hl6 hC6 hm6 hm7 hgm6 hG6 hAa hAb hany6 hb6
  clear hSTl
  go_wp2
  go_loopg [14] (m + 1) (fun gg ic wx => ∃ i : Nat, gg = m - i + 1 ∧ i ≤ m ∧ ic = .int .i64 i ∧ Hid (Below w5.heap.size w5 wx) ∧ Hid (Any wx w5.heap.size 73 2 (.slice o6 m c6) m))
  case atStart => exact ⟨0, rfl, Nat.zero_le _, rfl, hst, hany7⟩
  case round =>
    clear hst hany7
    obtain ⟨i, rfl, hi, rfl, hbw, hany⟩ := hrel
    by_cases hlt : i < m
    · have hk0 : (i : Int) < (m : Int) := nn_lt hlt
      have hwk := Lib.hid (nn_succ2 hlt (by have := hmle.out; omega))
      obtain ⟨g6, gc6, hge, hBe, hgel, hcell, _⟩ := hany.out.cell (by omega)
      simp only [Value.slice.injEq, true_and] at hge
      obtain ⟨rfl, rfl⟩ := hge
      obtain ⟨u0, hu0, hfz0⟩ := hcell (i * 2) (by omega)
      obtain ⟨u1, hu1, hfz1⟩ := hcell (i * 2 + 1) (by omega)
      replace hcell := Lib.hid hcell
      go_wp2
      go_roundg (m - (i + 1) + 1)
      case rel => exact ⟨i + 1, rfl, hlt, by first | rw [hwk.out] | go_num, Lib.hid ((hbw.out.setCell (p := ⟨g6, i * 2, none⟩) hBe _).setCell (p := ⟨g6, i * 2 + 1, none⟩) hBe _), Lib.hid (hany.out.shp ((shp_set _ _ _ _).trans (shp_set _ _ _ _)))⟩
      case measure => exact nn_downS hlt
    · have hk1 : decide ((i : Int) < (m : Int)) = false := decide_eq_false (by omega)
      have hk2 : ¬ (i : Int) < (m : Int) := by omega
      go_wp2_with (first
        | (go_at_call 42; (with_reducible refine (shares42 l _ _ _ (hLl.out.below hbw.out) (hl5.out.below hbw.out)).mono ?_); rintro e wC ⟨rfl, hbC⟩; replace hbw := Lib.hid (seq_below hbw.out hbC); clear hbC)
        | (go_at_call 41; (with_reducible refine (k41.out A _ _ (hA5.out.below hbw.out) (by omega)).mono ?_); rintro e wC ⟨o8, c8, rfl, hOr, hbC⟩; have hr8 := Lib.hid (hOr.reads (by have := hSAl.out; omega)); replace hbw := Lib.hid (seq_below hbw.out hbC); clear hbC hOr)
        | (go_at_call 44; (with_reducible refine (k44.out A _ _ (hA5'.out.below hbw.out) (by omega)).mono ?_); rintro e wC ⟨o9, c9, rfl, hOr, hbC⟩; have hr9 := Lib.hid (hOr.reads (by have := hSAl.out; omega)); have hr8' := Lib.hid (hr8.out.below hbC); replace hbw := Lib.hid (seq_below hbw.out hbC); clear hbC hOr)
        | (go_at_call 42; (with_reducible refine (shares42 (stepsS A) _ _ _ hr8'.out hr9.out).mono ?_); rintro e wC ⟨rfl, hbC⟩; replace hbw := Lib.hid (seq_below hbw.out hbC); clear hbC)
        | fail)
      go_ret
      exact ⟨rfl, seq_below hb5w.out hbw.out⟩
end Go.Proofs.Ytjepgpocmnijiaa
end

section

namespace Go.Proofs.Ytjepgpocmnijiaa.rdBulk
open Go.ChangeShapes Go.WideShapes Go.ChangeAt Go.RowKit Go.Rd Go.Ck
set_option linter.unusedVariables false
set_option maxRecDepth 100000
theorem co73 : Try.prog.cellsOf 73 = 2 := by kernel_rfl
theorem oShr : OpensM Try.prog shrE 73 (fun t => t.service.size + 1 + (1 + 0)) := opensM_map (fun x => ⟨x.1, x.2.1⟩) (fun _ => rfl) (fun _ => rfl)
  (opensM_struct Try.underlying73 (opensFM_cons rfl co9 (opensM_str Try.underlying9) (opensFM_cons rfl co55 (opensM_of (Rd.opens_float Try.underlying55)) (opensFM_nil _))))
theorem open_shares {H : Type} {enc : TypeId × Value → H} {W : World} {v : Value} {d : DataW H} {pl : List MemPlace} {ts : List TypeId} {ds : List (DataW H)} {j base : Nat} (hval : Value.okWide Try.prog W .any base 67 v) (hd : DataW.Trod enc Try.prog W 0 (fun _ => true) true 67 v d pl) (hsz : (DataW.weightsEach Try.prog ts ds).all (· ≤ reachBytes) = true) (hts : ts[j]? = some 67) (hds : ds[j]? = some d) :
    ∃ l : List Shr, ShS W v l ∧ l.length ≤ Rows.uptoBulk d := by
  obtain ⟨a0, l0, c0, rfl⟩ := okWide_slice Try.underlying67 hval
  obtain ⟨l, ⟨v', q, r⟩, hm⟩ := openM_arg (opensM_slice Try.underlying67 co73 (show Try.prog.bytesOf 73 = 24 by kernel_rfl) (by decide) (by decide) oShr) hd hsz hts hds
  replace q : some (Value.slice a0 l0 c0) = some v' := q
  cases q
  have h1 : l.length ≤ (l.map (fun t : Shr => t.service.size + 1 + (1 + 0))).sum := sum_len _ (fun t => by omega) l
  exact ⟨l, r, by omega⟩
end Go.Proofs.Ytjepgpocmnijiaa.rdBulk
end
