/- What a compile keeps; sorting no hosts. -/
import Derived.Test.YtjepgpocmnijiaaZy25
import Derived.Test.YtjepgpocmnijiaaZy34
import Derived.Test.YtjepgpocmnijiaaZy35
import Derived.Test.YtjepgpocmnijiaaZy33
section
/- The laws' own twin: resources in memory of their own, with a mark behind them. -/
namespace Go.Proofs.Ytjepgpocmnijiaa
open Go.RowKit Go.Mp Go.Ck
set_option linter.unusedVariables false
set_option maxRecDepth 100000
set_option maxHeartbeats 4000000
theorem nil_slice {α : Type} {E : Rd.Elem α} (w : World) : Rd.SliceOf E w (.slice none 0 0) [] := ⟨by simp, _, _, rfl, Nat.le_refl _, .inl rfl⟩
/-- The mark. -/
def markR : Res := ⟨-77, ⟨#[]⟩, [], [], ⟨#[]⟩, [], ⟨#[]⟩, false⟩
def markV : RV := ⟨markR, .slice none 0 0, .slice none 0 0, .slice none 0 0⟩
def TwinO (w : World) (l : List Res) (e : Ending) (w' : World) : Prop := ∃ (g c : Nat) (L : List RV), e = .returned (.slice (some ⟨g, 0, none⟩) l.length c) ∧ l.length + 1 ≤ c ∧ L.map RV.r = l ++ [markR] ∧ OwnM w' w.heap.size (.slice (some ⟨g, 0, none⟩) (l.length + 1) c) L ∧ Below w.heap.size w w'
theorem twin38 (l : List Res) (v : Value) (w : World) (hl : ResS w v l) (hM : SzL l) (hn : l.length ≤ 1048576) : Calls Try.prog 38 #[v] w (TwinO w l) := by
  obtain ⟨ao, cap, rfl⟩ := slice_shape hl
  have hlen := hl.1
  obtain ⟨i9, h9, h90, h91, h92⟩ := info_parts info9
  obtain ⟨i57, h57, h570, h571, h572⟩ := info_parts info57
  obtain ⟨i101, h101, h1010, h1011, h1012⟩ := info_parts info101
  obtain ⟨i52, h52, h520, h521, h522⟩ := info_parts info52
  have hM0 : Hid (OwnM w w.heap.size (.slice none 0 0) []) := Lib.hid ⟨World.ownsRow_nil _ _ _ _, fun x hx => by cases hx⟩
  have hL0 : Hid (([] : List RV).map RV.r = l.take 0) := Lib.hid (by simp)
  replace hl := Lib.hid hl
  replace hM := Lib.hid hM
  replace h9 := Lib.hid h9
  replace h90 := Lib.hid h90
  replace h91 := Lib.hid h91
  replace h92 := Lib.hid h92
  replace h57 := Lib.hid h57
  replace h570 := Lib.hid h570
  replace h571 := Lib.hid h571
  replace h572 := Lib.hid h572
  replace h101 := Lib.hid h101
  replace h1010 := Lib.hid h1010
  replace h1011 := Lib.hid h1011
  replace h1012 := Lib.hid h1012
  replace h52 := Lib.hid h52
  replace h520 := Lib.hid h520
  replace h521 := Lib.hid h521
  replace h522 := Lib.hid h522
  go_enter Try.func38, Try.ntmps38
  go_wp2
  go_loopg [3, 4] (l.length + 1) (fun gg ov ic wr => ∃ (i : Nat) (L : List RV), gg = l.length - i + 1 ∧ i ≤ l.length ∧ ic = .int .i64 i ∧ Hid (L.map RV.r = l.take i) ∧ Hid (OwnM wr w.heap.size ov L) ∧ Hid (Below w.heap.size w wr))
  case atStart => exact ⟨0, [], rfl, Nat.zero_le _, rfl, hL0, hM0, Lib.hid (Below.refl _ _)⟩
  case round =>
    obtain ⟨i, L, rfl, hi, rfl, hLi, hO, hbw⟩ := hrel
    obtain ⟨oo, oc, rfl⟩ := ownsRow_shape hO.out.row
    by_cases hlt : i < l.length
    · obtain ⟨r, hr⟩ : ∃ r, l[i]? = some r := ⟨_, List.getElem?_eq_getElem hlt⟩
      obtain ⟨b, off, eo, ec, ta, tc, ra, rc, rfl, hbl, c, hp⟩ := res_at2 hl.out hr
      obtain ⟨c0, c1, c2, c3, c4, c5, c6, c7⟩ := c.below hbl hbw.out
      have hk0 : (i : Int) < (l.length : Int) := nn_lt hlt
      have hwk := Lib.hid (nn_succ2 hlt hlen)
      obtain ⟨wb, hwb⟩ : ∃ wb, wb = wr.alloc (.cells #[Value.int .i64 r.kind, .string r.name, .slice eo r.eps.length ec, .slice ta r.tgts.length tc, .string r.host, .slice ra r.rules.length rc, .string r.route, .bool r.del] 52) := ⟨_, rfl⟩
      obtain ⟨bk, hbk⟩ : ∃ bk, bk = wr.heap.size := ⟨_, rfl⟩
      have hbx : wb.heap[bk]? = some (.cells #[Value.int .i64 r.kind, .string r.name, .slice eo r.eps.length ec, .slice ta r.tgts.length tc, .string r.host, .slice ra r.rules.length rc, .string r.route, .bool r.del] 52 (0, 0)) := by rw [hwb, hbk]; exact heap_alloc_new wr _
      have hba : Below wr.heap.size wr wb := by rw [hwb]; exact alloc_below _ _
      have hbwb := Lib.hid (seq_below hbw.out hba)
      have hbwk : w.heap.size ≤ bk := by rw [hbk]; exact hbw.out.size
      have hOb := Lib.hid (ownM_below hO.out hba)
      have hrm := hM.out.el r (List.mem_of_getElem? hr)
      have z1 := hrm.e
      have z2 := hrm.t
      have z3 := hrm.r
      have lim1 : 0 + r.eps.length ≤ maxLen ∧ (0 + r.eps.length) * 16 ≤ 140737488355328 := by unfold maxLen; omega
      have lim2 : 0 + r.tgts.length ≤ maxLen ∧ (0 + r.tgts.length) * 40 ≤ 140737488355328 := by unfold maxLen; omega
      have lim3 : 0 + r.rules.length ≤ maxLen ∧ (0 + r.rules.length) * 56 ≤ 140737488355328 := by unfold maxLen; omega
      have hbl' := Lib.hid hbl
      have hcc := Lib.hid c
      have hne : Hid (∀ g, (Value.slice oo L.length oc).ownBlock = some g → g < bk) := Lib.hid (fun g hg => by rw [hbk]; exact (ownsRow_ge hO.out.row hg).2)
      have hbxwb := Lib.hid hbx
      have hbwbb := hbwb
      have hOwb := hOb
      replace hrm := Lib.hid hrm
      replace z1 := Lib.hid z1
      replace z2 := Lib.hid z2
      replace z3 := Lib.hid z3
      replace hp := Lib.hid hp
      replace hba := Lib.hid hba
      replace hr := Lib.hid hr
      replace hbwk := Lib.hid hbwk
      clear hbl c hbx
      have limA := Lib.hid lim1
      have limB := Lib.hid lim2
      have limC := Lib.hid lim3
      clear lim1 lim2 lim3
      go_upto_region 6 with fail
      rw [← hwb, ← hbk]
      replace hwb := Lib.hid hwb
      replace hbk := Lib.hid hbk
      clear c0 c1 c2 c3 c4 c5 c6 c7
      have hrowA := Lib.hid (empty_row wb w.heap.size hbwb.out.size 9 1)
      have hsrcA := Lib.hid (hp.out.e.below (seq_below hbwb.out (alloc_below wb (.cells #[] 9))))
      have hbAA := Lib.hid (seq_below hbwb.out (alloc_below wb (.cells #[] 9)))
      have hRA := Lib.hid (alloc_below wb (.cells #[] 9))
      have hblsA : b < wb.heap.size := Nat.lt_of_lt_of_le hbl'.out hbwb.out.size
      have gxA : wb.cell? ⟨bk, 2, none⟩ = some (.slice eo r.eps.length ec) := box_at hbxwb.out rfl
      have gyA : (wb.alloc (.cells #[] 9)).cell? ⟨bk, 2, none⟩ = some (.slice eo r.eps.length ec) := ((alloc_below wb (.cells #[] 9)).cell (p := ⟨bk, 2, none⟩) (Array.getElem?_eq_some_iff.1 hbxwb.out).1).trans gxA
      have gsA : wb.cell? ⟨b, off + i * 8 + 2, none⟩ = some (.slice eo r.eps.length ec) := (hcc.out.below hbl'.out hbwb.out).c2
      go_upto_region 7 with (first
        | (at_builtin; refine Rd.wp_append_src Rd.strC (by rfl) _ _ 48 (by rfl) w.heap.size 9 i9 _ 16 Try.underlying48 h9.out h90.out h91.out h92.out rfl _ 0 [] (by rfl) hrowA.out _ r.eps (by rfl) hsrcA.out limA.out.1 limA.out.2 hbAA.out.size ?_; intro v3 w3A hr3 hg3 hl3; obtain ⟨ea1, ec1, rfl⟩ := ownsRow_shape hr3; rw [Nat.zero_add, List.nil_append] at hr3; have hGA := Lib.hid (hRA.out.grown hg3 hRA.out.size (fun q hq => (by cases hq; exact Nat.le_refl _))); have hbx3 := (hGA.out.block bk (Array.getElem?_eq_some_iff.1 hbxwb.out).1).trans hbxwb.out; have fz := frozen_of_row _ bk 2 _ _ hbx3; have cz : w3A.cell? ⟨bk, 2, none⟩ = some (.slice eo r.eps.length ec) := box_at hbx3 rfl; replace hbx3 := Lib.hid hbx3; rw [Nat.zero_add]; have hrA := Lib.hid hr3; clear hr3 hg3 hl3)
        | fail)
      obtain ⟨w4A, hw4⟩ : ∃ w4, w4 = w3A.setCell ⟨bk, 2, none⟩ (.slice ea1 r.eps.length ec1) := ⟨_, rfl⟩
      rw [← hw4]
      have tS : Tch (fun q => q = bk) w3A w4A := by rw [hw4]; exact Tch.setCell (S := fun q => q = bk) w3A (p := ⟨bk, 2, none⟩) rfl _
      have hbw4A := Lib.hid (Tch.below (seq_below hbwb.out hGA.out) tS (seq_below hbwb.out hGA.out).size (fun q e => by rw [e]; exact hbwk.out))
      have hbxw4A : Hid (w4A.heap[bk]? = some (.cells #[Value.int .i64 r.kind, .string r.name, .slice ea1 r.eps.length ec1, .slice ta r.tgts.length tc, .string r.host, .slice ra r.rules.length rc, .string r.route, .bool r.del] 52 (0, 0))) := Lib.hid (by rw [hw4]; exact box_set hbx3.out)
      have hO3 := ownM_below hOwb.out hGA.out
      have hOw4A := Lib.hid (ownM_tch hO3 tS (fun g hg e => by have := hne.out g hg; omega) (fun x hx g hg e => by
        rcases hg with q | q | q
        · exact row_block_ne (hO3.el x hx).e hbx3.out (by decide) g q e
        · exact row_block_ne (hO3.el x hx).t hbx3.out (by decide) g q e
        · exact row_block_ne (hO3.el x hx).ru hbx3.out (by decide) g q e))
      have hownA := Lib.hid (ownsRow_tch hrA.out tS (fun g hg e => row_block_ne hrA.out hbx3.out (by decide) g hg e))
      replace hw4 := Lib.hid hw4
      replace tS := Lib.hid tS
      replace hO3 := Lib.hid hO3
      clear fz cz gsA hbx3 gxA gyA
      have hrowB := Lib.hid (empty_row w4A w.heap.size hbw4A.out.size 57 3)
      have hsrcB := Lib.hid (hp.out.t.below (seq_below hbw4A.out (alloc_below w4A (.cells #[] 57))))
      have hbAB := Lib.hid (seq_below hbw4A.out (alloc_below w4A (.cells #[] 57)))
      have hRB := Lib.hid (alloc_below w4A (.cells #[] 57))
      have hblsB : b < w4A.heap.size := Nat.lt_of_lt_of_le hbl'.out hbw4A.out.size
      have gxB : w4A.cell? ⟨bk, 3, none⟩ = some (.slice ta r.tgts.length tc) := box_at hbxw4A.out rfl
      have gyB : (w4A.alloc (.cells #[] 57)).cell? ⟨bk, 3, none⟩ = some (.slice ta r.tgts.length tc) := ((alloc_below w4A (.cells #[] 57)).cell (p := ⟨bk, 3, none⟩) (Array.getElem?_eq_some_iff.1 hbxw4A.out).1).trans gxB
      have gsB : w4A.cell? ⟨b, off + i * 8 + 3, none⟩ = some (.slice ta r.tgts.length tc) := (hcc.out.below hbl'.out hbw4A.out).c3
      go_upto_region 8 with (first
        | (at_builtin; refine Rd.wp_append_src tgtC (by rfl) _ _ 49 (by rfl) w.heap.size 57 i57 _ 40 Try.underlying49 h57.out h570.out h571.out h572.out rfl _ 0 [] (by rfl) hrowB.out _ r.tgts (by rfl) hsrcB.out limB.out.1 limB.out.2 hbAB.out.size ?_; intro v3 w3B hr3 hg3 hl3; obtain ⟨ta1, tc1, rfl⟩ := ownsRow_shape hr3; rw [Nat.zero_add, List.nil_append] at hr3; have hGB := Lib.hid (hRB.out.grown hg3 hRB.out.size (fun q hq => (by cases hq; exact Nat.le_refl _))); have hbx3 := (hGB.out.block bk (Array.getElem?_eq_some_iff.1 hbxw4A.out).1).trans hbxw4A.out; have fz := frozen_of_row _ bk 3 _ _ hbx3; have cz : w3B.cell? ⟨bk, 3, none⟩ = some (.slice ta r.tgts.length tc) := box_at hbx3 rfl; replace hbx3 := Lib.hid hbx3; rw [Nat.zero_add]; have hrB := Lib.hid hr3; clear hr3 hg3 hl3)
        | fail)
      obtain ⟨w4B, hw4⟩ : ∃ w4, w4 = w3B.setCell ⟨bk, 3, none⟩ (.slice ta1 r.tgts.length tc1) := ⟨_, rfl⟩
      rw [← hw4]
      have tS : Tch (fun q => q = bk) w3B w4B := by rw [hw4]; exact Tch.setCell (S := fun q => q = bk) w3B (p := ⟨bk, 3, none⟩) rfl _
      have hbw4B := Lib.hid (Tch.below (seq_below hbw4A.out hGB.out) tS (seq_below hbw4A.out hGB.out).size (fun q e => by rw [e]; exact hbwk.out))
      have hbxw4B : Hid (w4B.heap[bk]? = some (.cells #[Value.int .i64 r.kind, .string r.name, .slice ea1 r.eps.length ec1, .slice ta1 r.tgts.length tc1, .string r.host, .slice ra r.rules.length rc, .string r.route, .bool r.del] 52 (0, 0))) := Lib.hid (by rw [hw4]; exact box_set hbx3.out)
      have hO3 := ownM_below hOw4A.out hGB.out
      have hOw4B := Lib.hid (ownM_tch hO3 tS (fun g hg e => by have := hne.out g hg; omega) (fun x hx g hg e => by
        rcases hg with q | q | q
        · exact row_block_ne (hO3.el x hx).e hbx3.out (by decide) g q e
        · exact row_block_ne (hO3.el x hx).t hbx3.out (by decide) g q e
        · exact row_block_ne (hO3.el x hx).ru hbx3.out (by decide) g q e))
      have hownA := Lib.hid (ownsRow_tch (ownsRow_tch hownA.out (Tch.of_below (S := No) hGB.out) (fun _ _ q => q)) tS (fun g hg e => row_block_ne (ownsRow_tch hownA.out (Tch.of_below (S := No) hGB.out) (fun _ _ q => q)) hbx3.out (by decide) g hg e))
      have hownB := Lib.hid (ownsRow_tch hrB.out tS (fun g hg e => row_block_ne hrB.out hbx3.out (by decide) g hg e))
      replace hw4 := Lib.hid hw4
      replace tS := Lib.hid tS
      replace hO3 := Lib.hid hO3
      clear fz cz gsB hbx3 gxB gyB
      have hrowC := Lib.hid (empty_row w4B w.heap.size hbw4B.out.size 101 4)
      have hsrcC := Lib.hid (hp.out.ru.below (seq_below hbw4B.out (alloc_below w4B (.cells #[] 101))))
      have hbAC := Lib.hid (seq_below hbw4B.out (alloc_below w4B (.cells #[] 101)))
      have hRC := Lib.hid (alloc_below w4B (.cells #[] 101))
      have hblsC : b < w4B.heap.size := Nat.lt_of_lt_of_le hbl'.out hbw4B.out.size
      have gxC : w4B.cell? ⟨bk, 5, none⟩ = some (.slice ra r.rules.length rc) := box_at hbxw4B.out rfl
      have gyC : (w4B.alloc (.cells #[] 101)).cell? ⟨bk, 5, none⟩ = some (.slice ra r.rules.length rc) := ((alloc_below w4B (.cells #[] 101)).cell (p := ⟨bk, 5, none⟩) (Array.getElem?_eq_some_iff.1 hbxw4B.out).1).trans gxC
      have gsC : w4B.cell? ⟨b, off + i * 8 + 5, none⟩ = some (.slice ra r.rules.length rc) := (hcc.out.below hbl'.out hbw4B.out).c5
      go_upto_region 9 with (first
        | (at_builtin; refine Rd.wp_append_src rulC (by rfl) _ _ 50 (by rfl) w.heap.size 101 i101 _ 56 Try.underlying50 h101.out h1010.out h1011.out h1012.out rfl _ 0 [] (by rfl) hrowC.out _ r.rules (by rfl) hsrcC.out limC.out.1 limC.out.2 hbAC.out.size ?_; intro v3 w3C hr3 hg3 hl3; obtain ⟨ra1, rc1, rfl⟩ := ownsRow_shape hr3; rw [Nat.zero_add, List.nil_append] at hr3; have hGC := Lib.hid (hRC.out.grown hg3 hRC.out.size (fun q hq => (by cases hq; exact Nat.le_refl _))); have hbx3 := (hGC.out.block bk (Array.getElem?_eq_some_iff.1 hbxw4B.out).1).trans hbxw4B.out; have fz := frozen_of_row _ bk 5 _ _ hbx3; have cz : w3C.cell? ⟨bk, 5, none⟩ = some (.slice ra r.rules.length rc) := box_at hbx3 rfl; replace hbx3 := Lib.hid hbx3; rw [Nat.zero_add]; have hrC := Lib.hid hr3; clear hr3 hg3 hl3)
        | fail)
      obtain ⟨w4C, hw4⟩ : ∃ w4, w4 = w3C.setCell ⟨bk, 5, none⟩ (.slice ra1 r.rules.length rc1) := ⟨_, rfl⟩
      rw [← hw4]
      have tS : Tch (fun q => q = bk) w3C w4C := by rw [hw4]; exact Tch.setCell (S := fun q => q = bk) w3C (p := ⟨bk, 5, none⟩) rfl _
      have hbw4C := Lib.hid (Tch.below (seq_below hbw4B.out hGC.out) tS (seq_below hbw4B.out hGC.out).size (fun q e => by rw [e]; exact hbwk.out))
      have hbxw4C : Hid (w4C.heap[bk]? = some (.cells #[Value.int .i64 r.kind, .string r.name, .slice ea1 r.eps.length ec1, .slice ta1 r.tgts.length tc1, .string r.host, .slice ra1 r.rules.length rc1, .string r.route, .bool r.del] 52 (0, 0))) := Lib.hid (by rw [hw4]; exact box_set hbx3.out)
      have hO3 := ownM_below hOw4B.out hGC.out
      have hOw4C := Lib.hid (ownM_tch hO3 tS (fun g hg e => by have := hne.out g hg; omega) (fun x hx g hg e => by
        rcases hg with q | q | q
        · exact row_block_ne (hO3.el x hx).e hbx3.out (by decide) g q e
        · exact row_block_ne (hO3.el x hx).t hbx3.out (by decide) g q e
        · exact row_block_ne (hO3.el x hx).ru hbx3.out (by decide) g q e))
      have hownA := Lib.hid (ownsRow_tch (ownsRow_tch hownA.out (Tch.of_below (S := No) hGC.out) (fun _ _ q => q)) tS (fun g hg e => row_block_ne (ownsRow_tch hownA.out (Tch.of_below (S := No) hGC.out) (fun _ _ q => q)) hbx3.out (by decide) g hg e))
      have hownB := Lib.hid (ownsRow_tch (ownsRow_tch hownB.out (Tch.of_below (S := No) hGC.out) (fun _ _ q => q)) tS (fun g hg e => row_block_ne (ownsRow_tch hownB.out (Tch.of_below (S := No) hGC.out) (fun _ _ q => q)) hbx3.out (by decide) g hg e))
      have hownC := Lib.hid (ownsRow_tch hrC.out tS (fun g hg e => row_block_ne hrC.out hbx3.out (by decide) g hg e))
      replace hw4 := Lib.hid hw4
      replace tS := Lib.hid tS
      replace hO3 := Lib.hid hO3
      clear fz cz gsC hbx3 gxC gyC
      have hN1 : L.length + 1 ≤ maxLen ∧ (L.length + 1) * 136 ≤ 140737488355328 := by
        have h1 : L.length ≤ i := by rw [← List.length_map (f := RV.r), hLi.out]; exact List.length_take_le _ _
        have h3 := hM.out.n
        unfold maxLen; omega
      obtain ⟨y0, y1, y2, y3, y4, y5, y6, y7⟩ : RC w4C bk 0 r (.slice ea1 r.eps.length ec1) (.slice ta1 r.tgts.length tc1) (.slice ra1 r.rules.length rc1) := rc_box (fun j u hu => box_at hbxw4C.out hu)
      replace hN1 := Lib.hid hN1
      go_wp2_with (first
        | (at_builtin; refine wp_append_us (us := rvc ⟨r, .slice ea1 r.eps.length ec1, .slice ta1 r.tgts.length tc1, .slice ra1 r.rules.length rc1⟩) (by rfl) _ _ 22 (by rfl) w.heap.size 52 i52 _ 8 136 Try.underlying22 h52.out h520.out h521.out h522.out rfl (by decide) _ L.length (L.flatMap rvc) (by rfl) hOw4C.out.row 1 (by rfl) rfl (by intro u hu; simp only [rvc, List.mem_cons, List.not_mem_nil, or_false] at hu; rcases hu with rfl | rfl | rfl | rfl | rfl | rfl | rfl | rfl <;> rfl) hN1.out.1 hN1.out.2 hbw4C.out.size ?_; intro v5 w5 hr5 hg5 hl5; replace hr5 := Lib.hid hr5; replace hg5 := Lib.hid hg5; replace hl5 := Lib.hid hl5)
        | fail)
      have t5 : Tch (fun q => (Value.slice oo L.length oc).ownBlock = some q) w4C w5 := Tch.grown hg5.out (fun q hq => .inl hq)
      have hO5 : Hid (OwnM w5 w.heap.size v5 (L ++ [⟨r, .slice ea1 r.eps.length ec1, .slice ta1 r.tgts.length tc1, .slice ra1 r.rules.length rc1⟩])) := Lib.hid ⟨by rw [List.length_append, List.flatMap_append]; simpa using hr5.out, fun x hx => by
        have hno : ∀ (e size n : Nat) (z : Value) (xs : List Value), w4C.ownsRow w.heap.size e size z n xs → e ≠ 52 → ∀ g, z.ownBlock = some g → ¬ (Value.slice oo L.length oc).ownBlock = some g := fun e size n z xs h he g hg hg2 => rows_apart h hOw4C.out.row he g hg hg2
        rcases List.mem_append.1 hx with hx | hx
        · have h := hOw4C.out.el x hx
          exact h.tch t5 (hno _ _ _ _ _ h.e (by decide)) (hno _ _ _ _ _ h.t (by decide)) (hno _ _ _ _ _ h.ru (by decide))
        · rw [List.mem_singleton.1 hx]
          exact ⟨ownsRow_tch hownA.out t5 (hno _ _ _ _ _ hownA.out (by decide)), ownsRow_tch hownB.out t5 (hno _ _ _ _ _ hownB.out (by decide)), ownsRow_tch hownC.out t5 (hno _ _ _ _ _ hownC.out (by decide)), ⟨w, _, _, _, hp.out⟩⟩⟩
      have hL5 : Hid ((L ++ [(⟨r, .slice ea1 r.eps.length ec1, .slice ta1 r.tgts.length tc1, .slice ra1 r.rules.length rc1⟩ : RV)]).map RV.r = l.take (i + 1)) := Lib.hid (by
        rw [List.map_append, hLi.out, List.take_succ_eq_append_getElem hlt, (List.getElem?_eq_some_iff.1 hr.out).2]; rfl)
      have hb5 := Lib.hid (hbw4C.out.grown hg5.out hbw4C.out.size (fun q hq => (ownsRow_ge hOw4C.out.row hq).1))
      replace t5 := Lib.hid t5
      go_wp2
      go_roundg (l.length - (i + 1) + 1)
      case rel => exact ⟨i + 1, _, rfl, hlt, by first | rw [hwk.out] | go_num, hL5, hO5, hb5⟩
      case measure => exact nn_downS hlt
    · have hk0 : decide ((i : Int) < (l.length : Int)) = false := decide_eq_false (by omega)
      have hil : l.take i = l := List.take_of_length_le (by omega)
      replace hil := Lib.hid hil
      have hLl : L.map RV.r = l := by rw [hLi.out, hil.out]
      have hLn : L.length = l.length := by rw [← hLl, List.length_map]
      have hlim : L.length + 1 ≤ maxLen ∧ (L.length + 1) * 136 ≤ 140737488355328 := by unfold maxLen; omega
      replace hLl := Lib.hid hLl
      replace hlim := Lib.hid hlim
      go_wp2_with (first
        | (at_builtin; go_loud (refine wp_append_us (us := rvc markV) (by rfl) _ _ 22 (by rfl) w.heap.size 52 i52 _ 8 136 Try.underlying22 h52.out h520.out h521.out h522.out rfl (by decide) _ L.length (L.flatMap rvc) (by rfl) hO.out.row 1 (by rfl) rfl (by intro u hu; simp only [rvc, List.mem_cons, List.not_mem_nil, or_false] at hu; rcases hu with rfl | rfl | rfl | rfl | rfl | rfl | rfl | rfl <;> rfl) hlim.out.1 hlim.out.2 hbw.out.size ?_); intro v5 w5 hr5 hg5 hl5; obtain ⟨o5, c5, rfl⟩ := ownsRow_shape hr5; obtain ⟨g5, hgg5, _, hcp5, _, _⟩ := ownsRow_cell hr5 (j := L.length * 8) (u := .int .i64 (-77)) (by have h1 := hO.out.row.1; rw [List.getElem?_append_right (by omega), h1, Nat.sub_self]; rfl); subst hgg5; have hc5 : (l.length : Int) ≤ (c5 : Int) := (by omega); replace hr5 := Lib.hid hr5; replace hg5 := Lib.hid hg5; replace hl5 := Lib.hid hl5)
        | fail)
      go_ret
      have hno : ∀ (e size n : Nat) (z : Value) (xs : List Value), wr.ownsRow w.heap.size e size z n xs → e ≠ 52 → ∀ g, z.ownBlock = some g → ¬ (Value.slice oo L.length oc).ownBlock = some g := fun e size n z xs h he g hg hg2 => rows_apart h hO.out.row he g hg hg2
      have t5 : Tch (fun q => (Value.slice oo L.length oc).ownBlock = some q) wr w5 := Tch.grown hg5.out (fun q hq => .inl hq)
      have hcp : l.length + 1 ≤ c5 := by omega
      refine ⟨g5, c5, L ++ [markV], rfl, hcp, by rw [List.map_append, hLl.out]; rfl, ⟨?_, fun x hx => ?_⟩, hbw.out.grown hg5.out hbw.out.size (fun q hq => (ownsRow_ge hO.out.row hq).1)⟩
      · have := hr5.out
        rw [List.length_append, List.flatMap_append, ← hLn]
        simpa using this
      · rcases List.mem_append.1 hx with hx | hx
        · have h := hO.out.el x hx
          exact h.tch t5 (hno _ _ _ _ _ h.e (by decide)) (hno _ _ _ _ _ h.t (by decide)) (hno _ _ _ _ _ h.ru (by decide))
        · rw [List.mem_singleton.1 hx]
          exact ⟨World.ownsRow_nil _ _ _ _, World.ownsRow_nil _ _ _ _, World.ownsRow_nil _ _ _ _, ⟨w5, .slice none 0 0, .slice none 0 0, .slice none 0 0, ⟨by decide, by decide, nil_slice w5, nil_slice w5, by decide, nil_slice w5, by decide⟩⟩⟩
end Go.Proofs.Ytjepgpocmnijiaa
end

section
/- What the tables want of the check and of the laws twin. -/
namespace Go.Proofs.Ytjepgpocmnijiaa
open Go.RowKit Go.Mp Go.Ck Fl
set_option linter.unusedVariables false
set_option maxRecDepth 100000
set_option maxHeartbeats 8000000
theorem check19w (l : List Res) (v : Value) (w : World) (hl : ResS w v l) (hM : listM l ≤ 1048576) : Calls Try.prog 19 #[v] w fun e w' => ∃ wv d n, e = .returned (.tuple #[wv, .agg #[.int .i64 d, .int .i64 n, .int .i64 (faultC l)]]) ∧ (faultC l = 0 → Cfg l) ∧ Below w.heap.size w w' := by
  refine (check19 l v w hl hM).mono ?_
  rintro e w' ⟨wv, f, ws, hc, rfl, _, hb⟩
  have he := hc.eq.1
  exact ⟨wv, f.1, f.2.1, by unfold faultC; rw [← he], fun h0 => cfg_of hl hM hc (by rw [he]; exact h0), hb⟩
theorem steps_lenw (l : List Shr) : (stepsS l).length ≤ l.length := by
  have h := stL_len l l.length
  rw [List.take_length] at h
  unfold stepsS lastOne
  split
  · rw [List.length_set]; exact h
  · exact h
theorem twin38w {l : List Res} {v : Value} {w : World} (hl : ResS w v l) (hM : listM l ≤ 1048576) : Calls Try.prog 38 #[v] w fun e w' => ∃ g c, e = .returned (.slice (some ⟨g, 0, none⟩) l.length c) ∧ l.length + 1 ≤ c ∧ ResS w' (.slice (some ⟨g, 0, none⟩) l.length c) l ∧ w'.cell? ⟨g, l.length * 8, none⟩ = some (.int .i64 (-77)) ∧ g < w'.heap.size ∧ Below w.heap.size w w' := by
  have hn := Nat.le_trans (len_le l) hM
  refine (twin38 l v w hl (sz_of hM) hn).mono ?_
  rintro e w' ⟨g, c, L, rfl, hc, hL, hO, hb⟩
  have hLn : L.length = l.length + 1 := by
    have := congrArg List.length hL
    rw [List.length_map, List.length_append] at this
    exact this
  have hr := hO.reads (by omega)
  rw [hL] at hr
  have h1 := slice_take hr (k := l.length) (by simp)
  rw [List.take_left] at h1
  have hx : L[l.length]? = some L[l.length] := List.getElem?_eq_getElem (by omega)
  have hxr : L[l.length].r = markR := by
    have := congrArg (fun q => q[l.length]?) hL
    simp only [List.getElem?_map, hx, Option.map_some] at this
    simpa using this
  obtain ⟨g', e1, _, _, e2, _⟩ := ownsRow_cell hO.row (j := l.length * 8) (u := .int .i64 (-77)) (by
    have h2 := Rd.flat_at rvc_len hx 0 (by decide)
    have h3 : (rvc L[l.length])[0]? = some (.int .i64 (-77)) := by unfold rvc; rw [hxr]; rfl
    exact h2.trans h3)
  simp only [Option.some.injEq, Addr.mk.injEq, and_true] at e1
  subst e1
  have hgl := (hO.row.lt g rfl).2
  exact ⟨g, c, rfl, hc, h1, e2, hgl, hb⟩
theorem nil_ofw {α : Type} (E : Rd.Elem α) (w : World) : Rd.SliceOf E w (.slice none 0 0) [] := ⟨by simp, none, 0, rfl, Nat.le_refl _, .inl rfl⟩
end Go.Proofs.Ytjepgpocmnijiaa
end

section

namespace Go.Proofs.Ytjepgpocmnijiaa
open Go.RowKit Go.Mp Go.Ck Go.Stab
set_option linter.unusedVariables false
set_option maxRecDepth 100000
set_option maxHeartbeats 8000000
theorem ins155n (w : World) : Calls Try.prog 155 #[.slice none 0 0, .int .i64 0, .int .i64 0, cmpF] w fun e w' => e = .returned (.tuple #[]) ∧ w = w' := by
  go_enter Try.func155, Try.ntmps155
  go_wp2
  go_loopg [8] 1 (fun gg ic wx => gg = 1 ∧ ic = .int .i64 1 ∧ Hid (w = wx))
  case atStart => exact ⟨rfl, rfl, Lib.hid rfl⟩
  case round =>
    obtain ⟨rfl, rfl, hw⟩ := hrel
    go_wp2
    refine bodyPost_end (results_none rfl _ _ _) rfl ?_
    exact ⟨rfl, hw.out⟩
theorem stable138n (w : World) : Calls Try.prog 138 #[.slice none 0 0, .int .i64 0, cmpF] w fun e w' => e = .returned (.tuple #[]) ∧ w = w' := by
  have hc := Lib.hid (ins155n w)
  go_enter Try.func138, Try.ntmps138
  go_wp2
  go_loopg [7, 8] 1 (fun gg ac bc wx => gg = 1 ∧ ac = .int .i64 0 ∧ bc = .int .i64 20 ∧ Hid (wx = w))
  case atStart => exact ⟨rfl, rfl, rfl, Lib.hid rfl⟩
  case round =>
    obtain ⟨rfl, rfl, rfl, hw⟩ := hrel
    have hc2 := hc.out
    rw [← hw.out] at hc2
    replace hc2 := Lib.hid hc2
    go_wp2_with (first
      | (go_at_call 155; (with_reducible refine hc2.out.mono ?_); rintro e wC ⟨rfl, rfl⟩)
      | fail)
    go_loopg [6] 1 (fun gg bc wx => gg = 1 ∧ bc = .int .i64 20 ∧ Hid (wx = w))
    case atStart => exact ⟨rfl, rfl, hw⟩
    case round =>
      clear hw hc2
      obtain ⟨rfl, rfl, hw⟩ := hrel
      go_wp2
      refine bodyPost_end (results_none rfl _ _ _) rfl ?_
      exact ⟨rfl, hw.out.symm⟩
theorem sort101n (w : World) : Calls Try.prog 101 #[.slice none 0 0, cmpF] w fun e w' => e = .returned (.tuple #[]) ∧ w = w' := by
  have hc := Lib.hid (stable138n w)
  go_enter Try.func101, Try.ntmps101
  go_wp2_with (first
    | (go_at_call 138; (with_reducible refine hc.out.mono ?_); rintro e wC ⟨rfl, rfl⟩)
    | fail)
  refine bodyPost_end (results_none rfl _ _ _) rfl ?_
  exact ⟨rfl, rfl⟩
theorem leH_eq {x y : HV} {h k : Hst} (h1 : x.host = h.host) (h2 : y.host = k.host) : leC cH x y = leH h k := by
  unfold leH
  rw [Bool.eq_iff_iff, leC_cH, decide_eq_true_iff]
  unfold cH
  rw [h1, h2]
theorem sorted_T (T : List (HV × Hst)) (h : ∀ p ∈ T, p.1.host = p.2.host) : ∃ T' : List (HV × Hst), T'.Perm T ∧ T'.map (·.1) = (T.map (·.1)).mergeSort (leC cH) ∧ T'.map (·.2) = (T.map (·.2)).mergeSort leH :=
  ⟨T.mergeSort fun p q => leC cH p.1 q.1, List.mergeSort_perm _ _, List.map_mergeSort (fun a _ b _ => rfl), List.map_mergeSort (fun a ha b hb => leH_eq (h a ha) (h b hb))⟩
theorem _root_.Go.Ck.HsT.all {w w' : World} {B : Nat} {v : Value} {T : List (HV × Hst)} {S : Nat → Prop} (h : HsT w B v T) (t : Tch S w w') (hs : ∀ k, B ≤ k → ¬ S k) : HsT w' B v T := ⟨ownsRow_tch h.row t (fun k q => hs k (h.row.lt k q).1), fun p hp => (h.el p hp).all t hs⟩
theorem _root_.Go.Ck.HsT.below {w w' : World} {B : Nat} {v : Value} {T : List (HV × Hst)} (h : HsT w B v T) (hb : Below w.heap.size w w') : HsT w' B v T := h.all (Tch.of_below (S := No) hb) (fun _ _ q => q)
theorem _root_.Go.Ck.EM.apart {w w' : World} {B B' e s n : Nat} {v : Value} {xs : List Value} {x : EV} {y : Ent} (h : EM w B x y) (hr : w.ownsRow B' e s v n xs) (h1 : e ≠ 73) (t : Tch (fun k => v.ownBlock = some k) w w') : EM w' B x y :=
  h.tch t (fun k q q2 => rows_apart h.sh.row hr (fun e => h1 e.symm) q q2)
theorem _root_.Go.Ck.HM.apart {w w' : World} {B B' e s n : Nat} {v : Value} {xs : List Value} {x : HV} {y : Hst} (h : HM w B x y) (hr : w.ownsRow B' e s v n xs) (h1 : e ≠ 73) (h2 : e ≠ 85) (h3 : e ≠ 99) (t : Tch (fun k => v.ownBlock = some k) w w') : HM w' B x y := by
  obtain ⟨T, hT, hE⟩ := h.es
  exact ⟨h.nm, h.rt, h.hs, h.rs, ⟨T, hT, ⟨ownsRow_tch hE.row t (fun k q q2 => rows_apart hE.row hr (fun e => h2 e.symm) q q2), fun p hp => (hE.el p hp).apart hr h1 t⟩⟩, ⟨ownsRow_tch h.ps.1 t (fun k q q2 => rows_apart h.ps.1 hr (fun e => h3 e.symm) q q2), h.ps.2⟩⟩
theorem _root_.Go.Ck.HM.box {w w' : World} {B g : Nat} {x : HV} {y : Hst} {cs : Array Value} {ty : TypeId} (h : HM w B x y) (hg : w.heap[g]? = some (.cells cs ty (0, 0))) (h1 : ty ≠ 73) (h2 : ty ≠ 85) (h3 : ty ≠ 99) (t : Tch (fun k => k = g) w w') : HM w' B x y := by
  obtain ⟨T, hT, hE⟩ := h.es
  exact ⟨h.nm, h.rt, h.hs, h.rs, ⟨T, hT, hE.tch hg h2 h1 t⟩, h.ps.tch hg h3 t⟩
theorem _root_.Go.Ck.HsT.box {w w' : World} {B g : Nat} {v : Value} {T : List (HV × Hst)} {cs : Array Value} {ty : TypeId} (h : HsT w B v T) (hg : w.heap[g]? = some (.cells cs ty (0, 0))) (h0 : ty ≠ 83) (h1 : ty ≠ 73) (h2 : ty ≠ 85) (h3 : ty ≠ 99) (t : Tch (fun k => k = g) w w') : HsT w' B v T :=
  ⟨ownsRow_tch h.row t (fun k q q2 => row_block_ne h.row hg (fun e => h0 e.symm) k q q2), fun p hp => (h.el p hp).box hg h1 h2 h3 t⟩
theorem _root_.Go.Ck.HsT.push {w w7 : World} {B : Nat} {v v7 : Value} {T : List (HV × Hst)} {x : HV} {y : Hst} (h : HsT w B v T) (hx : HM w B x y) (hr : w7.ownsRow B 83 4 v7 (T.length + 1) (hflat (T.map (·.1)) ++ hvc x)) (t : Tch (fun k => v.ownBlock = some k) w w7) : HsT w7 B v7 (T ++ [(x, y)]) :=
  ⟨by
    have e : hflat ((T ++ [(x, y)]).map (·.1)) = hflat (T.map (·.1)) ++ hvc x := by unfold hflat; rw [List.map_append, List.flatMap_append]; simp
    rw [e, List.length_append]; exact hr, fun p hp => by
    rcases List.mem_append.1 hp with q | q
    · exact (h.el p q).apart h.row (by decide) (by decide) (by decide) t
    · rw [List.mem_singleton.1 q]; exact hx.apart h.row (by decide) (by decide) (by decide) t⟩
theorem map_row {w : World} {kb : Nat} {M : ByteArray → Option Value} (h : MapS nameKey w kb M) {B e s n : Nat} {v : Value} {xs : List Value} (hr : w.ownsRow B e s v n xs) : v.ownBlock ≠ some kb := fun q => by
  obtain ⟨es, clock, hb, _⟩ := h
  obtain ⟨cur, hc⟩ := row_block hr q
  rw [hb] at hc; cases hc
theorem map_box {w : World} {kb g : Nat} {M : ByteArray → Option Value} (h : MapS nameKey w kb M) {cs : Array Value} {ty : TypeId} (hg : w.heap[g]? = some (.cells cs ty (0, 0))) : kb ≠ g := fun q => by
  obtain ⟨es, clock, hb, _⟩ := h
  rw [q, hg] at hb; cases hb
theorem ShM.apart {w w' : World} {B B' kb e s n : Nat} {l : List Res} {M : ByteArray → Option Value} {v : Value} {xs : List Value} (h : ShM w B kb l M) (hr : w.ownsRow B' e s v n xs) (h1 : e ≠ 73) (t : Tch (fun k => v.ownBlock = some k) w w') : ShM w' B kb l M :=
  ⟨h.m.tch t (map_row h.m hr), h.all, fun n u q => ⟨ownsRow_tch (h.own n u q).row t (fun k q1 q2 => rows_apart (h.own n u q).row hr (fun e => h1 e.symm) q1 q2), (h.own n u q).ok⟩⟩
theorem ShM.box {w w' : World} {B kb g : Nat} {l : List Res} {M : ByteArray → Option Value} {cs : Array Value} {ty : TypeId} (h : ShM w B kb l M) (hg : w.heap[g]? = some (.cells cs ty (0, 0))) (h1 : ty ≠ 73) (t : Tch (fun k => k = g) w w') : ShM w' B kb l M :=
  ⟨h.m.tch t (map_box h.m hg), h.all, fun n u q => ⟨ownsRow_tch (h.own n u q).row t (fun k q1 q2 => row_block_ne (h.own n u q).row hg (fun e => h1 e.symm) k q1 q2), (h.own n u q).ok⟩⟩
/-- The boxes of a compile. -/
structure TB (w wx : World) (zb tb : Nat) (ver : Int) (hv sv : Value) : Prop where
  bel : Below w.heap.size w wx
  gz : w.heap.size ≤ zb
  ge : w.heap.size ≤ tb
  d : zb ≠ tb
  z : wx.heap[zb]? = some (.cells #[.int .i64 0, .slice none 0 0, .slice none 0 0] 62)
  t : wx.heap[tb]? = some (.cells #[.int .i64 ver, hv, sv] 62)
theorem TB.below {w wx wy : World} {zb tb : Nat} {ver : Int} {hv sv : Value} (h : TB w wx zb tb ver hv sv) (hy : Below wx.heap.size wx wy) : TB w wy zb tb ver hv sv :=
  ⟨seq_below h.bel hy, h.gz, h.ge, h.d, (hy.block zb (Array.getElem?_eq_some_iff.1 h.z).1).trans h.z, (hy.block tb (Array.getElem?_eq_some_iff.1 h.t).1).trans h.t⟩
theorem TB.grow {w w5 w7 : World} {zb tb e size n : Nat} {ver : Int} {hv sv v : Value} {xs : List Value} (h : TB w w5 zb tb ver hv sv) (hr : w5.ownsRow w.heap.size e size v n xs) (h1 : e ≠ 62) (hg : w5.grownBy w7 v.ownBlock) : TB w w7 zb tb ver hv sv := by
  have t : Tch (fun k => v.ownBlock = some k) w5 w7 := Tch.grown hg (fun k q => .inl q)
  exact ⟨h.bel.grown hg h.bel.size (fun k hk => (hr.lt k hk).1), h.gz, h.ge, h.d, (t.block zb (Array.getElem?_eq_some_iff.1 h.z).1 (fun q => row_block_ne hr h.z h1 zb q rfl)).trans h.z, (t.block tb (Array.getElem?_eq_some_iff.1 h.t).1 (fun q => row_block_ne hr h.t h1 tb q rfl)).trans h.t⟩
theorem TB.tset {w wx : World} {zb tb : Nat} {ver : Int} {hv sv : Value} (h : TB w wx zb tb ver hv sv) (j : Nat) (u : Value) : Tch (fun k => k = tb) wx (wx.setCell ⟨tb, j, none⟩ u) := Tch.setCell (S := fun k => k = tb) wx (p := ⟨tb, j, none⟩) rfl u
theorem TB.set1 {w wx : World} {zb tb : Nat} {ver : Int} {hv sv : Value} (h : TB w wx zb tb ver hv sv) (u : Value) : TB w (wx.setCell ⟨tb, 1, none⟩ u) zb tb ver u sv :=
  ⟨Tch.below h.bel (h.tset 1 u) h.bel.size (fun k q => by rw [q]; exact h.ge), h.gz, h.ge, h.d, ((h.tset 1 u).block zb (Array.getElem?_eq_some_iff.1 h.z).1 h.d).trans h.z, box_set h.t⟩
theorem TB.set2 {w wx : World} {zb tb : Nat} {ver : Int} {hv sv : Value} (h : TB w wx zb tb ver hv sv) (u : Value) : TB w (wx.setCell ⟨tb, 2, none⟩ u) zb tb ver hv u :=
  ⟨Tch.below h.bel (h.tset 2 u) h.bel.size (fun k q => by rw [q]; exact h.ge), h.gz, h.ge, h.d, ((h.tset 2 u).block zb (Array.getElem?_eq_some_iff.1 h.z).1 h.d).trans h.z, box_set h.t⟩
/-- One host more. -/
theorem hstS {w w5 w7 : World} {zb tb kb Bs B : Nat} {ver : Int} {hv sv v7 Lv : Value} {Ln : Nat} {Lx : List Value} {T : List (HV × Hst)} {x : HV} {y : Hst} {l : List Res} {M : ByteArray → Option Value} (h : TB w w5 zb tb ver hv sv) (hT : HsT w5 w.heap.size hv T) (hx : HM w5 w.heap.size x y) (hS : ShM w5 Bs kb l M) (hL : w5.ownsRow B 52 8 Lv Ln Lx)
    (hr : w7.ownsRow w.heap.size 83 4 v7 (T.length + 1) (hflat (T.map (·.1)) ++ hvc x)) (hg : w5.grownBy w7 hv.ownBlock) :
    TB w w7 zb tb ver hv sv ∧ TB w (w7.setCell ⟨tb, 1, none⟩ v7) zb tb ver v7 sv ∧ HsT (w7.setCell ⟨tb, 1, none⟩ v7) w.heap.size v7 (T ++ [(x, y)]) ∧ ShM (w7.setCell ⟨tb, 1, none⟩ v7) Bs kb l M ∧ (w7.setCell ⟨tb, 1, none⟩ v7).ownsRow B 52 8 Lv Ln Lx := by
  have t : Tch (fun k => hv.ownBlock = some k) w5 w7 := Tch.grown hg (fun k q => .inl q)
  have h7 := h.grow hT.row (by decide) hg
  have hT7 := hT.push hx hr t
  have hS7 := hS.apart hT.row (by decide) t
  have hL7 := ownsRow_tch hL t (fun k q q2 => rows_apart hL hT.row (by decide) q q2)
  exact ⟨h7, h7.set1 v7, hT7.box h7.t (by decide) (by decide) (by decide) (by decide) (h7.tset 1 v7), hS7.box h7.t (by decide) (h7.tset 1 v7), ownsRow_tch hL7 (h7.tset 1 v7) (fun k q q2 => row_block_ne hL7 h7.t (by decide) k q q2)⟩
/-- One service more. -/
theorem svcS {w w5 w7 : World} {zb tb B : Nat} {ver : Int} {hv sv v7 Lv : Value} {Ln : Nat} {Lx : List Value} {T : List (HV × Hst)} {ss : List ByteArray} {s : ByteArray} (h : TB w w5 zb tb ver hv sv) (hT : HsT w5 w.heap.size hv T) (hSv : SvM w5 w.heap.size sv ss) (hs : s.size ≤ maxLen) (hL : w5.ownsRow B 52 8 Lv Ln Lx)
    (hr : w7.ownsRow w.heap.size 9 1 v7 (ss.length + 1) (ss.map .string ++ [.string s])) (hg : w5.grownBy w7 sv.ownBlock) :
    TB w w7 zb tb ver hv sv ∧ TB w (w7.setCell ⟨tb, 2, none⟩ v7) zb tb ver hv v7 ∧ HsT (w7.setCell ⟨tb, 2, none⟩ v7) w.heap.size hv T ∧ SvM (w7.setCell ⟨tb, 2, none⟩ v7) w.heap.size v7 (ss ++ [s]) ∧ (w7.setCell ⟨tb, 2, none⟩ v7).ownsRow B 52 8 Lv Ln Lx := by
  have t : Tch (fun k => sv.ownBlock = some k) w5 w7 := Tch.grown hg (fun k q => .inl q)
  have h7 := h.grow hSv.1 (by decide) hg
  have hT7 : HsT w7 w.heap.size hv T := ⟨ownsRow_tch hT.row t (fun k q q2 => rows_apart hT.row hSv.1 (by decide) q q2), fun p hp => (hT.el p hp).apart hSv.1 (by decide) (by decide) (by decide) t⟩
  have hL7 := ownsRow_tch hL t (fun k q q2 => rows_apart hL hSv.1 (by decide) q q2)
  refine ⟨h7, h7.set2 v7, hT7.box h7.t (by decide) (by decide) (by decide) (by decide) (h7.tset 2 v7), ⟨?_, fun u hu => ?_⟩, ownsRow_tch hL7 (h7.tset 2 v7) (fun k q q2 => row_block_ne hL7 h7.t (by decide) k q q2)⟩
  · rw [List.length_append, List.map_append]
    exact ownsRow_tch hr (h7.tset 2 v7) (fun k q q2 => row_block_ne hr h7.t (by decide) k q q2)
  · rcases List.mem_append.1 hu with q | q
    · exact hSv.2 u q
    · rw [List.mem_singleton.1 q]; exact hs
end Go.Proofs.Ytjepgpocmnijiaa
end
