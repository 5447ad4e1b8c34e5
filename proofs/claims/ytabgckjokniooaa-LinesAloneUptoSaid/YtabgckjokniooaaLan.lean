/- LinesAlone: the law walked. -/
import Derived.Test.YtabgckjokniooaaLow
import Derived.Test.YtabgckjokniooaaLqo
import Derived.Test.YtabgckjokniooaaLal
import Derived.Test.YtabgckjokniooaaLbd
namespace Go.Proofs.Ytabgckjokniooaa
open Go.RowKit Go.Ln Go.Mp Go.Tr
set_option linter.unusedVariables false
set_option maxRecDepth 100000
set_option maxHeartbeats 4000000
theorem countN_snoc (l : List UInt8) (c : UInt8) : countN (l ++ [c]) = countN l + if c = 10 then 1 else 0 := by
  unfold countN
  rw [List.filter_append, List.length_append]
  by_cases h : c = 10 <;> simp [h]
theorem countN_le (l : List UInt8) : countN l ≤ l.length := List.length_filter_le _ _
theorem byts_at {w : World} {b n c : Nat} {ao : Option Addr} {l : List UInt8} (h : BytS w b (.slice ao n c) l) {i : Nat} (hi : i < l.length) : ∃ off, ao = some ⟨b, off, none⟩ ∧ w.cell? ⟨b, off + i, none⟩ = some (.int .u8 (l[i].toNat : Int)) := by
  obtain ⟨ao, cap, e, _, _, h3⟩ := h
  cases e
  exact h3 i l[i] (by simp [hi])
/-- All that stands behind the three scans. -/
structure ASt (w : World) (o1 o2 o3 : Option Addr) (c1 c2 c3 g1 g2 g3 : Nat) (ts1 ts2 ts3 : List Tk) (F1 F2 F3 : Nat × Nat × Int) (B1 B2 B3 : Nat) (wx : World) : Prop where
  r1 : tkRow wx B1 (.slice o1 ts1.length c1) ts1
  r2 : tkRow wx B2 (.slice o2 ts2.length c2) ts2
  r3 : tkRow wx B3 (.slice o3 ts3.length c3) ts3
  b1 : wx.heap[g1]? = some (.cells #[.int .i64 F1.1, .int .i64 F1.2.1, .int .i64 F1.2.2] 27 (0, 0))
  b2 : wx.heap[g2]? = some (.cells #[.int .i64 F2.1, .int .i64 F2.2.1, .int .i64 F2.2.2] 27 (0, 0))
  b3 : wx.heap[g3]? = some (.cells #[.int .i64 F3.1, .int .i64 F3.2.1, .int .i64 F3.2.2] 27 (0, 0))
  bel : Below w.heap.size w wx
theorem ASt.tch {w : World} {o1 o2 o3 : Option Addr} {c1 c2 c3 g1 g2 g3 : Nat} {ts1 ts2 ts3 : List Tk} {F1 F2 F3 : Nat × Nat × Int} {B1 B2 B3 : Nat} {wx wy : World} (h : ASt w o1 o2 o3 c1 c2 c3 g1 g2 g3 ts1 ts2 ts3 F1 F2 F3 B1 B2 B3 wx) (t : Tch No wx wy) : ASt w o1 o2 o3 c1 c2 c3 g1 g2 g3 ts1 ts2 ts3 F1 F2 F3 B1 B2 B3 wy :=
  ⟨ownsRow_tch h.r1 t (fun _ _ h => h), ownsRow_tch h.r2 t (fun _ _ h => h), ownsRow_tch h.r3 t (fun _ _ h => h), (t.block _ (heap_lt h.b1) id).trans h.b1, (t.block _ (heap_lt h.b2) id).trans h.b2, (t.block _ (heap_lt h.b3) id).trans h.b3, Tch.below h.bel t h.bel.size (fun _ h => h.elim)⟩
/-- What the three texts come to. -/
inductive Three (one two : List UInt8) : Prop
  | long (h : 65536 < (one ++ 10 :: two).length) (hF : sF (one ++ 10 :: two) = (0, 0, 3)) (hT : sTs (one ++ 10 :: two) = [])
  | bad1 (h : (one ++ 10 :: two).length ≤ 65536) (h1 : (sF one).2.2 ≠ 0) (hF : sF (one ++ 10 :: two) = sF one) (hT : sTs (one ++ 10 :: two) = []) (hT1 : sTs one = [])
  | bad2 (h : (one ++ 10 :: two).length ≤ 65536) (h1 : (sF one).2.2 = 0) (h2 : (sF two).2.2 ≠ 0) (hF : sF (one ++ 10 :: two) = dropF (docsIn (sTs one)) (countN one + 1) (sF two)) (hT : sTs (one ++ 10 :: two) = []) (hT2 : sTs two = [])
  | good (h : (one ++ 10 :: two).length ≤ 65536) (h1 : (sF one).2.2 = 0) (h2 : (sF two).2.2 = 0) (hF : (sF (one ++ 10 :: two)).2.2 = 0) (hT : sTs (one ++ 10 :: two) = sTs one ++ (sTs two).map (Tk.down (countN one + 1 : Nat)))
theorem sF_none {t : List UInt8} (h : (scan t).2 = none) : sF t = (0, 0, 0) := by unfold sF; rw [h]
theorem sF_some {t : List UInt8} {f : Nat × Nat × Int} (h : (scan t).2 = some f) : sF t = f := by unfold sF; rw [h]
theorem sT_none {t : List UInt8} (h : (scan t).2 = none) : sTs t = (scan t).1 := by unfold sTs; rw [h]
theorem sT_some {t : List UInt8} {f : Nat × Nat × Int} (h : (scan t).2 = some f) : sTs t = [] := by unfold sTs; rw [h]
theorem three (one two : List UInt8) : Three one two := by
  by_cases hl : (one ++ 10 :: two).length ≤ 65536
  · have ha := scan_alone hl
    cases h1 : (scan one).2 with
    | some f =>
      rw [h1] at ha
      have h3 : (scan (one ++ 10 :: two)).2 = some f := by rw [ha]
      exact .bad1 hl (by rw [sF_some h1]; exact scan_err h1) (by rw [sF_some h1, sF_some h3]) (sT_some h3) (sT_some h1)
    | none =>
      rw [h1] at ha
      dsimp only at ha
      cases h2 : (scan two).2 with
      | some g =>
        have h3 : (scan (one ++ 10 :: two)).2 = some (dropF (docsIn (scan one).1) (countN one + 1) g) := by rw [ha, h2]; rfl
        exact .bad2 hl (by rw [sF_none h1]) (by rw [sF_some h2]; exact scan_err h2) (by rw [sF_some h2, sF_some h3, sT_none h1]) (sT_some h3) (sT_some h2)
      | none =>
        have h3 : (scan (one ++ 10 :: two)).2 = none := by rw [ha, h2]; rfl
        exact .good hl (by rw [sF_none h1]) (by rw [sF_none h2]) (by rw [sF_none h3]) (by rw [sT_none h3, sT_none h1, sT_none h2, ha])
  · have h3 : scan (one ++ 10 :: two) = ([], some (0, 0, 3)) := by unfold scan; rw [if_pos (by omega)]
    exact .long (by omega) (sF_some (by rw [h3])) (sT_some (f := (0, 0, 3)) (by rw [h3]))
theorem docs_le (ts : List Tk) : docsIn ts ≤ ts.length := List.length_filter_le _ _
theorem alone_walk (b1 b2 : Nat) (v1 v2 : Value) (one two : List UInt8) (w : World) (m : Int) (hby1 : BytS w b1 v1 one) (hb1 : b1 < w.heap.size) (hby2 : BytS w b2 v2 two) (hb2 : b2 < w.heap.size) (hl1 : one.length ≤ 1048576) (hl2 : two.length ≤ 1048576) (hm : w.cell? ⟨0, 0, none⟩ = some (.int .i64 m)) :
    Calls Try.prog 3 #[v1, v2] w fun e w' => e = .returned (.bool true) ∧ Below w.heap.size w w' := by
  obtain ⟨ao1, cap1, rfl⟩ := hby1.shape
  obtain ⟨ao2, cap2, rfl⟩ := hby2.shape
  obtain ⟨ob, ho, _⟩ := cell_obj hm
  have h0w := heap_lt ho
  obtain ⟨i5, hi5, hz50, hz51, hz52⟩ := info_parts info5
  have hA := awake_any w m hm
  obtain ⟨F1d, F1l, F1e, hF1⟩ : ∃ Fd Fl Fe, sF one = (Fd, Fl, Fe) := ⟨_, _, _, rfl⟩
  obtain ⟨F2d, F2l, F2e, hF2⟩ : ∃ Fd Fl Fe, sF two = (Fd, Fl, Fe) := ⟨_, _, _, rfl⟩
  obtain ⟨F3d, F3l, F3e, hF3⟩ : ∃ Fd Fl Fe, sF (one ++ 10 :: two) = (Fd, Fl, Fe) := ⟨_, _, _, rfl⟩
  obtain ⟨ts1, ht1⟩ : ∃ ts, sTs one = ts := ⟨_, rfl⟩
  obtain ⟨ts2, ht2⟩ : ∃ ts, sTs two = ts := ⟨_, rfl⟩
  obtain ⟨ts3, ht3⟩ : ∃ ts, sTs (one ++ 10 :: two) = ts := ⟨_, rfl⟩
  have hS1 := fun b v wx h1 h2 h3 => scanD (m := m) hF1 ht1 b v wx h1 h2 h3
  have hS2 := fun b v wx h1 h2 h3 => scanD (m := m) hF2 ht2 b v wx h1 h2 h3
  have hS3 := fun b v wx h1 h2 h3 => scanD (m := m) hF3 ht3 b v wx h1 h2 h3
  have hcell : ∀ wx, Below w.heap.size w wx → wx.cell? ⟨0, 0, none⟩ = some (.int .i64 m) := fun wx hB => (hB.cell (p := ⟨0, 0, none⟩) h0w).trans hm
  have hk1 : ∀ wx, Below w.heap.size w wx → BytS wx b1 (.slice ao1 one.length cap1) one := fun wx hB => hby1.keep (hB.block b1 hb1)
  have hk2 : ∀ wx, Below w.heap.size w wx → BytS wx b2 (.slice ao2 two.length cap2) two := fun wx hB => hby2.keep (hB.block b2 hb2)
  have htl1 : ts1.length ≤ 200000 := by rw [← ht1]; exact sTs_len one
  have htl2 : ts2.length ≤ 200000 := by rw [← ht2]; exact sTs_len two
  have h3 := three one two
  replace hi5 := Lib.hid hi5
  replace hz50 := Lib.hid hz50
  replace hz51 := Lib.hid hz51
  replace hz52 := Lib.hid hz52
  replace hA := Lib.hid hA
  replace hby1 := Lib.hid hby1
  replace hby2 := Lib.hid hby2
  replace hm := Lib.hid hm
  replace ho := Lib.hid ho
  replace hl1 := Lib.hid hl1
  replace hl2 := Lib.hid hl2
  replace hS1 := Lib.hid hS1
  replace hS2 := Lib.hid hS2
  replace hS3 := Lib.hid hS3
  replace hF1 := Lib.hid hF1
  replace hF2 := Lib.hid hF2
  replace hF3 := Lib.hid hF3
  replace ht1 := Lib.hid ht1
  replace ht2 := Lib.hid ht2
  replace ht3 := Lib.hid ht3
  replace hcell := Lib.hid hcell
  replace hk1 := Lib.hid hk1
  replace hk2 := Lib.hid hk2
  replace htl1 := Lib.hid htl1
  replace htl2 := Lib.hid htl2
  replace h3 := Lib.hid h3
  go_enter Try.func3, Try.ntmps3
  go_upto_region 4 with (first
    | (go_at_call 6; refine hA.out.mono ?_; rintro e w1 ⟨rfl, hb1⟩; have hby1 := Lib.hid (hk1.out _ (hb1.alloc hb1.size (.cells #[] 5))); replace hb1 := Lib.hid hb1)
    | (at_builtin; refine wp_append_byts rfl _ _ (by rfl) w1.heap.size b1 i5 hi5.out hz50.out hz51.out hz52.out _ [] (by rfl) (row_empty w1 w1.heap.size (Nat.le_refl _)) _ one (by rfl) hby1.out (by rw [List.length_nil, Nat.zero_add]; exact Nat.le_trans hl1.out (by decide)) (by simp) ?_; intro v2 w2 hr2 hg2 hl2; clear hby1; obtain ⟨hr2', hb2, hb12, ib, hin, hib⟩ := copied hb1.out hr2 hg2; obtain ⟨io, ic, rfl⟩ := ownsRow_shape hr2'; have hs4 := Lib.hid (hS1.out ib _ w2 hin hib (hcell.out w2 hb2)); clear hr2 hg2 hl2 hr2' hb12 hin hib; replace hb2 := Lib.hid hb2)
    | (go_at_call 7; (with_reducible refine hs4.out.mono ?_); rintro e w3 ⟨O1, rfl, hr3, hb3⟩; obtain ⟨o1, c1, rfl⟩ := ownsRow_shape hr3; clear hs4; replace hb3 := Lib.hid hb3; replace hr3 := Lib.hid hr3)
    | fail)
  have hB4 : Below w.heap.size w (w3.alloc (.cells #[.int .i64 F1d, .int .i64 F1l, .int .i64 F1e] 27)) := (hb2.out.trans (hb3.out.mono hb2.out.size)).alloc (by have h1 := hb2.out.size; have h2 := hb3.out.size; omega) _
  have hR1 : tkRow (w3.alloc (.cells #[.int .i64 F1d, .int .i64 F1l, .int .i64 F1e] 27)) w2.heap.size (.slice o1 ts1.length c1) ts1 := ownsRow_tch hr3.out (Tch.alloc No _ _) (fun _ _ h => h)
  have hX1 := heap_alloc_new w3 (.cells #[.int .i64 F1d, .int .i64 F1l, .int .i64 F1e] 27)
  obtain ⟨w4, hw4⟩ : ∃ w4, w4 = w3.alloc (.cells #[.int .i64 F1d, .int .i64 F1l, .int .i64 F1e] 27) := ⟨_, rfl⟩
  rw [← hw4] at hB4 hR1 hX1 ⊢
  clear hw4
  have hby2 := Lib.hid (hk2.out _ (hB4.alloc hB4.size (.cells #[] 5)))
  replace hB4 := Lib.hid hB4
  replace hR1 := Lib.hid hR1
  replace hX1 := Lib.hid hX1
  go_upto_region 5 with (first
    | (at_builtin; refine wp_append_byts rfl _ _ (by rfl) w4.heap.size b2 i5 hi5.out hz50.out hz51.out hz52.out _ [] (by rfl) (row_empty w4 w4.heap.size (Nat.le_refl _)) _ two (by rfl) hby2.out (by rw [List.length_nil, Nat.zero_add]; exact Nat.le_trans hl2.out (by decide)) (by simp) ?_; intro v5 w5 hr5 hg5 hl5; clear hby2; obtain ⟨hr5', hb5, hb45, jb, hjn, hjb⟩ := copied hB4.out hr5 hg5; obtain ⟨jo, jc, rfl⟩ := ownsRow_shape hr5'; have hs6 := Lib.hid (hS2.out jb _ w5 hjn hjb (hcell.out w5 hb5)); clear hr5 hg5 hl5 hr5' hjn hjb; replace hb5 := Lib.hid hb5; replace hb45 := Lib.hid hb45)
    | (go_at_call 7; (with_reducible refine hs6.out.mono ?_); rintro e w6 ⟨O2, rfl, hr6, hb6⟩; obtain ⟨o2, c2, rfl⟩ := ownsRow_shape hr6; clear hs6; replace hb6 := Lib.hid hb6; replace hr6 := Lib.hid hr6)
    | fail)
  have hB47 : Below w4.heap.size w4 (w6.alloc (.cells #[.int .i64 F2d, .int .i64 F2l, .int .i64 F2e] 27)) := (hb45.out.trans (hb6.out.mono hb45.out.size)).alloc (by have h1 := hb45.out.size; have h2 := hb6.out.size; omega) _
  have hB7 := hB4.out.trans (hB47.mono hB4.out.size)
  have hR2 : tkRow (w6.alloc (.cells #[.int .i64 F2d, .int .i64 F2l, .int .i64 F2e] 27)) w5.heap.size (.slice o2 ts2.length c2) ts2 := ownsRow_tch hr6.out (Tch.alloc No _ _) (fun _ _ h => h)
  have hX2 := heap_alloc_new w6 (.cells #[.int .i64 F2d, .int .i64 F2l, .int .i64 F2e] 27)
  have hR1' : tkRow (w6.alloc (.cells #[.int .i64 F2d, .int .i64 F2l, .int .i64 F2e] 27)) w2.heap.size (.slice o1 ts1.length c1) ts1 := ownsRow_tch hR1.out (Tch.of_below hB47 : Tch No _ _) (fun _ _ h => h)
  have hX1' := (hB47.block _ (heap_lt hX1.out)).trans hX1.out
  obtain ⟨w7, hw7⟩ : ∃ w7, w7 = w6.alloc (.cells #[.int .i64 F2d, .int .i64 F2l, .int .i64 F2e] 27) := ⟨_, rfl⟩
  rw [← hw7] at hB7 hR1' hX1' hR2 hX2 ⊢
  clear hw7 hB47 hR1 hX1 hb45
  have hby1 := Lib.hid (hk1.out _ (hB7.alloc hB7.size (.cells #[] 5)))
  replace hB7 := Lib.hid hB7
  replace hR1' := Lib.hid hR1'
  replace hX1' := Lib.hid hX1'
  replace hR2 := Lib.hid hR2
  replace hX2 := Lib.hid hX2
  go_upto_region 7 with (first
    | (at_builtin; refine wp_append_byts rfl _ _ (by rfl) w7.heap.size b1 i5 hi5.out hz50.out hz51.out hz52.out _ [] (by rfl) (row_empty w7 w7.heap.size (Nat.le_refl _)) _ one (by rfl) hby1.out (by rw [List.length_nil, Nat.zero_add]; exact Nat.le_trans hl1.out (by decide)) (by simp) ?_; intro v8 w8 hr8 hg8 hl8; clear hby1; obtain ⟨hr8', hb8, hb78, kb, hkn, hkb⟩ := copied hB7.out hr8 hg8; obtain ⟨ko, kc, rfl⟩ := ownsRow_shape hr8'; clear hr8 hg8 hl8 hkn hkb; replace hr8' := Lib.hid hr8'; replace hb8 := Lib.hid hb8; replace hb78 := Lib.hid hb78)
    | (at_builtin; refine wp_append_new rfl _ _ (by rfl) w7.heap.size i5 hi5.out hz50.out hz51.out hz52.out _ one one.length rfl (by rfl) hr8'.out [10] 1 1 (by rfl) rfl (by rfl) (by have := hl1.out; omega) hb78.out.size ?_; intro v9 w9 hr9 hg9; obtain ⟨po, pc, rfl⟩ := ownsRow_shape hr9; replace hr9 := Lib.hid hr9; replace hg9 := Lib.hid hg9)
    | fail)
  have hb79 := hb78.out.grown hg9.out hb78.out.size (fun k hk => (ownsRow_ge hr8'.out hk).1)
  have hB9 := hB7.out.trans (hb79.mono hB7.out.size)
  have hby9 := hk1.out _ hB9
  have hr9' : w9.ownsRow w7.heap.size 5 1 (.slice po (one.length + 1) pc) (one ++ [10]).length (vbs (one ++ [10])) := by rw [List.length_append]; exact hr9.out
  clear hr9 hr8' hg9
  replace hb79 := Lib.hid hb79
  replace hB9 := Lib.hid hB9
  replace hby9 := Lib.hid hby9
  replace hr9' := Lib.hid hr9'
  go_wp2
  go_loopg [10, 12] (one.length + 1) (fun gg nv iv wr => ∃ i : Nat, gg = one.length - i + 1 ∧ nv = .int .i64 ((1 + countN (one.take i) : Nat) : Int) ∧ iv = .int .i64 i ∧ i ≤ one.length ∧ wr = w9)
  case atStart => exact ⟨0, rfl, rfl, rfl, Nat.zero_le _, rfl⟩
  case round =>
    obtain ⟨i, rfl, rfl, rfl, hil, rfl⟩ := hrel
    by_cases hlt : i < one.length
    · have k0 := nn_lt2 hlt
      obtain ⟨off, rfl, e0⟩ := byts_at hby9.out hlt
      have hwk := Lib.hid (nn_wrap hlt (by have := hl1.out; omega))
      have hcn : Hid (countN (one.take (i + 1)) = countN (one.take i) + if one[i] = 10 then 1 else 0) := Lib.hid (by rw [List.take_succ_eq_append_getElem hlt]; exact countN_snoc _ _)
      have hcb : Hid (countN (one.take i) ≤ 1048576) := Lib.hid (Nat.le_trans (countN_le _) (by have := hl1.out; rw [List.length_take]; omega))
      obtain ⟨c, hc⟩ : ∃ c, c = one[i] := ⟨_, rfl⟩
      rw [← hc] at e0 hcn
      obtain ⟨k, hk⟩ : ∃ k, k = 1 + countN (one.take i) := ⟨_, rfl⟩
      rw [← hk]
      obtain ⟨x, hx⟩ : ∃ x : Int, x = (c.toNat : Int) := ⟨_, rfl⟩
      rw [← hx] at e0
      by_cases h10 : c = 10
      · have hx10 : x = 10 := by rw [hx, h10]; rfl
        clear hx
        subst hx10
        have hwn : Hid (wrap64 ((k : Int) + 1) = ((1 + countN (one.take (i + 1)) : Nat) : Int)) := Lib.hid (by rw [hcn.out, if_pos h10, hk]; have := hcb.out; unfold wrap64; omega)
        replace hil := Lib.hid hil
        replace hlt := Lib.hid hlt
        replace h10 := Lib.hid h10
        replace hc := Lib.hid hc
        replace hk := Lib.hid hk
        go_wp2
        go_roundg (one.length - (i + 1) + 1)
        case rel => exact ⟨i + 1, rfl, by rw [hwn.out], by rw [hwk.out], hlt.out, rfl⟩
        case measure => exact nn_down hlt.out
      · have hx10 : decide (x = 10) = false := decide_eq_false (by intro h; rw [hx] at h; exact h10 (UInt8.toNat_inj.1 (by rw [show (10 : UInt8).toNat = 10 from rfl]; omega)))
        have hx11 : ¬ x = 10 := of_decide_eq_false hx10
        have hwn : Hid (k = 1 + countN (one.take (i + 1))) := Lib.hid (by rw [hk, hcn.out, if_neg h10, Nat.add_zero])
        replace hil := Lib.hid hil
        replace hlt := Lib.hid hlt
        replace h10 := Lib.hid h10
        replace hc := Lib.hid hc
        replace hk := Lib.hid hk
        replace hx := Lib.hid hx
        go_wp2
        go_roundg (one.length - (i + 1) + 1)
        case rel => exact ⟨i + 1, rfl, by rw [hwn.out], by rw [hwk.out], hlt.out, rfl⟩
        case measure => exact nn_down hlt.out
    · have k0 := nn_ge2 hlt
      have k1 : decide (i < one.length) = false := decide_eq_false hlt
      obtain ⟨n, hn⟩ : ∃ n, n = 1 + countN (one.take i) := ⟨_, rfl⟩
      rw [← hn]
      rw [show i = one.length by omega, List.take_length] at hn
      have hby2 := Lib.hid (hk2.out _ hB9.out)
      replace hlt := Lib.hid hlt
      replace hil := Lib.hid hil
      replace hn := Lib.hid hn
      go_upto_region 15 with (first
        | (at_builtin; (refine wp_append_byts rfl _ _ (by rfl) w7.heap.size b2 i5 hi5.out hz50.out hz51.out hz52.out _ (one ++ [10]) (by rfl) hr9'.out _ two (by rfl) hby2.out (by have := hl1.out; have := hl2.out; rw [List.length_append, List.length_singleton]; omega) hb79.out.size ?_); (intro v10 w10 hr10 hg10 hl10); (obtain ⟨q, hq⟩ : ∃ q, q = (one ++ [10]).length + two.length := ⟨_, rfl⟩); (rw [← hq] at hr10); (obtain ⟨qo, qc, rfl⟩ := ownsRow_shape hr10); (have hb710 := hb79.out.grown hg10 hb79.out.size (fun k hk => (ownsRow_ge hr9'.out hk).1)); (have hB10 := hB7.out.trans (hb710.mono hB7.out.size)); (have hr10' : w10.ownsRow w7.heap.size 5 1 (.slice qo q qc) q (vbs (one ++ 10 :: two)) := by (rw [show one ++ 10 :: two = (one ++ [10]) ++ two by simp]; exact hr10)); (have hqT : q = (one ++ 10 :: two).length := by (rw [hq]; simp; omega)); (obtain ⟨kb, hkn, hkb, _⟩ := row_byts hr10' hqT); (have hs12 := Lib.hid (hS3.out kb _ w10 hkn hkb (hcell.out w10 hB10))); (clear hr10 hg10 hl10 hkn hkb hr10' hq hby2); (replace hqT := Lib.hid hqT); (replace hb710 := Lib.hid hb710); (replace hB10 := Lib.hid hB10))
        | (go_at_call 7; (with_reducible refine hs12.out.mono ?_); rintro e w11 ⟨O3, rfl, hr11, hb11⟩; obtain ⟨o3, c3, rfl⟩ := ownsRow_shape hr11; clear hs12; replace hb11 := Lib.hid hb11; replace hr11 := Lib.hid hr11)
        | fail)
      have hb712 : Below w7.heap.size w7 (w11.alloc (.cells #[.int .i64 F3d, .int .i64 F3l, .int .i64 F3e] 27)) := (hb710.out.trans (hb11.out.mono hb710.out.size)).alloc (by have h1 := hb710.out.size; have h2 := hb11.out.size; omega) _
      have hst : ASt w o1 o2 o3 c1 c2 c3 w3.heap.size w6.heap.size w11.heap.size ts1 ts2 ts3 (F1d, F1l, F1e) (F2d, F2l, F2e) (F3d, F3l, F3e) w2.heap.size w5.heap.size w10.heap.size (w11.alloc (.cells #[.int .i64 F3d, .int .i64 F3l, .int .i64 F3e] 27)) :=
        { r1 := ownsRow_tch hR1'.out (Tch.of_below hb712 : Tch No _ _) (fun _ _ h => h)
          r2 := ownsRow_tch hR2.out (Tch.of_below hb712 : Tch No _ _) (fun _ _ h => h)
          r3 := ownsRow_tch hr11.out (Tch.alloc No _ _) (fun _ _ h => h)
          b1 := (hb712.block _ (heap_lt hX1'.out)).trans hX1'.out
          b2 := (hb712.block _ (heap_lt hX2.out)).trans hX2.out
          b3 := heap_alloc_new w11 _
          bel := hB7.out.trans (hb712.mono hB7.out.size) }
      obtain ⟨w12, hw12⟩ : ∃ w12, w12 = w11.alloc (.cells #[.int .i64 F3d, .int .i64 F3l, .int .i64 F3e] 27) := ⟨_, rfl⟩
      rw [← hw12] at hst ⊢
      clear hw12 hb712 hr11 hb11 hb710 hb79 hr9' hR1' hR2 hX1' hX2 hby9 hB9 hB10 hB7
      replace hst := Lib.hid hst
      have hb1 := cell_of_row _ _ 0 _ _ _ hst.out.b1
      have hb1l := cell_of_row _ _ 1 _ _ _ hst.out.b1
      have hb1e := cell_of_row _ _ 2 _ _ _ hst.out.b1
      have hb2 := cell_of_row _ _ 0 _ _ _ hst.out.b2
      have hb2l := cell_of_row _ _ 1 _ _ _ hst.out.b2
      have hb2e := cell_of_row _ _ 2 _ _ _ hst.out.b2
      have hb3 := cell_of_row _ _ 0 _ _ _ hst.out.b3
      have hb3l := cell_of_row _ _ 1 _ _ _ hst.out.b3
      have hb3e := cell_of_row _ _ 2 _ _ _ hst.out.b3
      by_cases hlong : 65536 < q
      · have hcase : (F3d, F3l, F3e) = ((0, 0, 3) : Nat × Nat × Int) ∧ ts3 = [] := by
          have hq' := hqT.out
          rcases h3.out with ⟨h, hF, hT⟩ | ⟨h, _⟩ | ⟨h, _⟩ | ⟨h, _⟩
          · exact ⟨by rw [← hF3.out]; exact hF, by rw [← ht3.out]; exact hT⟩
          · omega
          · omega
          · omega
        obtain ⟨he, rfl⟩ := hcase
        cases he
        have k2 : (65536 : Int) < (q : Int) := by omega
        replace hlong := Lib.hid hlong
        go_wp2
        go_ret
        exact ⟨by simp, hst.out.bel⟩
      · have k2 : decide ((65536 : Int) < (q : Int)) = false := decide_eq_false (by omega)
        by_cases h1 : F1e = 0
        · subst h1
          have hcase : (F2e ≠ 0 ∧ (F3d, F3l, F3e) = dropF (docsIn ts1) n (F2d, F2l, F2e) ∧ ts3 = [] ∧ ts2 = []) ∨ (F2e = 0 ∧ F3e = 0 ∧ ts3 = ts1 ++ ts2.map (Tk.down (n : Nat))) := by
            have hq' := hqT.out
            have hn' : n = countN one + 1 := by rw [hn.out]; omega
            have e1 := hF1.out
            have e2 := hF2.out
            have e3 := hF3.out
            rw [hn', ← ht1.out, ← ht2.out, ← ht3.out]
            rcases h3.out with ⟨h, _⟩ | ⟨h, h1, _⟩ | ⟨h, h1, h2, hF, hT, hT2⟩ | ⟨h, h1, h2, hF, hT⟩
            · omega
            · rw [e1] at h1; exact absurd rfl h1
            · rw [e2] at h2; exact .inl ⟨h2, by rw [← e3, ← e2]; exact hF, hT, hT2⟩
            · rw [e2] at h2; rw [e3] at hF; exact .inr ⟨h2, hF, hT⟩
          have hn64 : n ≤ 1048577 := by have := hn.out; have := countN_le one; have := hl1.out; omega
          have hd2 : F2d ≤ 65537 ∧ F2l ≤ 65537 := by have := sF_in two; rw [hF2.out] at this; exact this
          have hsl : ∀ t ∈ ts2, 0 ≤ t.line ∧ t.line ≤ 65537 := by rw [← ht2.out]; exact sT_in
          replace hlong := Lib.hid hlong
          replace hcase := Lib.hid hcase
          replace hn64 := Lib.hid hn64
          replace hd2 := Lib.hid hd2
          replace hsl := Lib.hid hsl
          go_wp2
          clear k0 k1
          go_loopg [11, 15] (ts1.length + 1) (fun gg dv iv wr => ∃ i : Nat, gg = ts1.length - i + 1 ∧ dv = .int .i64 (docsIn (ts1.take i)) ∧ iv = .int .i64 i ∧ i ≤ ts1.length ∧ wr = w12)
          case atStart => exact ⟨0, rfl, rfl, rfl, Nat.zero_le _, rfl⟩
          case round =>
            obtain ⟨i, rfl, rfl, rfl, hil, rfl⟩ := hrel
            by_cases hlt : i < ts1.length
            · have k0 := nn_lt2 hlt
              have hwk := Lib.hid (nn_wrap hlt (by have := htl1.out; omega))
              have hxi := List.getElem?_eq_getElem hlt
              have hcn : Hid (docsIn (ts1.take (i + 1)) = docsIn (ts1.take i) + if ts1[i].kind = 1 then 1 else 0) := Lib.hid (by rw [List.take_succ_eq_append_getElem hlt]; exact docsIn_snoc _ _)
              have hcb : Hid (docsIn (ts1.take i) ≤ 1048576) := Lib.hid (Nat.le_trans (docs_le _) (by have := htl1.out; rw [List.length_take]; omega))
              obtain ⟨t, ht⟩ : ∃ t, t = ts1[i] := ⟨_, rfl⟩
              rw [← ht] at hxi hcn
              obtain ⟨k, hk⟩ : ∃ k, k = docsIn (ts1.take i) := ⟨_, rfl⟩
              rw [← hk]
              obtain ⟨g, rfl, hg, a0, a1, a2, a3, a4⟩ := tk_cells hst.out.r1 hxi
              clear a1 a2 a3 a4
              obtain ⟨x, hx⟩ : ∃ x : Int, x = t.kind := ⟨_, rfl⟩
              rw [← hx] at a0 hcn
              by_cases h10 : x = 1
              · have hwn : Hid (wrap64 ((k : Int) + 1) = (docsIn (ts1.take (i + 1)) : Int)) := Lib.hid (by rw [hcn.out, if_pos h10, hk]; have := hcb.out; unfold wrap64; omega)
                clear hx hcn
                subst h10
                replace hil := Lib.hid hil
                replace hlt := Lib.hid hlt
                replace ht := Lib.hid ht
                replace hk := Lib.hid hk
                replace hxi := Lib.hid hxi
                go_wp2
                go_roundg (ts1.length - (i + 1) + 1)
                case rel => exact ⟨i + 1, rfl, by rw [hwn.out], by rw [hwk.out], hlt.out, rfl⟩
                case measure => exact nn_down hlt.out
              · have hx10 : decide (x = 1) = false := decide_eq_false h10
                have hwn : Hid (k = docsIn (ts1.take (i + 1))) := Lib.hid (by rw [hk, hcn.out, if_neg h10, Nat.add_zero])
                replace hil := Lib.hid hil
                replace hlt := Lib.hid hlt
                replace ht := Lib.hid ht
                replace hk := Lib.hid hk
                replace hxi := Lib.hid hxi
                replace hx := Lib.hid hx
                go_wp2
                go_roundg (ts1.length - (i + 1) + 1)
                case rel => exact ⟨i + 1, rfl, by rw [hwn.out], by rw [hwk.out], hlt.out, rfl⟩
                case measure => exact nn_down hlt.out
            · have k0 := nn_ge2 hlt
              have k1 : decide (i < ts1.length) = false := decide_eq_false hlt
              obtain ⟨d, hd⟩ : ∃ d, d = docsIn (ts1.take i) := ⟨_, rfl⟩
              rw [← hd]
              rw [show i = ts1.length by omega, List.take_length] at hd
              have hdb : d ≤ 200000 := by rw [hd]; have := docs_le ts1; have := htl1.out; omega
              replace hd := Lib.hid hd
              replace hlt := Lib.hid hlt
              replace hil := Lib.hid hil
              replace hdb := Lib.hid hdb
              rcases hcase.out with ⟨h2, hF, rfl, rfl⟩ | ⟨h2, he, hT⟩
              · have h20 : decide (F2e = 0) = false := decide_eq_false h2
                rw [← hd.out] at hF
                cases hF
                have hw1 : wrap64 ((F2l : Int) + n) = ((F2l + n : Nat) : Int) := by have := hd2.out; have := hn64.out; unfold wrap64; omega
                have hw2 : wrap64 ((F2d : Int) + d) = ((F2d + d : Nat) : Int) := by have := hd2.out; have := hdb.out; unfold wrap64; omega
                go_wp2
                go_ret
                exact ⟨by simp, hst.out.bel⟩
              · subst h2
                subst he
                have hw : wrap64 ((ts1.length : Int) + ts2.length) = (ts3.length : Int) := by rw [hT, List.length_append, List.length_map]; have := htl1.out; have := htl2.out; unfold wrap64; omega
                replace hT := Lib.hid hT
                go_wp2
                clear k0 k1 hw hb1 hb1l hb1e hb2 hb2l hb2e hb3 hb3l hb3e
                have hpre : ∀ j t, ts1[j]? = some t → ts3[j]? = some t := fun j t h => by rw [hT.out, List.getElem?_append_left (List.getElem?_eq_some_iff.1 h).1]; exact h
                have hpost : ∀ j t, ts2[j]? = some t → ts3[ts1.length + j]? = some (t.down (n : Nat)) := fun j t h => by rw [hT.out, List.getElem?_append_right (Nat.le_add_right _ _), Nat.add_sub_cancel_left, List.getElem?_map, h]; rfl
                replace hpre := Lib.hid hpre
                replace hpost := Lib.hid hpost
                go_loopg [16] (ts1.length + 1) (fun gg iv wr => ∃ i : Nat, gg = ts1.length - i + 1 ∧ iv = .int .i64 i ∧ i ≤ ts1.length ∧ Hid (ASt w o1 o2 o3 c1 c2 c3 w3.heap.size w6.heap.size w11.heap.size ts1 ts2 ts3 (F1d, F1l, 0) (F2d, F2l, 0) (F3d, F3l, 0) w2.heap.size w5.heap.size w10.heap.size wr))
                case atStart => exact ⟨0, rfl, rfl, Nat.zero_le _, hst⟩
                case round =>
                  obtain ⟨i, rfl, rfl, hil, hsy⟩ := hrel
                  by_cases hlt : i < ts1.length
                  · have k0 := nn_lt2 hlt
                    have k2 : (i : Int) < (ts3.length : Int) := by have := hT.out; rw [this, List.length_append]; omega
                    have hwk := Lib.hid (nn_wrap hlt (by have := htl1.out; omega))
                    have hxi := List.getElem?_eq_getElem hlt
                    generalize ts1[i] = t at hxi
                    obtain ⟨g1, rfl, hg1, a0, a1, a2, a3, a4⟩ := tk_cells hsy.out.r1 hxi
                    obtain ⟨g3, rfl, hg3, e0, e1, e2, e3, e4⟩ := tk_cells hsy.out.r3 (hpre.out i t hxi)
                    have hdr := fun n => hsy.out.tch (Tch.drewN No _ n)
                    replace hxi := Lib.hid hxi
                    replace hil := Lib.hid hil
                    replace hlt := Lib.hid hlt
                    replace hdr := Lib.hid hdr
                    go_wp2_with fail
                    go_quiet (fail)
                    go_wp2_with fail
                    go_roundg (ts1.length - (i + 1) + 1)
                    case rel => exact ⟨i + 1, rfl, by rw [hwk.out], hlt.out, Lib.hid (hdr.out _)⟩
                    case measure => exact nn_down hlt.out
                  · have k0 := nn_ge2 hlt
                    have k1 : decide (i < ts1.length) = false := decide_eq_false hlt
                    obtain ⟨wo, rfl⟩ : ∃ wo : World, wo = wr := ⟨_, rfl⟩
                    replace hlt := Lib.hid hlt
                    replace hil := Lib.hid hil
                    go_wp2
                    go_loopg [17] (ts2.length + 1) (fun gg iv wr => ∃ i : Nat, gg = ts2.length - i + 1 ∧ iv = .int .i64 i ∧ i ≤ ts2.length ∧ Hid (ASt w o1 o2 o3 c1 c2 c3 w3.heap.size w6.heap.size w11.heap.size ts1 ts2 ts3 (F1d, F1l, 0) (F2d, F2l, 0) (F3d, F3l, 0) w2.heap.size w5.heap.size w10.heap.size wr))
                    case atStart => exact ⟨0, rfl, rfl, Nat.zero_le _, hsy⟩
                    case round =>
                      obtain ⟨i, rfl, rfl, hil, hsz⟩ := hrel
                      by_cases hlt : i < ts2.length
                      · have k0 := nn_lt2 hlt
                        obtain ⟨j, hj⟩ : ∃ j, j = ts1.length + i := ⟨_, rfl⟩
                        have k2 : (j : Int) < (ts3.length : Int) := by have := hT.out; rw [this, List.length_append, List.length_map]; omega
                        have k3 : wrap64 ((ts1.length : Int) + i) = (j : Int) := by have := htl1.out; have := htl2.out; unfold wrap64; omega
                        have hwk := Lib.hid (nn_wrap hlt (by have := htl2.out; omega))
                        have hxi := List.getElem?_eq_getElem hlt
                        have hln := hsl.out _ (List.getElem_mem hlt)
                        generalize ts2[i] = t at hxi hln
                        have k4 : wrap64 (t.line + n) = t.line + n := by have := hn64.out; unfold wrap64; omega
                        obtain ⟨g2, rfl, hg2, a0, a1, a2, a3, a4⟩ := tk_cells hsz.out.r2 hxi
                        obtain ⟨g3, rfl, hg3, e0, e1, e2, e3, e4⟩ := tk_cells (i := j) hsz.out.r3 (by rw [hj]; exact hpost.out i t hxi)
                        clear e0 e1 e2 e3 e4 hg3
                        replace hxi := Lib.hid hxi
                        replace hil := Lib.hid hil
                        replace hlt := Lib.hid hlt
                        replace hln := Lib.hid hln
                        replace hj := Lib.hid hj
                        go_wp2_with fail
                        have hsn := hsz.out.tch (Tch.alloc No wr (.cells #[.int .i64 t.kind, .int .i64 (t.line + n), .int .i64 t.col, .string ⟨t.text.toArray⟩, .bool t.quoted] 31))
                        have hbx := heap_alloc_new wr (.cells #[.int .i64 t.kind, .int .i64 (t.line + n), .int .i64 t.col, .string ⟨t.text.toArray⟩, .bool t.quoted] 31)
                        obtain ⟨wn, hwn⟩ : ∃ wn, wn = wr.alloc (.cells #[.int .i64 t.kind, .int .i64 (t.line + n), .int .i64 t.col, .string ⟨t.text.toArray⟩, .bool t.quoted] 31) := ⟨_, rfl⟩
                        rw [← hwn] at hsn hbx ⊢
                        clear hwn a0 a1 a2 a3 a4
                        obtain ⟨g3', eg3, hg3, e0, e1, e2, e3, e4⟩ := tk_cells (i := j) hsn.r3 (by rw [hj.out]; exact hpost.out i t hxi.out)
                        cases eg3
                        replace e1 : wn.cell? ⟨g3, j * 5 + 1, none⟩ = some (.int .i64 (t.line + n)) := e1
                        replace e0 : wn.cell? ⟨g3, j * 5, none⟩ = some (.int .i64 t.kind) := e0
                        replace e2 : wn.cell? ⟨g3, j * 5 + 2, none⟩ = some (.int .i64 t.col) := e2
                        replace e3 : wn.cell? ⟨g3, j * 5 + 3, none⟩ = some (.string ⟨t.text.toArray⟩) := e3
                        replace e4 : wn.cell? ⟨g3, j * 5 + 4, none⟩ = some (.bool t.quoted) := e4
                        have a0 : wn.cell? ⟨wr.heap.size, 0, none⟩ = some (.int .i64 t.kind) := cell_of_row _ _ 0 _ _ _ hbx
                        have a1 : wn.cell? ⟨wr.heap.size, 1, none⟩ = some (.int .i64 (t.line + n)) := cell_of_row _ _ 1 _ _ _ hbx
                        have a2 : wn.cell? ⟨wr.heap.size, 2, none⟩ = some (.int .i64 t.col) := cell_of_row _ _ 2 _ _ _ hbx
                        have a3 : wn.cell? ⟨wr.heap.size, 3, none⟩ = some (.string ⟨t.text.toArray⟩) := cell_of_row _ _ 3 _ _ _ hbx
                        have a4 : wn.cell? ⟨wr.heap.size, 4, none⟩ = some (.bool t.quoted) := cell_of_row _ _ 4 _ _ _ hbx
                        have hdr := fun n => hsn.tch (Tch.drewN No _ n)
                        have k5 : IntKind.i64.wrap ((ts1.length : Int) + i) = (j : Int) := by have e := k3; unfold wrap64 at e; rw [IntKind.wrap_i64]; exact e
                        replace hsn := Lib.hid hsn
                        replace hbx := Lib.hid hbx
                        replace hdr := Lib.hid hdr
                        go_quiet (fail)
                        go_wp2_with fail
                        go_roundg (ts2.length - (i + 1) + 1)
                        case rel => exact ⟨i + 1, rfl, by rw [hwk.out], hlt.out, Lib.hid (hdr.out _)⟩
                        case measure => exact nn_down hlt.out
                      · have k0 := nn_ge2 hlt
                        have k1 : decide (i < ts2.length) = false := decide_eq_false hlt
                        replace hlt := Lib.hid hlt
                        replace hil := Lib.hid hil
                        go_wp2
                        go_ret
                        exact ⟨by simp, hsz.out.bel⟩
        · have hcase : (F3d, F3l, F3e) = (F1d, F1l, F1e) ∧ ts3 = [] ∧ ts1 = [] := by
            have hq' := hqT.out
            rcases h3.out with ⟨h, _⟩ | ⟨h, h1, hF, hT, hT1⟩ | ⟨h, h1, _⟩ | ⟨h, h1, _⟩
            · omega
            · exact ⟨by rw [← hF3.out, ← hF1.out]; exact hF, by rw [← ht3.out]; exact hT, by rw [← ht1.out]; exact hT1⟩
            · rw [hF1.out] at h1; contradiction
            · rw [hF1.out] at h1; contradiction
          obtain ⟨he, rfl, rfl⟩ := hcase
          cases he
          have h10 : decide (F1e = 0) = false := decide_eq_false h1
          replace hlong := Lib.hid hlong
          go_wp2
          go_ret
          exact ⟨by simp, hst.out.bel⟩
end Go.Proofs.Ytabgckjokniooaa
