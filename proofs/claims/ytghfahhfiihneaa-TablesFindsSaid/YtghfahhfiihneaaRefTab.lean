/- The walk of the document's Same of tables. -/
import Derived.Test.YtghfahhfiihneaaRefSame
namespace Go.Proofs.Ytghfahhfiihneaa
open Go.ChangeShapes Go.WideShapes Go.ChangeAt Go.RowKit
open Go.Tb
set_option linter.unusedVariables false
set_option maxRecDepth 100000
set_option maxHeartbeats 40000000 in
theorem refsame14 (x y : Go.Tb.Tables) (v v' u u' : Value) (w : World) (hx : Rd.SliceOf hostE w v x.2.1) (hx' : Rd.SliceOf Rd.str w v' x.2.2.1) (hy : Rd.SliceOf hostE w u y.2.1) (hy' : Rd.SliceOf Rd.str w u' y.2.2.1) :
    Calls Try.prog 14 #[.agg #[.int .i64 x.1, v, v'], .agg #[.int .i64 y.1, u, u']] w fun e w' => e = .returned (.bool (tablesEq x y)) ∧ Below w.heap.size w w' := by
  obtain ⟨a1, k1, hv⟩ := slice_shape hx
  subst hv
  obtain ⟨a2, k2, hv⟩ := slice_shape hx'
  subst hv
  obtain ⟨b1, l1, hv⟩ := slice_shape hy
  subst hv
  obtain ⟨b2, l2, hv⟩ := slice_shape hy'
  subst hv
  have q1 := hx.1
  have q2 := hx'.1
  obtain ⟨W, hW⟩ : ∃ W, W = (w.alloc (.cells #[.int .i64 x.1, .slice a1 x.2.1.length k1, .slice a2 x.2.2.1.length k2] 25)).alloc (.cells #[.int .i64 y.1, .slice b1 y.2.1.length l1, .slice b2 y.2.2.1.length l2] 25) := ⟨_, rfl⟩
  have hbb : Below w.heap.size w W := by
    rw [hW]
    exact Tp.Below_seq (Tp.Below_alloc w _) (Tp.Below_alloc _ _)
  have hB : W.heap[w.heap.size]? = some (.cells #[.int .i64 x.1, .slice a1 x.2.1.length k1, .slice a2 x.2.2.1.length k2] 25) ∧ W.heap[w.heap.size + 1]? = some (.cells #[.int .i64 y.1, .slice b1 y.2.1.length l1, .slice b2 y.2.2.1.length l2] 25) := by
    rw [hW]
    refine ⟨?_, ?_⟩
    all_goals
      simp only [alloc_heap, alloc_size]
      repeat first
        | rw [if_pos trivial]
        | rw [if_pos rfl]
        | rw [if_neg (by omega)]
  obtain ⟨hBx, hBy⟩ := hB
  have hS : ∀ w', Below W.heap.size W w' → (w'.cell? ⟨w.heap.size, 0, none⟩ = some (.int .i64 x.1) ∧ w'.cell? ⟨w.heap.size, 1, none⟩ = some (.slice a1 x.2.1.length k1) ∧ w'.cell? ⟨w.heap.size, 2, none⟩ = some (.slice a2 x.2.2.1.length k2)) ∧
      w'.cell? ⟨w.heap.size + 1, 0, none⟩ = some (.int .i64 y.1) ∧ w'.cell? ⟨w.heap.size + 1, 1, none⟩ = some (.slice b1 y.2.1.length l1) ∧ w'.cell? ⟨w.heap.size + 1, 2, none⟩ = some (.slice b2 y.2.2.1.length l2) := fun w' hb => by
    have h1 := (hb.block _ (Array.getElem?_eq_some_iff.1 hBx).1).trans hBx
    have h2 := (hb.block _ (Array.getElem?_eq_some_iff.1 hBy).1).trans hBy
    exact ⟨⟨(cell_of_row _ _ 0 _ _ _ h1).trans rfl, (cell_of_row _ _ 1 _ _ _ h1).trans rfl, (cell_of_row _ _ 2 _ _ _ h1).trans rfl⟩, (cell_of_row _ _ 0 _ _ _ h2).trans rfl, (cell_of_row _ _ 1 _ _ _ h2).trans rfl, (cell_of_row _ _ 2 _ _ _ h2).trans rfl⟩
  obtain ⟨⟨c0, c1, c2⟩, d0, d1, d2⟩ := hS W (Below.refl _ _)
  have hxW := Lib.hid (hx.below hbb)
  have hxW' := Lib.hid (hx'.below hbb)
  have hyW := Lib.hid (hy.below hbb)
  have hyW' := Lib.hid (hy'.below hbb)
  have hne := Lib.hid (show tablesEq x y = ((x.1 == y.1) && (eqL hostEq x.2.1 y.2.1 && eqL strEq x.2.2.1 y.2.2.1)) from rfl)
  replace hS := Lib.hid hS
  replace hbb := Lib.hid hbb
  clear hx hy hx' hy' hBx hBy
  rcases Bool.eq_false_or_eq_true (x.1 == y.1) with h0 | h0
  · have f0 : (x.1 != y.1) = false := by simpa [bne] using h0
    by_cases hl1 : x.2.1.length = y.2.1.length
    · by_cases hl2 : x.2.2.1.length = y.2.2.1.length
      · have g1 : ((x.2.1.length : Int) == (y.2.1.length : Int)) = true := by simp [hl1]
        have g2 : ((x.2.2.1.length : Int) == (y.2.2.1.length : Int)) = true := by simp [hl2]
        have z1 : (x.2.1.length : Int) = (y.2.1.length : Int) := by omega
        have z2 : (x.2.2.1.length : Int) = (y.2.2.1.length : Int) := by omega
        have hn := Lib.hid (show tablesEq x y = (eqL hostEq x.2.1 y.2.1 && eqL strEq x.2.2.1 y.2.2.1) by rw [hne.out, h0]; rfl)
        replace hl1 := Lib.hid hl1
        replace hl2 := Lib.hid hl2
        go_enter Try.func14, Try.ntmps14
        go_upto_region 1 with fail
        change Code.wp _ _ _ _ ((w.alloc (.cells #[.int .i64 x.1, .slice a1 x.2.1.length k1, .slice a2 x.2.2.1.length k2] 25)).alloc (.cells #[.int .i64 y.1, .slice b1 y.2.1.length l1, .slice b2 y.2.2.1.length l2] 25))
        rw [← hW]
        replace hW := Lib.hid hW
        go_wp2_with fail
        clear c0 c1 c2 d0 d1 d2 f0 g1 g2 h0
        go_loopg [5] x.2.1.length (fun g ic wr => ∃ i : Nat, i ≤ x.2.1.length ∧ g = x.2.1.length - i ∧ ic = .int .i64 i ∧ (∀ (j : Nat) s t, j < i → x.2.1[j]? = some s → y.2.1[j]? = some t → hostEq s t = true) ∧ Below W.heap.size W wr)
        case atStart => exact ⟨0, by omega, rfl, rfl, fun j s t hj => by omega, Below.refl _ _⟩
        case round =>
          obtain ⟨i, hi, rfl, rfl, hal, hbr⟩ := hrel
          obtain ⟨⟨c0, c1, c2⟩, d0, d1, d2⟩ := hS.out wr hbr
          clear c0 d0
          by_cases hlt : i < x.2.1.length
          · have hltb : i < y.2.1.length := by have := hl1.out; omega
            have hi1 : (i : Int) < (x.2.1.length : Int) := by omega
            have hi2 : (i : Int) < (y.2.1.length : Int) := by omega
            have hs := List.getElem?_eq_getElem hlt
            have ht := List.getElem?_eq_getElem hltb
            obtain ⟨ba, oa, rfl, hba, hrs⟩ := at_i hxW.out hbr hs
            obtain ⟨bb, ob, rfl, hbb2, hrt⟩ := at_i hyW.out hbr ht
            generalize x.2.1[i] = s at *
            generalize y.2.1[i] = t at *
            obtain ⟨⟨p0, _⟩, ⟨p1, _⟩, ⟨pv, p2, pr⟩, ⟨pv', p3, pr'⟩, _⟩ := hrs
            obtain ⟨⟨r0, _⟩, ⟨r1, _⟩, ⟨rv, r2, rr⟩, ⟨rv', r3, rr'⟩, _⟩ := hrt
            obtain ⟨so, sk, rfl⟩ := slice_shape pr
            obtain ⟨so', sk', rfl⟩ := slice_shape pr'
            obtain ⟨tz, tk, rfl⟩ := slice_shape rr
            obtain ⟨tz', tk', rfl⟩ := slice_shape rr'
            have e0 : wr.cell? ⟨ba, oa + i * 4, none⟩ = some (.string s.1) := p0
            have e1 : wr.cell? ⟨ba, oa + i * 4 + 1, none⟩ = some (.string s.2.1) := p1
            have e2 : wr.cell? ⟨ba, oa + i * 4 + 2, none⟩ = some (.slice so s.2.2.1.length sk) := p2
            have e3 : wr.cell? ⟨ba, oa + i * 4 + 3, none⟩ = some (.slice so' s.2.2.2.1.length sk') := p3
            have j0 : wr.cell? ⟨bb, ob + i * 4, none⟩ = some (.string t.1) := r0
            have j1 : wr.cell? ⟨bb, ob + i * 4 + 1, none⟩ = some (.string t.2.1) := r1
            have j2 : wr.cell? ⟨bb, ob + i * 4 + 2, none⟩ = some (.slice tz t.2.2.1.length tk) := r2
            have j3 : wr.cell? ⟨bb, ob + i * 4 + 3, none⟩ = some (.slice tz' t.2.2.2.1.length tk') := r3
            have hSE : ∀ w', Below wr.heap.size wr w' → (w'.cell? ⟨w.heap.size, 1, none⟩ = some (.slice (some ⟨ba, oa, none⟩) x.2.1.length k1) ∧ w'.cell? ⟨w.heap.size + 1, 1, none⟩ = some (.slice (some ⟨bb, ob, none⟩) y.2.1.length l1)) ∧ (w'.cell? ⟨ba, oa + i * 4, none⟩ = some (.string s.1) ∧ w'.cell? ⟨ba, oa + i * 4 + 1, none⟩ = some (.string s.2.1) ∧ w'.cell? ⟨ba, oa + i * 4 + 2, none⟩ = some (.slice so s.2.2.1.length sk) ∧ w'.cell? ⟨ba, oa + i * 4 + 3, none⟩ = some (.slice so' s.2.2.2.1.length sk')) ∧ w'.cell? ⟨bb, ob + i * 4, none⟩ = some (.string t.1) ∧ w'.cell? ⟨bb, ob + i * 4 + 1, none⟩ = some (.string t.2.1) ∧ w'.cell? ⟨bb, ob + i * 4 + 2, none⟩ = some (.slice tz t.2.2.1.length tk) ∧ w'.cell? ⟨bb, ob + i * 4 + 3, none⟩ = some (.slice tz' t.2.2.2.1.length tk') := fun w' hb => by
              have h1 := hS.out w' (hbr.trans (hb.mono hbr.size))
              have m1 : ba < wr.heap.size := Nat.lt_of_lt_of_le hba hbr.size
              have m2 : bb < wr.heap.size := Nat.lt_of_lt_of_le hbb2 hbr.size
              exact ⟨⟨h1.1.2.1, h1.2.2.1⟩, ⟨(hb.cell (by exact m1)).trans e0, (hb.cell (by exact m1)).trans e1, (hb.cell (by exact m1)).trans e2, (hb.cell (by exact m1)).trans e3⟩, (hb.cell (by exact m2)).trans j0, (hb.cell (by exact m2)).trans j1, (hb.cell (by exact m2)).trans j2, (hb.cell (by exact m2)).trans j3⟩
            have k49 : ∀ wz, Below wr.heap.size wr wz → Calls Try.prog 49 #[.agg #[.string s.1, .string s.2.1, .slice so s.2.2.1.length sk, .slice so' s.2.2.2.1.length sk'], .agg #[.string t.1, .string t.2.1, .slice tz t.2.2.1.length tk, .slice tz' t.2.2.2.1.length tk']] wz fun e w' => e = .returned (.bool (hostEq s t)) ∧ Below wr.heap.size wr w' := fun wz hz => (refhost49 s t _ _ _ _ wz (pr.below hz) (pr'.below hz) (rr.below hz) (rr'.below hz)).mono fun e w' h => ⟨h.1, Tp.Below_seq hz h.2⟩
            have he := Lib.hid (rfl : hostEq s t = hostEq s t)
            obtain ⟨r, hr⟩ : ∃ r, r = hostEq s t := ⟨_, rfl⟩
            rw [← hr] at k49
            replace hr := Lib.hid hr
            replace hSE := Lib.hid hSE
            replace k49 := Lib.hid k49
            replace hal := Lib.hid hal
            replace hbr := Lib.hid hbr
            replace hs := Lib.hid hs
            replace ht := Lib.hid ht
            have hbd : Below wr.heap.size wr wr.drew := below_drewN (Below.refl _ _) 1
            replace hbd := Lib.hid hbd
            clear p0 p1 p2 p3 r0 r1 r2 r3 pr rr pr' rr' c2 d2 he
            go_upto_region 6 with fail
            clear c1 d1 e0 e1 e2 e3 j0 j1 j2 j3
            go_region_held3 (fun w' => Below wr.heap.size wr w' ∧ (w'.cell? ⟨w.heap.size, 1, none⟩ = some (.slice (some ⟨ba, oa, none⟩) x.2.1.length k1) ∧ w'.cell? ⟨w.heap.size + 1, 1, none⟩ = some (.slice (some ⟨bb, ob, none⟩) y.2.1.length l1)) ∧ (w'.cell? ⟨ba, oa + i * 4, none⟩ = some (.string s.1) ∧ w'.cell? ⟨ba, oa + i * 4 + 1, none⟩ = some (.string s.2.1) ∧ w'.cell? ⟨ba, oa + i * 4 + 2, none⟩ = some (.slice so s.2.2.1.length sk) ∧ w'.cell? ⟨ba, oa + i * 4 + 3, none⟩ = some (.slice so' s.2.2.2.1.length sk')) ∧ w'.cell? ⟨bb, ob + i * 4, none⟩ = some (.string t.1) ∧ w'.cell? ⟨bb, ob + i * 4 + 1, none⟩ = some (.string t.2.1) ∧ w'.cell? ⟨bb, ob + i * 4 + 2, none⟩ = some (.slice tz t.2.2.1.length tk) ∧ w'.cell? ⟨bb, ob + i * 4 + 3, none⟩ = some (.slice tz' t.2.2.2.1.length tk'))
              (first | exact ⟨hbd.out, hSE.out _ hbd.out⟩ | exact ⟨hb', hSE.out _ hb'⟩ | fail)
              (first | (go_at_call 49; with_reducible refine (k49.out _ hbd.out).mono ?_; rintro e w' ⟨rfl, hb'⟩) | fail)
            have hbn := Lib.hid (hbr.out.trans (hb'.mono hbr.out.size))
            clear hb'
            cases r
            · have hres := Lib.hid (show tablesEq x y = false by rw [hn.out, eqL_bad (e := hostEq) hs.out ht.out hr.out.symm]; rfl)
              go_wp2_with fail
              go_ret
              exact ⟨by rw [hres.out]; rfl, Tp.Below_seq hbb.out hbn.out⟩
            · go_wp2_with fail
              go_roundg (x.2.1.length - (i + 1))
              case measure => omega
              case rel =>
                refine ⟨i + 1, by omega, rfl, by go_num, fun j s' t' hj hs' ht' => ?_, hbn.out⟩
                by_cases hji : j = i
                · subst hji
                  rw [hs.out] at hs'
                  rw [ht.out] at ht'
                  cases hs'
                  cases ht'
                  exact hr.out.symm
                · exact hal.out j s' t' (by omega) hs' ht'
          · have hi1 : (x.2.1.length : Int) ≤ (i : Int) := by omega
            have hes := eqL_all (e := hostEq) (a := x.2.1) (b := y.2.1) hl1.out fun j s t hs ht => hal j s t (by have := (List.getElem?_eq_some_iff.1 hs).1; omega) hs ht
            have hn2 := Lib.hid (show tablesEq x y = eqL strEq x.2.2.1 y.2.2.1 by rw [hn.out, hes]; rfl)
            have hdx : decide (i < y.2.1.length) = false := by rw [decide_eq_false_iff_not]; have := hl1.out; omega
            replace hbr := Lib.hid hbr
            clear hal hes c2 d2
            go_wp2_with fail
            go_loopg [7] x.2.2.1.length (fun g ic wk => ∃ k : Nat, k ≤ x.2.2.1.length ∧ g = x.2.2.1.length - k ∧ ic = .int .i64 k ∧ (∀ (j : Nat) s t, j < k → x.2.2.1[j]? = some s → y.2.2.1[j]? = some t → strEq s t = true) ∧ Below W.heap.size W wk)
            case atStart => exact ⟨0, by omega, rfl, rfl, fun j s t hj => by omega, hbr.out⟩
            case round =>
              obtain ⟨k, hk, rfl, rfl, hal, hbk⟩ := hrel
              clear hbr c1 d1
              obtain ⟨⟨c0, c1, c2⟩, d0, d1, d2⟩ := hS.out wr hbk
              clear c0 d0 c1 d1
              by_cases hlk : k < x.2.2.1.length
              · have hltb : k < y.2.2.1.length := by have := hl2.out; omega
                have hk1 : (k : Int) < (x.2.2.1.length : Int) := by omega
                have hk2 : (k : Int) < (y.2.2.1.length : Int) := by omega
                have hs := List.getElem?_eq_getElem hlk
                have ht := List.getElem?_eq_getElem hltb
                obtain ⟨ba, oa, rfl, hba, hrs⟩ := at_i hxW'.out hbk hs
                obtain ⟨bb, ob, rfl, hbb2, hrt⟩ := at_i hyW'.out hbk ht
                generalize x.2.2.1[k] = s at *
                generalize y.2.2.1[k] = t at *
                obtain ⟨p0, _⟩ := hrs
                obtain ⟨r0, _⟩ := hrt
                have e0 : wr.cell? ⟨ba, oa + k, none⟩ = some (.string s) := by simpa [Rd.cellsAt, Rd.str] using p0
                have j0 : wr.cell? ⟨bb, ob + k, none⟩ = some (.string t) := by simpa [Rd.cellsAt, Rd.str] using r0
                replace hal := Lib.hid hal
                replace hbk := Lib.hid hbk
                replace hs := Lib.hid hs
                replace ht := Lib.hid ht
                clear p0 r0
                rcases Bool.eq_false_or_eq_true (strEq s t) with h2 | h2
                · have f2 : (s.toList == t.toList) = true := h2
                  replace h2 := Lib.hid h2
                  go_upto_region 12 with fail
                  go_quiet (fail)
                  go_wp2
                  go_roundg (x.2.2.1.length - (k + 1))
                  case measure => omega
                  case rel =>
                    refine ⟨k + 1, by omega, rfl, by go_num, fun j s' t' hj hs' ht' => ?_, below_drewN hbk.out _⟩
                    by_cases hji : j = k
                    · subst hji
                      rw [hs.out] at hs'
                      rw [ht.out] at ht'
                      cases hs'
                      cases ht'
                      exact h2.out
                    · exact hal.out j s' t' (by omega) hs' ht'
                · have f2 : (s.toList == t.toList) = false := h2
                  have hres := Lib.hid (show tablesEq x y = false by rw [hn2.out, eqL_bad (e := strEq) hs.out ht.out h2])
                  clear h2
                  go_upto_region 12 with fail
                  go_quiet (fail)
                  go_wp2
                  go_ret
                  exact ⟨by rw [hres.out]; rfl, Tp.Below_seq hbb.out (below_drewN hbk.out _)⟩
              · have hk1 : (x.2.2.1.length : Int) ≤ (k : Int) := by omega
                have hps := eqL_all (e := strEq) (a := x.2.2.1) (b := y.2.2.1) hl2.out fun j s t hs ht => hal j s t (by have := (List.getElem?_eq_some_iff.1 hs).1; omega) hs ht
                have hres := Lib.hid (show tablesEq x y = true by rw [hn2.out, hps])
                replace hbk := Lib.hid hbk
                clear hal hps
                go_wp2_with fail
                go_ret
                exact ⟨by rw [hres.out]; rfl, Tp.Below_seq hbb.out hbk.out⟩
      · have g1 : ((x.2.1.length : Int) == (y.2.1.length : Int)) = true := by simp [hl1]
        have z1 : (x.2.1.length : Int) = (y.2.1.length : Int) := by omega
        have g2 : ((x.2.2.1.length : Int) == (y.2.2.1.length : Int)) = false := by simp; omega
        have z2 : ¬ (x.2.2.1.length : Int) = (y.2.2.1.length : Int) := by omega
        have hl2' := eqL_len (e := strEq) hl2
        replace hl1 := Lib.hid hl1
        clear hl2
        have hn := Lib.hid (show tablesEq x y = false by rw [hne.out, h0, hl2']; first | rfl | simp)
        clear h0 hl2'
        go_enter Try.func14, Try.ntmps14
        go_upto_region 1 with fail
        change Code.wp _ _ _ _ ((w.alloc (.cells #[.int .i64 x.1, .slice a1 x.2.1.length k1, .slice a2 x.2.2.1.length k2] 25)).alloc (.cells #[.int .i64 y.1, .slice b1 y.2.1.length l1, .slice b2 y.2.2.1.length l2] 25))
        rw [← hW]
        replace hW := Lib.hid hW
        go_wp2_with fail
        go_ret
        exact ⟨by rw [hn.out]; rfl, hbb.out⟩
    · have g1 : ((x.2.1.length : Int) == (y.2.1.length : Int)) = false := by simp; omega
      have z1 : ¬ (x.2.1.length : Int) = (y.2.1.length : Int) := by omega
      have hl1' := eqL_len (e := hostEq) hl1
      clear hl1
      have hn := Lib.hid (show tablesEq x y = false by rw [hne.out, h0, hl1']; first | rfl | simp)
      clear h0 hl1'
      go_enter Try.func14, Try.ntmps14
      go_upto_region 1 with fail
      change Code.wp _ _ _ _ ((w.alloc (.cells #[.int .i64 x.1, .slice a1 x.2.1.length k1, .slice a2 x.2.2.1.length k2] 25)).alloc (.cells #[.int .i64 y.1, .slice b1 y.2.1.length l1, .slice b2 y.2.2.1.length l2] 25))
      rw [← hW]
      replace hW := Lib.hid hW
      go_wp2_with fail
      go_ret
      exact ⟨by rw [hn.out]; rfl, hbb.out⟩
  · have f0 : (x.1 != y.1) = true := by simpa [bne] using h0
    have hn := Lib.hid (show tablesEq x y = false by rw [hne.out, h0]; first | rfl | simp)
    clear h0
    go_enter Try.func14, Try.ntmps14
    go_upto_region 1 with fail
    change Code.wp _ _ _ _ ((w.alloc (.cells #[.int .i64 x.1, .slice a1 x.2.1.length k1, .slice a2 x.2.2.1.length k2] 25)).alloc (.cells #[.int .i64 y.1, .slice b1 y.2.1.length l1, .slice b2 y.2.2.1.length l2] 25))
    rw [← hW]
    replace hW := Lib.hid hW
    go_wp2_with fail
    go_ret
    exact ⟨by rw [hn.out]; rfl, hbb.out⟩
end Go.Proofs.Ytghfahhfiihneaa
