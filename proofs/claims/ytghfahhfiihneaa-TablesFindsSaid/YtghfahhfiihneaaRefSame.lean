/- The walks of the document's Same. -/
import Derived.Test.YtghfahhfiihneaaSame
import Derived.Deep.RegionHeld3
namespace Go.Proofs.Ytghfahhfiihneaa
open Go.ChangeShapes Go.WideShapes Go.ChangeAt Go.RowKit
open Go.Tb
set_option linter.unusedVariables false
set_option maxRecDepth 100000
set_option maxHeartbeats 40000000 in
theorem refhost49 (x y : Host) (v v' u u' : Value) (w : World) (hx : Rd.SliceOf entryE w v x.2.2.1) (hx' : Rd.SliceOf permitE w v' x.2.2.2.1) (hy : Rd.SliceOf entryE w u y.2.2.1) (hy' : Rd.SliceOf permitE w u' y.2.2.2.1) :
    Calls Try.prog 49 #[.agg #[.string x.1, .string x.2.1, v, v'], .agg #[.string y.1, .string y.2.1, u, u']] w fun e w' => e = .returned (.bool (hostEq x y)) ∧ Below w.heap.size w w' := by
  obtain ⟨a1, k1, hv⟩ := slice_shape hx
  subst hv
  obtain ⟨a2, k2, hv⟩ := slice_shape hx'
  subst hv
  obtain ⟨b1, l1, hv⟩ := slice_shape hy
  subst hv
  obtain ⟨b2, l2, hv⟩ := slice_shape hy'
  subst hv
  have q1 := hx.1
  have q2 := hx'.1
  obtain ⟨W, hW⟩ : ∃ W, W = (w.alloc (.cells #[.string x.1, .string x.2.1, .slice a1 x.2.2.1.length k1, .slice a2 x.2.2.2.1.length k2] 56)).alloc (.cells #[.string y.1, .string y.2.1, .slice b1 y.2.2.1.length l1, .slice b2 y.2.2.2.1.length l2] 56) := ⟨_, rfl⟩
  have hbb : Below w.heap.size w W := by
    rw [hW]
    exact Tp.Below_seq (Tp.Below_alloc w _) (Tp.Below_alloc _ _)
  have hB : W.heap[w.heap.size]? = some (.cells #[.string x.1, .string x.2.1, .slice a1 x.2.2.1.length k1, .slice a2 x.2.2.2.1.length k2] 56) ∧ W.heap[w.heap.size + 1]? = some (.cells #[.string y.1, .string y.2.1, .slice b1 y.2.2.1.length l1, .slice b2 y.2.2.2.1.length l2] 56) := by
    rw [hW]
    refine ⟨?_, ?_⟩
    all_goals
      simp only [alloc_heap, alloc_size]
      repeat first
        | rw [if_pos trivial]
        | rw [if_pos rfl]
        | rw [if_neg (by omega)]
  obtain ⟨hBx, hBy⟩ := hB
  have hS : ∀ w', Below W.heap.size W w' → (w'.cell? ⟨w.heap.size, 0, none⟩ = some (.string x.1) ∧ w'.cell? ⟨w.heap.size, 1, none⟩ = some (.string x.2.1) ∧ w'.cell? ⟨w.heap.size, 2, none⟩ = some (.slice a1 x.2.2.1.length k1) ∧ w'.cell? ⟨w.heap.size, 3, none⟩ = some (.slice a2 x.2.2.2.1.length k2)) ∧
      w'.cell? ⟨w.heap.size + 1, 0, none⟩ = some (.string y.1) ∧ w'.cell? ⟨w.heap.size + 1, 1, none⟩ = some (.string y.2.1) ∧ w'.cell? ⟨w.heap.size + 1, 2, none⟩ = some (.slice b1 y.2.2.1.length l1) ∧ w'.cell? ⟨w.heap.size + 1, 3, none⟩ = some (.slice b2 y.2.2.2.1.length l2) := fun w' hb => by
    have h1 := (hb.block _ (Array.getElem?_eq_some_iff.1 hBx).1).trans hBx
    have h2 := (hb.block _ (Array.getElem?_eq_some_iff.1 hBy).1).trans hBy
    exact ⟨⟨(cell_of_row _ _ 0 _ _ _ h1).trans rfl, (cell_of_row _ _ 1 _ _ _ h1).trans rfl, (cell_of_row _ _ 2 _ _ _ h1).trans rfl, (cell_of_row _ _ 3 _ _ _ h1).trans rfl⟩, (cell_of_row _ _ 0 _ _ _ h2).trans rfl, (cell_of_row _ _ 1 _ _ _ h2).trans rfl, (cell_of_row _ _ 2 _ _ _ h2).trans rfl, (cell_of_row _ _ 3 _ _ _ h2).trans rfl⟩
  obtain ⟨⟨c0, c1, c2, c3⟩, d0, d1, d2, d3⟩ := hS W (Below.refl _ _)
  have hxW := Lib.hid (hx.below hbb)
  have hxW' := Lib.hid (hx'.below hbb)
  have hyW := Lib.hid (hy.below hbb)
  have hyW' := Lib.hid (hy'.below hbb)
  have hne := Lib.hid (show hostEq x y = (strEq x.1 y.1 && (strEq x.2.1 y.2.1 && (eqL entryEq x.2.2.1 y.2.2.1 && eqL permitEq x.2.2.2.1 y.2.2.2.1))) from rfl)
  replace hS := Lib.hid hS
  replace hbb := Lib.hid hbb
  clear hx hy hx' hy' hBx hBy
  rcases Bool.eq_false_or_eq_true (strEq x.1 y.1) with h0 | h0
  · have f0 : (x.1.toList == y.1.toList) = true := h0
    rcases Bool.eq_false_or_eq_true (strEq x.2.1 y.2.1) with h1 | h1
    · have f1 : (x.2.1.toList == y.2.1.toList) = true := h1
      by_cases hl1 : x.2.2.1.length = y.2.2.1.length
      · by_cases hl2 : x.2.2.2.1.length = y.2.2.2.1.length
        · have g1 : ((x.2.2.1.length : Int) == (y.2.2.1.length : Int)) = true := by simp [hl1]
          have g2 : ((x.2.2.2.1.length : Int) == (y.2.2.2.1.length : Int)) = true := by simp [hl2]
          have z1 : (x.2.2.1.length : Int) = (y.2.2.1.length : Int) := by omega
          have z2 : (x.2.2.2.1.length : Int) = (y.2.2.2.1.length : Int) := by omega
          have hn := Lib.hid (show hostEq x y = (eqL entryEq x.2.2.1 y.2.2.1 && eqL permitEq x.2.2.2.1 y.2.2.2.1) by rw [hne.out, h0, h1]; rfl)
          replace hl1 := Lib.hid hl1
          replace hl2 := Lib.hid hl2
          clear h0 h1
          go_enter Try.func49, Try.ntmps49
          go_upto_region 1 with fail
          change Code.wp _ _ _ _ ((w.alloc (.cells #[.string x.1, .string x.2.1, .slice a1 x.2.2.1.length k1, .slice a2 x.2.2.2.1.length k2] 56)).alloc (.cells #[.string y.1, .string y.2.1, .slice b1 y.2.2.1.length l1, .slice b2 y.2.2.2.1.length l2] 56))
          rw [← hW]
          replace hW := Lib.hid hW
          go_wp2_with fail
          clear c0 c1 c2 c3 d0 d1 d2 d3 f0 f1 g1 g2
          go_loopg [5] x.2.2.1.length (fun g ic wr => ∃ i : Nat, i ≤ x.2.2.1.length ∧ g = x.2.2.1.length - i ∧ ic = .int .i64 i ∧ (∀ (j : Nat) s t, j < i → x.2.2.1[j]? = some s → y.2.2.1[j]? = some t → entryEq s t = true) ∧ Below W.heap.size W wr)
          case atStart => exact ⟨0, by omega, rfl, rfl, fun j s t hj => by omega, Below.refl _ _⟩
          case round =>
            obtain ⟨i, hi, rfl, rfl, hal, hbr⟩ := hrel
            obtain ⟨⟨c0, c1, c2, c3⟩, d0, d1, d2, d3⟩ := hS.out wr hbr
            clear c0 c1 d0 d1
            by_cases hlt : i < x.2.2.1.length
            · have hltb : i < y.2.2.1.length := by have := hl1.out; omega
              have hi1 : (i : Int) < (x.2.2.1.length : Int) := by omega
              have hi2 : (i : Int) < (y.2.2.1.length : Int) := by omega
              have hs := List.getElem?_eq_getElem hlt
              have ht := List.getElem?_eq_getElem hltb
              obtain ⟨ba, oa, rfl, hba, hrs⟩ := at_i hxW.out hbr hs
              obtain ⟨bb, ob, rfl, hbb2, hrt⟩ := at_i hyW.out hbr ht
              generalize x.2.2.1[i] = s at *
              generalize y.2.2.1[i] = t at *
              obtain ⟨⟨p0, _⟩, ⟨p1, _⟩, ⟨pv, p2, pr⟩, _⟩ := hrs
              obtain ⟨⟨r0, _⟩, ⟨r1, _⟩, ⟨rv, r2, rr⟩, _⟩ := hrt
              obtain ⟨so, sk, rfl⟩ := slice_shape pr
              obtain ⟨tz, tk, rfl⟩ := slice_shape rr
              have e0 : wr.cell? ⟨ba, oa + i * 3, none⟩ = some (.string s.1) := p0
              have e1 : wr.cell? ⟨ba, oa + i * 3 + 1, none⟩ = some (.string s.2.1) := p1
              have e2 : wr.cell? ⟨ba, oa + i * 3 + 2, none⟩ = some (.slice so s.2.2.1.length sk) := p2
              have j0 : wr.cell? ⟨bb, ob + i * 3, none⟩ = some (.string t.1) := r0
              have j1 : wr.cell? ⟨bb, ob + i * 3 + 1, none⟩ = some (.string t.2.1) := r1
              have j2 : wr.cell? ⟨bb, ob + i * 3 + 2, none⟩ = some (.slice tz t.2.2.1.length tk) := r2
              have hSE : ∀ w', Below wr.heap.size wr w' → (w'.cell? ⟨w.heap.size, 2, none⟩ = some (.slice (some ⟨ba, oa, none⟩) x.2.2.1.length k1) ∧ w'.cell? ⟨w.heap.size + 1, 2, none⟩ = some (.slice (some ⟨bb, ob, none⟩) y.2.2.1.length l1)) ∧
                  (w'.cell? ⟨ba, oa + i * 3, none⟩ = some (.string s.1) ∧ w'.cell? ⟨ba, oa + i * 3 + 1, none⟩ = some (.string s.2.1) ∧ w'.cell? ⟨ba, oa + i * 3 + 2, none⟩ = some (.slice so s.2.2.1.length sk)) ∧
                  w'.cell? ⟨bb, ob + i * 3, none⟩ = some (.string t.1) ∧ w'.cell? ⟨bb, ob + i * 3 + 1, none⟩ = some (.string t.2.1) ∧ w'.cell? ⟨bb, ob + i * 3 + 2, none⟩ = some (.slice tz t.2.2.1.length tk) := fun w' hb => by
                have h1 := hS.out w' (hbr.trans (hb.mono hbr.size))
                have m1 : ba < wr.heap.size := Nat.lt_of_lt_of_le hba hbr.size
                have m2 : bb < wr.heap.size := Nat.lt_of_lt_of_le hbb2 hbr.size
                exact ⟨⟨h1.1.2.2.1, h1.2.2.2.1⟩, ⟨(hb.cell (by exact m1)).trans e0, (hb.cell (by exact m1)).trans e1, (hb.cell (by exact m1)).trans e2⟩, (hb.cell (by exact m2)).trans j0, (hb.cell (by exact m2)).trans j1, (hb.cell (by exact m2)).trans j2⟩
              have k86 : ∀ wz, Below wr.heap.size wr wz → Calls Try.prog 86 #[.slice so s.2.2.1.length sk, .slice tz t.2.2.1.length tk] wz fun e w' => e = .returned (.bool (eqL shareEq s.2.2.1 t.2.2.1)) ∧ Below wr.heap.size wr w' := fun wz hz => (eq86 _ _ _ _ wz (pr.below hz) (rr.below hz)).mono fun e w' h => ⟨h.1, Tp.Below_seq hz h.2⟩
              have hen := Lib.hid (show entryEq s t = (strEq s.1 t.1 && (strEq s.2.1 t.2.1 && eqL shareEq s.2.2.1 t.2.2.1)) from rfl)
              generalize eqL shareEq s.2.2.1 t.2.2.1 = r at *
              replace hSE := Lib.hid hSE
              replace k86 := Lib.hid k86
              replace hal := Lib.hid hal
              replace hbr := Lib.hid hbr
              replace hs := Lib.hid hs
              replace ht := Lib.hid ht
              clear p0 p1 p2 r0 r1 r2 pr rr c3 d3
              have hbad : entryEq s t = false → Hid (hostEq x y = false) := fun h => Lib.hid (by rw [hn.out, eqL_bad (e := entryEq) hs.out ht.out h]; rfl)
              rcases Bool.eq_false_or_eq_true (strEq s.1 t.1) with h2 | h2
              · have f2 : (s.1.toList == t.1.toList) = true := h2
                rcases Bool.eq_false_or_eq_true (strEq s.2.1 t.2.1) with h3 | h3
                · have f3 : (s.2.1.toList == t.2.1.toList) = true := h3
                  have he := Lib.hid (show entryEq s t = r by rw [hen.out, h2, h3]; rfl)
                  have hbd : Below wr.heap.size wr wr.drew := below_drewN (Below.refl _ _) 1
                  replace hbd := Lib.hid hbd
                  clear h2 h3
                  go_upto_region 6 with fail
                  clear c2 d2 e0 e1 e2 j0 j1 j2
                  go_region_held3 (fun w' => Below wr.heap.size wr w' ∧ (w'.cell? ⟨w.heap.size, 2, none⟩ = some (.slice (some ⟨ba, oa, none⟩) x.2.2.1.length k1) ∧ w'.cell? ⟨w.heap.size + 1, 2, none⟩ = some (.slice (some ⟨bb, ob, none⟩) y.2.2.1.length l1)) ∧
                      (w'.cell? ⟨ba, oa + i * 3, none⟩ = some (.string s.1) ∧ w'.cell? ⟨ba, oa + i * 3 + 1, none⟩ = some (.string s.2.1) ∧ w'.cell? ⟨ba, oa + i * 3 + 2, none⟩ = some (.slice so s.2.2.1.length sk)) ∧
                      w'.cell? ⟨bb, ob + i * 3, none⟩ = some (.string t.1) ∧ w'.cell? ⟨bb, ob + i * 3 + 1, none⟩ = some (.string t.2.1) ∧ w'.cell? ⟨bb, ob + i * 3 + 2, none⟩ = some (.slice tz t.2.2.1.length tk))
                    (first | exact ⟨hbd.out, hSE.out _ hbd.out⟩ | exact ⟨hb', hSE.out _ hb'⟩ | fail)
                    (first | (go_at_call 86; with_reducible refine (k86.out _ hbd.out).mono ?_; rintro e w' ⟨rfl, hb'⟩) | fail)
                  have hbn := Lib.hid (hbr.out.trans (hb'.mono hbr.out.size))
                  clear hb'
                  cases r
                  · have hres := hbad he.out
                    go_wp2_with fail
                    go_ret
                    exact ⟨by rw [hres.out]; rfl, Tp.Below_seq hbb.out hbn.out⟩
                  · go_wp2_with fail
                    go_roundg (x.2.2.1.length - (i + 1))
                    case measure => omega
                    case rel =>
                      refine ⟨i + 1, by omega, rfl, by go_num, fun j s' t' hj hs' ht' => ?_, hbn.out⟩
                      by_cases hji : j = i
                      · subst hji
                        rw [hs.out] at hs'
                        rw [ht.out] at ht'
                        cases hs'
                        cases ht'
                        exact he.out
                      · exact hal.out j s' t' (by omega) hs' ht'
                · have f3 : (s.2.1.toList == t.2.1.toList) = false := h3
                  have hres := hbad (by rw [hen.out, h2, h3]; rfl)
                  clear h2 h3
                  go_upto_region 6 with fail
                  go_quiet (fail)
                  go_wp2
                  go_ret
                  exact ⟨by rw [hres.out]; rfl, Tp.Below_seq hbb.out (below_drewN hbr.out _)⟩
              · have f2 : (s.1.toList == t.1.toList) = false := h2
                have hres := hbad (by rw [hen.out, h2]; rfl)
                clear h2
                go_upto_region 6 with fail
                go_quiet (fail)
                go_wp2
                go_ret
                exact ⟨by rw [hres.out]; rfl, Tp.Below_seq hbb.out (below_drewN hbr.out _)⟩
            · have hi1 : (x.2.2.1.length : Int) ≤ (i : Int) := by omega
              have hes := eqL_all (e := entryEq) (a := x.2.2.1) (b := y.2.2.1) hl1.out fun j s t hs ht => hal j s t (by have := (List.getElem?_eq_some_iff.1 hs).1; omega) hs ht
              have hn2 := Lib.hid (show hostEq x y = eqL permitEq x.2.2.2.1 y.2.2.2.1 by rw [hn.out, hes]; rfl)
              have hdx : decide (i < y.2.2.1.length) = false := by rw [decide_eq_false_iff_not]; have := hl1.out; omega
              replace hbr := Lib.hid hbr
              clear hal hes c3 d3
              go_wp2_with fail
              go_loopg [6] x.2.2.2.1.length (fun g ic wk => ∃ k : Nat, k ≤ x.2.2.2.1.length ∧ g = x.2.2.2.1.length - k ∧ ic = .int .i64 k ∧ (∀ (j : Nat) s t, j < k → x.2.2.2.1[j]? = some s → y.2.2.2.1[j]? = some t → permitEq s t = true) ∧ Below W.heap.size W wk)
              case atStart => exact ⟨0, by omega, rfl, rfl, fun j s t hj => by omega, hbr.out⟩
              case round =>
                obtain ⟨k, hk, rfl, rfl, hal, hbk⟩ := hrel
                clear hbr c2 d2
                obtain ⟨⟨c0, c1, c2, c3⟩, d0, d1, d2, d3⟩ := hS.out wr hbk
                clear c0 c1 d0 d1 c2 d2
                by_cases hlk : k < x.2.2.2.1.length
                · have hltb : k < y.2.2.2.1.length := by have := hl2.out; omega
                  have hk1 : (k : Int) < (x.2.2.2.1.length : Int) := by omega
                  have hk2 : (k : Int) < (y.2.2.2.1.length : Int) := by omega
                  have hs := List.getElem?_eq_getElem hlk
                  have ht := List.getElem?_eq_getElem hltb
                  obtain ⟨ba, oa, rfl, hba, hrs⟩ := at_i hxW'.out hbk hs
                  obtain ⟨bb, ob, rfl, hbb2, hrt⟩ := at_i hyW'.out hbk ht
                  generalize x.2.2.2.1[k] = s at *
                  generalize y.2.2.2.1[k] = t at *
                  obtain ⟨⟨p0, _⟩, ⟨p1, _⟩, p2, _⟩ := hrs
                  obtain ⟨⟨r0, _⟩, ⟨r1, _⟩, r2, _⟩ := hrt
                  have e0 : wr.cell? ⟨ba, oa + k * 3, none⟩ = some (.string s.1) := p0
                  have e1 : wr.cell? ⟨ba, oa + k * 3 + 1, none⟩ = some (.string s.2.1) := p1
                  have e2 : wr.cell? ⟨ba, oa + k * 3 + 2, none⟩ = some (.bool s.2.2.1) := p2
                  have j0 : wr.cell? ⟨bb, ob + k * 3, none⟩ = some (.string t.1) := r0
                  have j1 : wr.cell? ⟨bb, ob + k * 3 + 1, none⟩ = some (.string t.2.1) := r1
                  have j2 : wr.cell? ⟨bb, ob + k * 3 + 2, none⟩ = some (.bool t.2.2.1) := r2
                  replace hal := Lib.hid hal
                  replace hbk := Lib.hid hbk
                  replace hs := Lib.hid hs
                  replace ht := Lib.hid ht
                  clear p0 p1 p2 r0 r1 r2
                  have hbad : permitEq s t = false → Hid (hostEq x y = false) := fun h => Lib.hid (by rw [hn2.out, eqL_bad (e := permitEq) hs.out ht.out h])
                  rcases Bool.eq_false_or_eq_true (strEq s.1 t.1) with h2 | h2
                  · have f2 : (s.1.toList == t.1.toList) = true := h2
                    rcases Bool.eq_false_or_eq_true (strEq s.2.1 t.2.1) with h3 | h3
                    · have f3 : (s.2.1.toList == t.2.1.toList) = true := h3
                      rcases Bool.eq_false_or_eq_true (s.2.2.1 == t.2.2.1) with h4 | h4
                      · have hyes := Lib.hid (show permitEq s t = true by unfold permitEq; rw [h2, h3, h4]; rfl)
                        clear h2 h3
                        go_upto_region 11 with fail
                        go_quiet (fail)
                        go_wp2
                        go_roundg (x.2.2.2.1.length - (k + 1))
                        case measure => omega
                        case rel =>
                          refine ⟨k + 1, by omega, rfl, by go_num, fun j s' t' hj hs' ht' => ?_, below_drewN hbk.out _⟩
                          by_cases hji : j = k
                          · subst hji
                            rw [hs.out] at hs'
                            rw [ht.out] at ht'
                            cases hs'
                            cases ht'
                            exact hyes.out
                          · exact hal.out j s' t' (by omega) hs' ht'
                      · have hres := hbad (by unfold permitEq; rw [h2, h3, h4]; rfl)
                        clear h2 h3
                        go_upto_region 11 with fail
                        go_quiet (fail)
                        go_wp2
                        go_ret
                        exact ⟨by rw [hres.out]; rfl, Tp.Below_seq hbb.out (below_drewN hbk.out _)⟩
                    · have f3 : (s.2.1.toList == t.2.1.toList) = false := h3
                      have hres := hbad (by unfold permitEq; rw [h2, h3]; rfl)
                      clear h2 h3
                      go_upto_region 11 with fail
                      go_quiet (fail)
                      go_wp2
                      go_ret
                      exact ⟨by rw [hres.out]; rfl, Tp.Below_seq hbb.out (below_drewN hbk.out _)⟩
                  · have f2 : (s.1.toList == t.1.toList) = false := h2
                    have hres := hbad (by unfold permitEq; rw [h2]; rfl)
                    clear h2
                    go_upto_region 11 with fail
                    go_quiet (fail)
                    go_wp2
                    go_ret
                    exact ⟨by rw [hres.out]; rfl, Tp.Below_seq hbb.out (below_drewN hbk.out _)⟩
                · have hk1 : (x.2.2.2.1.length : Int) ≤ (k : Int) := by omega
                  have hps := eqL_all (e := permitEq) (a := x.2.2.2.1) (b := y.2.2.2.1) hl2.out fun j s t hs ht => hal j s t (by have := (List.getElem?_eq_some_iff.1 hs).1; omega) hs ht
                  have hres := Lib.hid (show hostEq x y = true by rw [hn2.out, hps])
                  replace hbk := Lib.hid hbk
                  clear hal hps
                  go_wp2_with fail
                  go_ret
                  exact ⟨by rw [hres.out]; rfl, Tp.Below_seq hbb.out hbk.out⟩
        · have g1 : ((x.2.2.1.length : Int) == (y.2.2.1.length : Int)) = true := by simp [hl1]
          have z1 : (x.2.2.1.length : Int) = (y.2.2.1.length : Int) := by omega
          have g2 : ((x.2.2.2.1.length : Int) == (y.2.2.2.1.length : Int)) = false := by simp; omega
          have z2 : ¬ (x.2.2.2.1.length : Int) = (y.2.2.2.1.length : Int) := by omega
          have hl2' := eqL_len (e := permitEq) hl2
          replace hl1 := Lib.hid hl1
          clear hl2
          have hn := Lib.hid (show hostEq x y = false by rw [hne.out, h0, h1, hl2']; first | rfl | simp)
          clear h0 h1 hl2'
          go_enter Try.func49, Try.ntmps49
          go_upto_region 1 with fail
          change Code.wp _ _ _ _ ((w.alloc (.cells #[.string x.1, .string x.2.1, .slice a1 x.2.2.1.length k1, .slice a2 x.2.2.2.1.length k2] 56)).alloc (.cells #[.string y.1, .string y.2.1, .slice b1 y.2.2.1.length l1, .slice b2 y.2.2.2.1.length l2] 56))
          rw [← hW]
          replace hW := Lib.hid hW
          go_wp2_with fail
          go_ret
          exact ⟨by rw [hn.out]; rfl, hbb.out⟩
      · have g1 : ((x.2.2.1.length : Int) == (y.2.2.1.length : Int)) = false := by simp; omega
        have z1 : ¬ (x.2.2.1.length : Int) = (y.2.2.1.length : Int) := by omega
        have hl1' := eqL_len (e := entryEq) hl1
        clear hl1
        have hn := Lib.hid (show hostEq x y = false by rw [hne.out, h0, h1, hl1']; first | rfl | simp)
        clear h0 h1 hl1'
        go_enter Try.func49, Try.ntmps49
        go_upto_region 1 with fail
        change Code.wp _ _ _ _ ((w.alloc (.cells #[.string x.1, .string x.2.1, .slice a1 x.2.2.1.length k1, .slice a2 x.2.2.2.1.length k2] 56)).alloc (.cells #[.string y.1, .string y.2.1, .slice b1 y.2.2.1.length l1, .slice b2 y.2.2.2.1.length l2] 56))
        rw [← hW]
        replace hW := Lib.hid hW
        go_wp2_with fail
        go_ret
        exact ⟨by rw [hn.out]; rfl, hbb.out⟩
    · have f1 : (x.2.1.toList == y.2.1.toList) = false := h1
      have hn := Lib.hid (show hostEq x y = false by rw [hne.out, h0, h1]; first | rfl | simp)
      clear h0 h1
      go_enter Try.func49, Try.ntmps49
      go_upto_region 1 with fail
      change Code.wp _ _ _ _ ((w.alloc (.cells #[.string x.1, .string x.2.1, .slice a1 x.2.2.1.length k1, .slice a2 x.2.2.2.1.length k2] 56)).alloc (.cells #[.string y.1, .string y.2.1, .slice b1 y.2.2.1.length l1, .slice b2 y.2.2.2.1.length l2] 56))
      rw [← hW]
      replace hW := Lib.hid hW
      go_wp2_with fail
      go_ret
      exact ⟨by rw [hn.out]; rfl, hbb.out⟩
  · have f0 : (x.1.toList == y.1.toList) = false := h0
    have hn := Lib.hid (show hostEq x y = false by rw [hne.out, h0]; first | rfl | simp)
    clear h0
    go_enter Try.func49, Try.ntmps49
    go_upto_region 1 with fail
    change Code.wp _ _ _ _ ((w.alloc (.cells #[.string x.1, .string x.2.1, .slice a1 x.2.2.1.length k1, .slice a2 x.2.2.2.1.length k2] 56)).alloc (.cells #[.string y.1, .string y.2.1, .slice b1 y.2.2.1.length l1, .slice b2 y.2.2.2.1.length l2] 56))
    rw [← hW]
    replace hW := Lib.hid hW
    go_wp2_with fail
    go_ret
    exact ⟨by rw [hn.out]; rfl, hbb.out⟩
end Go.Proofs.Ytghfahhfiihneaa
