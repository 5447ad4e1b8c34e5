/- The walks of slices.EqualFunc over entries and hosts, and of the tests that it is handed. -/
import Derived.Test.YtghfahhfiihneaaEq
namespace Go.Proofs.Ytghfahhfiihneaa
open Go.ChangeShapes Go.WideShapes Go.ChangeAt Go.RowKit
open Go.Tb
set_option linter.unusedVariables false
set_option maxRecDepth 100000
set_option maxHeartbeats 4000000 in
theorem eq86 (a b : List Share) (va vb : Value) (w : World) (ha : Rd.SliceOf shareE w va a) (hb : Rd.SliceOf shareE w vb b) :
    Calls Try.prog 86 #[va, vb] w fun e w' => e = .returned (.bool (eqL shareEq a b)) ∧ Below w.heap.size w w' := by
  have hla := ha.1
  have hlb := hb.1
  obtain ⟨ao, ca, hv⟩ := slice_shape ha
  subst hv
  obtain ⟨bo, cb, hv⟩ := slice_shape hb
  subst hv
  by_cases hl : a.length = b.length
  · have hl1 : ((a.length : Int) == (b.length : Int)) = true := by simp [hl]
    have hlz : (a.length : Int) = (b.length : Int) := by omega
    replace ha := Lib.hid ha
    replace hb := Lib.hid hb
    replace hl := Lib.hid hl
    go_enter Try.func86, Try.ntmps86
    go_wp2_with fail
    go_loopg [5] a.length (fun g ic wr => ∃ i : Nat, i ≤ a.length ∧ g = a.length - i ∧ ic = .int .i64 i ∧ (∀ (j : Nat) x y, j < i → a[j]? = some x → b[j]? = some y → shareEq x y = true) ∧ Below w.heap.size w wr)
    case atStart => exact ⟨0, by omega, rfl, rfl, fun j x y hj => by omega, Below.refl _ _⟩
    case round =>
      obtain ⟨i, hi, rfl, rfl, hal, hbr⟩ := hrel
      by_cases hlt : i < a.length
      · have hltb : i < b.length := by have := hl.out; omega
        have hi1 : (i : Int) < (a.length : Int) := by omega
        have hi2 : (i : Int) < (b.length : Int) := by omega
        have hx := List.getElem?_eq_getElem hlt
        have hy := List.getElem?_eq_getElem hltb
        obtain ⟨ba, oa, rfl, _, hrx⟩ := at_i ha.out hbr hx
        obtain ⟨bb, ob, rfl, _, hry⟩ := at_i hb.out hbr hy
        generalize a[i] = x at *
        generalize b[i] = y at *
        obtain ⟨⟨p0, _⟩, ⟨p1, _⟩, _⟩ := hrx
        obtain ⟨⟨q0, _⟩, ⟨q1, _⟩, _⟩ := hry
        have c0 : wr.cell? ⟨ba, oa + i * 2, none⟩ = some (.string x.1) := p0
        have d0 : wr.cell? ⟨bb, ob + i * 2, none⟩ = some (.string y.1) := q0
        have c1 : wr.cell? ⟨ba, oa + i * 2 + 1, none⟩ = some (.float .f64 x.2.1) := p1
        have d1 : wr.cell? ⟨bb, ob + i * 2 + 1, none⟩ = some (.float .f64 y.2.1) := q1
        replace hal := Lib.hid hal
        replace hbr := Lib.hid hbr
        replace hx := Lib.hid hx
        replace hy := Lib.hid hy
        clear p0 q0 p1 q1
        rcases Bool.eq_false_or_eq_true (strEq x.1 y.1) with h0 | h0
        · skip
          rcases Bool.eq_false_or_eq_true (fEq x.2.1 y.2.1) with h1 | h1
          · skip
            have f0 : (x.1.toList == y.1.toList) = true := h0
            have f1 : (FloatKind.f64.format.order x.2.1 y.2.1 == some Ordering.eq) = true := h1
            have hyes := Lib.hid (show shareEq x y = true from (by unfold shareEq; rw [h0, h1]; rfl))
            clear h0 h1
            go_upto_region 6 with fail
            go_quiet (fail)
            go_wp2
            go_roundg (a.length - (i + 1))
            case measure => omega
            case rel =>
              refine ⟨i + 1, by omega, rfl, by go_num, fun j x' y' hj hx' hy' => ?_, below_drewN hbr.out _⟩
              by_cases hji : j = i
              · subst hji
                rw [hx.out] at hx'
                rw [hy.out] at hy'
                cases hx'
                cases hy'
                exact hyes.out
              · exact hal.out j x' y' (by omega) hx' hy'
          · skip
            have f0 : (x.1.toList == y.1.toList) = true := h0
            have f1 : (FloatKind.f64.format.order x.2.1 y.2.1 == some Ordering.eq) = false := h1
            have hres := Lib.hid (eqL_bad (e := shareEq) hx.out hy.out (by unfold shareEq; rw [h0, h1]; rfl))
            clear h0 h1
            go_upto_region 6 with fail
            go_quiet (fail)
            go_wp2
            go_ret
            exact ⟨by rw [hres.out]; rfl, below_drewN hbr.out _⟩
        · skip
          have f0 : (x.1.toList == y.1.toList) = false := h0
          have hres := Lib.hid (eqL_bad (e := shareEq) hx.out hy.out (by unfold shareEq; rw [h0]; rfl))
          clear h0
          go_upto_region 6 with fail
          go_quiet (fail)
          go_wp2
          go_ret
          exact ⟨by rw [hres.out]; rfl, below_drewN hbr.out _⟩
      · have hi1 : (a.length : Int) ≤ (i : Int) := by omega
        have hres := Lib.hid (eqL_all (e := shareEq) (a := a) (b := b) hl.out fun j x y hx hy => hal j x y (by have := (List.getElem?_eq_some_iff.1 hx).1; omega) hx hy)
        replace hbr := Lib.hid hbr
        clear hal
        go_wp2_with fail
        go_ret
        exact ⟨by rw [hres.out]; rfl, hbr.out⟩
  · have hl1 : ((a.length : Int) == (b.length : Int)) = false := by simp; omega
    have hlz : ¬ (a.length : Int) = (b.length : Int) := by omega
    have hres := Lib.hid (eqL_len (e := shareEq) hl)
    clear ha hb hl
    go_enter Try.func86, Try.ntmps86
    go_wp2_with fail
    go_ret
    exact ⟨by rw [hres.out]; rfl, Below.refl _ _⟩
theorem same42 (x y : Entry) (v u : Value) (w : World) (hx : Rd.SliceOf shareE w v x.2.2.1) (hy : Rd.SliceOf shareE w u y.2.2.1) :
    Calls Try.prog 42 #[.agg #[.string x.1, .string x.2.1, v], .agg #[.string y.1, .string y.2.1, u]] w fun e w' => e = .returned (.bool (entryEq x y)) ∧ Below w.heap.size w w' := by
  obtain ⟨ao, ca, hv⟩ := slice_shape hx
  subst hv
  obtain ⟨bo, cb, hv⟩ := slice_shape hy
  subst hv
  have hbb := Tp.Below_seq (Tp.Below_alloc w (.cells #[.string x.1, .string x.2.1, .slice ao x.2.2.1.length ca] 58)) (Tp.Below_alloc _ (.cells #[.string y.1, .string y.2.1, .slice bo y.2.2.1.length cb] 58))
  have hcall := eq43 _ _ _ _ _ (hx.below hbb) (hy.below hbb)
  have hne : entryEq x y = (strEq x.1 y.1 && (strEq x.2.1 y.2.1 && eqL shareEq x.2.2.1 y.2.2.1)) := rfl
  generalize eqL shareEq x.2.2.1 y.2.2.1 = r at *
  replace hcall := Lib.hid hcall
  replace hbb := Lib.hid hbb
  replace hne := Lib.hid hne
  clear hx hy
  rcases Bool.eq_false_or_eq_true (strEq x.1 y.1) with h0 | h0
  · have f0 : (x.1.toList == y.1.toList) = true := h0
    rcases Bool.eq_false_or_eq_true (strEq x.2.1 y.2.1) with h1 | h1
    · have f1 : (x.2.1.toList == y.2.1.toList) = true := h1
      have hn := Lib.hid (show entryEq x y = r by rw [hne.out, h0, h1]; rfl)
      clear h0 h1
      go_enter Try.func42, Try.ntmps42
      go_wp2_with fail
      refine hcall.out.mono ?_
      rintro e w1 ⟨rfl, hb1⟩
      go_wp2_with fail
      go_ret
      exact ⟨by rw [hn.out]; rfl, Tp.Below_seq hbb.out hb1⟩
    · have f1 : (x.2.1.toList == y.2.1.toList) = false := h1
      have hn := Lib.hid (show entryEq x y = false by rw [hne.out, h0, h1]; rfl)
      clear h0 h1
      go_enter Try.func42, Try.ntmps42
      go_wp2_with fail
      go_ret
      exact ⟨by rw [hn.out]; rfl, hbb.out⟩
  · have f0 : (x.1.toList == y.1.toList) = false := h0
    have hn := Lib.hid (show entryEq x y = false by rw [hne.out, h0]; rfl)
    clear h0
    go_enter Try.func42, Try.ntmps42
    go_wp2_with fail
    go_ret
    exact ⟨by rw [hn.out]; rfl, hbb.out⟩
set_option maxHeartbeats 4000000 in
theorem eqf45 (a b : List Entry) (va vb : Value) (w : World) (ha : Rd.SliceOf entryE w va a) (hb : Rd.SliceOf entryE w vb b) :
    Calls Try.prog 45 #[va, vb, .func (.func 42) #[] #[]] w fun e w' => e = .returned (.bool (eqL entryEq a b)) ∧ Below w.heap.size w w' := by
  have hla := ha.1
  have hlb := hb.1
  obtain ⟨ao, ca, hv⟩ := slice_shape ha
  subst hv
  obtain ⟨bo, cb, hv⟩ := slice_shape hb
  subst hv
  by_cases hl : a.length = b.length
  · have hl1 : ((a.length : Int) == (b.length : Int)) = true := by simp [hl]
    have hlz : (a.length : Int) = (b.length : Int) := by omega
    replace ha := Lib.hid ha
    replace hb := Lib.hid hb
    replace hl := Lib.hid hl
    go_enter Try.func45, Try.ntmps45
    go_wp2_with fail
    go_loopg [17] a.length (fun g ic wr => ∃ i : Nat, i ≤ a.length ∧ g = a.length - i ∧ ic = .int .i64 i ∧ (∀ (j : Nat) x y, j < i → a[j]? = some x → b[j]? = some y → entryEq x y = true) ∧ Below w.heap.size w wr)
    case atStart => exact ⟨0, by omega, rfl, rfl, fun j x y hj => by omega, Below.refl _ _⟩
    case round =>
      obtain ⟨i, hi, rfl, rfl, hal, hbr⟩ := hrel
      by_cases hlt : i < a.length
      · have hltb : i < b.length := by have := hl.out; omega
        have hi1 : (i : Int) < (a.length : Int) := by omega
        have hi2 : (i : Int) < (b.length : Int) := by omega
        have hx := List.getElem?_eq_getElem hlt
        have hy := List.getElem?_eq_getElem hltb
        obtain ⟨ba, oa, rfl, _, hrx⟩ := at_i ha.out hbr hx
        generalize a[i] = x at *
        obtain ⟨⟨p0, _⟩, ⟨p1, _⟩, ⟨pv2, p2, pr2⟩, _⟩ := hrx
        obtain ⟨xo0, xk0, rfl⟩ := slice_shape pr2
        have pc0 : (wr).cell? ⟨ba, oa + i * 3, none⟩ = some (.string x.1) := p0
        have pc1 : (wr).cell? ⟨ba, oa + i * 3 + 1, none⟩ = some (.string x.2.1) := p1
        have pc2 : (wr).cell? ⟨ba, oa + i * 3 + 2, none⟩ = some (.slice xo0 x.2.2.1.length xk0) := p2
        clear p0 p1 p2
        have hbx : Below wr.heap.size wr (wr.alloc (.cells #[.string x.1, .string x.2.1, .slice xo0 x.2.2.1.length xk0] 58)) := Tp.Below_alloc wr _
        have hbq : Below w.heap.size w (wr.alloc (.cells #[.string x.1, .string x.2.1, .slice xo0 x.2.2.1.length xk0] 58)) := Tp.Below_seq hbr hbx
        obtain ⟨bb, ob, rfl, _, hry⟩ := at_i hb.out hbq hy
        generalize b[i] = y at *
        obtain ⟨⟨q0, _⟩, ⟨q1, _⟩, ⟨qv2, q2, qr2⟩, _⟩ := hry
        obtain ⟨yo0, yk0, rfl⟩ := slice_shape qr2
        have qc0 : (wr.alloc (.cells #[.string x.1, .string x.2.1, .slice xo0 x.2.2.1.length xk0] 58)).cell? ⟨bb, ob + i * 3, none⟩ = some (.string y.1) := q0
        have qc1 : (wr.alloc (.cells #[.string x.1, .string x.2.1, .slice xo0 x.2.2.1.length xk0] 58)).cell? ⟨bb, ob + i * 3 + 1, none⟩ = some (.string y.2.1) := q1
        have qc2 : (wr.alloc (.cells #[.string x.1, .string x.2.1, .slice xo0 x.2.2.1.length xk0] 58)).cell? ⟨bb, ob + i * 3 + 2, none⟩ = some (.slice yo0 y.2.2.1.length yk0) := q2
        clear q0 q1 q2
        have hby : Below (wr.alloc (.cells #[.string x.1, .string x.2.1, .slice xo0 x.2.2.1.length xk0] 58)).heap.size (wr.alloc (.cells #[.string x.1, .string x.2.1, .slice xo0 x.2.2.1.length xk0] 58)) ((wr.alloc (.cells #[.string x.1, .string x.2.1, .slice xo0 x.2.2.1.length xk0] 58)).alloc (.cells #[.string y.1, .string y.2.1, .slice yo0 y.2.2.1.length yk0] 58)) := Tp.Below_alloc _ _
        have hb2 := Tp.Below_seq hbx hby
        have hcall := same42 x y _ _ ((wr.alloc (.cells #[.string x.1, .string x.2.1, .slice xo0 x.2.2.1.length xk0] 58)).alloc (.cells #[.string y.1, .string y.2.1, .slice yo0 y.2.2.1.length yk0] 58)) (pr2.below hb2) (qr2.below hby)
        have hb3 := Lib.hid (hbr.trans (hb2.mono hbr.size))
        replace hcall := Lib.hid hcall
        replace hal := Lib.hid hal
        replace hx := Lib.hid hx
        replace hy := Lib.hid hy
        clear hbx hbq hby hb2 hbr pr2 qr2
        cases hne : entryEq x y with
        | true =>
          rw [hne] at hcall
          replace hne := Lib.hid hne
          go_wp2_with fail
          refine hcall.out.mono ?_
          rintro e w2 ⟨rfl, hb4⟩
          have hb5 := Lib.hid (hb3.out.trans (hb4.mono hb3.out.size))
          clear hb4 hcall pc0 qc0 pc1 qc1 pc2 qc2
          go_wp2_with fail
          go_roundg (a.length - (i + 1))
          case measure => omega
          case rel =>
            refine ⟨i + 1, by omega, rfl, by go_num, fun j x' y' hj hx' hy' => ?_, hb5.out⟩
            by_cases hji : j = i
            · subst hji
              rw [hx.out] at hx'
              rw [hy.out] at hy'
              cases hx'
              cases hy'
              exact hne.out
            · exact hal.out j x' y' (by omega) hx' hy'
        | false =>
          have hres := Lib.hid (eqL_bad (e := entryEq) hx.out hy.out hne)
          rw [hne] at hcall
          replace hne := Lib.hid hne
          go_wp2_with fail
          refine hcall.out.mono ?_
          rintro e w2 ⟨rfl, hb4⟩
          have hb5 := Lib.hid (hb3.out.trans (hb4.mono hb3.out.size))
          clear hb4 hcall pc0 qc0 pc1 qc1 pc2 qc2
          go_wp2_with fail
          go_ret
          exact ⟨by rw [hres.out]; rfl, hb5.out⟩
      · have hi1 : (a.length : Int) ≤ (i : Int) := by omega
        have hres := Lib.hid (eqL_all (e := entryEq) (a := a) (b := b) hl.out fun j x y hx hy => hal j x y (by have := (List.getElem?_eq_some_iff.1 hx).1; omega) hx hy)
        replace hbr := Lib.hid hbr
        clear hal
        go_wp2_with fail
        go_ret
        exact ⟨by rw [hres.out]; rfl, hbr.out⟩
  · have hl1 : ((a.length : Int) == (b.length : Int)) = false := by simp; omega
    have hlz : ¬ (a.length : Int) = (b.length : Int) := by omega
    have hres := Lib.hid (eqL_len (e := entryEq) hl)
    clear ha hb hl
    go_enter Try.func45, Try.ntmps45
    go_wp2_with fail
    go_ret
    exact ⟨by rw [hres.out]; rfl, Below.refl _ _⟩
theorem same44 (x y : Host) (v v' u u' : Value) (bf : Nat) (w : World) (hbf : bf < w.heap.size) (hcf : w.cell? ⟨bf, 0, none⟩ = some (.func (.func 42) #[] #[])) (hx : Rd.SliceOf entryE w v x.2.2.1) (hx' : Rd.SliceOf permitE w v' x.2.2.2.1) (hy : Rd.SliceOf entryE w u y.2.2.1) (hy' : Rd.SliceOf permitE w u' y.2.2.2.1) :
    Calls Try.prog 44 #[.agg #[.string x.1, .string x.2.1, v, v'], .agg #[.string y.1, .string y.2.1, u, u'], .pointer (some ⟨bf, 0, none⟩)] w fun e w' => e = .returned (.bool (hostEq x y)) ∧ Below w.heap.size w w' := by
  obtain ⟨ao, ca, hv⟩ := slice_shape hx
  subst hv
  obtain ⟨bo, cb, hv⟩ := slice_shape hy
  subst hv
  obtain ⟨ao', ca', hv⟩ := slice_shape hx'
  subst hv
  obtain ⟨bo', cb', hv⟩ := slice_shape hy'
  subst hv
  have hbb := Tp.Below_seq (Tp.Below_alloc w (.cells #[.string x.1, .string x.2.1, .slice ao x.2.2.1.length ca, .slice ao' x.2.2.2.1.length ca'] 56)) (Tp.Below_alloc _ (.cells #[.string y.1, .string y.2.1, .slice bo y.2.2.1.length cb, .slice bo' y.2.2.2.1.length cb'] 56))
  have hX : ((w.alloc (.cells #[.string x.1, .string x.2.1, .slice ao x.2.2.1.length ca, .slice ao' x.2.2.2.1.length ca'] 56)).alloc (.cells #[.string y.1, .string y.2.1, .slice bo y.2.2.1.length cb, .slice bo' y.2.2.2.1.length cb'] 56)).heap[w.heap.size]? = some (.cells #[.string x.1, .string x.2.1, .slice ao x.2.2.1.length ca, .slice ao' x.2.2.2.1.length ca'] 56) := (Below.heap_alloc _ _ _ (by simp)).trans (heap_alloc_new w _)
  have hY : ((w.alloc (.cells #[.string x.1, .string x.2.1, .slice ao x.2.2.1.length ca, .slice ao' x.2.2.2.1.length ca'] 56)).alloc (.cells #[.string y.1, .string y.2.1, .slice bo y.2.2.1.length cb, .slice bo' y.2.2.2.1.length cb'] 56)).heap[w.heap.size + 1]? = some (.cells #[.string y.1, .string y.2.1, .slice bo y.2.2.1.length cb, .slice bo' y.2.2.2.1.length cb'] 56) := by
    have h := heap_alloc_new (w.alloc (.cells #[.string x.1, .string x.2.1, .slice ao x.2.2.1.length ca, .slice ao' x.2.2.2.1.length ca'] 56)) (.cells #[.string y.1, .string y.2.1, .slice bo y.2.2.1.length cb, .slice bo' y.2.2.2.1.length cb'] 56)
    rw [show (w.alloc (.cells #[.string x.1, .string x.2.1, .slice ao x.2.2.1.length ca, .slice ao' x.2.2.2.1.length ca'] 56)).heap.size = w.heap.size + 1 by simp] at h
    exact h
  have hS : ∀ w', Below ((w.alloc (.cells #[.string x.1, .string x.2.1, .slice ao x.2.2.1.length ca, .slice ao' x.2.2.2.1.length ca'] 56)).alloc (.cells #[.string y.1, .string y.2.1, .slice bo y.2.2.1.length cb, .slice bo' y.2.2.2.1.length cb'] 56)).heap.size ((w.alloc (.cells #[.string x.1, .string x.2.1, .slice ao x.2.2.1.length ca, .slice ao' x.2.2.2.1.length ca'] 56)).alloc (.cells #[.string y.1, .string y.2.1, .slice bo y.2.2.1.length cb, .slice bo' y.2.2.2.1.length cb'] 56)) w' → w'.cell? ⟨w.heap.size, 3, none⟩ = some (.slice ao' x.2.2.2.1.length ca') ∧ w'.cell? ⟨w.heap.size + 1, 3, none⟩ = some (.slice bo' y.2.2.2.1.length cb') := fun w' hb =>
    ⟨(cell_of_row _ _ 3 _ _ _ ((hb.block _ (Array.getElem?_eq_some_iff.1 hX).1).trans hX)).trans rfl, (cell_of_row _ _ 3 _ _ _ ((hb.block _ (Array.getElem?_eq_some_iff.1 hY).1).trans hY)).trans rfl⟩
  replace hS := Lib.hid hS
  clear hX hY
  have hc2 := (hbb.cell (show Addr.block ⟨bf, 0, none⟩ < w.heap.size from hbf)).trans hcf
  have hcall := eqf45 _ _ _ _ _ (hx.below hbb) (hy.below hbb)
  have hcall2 := fun wz (hz : Below _ _ wz) => eq46 _ _ _ _ wz ((hx'.below hbb).below hz) ((hy'.below hbb).below hz)
  have hne : hostEq x y = (strEq x.1 y.1 && (strEq x.2.1 y.2.1 && (eqL entryEq x.2.2.1 y.2.2.1 && eqL permitEq x.2.2.2.1 y.2.2.2.1))) := rfl
  generalize eqL entryEq x.2.2.1 y.2.2.1 = r at *
  generalize eqL permitEq x.2.2.2.1 y.2.2.2.1 = s at *
  replace hcall := Lib.hid hcall
  replace hcall2 := Lib.hid hcall2
  replace hbb := Lib.hid hbb
  replace hne := Lib.hid hne
  clear hx hy hx' hy' hcf
  rcases Bool.eq_false_or_eq_true (strEq x.1 y.1) with h0 | h0
  · have f0 : (x.1.toList == y.1.toList) = true := h0
    rcases Bool.eq_false_or_eq_true (strEq x.2.1 y.2.1) with h1 | h1
    · have f1 : (x.2.1.toList == y.2.1.toList) = true := h1
      have hn := Lib.hid (show hostEq x y = (r && s) by rw [hne.out, h0, h1]; rfl)
      clear h0 h1
      cases r
      · go_enter Try.func44, Try.ntmps44
        go_wp2_with fail
        refine hcall.out.mono ?_
        rintro e w1 ⟨rfl, hb1⟩
        go_wp2_with fail
        go_ret
        exact ⟨by rw [hn.out]; rfl, Tp.Below_seq hbb.out hb1⟩
      · go_enter Try.func44, Try.ntmps44
        go_wp2_with fail
        refine hcall.out.mono ?_
        rintro e w1 ⟨rfl, hb1⟩
        obtain ⟨k0, k1⟩ := hS.out w1 hb1
        replace hb1 := Lib.hid hb1
        go_wp2_with fail
        refine (hcall2.out _ hb1.out).mono ?_
        rintro e w2 ⟨rfl, hb2⟩
        go_wp2_with fail
        go_ret
        exact ⟨by rw [hn.out]; rfl, Tp.Below_seq hbb.out (Tp.Below_seq hb1.out hb2)⟩
    · have f1 : (x.2.1.toList == y.2.1.toList) = false := h1
      have hn := Lib.hid (show hostEq x y = false by rw [hne.out, h0, h1]; rfl)
      clear h0 h1
      go_enter Try.func44, Try.ntmps44
      go_wp2_with fail
      go_ret
      exact ⟨by rw [hn.out]; rfl, hbb.out⟩
  · have f0 : (x.1.toList == y.1.toList) = false := h0
    have hn := Lib.hid (show hostEq x y = false by rw [hne.out, h0]; rfl)
    clear h0
    go_enter Try.func44, Try.ntmps44
    go_wp2_with fail
    go_ret
    exact ⟨by rw [hn.out]; rfl, hbb.out⟩
set_option maxHeartbeats 4000000 in
theorem eqf47 (a b : List Host) (va vb : Value) (w : World) (bf : Nat) (hbf : bf < w.heap.size) (hcf : w.cell? ⟨bf, 0, none⟩ = some (.func (.func 42) #[] #[])) (ha : Rd.SliceOf hostE w va a) (hb : Rd.SliceOf hostE w vb b) :
    Calls Try.prog 47 #[va, vb, .func (.func 44) #[] #[.pointer (some ⟨bf, 0, none⟩)]] w fun e w' => e = .returned (.bool (eqL hostEq a b)) ∧ Below w.heap.size w w' := by
  have hla := ha.1
  have hlb := hb.1
  obtain ⟨ao, ca, hv⟩ := slice_shape ha
  subst hv
  obtain ⟨bo, cb, hv⟩ := slice_shape hb
  subst hv
  by_cases hl : a.length = b.length
  · have hl1 : ((a.length : Int) == (b.length : Int)) = true := by simp [hl]
    have hlz : (a.length : Int) = (b.length : Int) := by omega
    replace ha := Lib.hid ha
    replace hb := Lib.hid hb
    replace hl := Lib.hid hl
    replace hcf := Lib.hid hcf
    go_enter Try.func47, Try.ntmps47
    go_wp2_with fail
    go_loopg [17] a.length (fun g ic wr => ∃ i : Nat, i ≤ a.length ∧ g = a.length - i ∧ ic = .int .i64 i ∧ (∀ (j : Nat) x y, j < i → a[j]? = some x → b[j]? = some y → hostEq x y = true) ∧ Below w.heap.size w wr)
    case atStart => exact ⟨0, by omega, rfl, rfl, fun j x y hj => by omega, Below.refl _ _⟩
    case round =>
      obtain ⟨i, hi, rfl, rfl, hal, hbr⟩ := hrel
      by_cases hlt : i < a.length
      · have hltb : i < b.length := by have := hl.out; omega
        have hi1 : (i : Int) < (a.length : Int) := by omega
        have hi2 : (i : Int) < (b.length : Int) := by omega
        have hx := List.getElem?_eq_getElem hlt
        have hy := List.getElem?_eq_getElem hltb
        obtain ⟨ba, oa, rfl, _, hrx⟩ := at_i ha.out hbr hx
        generalize a[i] = x at *
        obtain ⟨⟨p0, _⟩, ⟨p1, _⟩, ⟨pv2, p2, pr2⟩, ⟨pv3, p3, pr3⟩, _⟩ := hrx
        obtain ⟨xo0, xk0, rfl⟩ := slice_shape pr2
        obtain ⟨xo1, xk1, rfl⟩ := slice_shape pr3
        have pc0 : (wr).cell? ⟨ba, oa + i * 4, none⟩ = some (.string x.1) := p0
        have pc1 : (wr).cell? ⟨ba, oa + i * 4 + 1, none⟩ = some (.string x.2.1) := p1
        have pc2 : (wr).cell? ⟨ba, oa + i * 4 + 2, none⟩ = some (.slice xo0 x.2.2.1.length xk0) := p2
        have pc3 : (wr).cell? ⟨ba, oa + i * 4 + 3, none⟩ = some (.slice xo1 x.2.2.2.1.length xk1) := p3
        clear p0 p1 p2 p3
        have hbx : Below wr.heap.size wr (wr.alloc (.cells #[.string x.1, .string x.2.1, .slice xo0 x.2.2.1.length xk0, .slice xo1 x.2.2.2.1.length xk1] 56)) := Tp.Below_alloc wr _
        have hbq : Below w.heap.size w (wr.alloc (.cells #[.string x.1, .string x.2.1, .slice xo0 x.2.2.1.length xk0, .slice xo1 x.2.2.2.1.length xk1] 56)) := Tp.Below_seq hbr hbx
        obtain ⟨bb, ob, rfl, _, hry⟩ := at_i hb.out hbq hy
        generalize b[i] = y at *
        obtain ⟨⟨q0, _⟩, ⟨q1, _⟩, ⟨qv2, q2, qr2⟩, ⟨qv3, q3, qr3⟩, _⟩ := hry
        obtain ⟨yo0, yk0, rfl⟩ := slice_shape qr2
        obtain ⟨yo1, yk1, rfl⟩ := slice_shape qr3
        have qc0 : (wr.alloc (.cells #[.string x.1, .string x.2.1, .slice xo0 x.2.2.1.length xk0, .slice xo1 x.2.2.2.1.length xk1] 56)).cell? ⟨bb, ob + i * 4, none⟩ = some (.string y.1) := q0
        have qc1 : (wr.alloc (.cells #[.string x.1, .string x.2.1, .slice xo0 x.2.2.1.length xk0, .slice xo1 x.2.2.2.1.length xk1] 56)).cell? ⟨bb, ob + i * 4 + 1, none⟩ = some (.string y.2.1) := q1
        have qc2 : (wr.alloc (.cells #[.string x.1, .string x.2.1, .slice xo0 x.2.2.1.length xk0, .slice xo1 x.2.2.2.1.length xk1] 56)).cell? ⟨bb, ob + i * 4 + 2, none⟩ = some (.slice yo0 y.2.2.1.length yk0) := q2
        have qc3 : (wr.alloc (.cells #[.string x.1, .string x.2.1, .slice xo0 x.2.2.1.length xk0, .slice xo1 x.2.2.2.1.length xk1] 56)).cell? ⟨bb, ob + i * 4 + 3, none⟩ = some (.slice yo1 y.2.2.2.1.length yk1) := q3
        clear q0 q1 q2 q3
        have hby : Below (wr.alloc (.cells #[.string x.1, .string x.2.1, .slice xo0 x.2.2.1.length xk0, .slice xo1 x.2.2.2.1.length xk1] 56)).heap.size (wr.alloc (.cells #[.string x.1, .string x.2.1, .slice xo0 x.2.2.1.length xk0, .slice xo1 x.2.2.2.1.length xk1] 56)) ((wr.alloc (.cells #[.string x.1, .string x.2.1, .slice xo0 x.2.2.1.length xk0, .slice xo1 x.2.2.2.1.length xk1] 56)).alloc (.cells #[.string y.1, .string y.2.1, .slice yo0 y.2.2.1.length yk0, .slice yo1 y.2.2.2.1.length yk1] 56)) := Tp.Below_alloc _ _
        have hb2 := Tp.Below_seq hbx hby
        have hcf2 := (Tp.Below_seq hbr hb2).cell (show Addr.block ⟨bf, 0, none⟩ < w.heap.size from hbf)
        have hcall := same44 x y _ _ _ _ bf ((wr.alloc (.cells #[.string x.1, .string x.2.1, .slice xo0 x.2.2.1.length xk0, .slice xo1 x.2.2.2.1.length xk1] 56)).alloc (.cells #[.string y.1, .string y.2.1, .slice yo0 y.2.2.1.length yk0, .slice yo1 y.2.2.2.1.length yk1] 56)) (Nat.lt_of_lt_of_le hbf (Tp.Below_seq hbr hb2).size) (hcf2.trans hcf.out) (pr2.below hb2) (pr3.below hb2) (qr2.below hby) (qr3.below hby)
        have hb3 := Lib.hid (hbr.trans (hb2.mono hbr.size))
        replace hcall := Lib.hid hcall
        replace hal := Lib.hid hal
        replace hx := Lib.hid hx
        replace hy := Lib.hid hy
        clear hbx hbq hby hb2 hbr pr2 qr2 pr3 qr3 hcf2
        cases hne : hostEq x y with
        | true =>
          rw [hne] at hcall
          replace hne := Lib.hid hne
          go_wp2_with fail
          refine hcall.out.mono ?_
          rintro e w2 ⟨rfl, hb4⟩
          have hb5 := Lib.hid (hb3.out.trans (hb4.mono hb3.out.size))
          clear hb4 hcall pc0 qc0 pc1 qc1 pc2 qc2 pc3 qc3
          go_wp2_with fail
          go_roundg (a.length - (i + 1))
          case measure => omega
          case rel =>
            refine ⟨i + 1, by omega, rfl, by go_num, fun j x' y' hj hx' hy' => ?_, hb5.out⟩
            by_cases hji : j = i
            · subst hji
              rw [hx.out] at hx'
              rw [hy.out] at hy'
              cases hx'
              cases hy'
              exact hne.out
            · exact hal.out j x' y' (by omega) hx' hy'
        | false =>
          have hres := Lib.hid (eqL_bad (e := hostEq) hx.out hy.out hne)
          rw [hne] at hcall
          replace hne := Lib.hid hne
          go_wp2_with fail
          refine hcall.out.mono ?_
          rintro e w2 ⟨rfl, hb4⟩
          have hb5 := Lib.hid (hb3.out.trans (hb4.mono hb3.out.size))
          clear hb4 hcall pc0 qc0 pc1 qc1 pc2 qc2 pc3 qc3
          go_wp2_with fail
          go_ret
          exact ⟨by rw [hres.out]; rfl, hb5.out⟩
      · have hi1 : (a.length : Int) ≤ (i : Int) := by omega
        have hres := Lib.hid (eqL_all (e := hostEq) (a := a) (b := b) hl.out fun j x y hx hy => hal j x y (by have := (List.getElem?_eq_some_iff.1 hx).1; omega) hx hy)
        replace hbr := Lib.hid hbr
        clear hal
        go_wp2_with fail
        go_ret
        exact ⟨by rw [hres.out]; rfl, hbr.out⟩
  · have hl1 : ((a.length : Int) == (b.length : Int)) = false := by simp; omega
    have hlz : ¬ (a.length : Int) = (b.length : Int) := by omega
    have hres := Lib.hid (eqL_len (e := hostEq) hl)
    clear ha hb hl
    go_enter Try.func47, Try.ntmps47
    go_wp2_with fail
    go_ret
    exact ⟨by rw [hres.out]; rfl, Below.refl _ _⟩
end Go.Proofs.Ytghfahhfiihneaa
