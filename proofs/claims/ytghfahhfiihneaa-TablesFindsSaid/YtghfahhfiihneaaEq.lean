/- The walks of slices.Equal over shares, permits and texts. -/
import Derived.Test.YtghfahhfiihneaaTb
namespace Go.Tb
@[go_sem] theorem run_equalIn_float {P : Program} (w : World) (d : Nat) (t : TypeId) (k k' : FloatKind) (a b : Nat) (h : P.underlying t = some (.float k')) : (Op.equalIn (d + 1) t (.float k a) (.float k b)).run P w = .ok (k.format.order a b == some .eq) w := by
  simp [Op.equalIn, run_underlying h]
  rfl
end Go.Tb
namespace Go.Proofs.Ytghfahhfiihneaa
open Go.ChangeShapes Go.WideShapes Go.ChangeAt Go.RowKit
open Go.Tb
set_option linter.unusedVariables false
set_option maxRecDepth 100000
set_option maxHeartbeats 4000000 in
theorem eq43 (a b : List Share) (va vb : Value) (w : World) (ha : Rd.SliceOf shareE w va a) (hb : Rd.SliceOf shareE w vb b) :
    Calls Try.prog 43 #[va, vb] w fun e w' => e = .returned (.bool (eqL shareEq a b)) ∧ Below w.heap.size w w' := by
  have hla := ha.1
  have hlb := hb.1
  obtain ⟨ao, ca, hv⟩ := slice_shape ha
  subst hv
  obtain ⟨bo, cb, hv⟩ := slice_shape hb
  subst hv
  by_cases hl : a.length = b.length
  · have hl1 : ((a.length : Int) == (b.length : Int)) = true := by simp [hl]
    have hlz : (a.length : Int) = (b.length : Int) := by omega
    replace ha := Lib.hid ha
    replace hb := Lib.hid hb
    replace hl := Lib.hid hl
    go_enter Try.func43, Try.ntmps43
    go_wp2_with fail
    go_loopg [13] a.length (fun g ic wr => ∃ i : Nat, i ≤ a.length ∧ g = a.length - i ∧ ic = .int .i64 i ∧ (∀ (j : Nat) x y, j < i → a[j]? = some x → b[j]? = some y → shareEq x y = true) ∧ Below w.heap.size w wr)
    case atStart => exact ⟨0, by omega, rfl, rfl, fun j x y hj => by omega, Below.refl _ _⟩
    case round =>
      obtain ⟨i, hi, rfl, rfl, hal, hbr⟩ := hrel
      by_cases hlt : i < a.length
      · have hltb : i < b.length := by have := hl.out; omega
        have hi1 : (i : Int) < (a.length : Int) := by omega
        have hi2 : (i : Int) < (b.length : Int) := by omega
        have hx := List.getElem?_eq_getElem hlt
        have hy := List.getElem?_eq_getElem hltb
        obtain ⟨ba, oa, rfl, _, hrx⟩ := at_i ha.out hbr hx
        obtain ⟨bb, ob, rfl, _, hry⟩ := at_i hb.out hbr hy
        generalize a[i] = x at *
        generalize b[i] = y at *
        obtain ⟨⟨p0, _⟩, ⟨p1, _⟩, _⟩ := hrx
        obtain ⟨⟨q0, _⟩, ⟨q1, _⟩, _⟩ := hry
        have c0 : wr.cell? ⟨ba, oa + i * 2, none⟩ = some (.string x.1) := p0
        have d0 : wr.cell? ⟨bb, ob + i * 2, none⟩ = some (.string y.1) := q0
        have c1 : wr.cell? ⟨ba, oa + i * 2 + 1, none⟩ = some (.float .f64 x.2.1) := p1
        have d1 : wr.cell? ⟨bb, ob + i * 2 + 1, none⟩ = some (.float .f64 y.2.1) := q1
        replace hal := Lib.hid hal
        replace hbr := Lib.hid hbr
        replace hx := Lib.hid hx
        replace hy := Lib.hid hy
        clear p0 q0 p1 q1
        rcases Bool.eq_false_or_eq_true (strEq x.1 y.1) with h0 | h0
        · skip
          rcases Bool.eq_false_or_eq_true (fEq x.2.1 y.2.1) with h1 | h1
          · skip
            have f0 : (x.1.toList == y.1.toList) = true := h0
            have f1 : (FloatKind.f64.format.order x.2.1 y.2.1 == some Ordering.eq) = true := h1
            have hyes := Lib.hid (show shareEq x y = true from (by unfold shareEq; rw [h0, h1]; rfl))
            clear h0 h1
            go_upto_region 6 with fail
            go_quiet (fail)
            go_wp2
            go_roundg (a.length - (i + 1))
            case measure => omega
            case rel =>
              refine ⟨i + 1, by omega, rfl, by go_num, fun j x' y' hj hx' hy' => ?_, below_drewN hbr.out _⟩
              by_cases hji : j = i
              · subst hji
                rw [hx.out] at hx'
                rw [hy.out] at hy'
                cases hx'
                cases hy'
                exact hyes.out
              · exact hal.out j x' y' (by omega) hx' hy'
          · skip
            have f0 : (x.1.toList == y.1.toList) = true := h0
            have f1 : (FloatKind.f64.format.order x.2.1 y.2.1 == some Ordering.eq) = false := h1
            have hres := Lib.hid (eqL_bad (e := shareEq) hx.out hy.out (by unfold shareEq; rw [h0, h1]; rfl))
            clear h0 h1
            go_upto_region 6 with fail
            go_quiet (fail)
            go_wp2
            go_ret
            exact ⟨by rw [hres.out]; rfl, below_drewN hbr.out _⟩
        · skip
          have f0 : (x.1.toList == y.1.toList) = false := h0
          have hres := Lib.hid (eqL_bad (e := shareEq) hx.out hy.out (by unfold shareEq; rw [h0]; rfl))
          clear h0
          go_upto_region 6 with fail
          go_quiet (fail)
          go_wp2
          go_ret
          exact ⟨by rw [hres.out]; rfl, below_drewN hbr.out _⟩
      · have hi1 : (a.length : Int) ≤ (i : Int) := by omega
        have hres := Lib.hid (eqL_all (e := shareEq) (a := a) (b := b) hl.out fun j x y hx hy => hal j x y (by have := (List.getElem?_eq_some_iff.1 hx).1; omega) hx hy)
        replace hbr := Lib.hid hbr
        clear hal
        go_wp2_with fail
        go_ret
        exact ⟨by rw [hres.out]; rfl, hbr.out⟩
  · have hl1 : ((a.length : Int) == (b.length : Int)) = false := by simp; omega
    have hlz : ¬ (a.length : Int) = (b.length : Int) := by omega
    have hres := Lib.hid (eqL_len (e := shareEq) hl)
    clear ha hb hl
    go_enter Try.func43, Try.ntmps43
    go_wp2_with fail
    go_ret
    exact ⟨by rw [hres.out]; rfl, Below.refl _ _⟩
set_option maxHeartbeats 4000000 in
theorem eq46 (a b : List Permit) (va vb : Value) (w : World) (ha : Rd.SliceOf permitE w va a) (hb : Rd.SliceOf permitE w vb b) :
    Calls Try.prog 46 #[va, vb] w fun e w' => e = .returned (.bool (eqL permitEq a b)) ∧ Below w.heap.size w w' := by
  have hla := ha.1
  have hlb := hb.1
  obtain ⟨ao, ca, hv⟩ := slice_shape ha
  subst hv
  obtain ⟨bo, cb, hv⟩ := slice_shape hb
  subst hv
  by_cases hl : a.length = b.length
  · have hl1 : ((a.length : Int) == (b.length : Int)) = true := by simp [hl]
    have hlz : (a.length : Int) = (b.length : Int) := by omega
    replace ha := Lib.hid ha
    replace hb := Lib.hid hb
    replace hl := Lib.hid hl
    go_enter Try.func46, Try.ntmps46
    go_wp2_with fail
    go_loopg [13] a.length (fun g ic wr => ∃ i : Nat, i ≤ a.length ∧ g = a.length - i ∧ ic = .int .i64 i ∧ (∀ (j : Nat) x y, j < i → a[j]? = some x → b[j]? = some y → permitEq x y = true) ∧ Below w.heap.size w wr)
    case atStart => exact ⟨0, by omega, rfl, rfl, fun j x y hj => by omega, Below.refl _ _⟩
    case round =>
      obtain ⟨i, hi, rfl, rfl, hal, hbr⟩ := hrel
      by_cases hlt : i < a.length
      · have hltb : i < b.length := by have := hl.out; omega
        have hi1 : (i : Int) < (a.length : Int) := by omega
        have hi2 : (i : Int) < (b.length : Int) := by omega
        have hx := List.getElem?_eq_getElem hlt
        have hy := List.getElem?_eq_getElem hltb
        obtain ⟨ba, oa, rfl, _, hrx⟩ := at_i ha.out hbr hx
        obtain ⟨bb, ob, rfl, _, hry⟩ := at_i hb.out hbr hy
        generalize a[i] = x at *
        generalize b[i] = y at *
        obtain ⟨⟨p0, _⟩, ⟨p1, _⟩, p2, _⟩ := hrx
        obtain ⟨⟨q0, _⟩, ⟨q1, _⟩, q2, _⟩ := hry
        have c0 : wr.cell? ⟨ba, oa + i * 3, none⟩ = some (.string x.1) := p0
        have d0 : wr.cell? ⟨bb, ob + i * 3, none⟩ = some (.string y.1) := q0
        have c1 : wr.cell? ⟨ba, oa + i * 3 + 1, none⟩ = some (.string x.2.1) := p1
        have d1 : wr.cell? ⟨bb, ob + i * 3 + 1, none⟩ = some (.string y.2.1) := q1
        have c2 : wr.cell? ⟨ba, oa + i * 3 + 2, none⟩ = some (.bool x.2.2.1) := p2
        have d2 : wr.cell? ⟨bb, ob + i * 3 + 2, none⟩ = some (.bool y.2.2.1) := q2
        replace hal := Lib.hid hal
        replace hbr := Lib.hid hbr
        replace hx := Lib.hid hx
        replace hy := Lib.hid hy
        clear p0 q0 p1 q1 p2 q2
        rcases Bool.eq_false_or_eq_true (strEq x.1 y.1) with h0 | h0
        · skip
          rcases Bool.eq_false_or_eq_true (strEq x.2.1 y.2.1) with h1 | h1
          · skip
            rcases Bool.eq_false_or_eq_true (x.2.2.1 == y.2.2.1) with h2 | h2
            · skip
              have f0 : (x.1.toList == y.1.toList) = true := h0
              have f1 : (x.2.1.toList == y.2.1.toList) = true := h1
              have f2 : (x.2.2.1 == y.2.2.1) = true := h2
              have hyes := Lib.hid (show permitEq x y = true from (by unfold permitEq; rw [h0, h1, h2]; rfl))
              clear h0 h1 h2
              go_upto_region 6 with fail
              go_quiet (fail)
              go_wp2
              go_roundg (a.length - (i + 1))
              case measure => omega
              case rel =>
                refine ⟨i + 1, by omega, rfl, by go_num, fun j x' y' hj hx' hy' => ?_, below_drewN hbr.out _⟩
                by_cases hji : j = i
                · subst hji
                  rw [hx.out] at hx'
                  rw [hy.out] at hy'
                  cases hx'
                  cases hy'
                  exact hyes.out
                · exact hal.out j x' y' (by omega) hx' hy'
            · skip
              have f0 : (x.1.toList == y.1.toList) = true := h0
              have f1 : (x.2.1.toList == y.2.1.toList) = true := h1
              have f2 : (x.2.2.1 == y.2.2.1) = false := h2
              have hres := Lib.hid (eqL_bad (e := permitEq) hx.out hy.out (by unfold permitEq; rw [h0, h1, h2]; rfl))
              clear h0 h1 h2
              go_upto_region 6 with fail
              go_quiet (fail)
              go_wp2
              go_ret
              exact ⟨by rw [hres.out]; rfl, below_drewN hbr.out _⟩
          · skip
            have f0 : (x.1.toList == y.1.toList) = true := h0
            have f1 : (x.2.1.toList == y.2.1.toList) = false := h1
            have hres := Lib.hid (eqL_bad (e := permitEq) hx.out hy.out (by unfold permitEq; rw [h0, h1]; rfl))
            clear h0 h1
            go_upto_region 6 with fail
            go_quiet (fail)
            go_wp2
            go_ret
            exact ⟨by rw [hres.out]; rfl, below_drewN hbr.out _⟩
        · skip
          have f0 : (x.1.toList == y.1.toList) = false := h0
          have hres := Lib.hid (eqL_bad (e := permitEq) hx.out hy.out (by unfold permitEq; rw [h0]; rfl))
          clear h0
          go_upto_region 6 with fail
          go_quiet (fail)
          go_wp2
          go_ret
          exact ⟨by rw [hres.out]; rfl, below_drewN hbr.out _⟩
      · have hi1 : (a.length : Int) ≤ (i : Int) := by omega
        have hres := Lib.hid (eqL_all (e := permitEq) (a := a) (b := b) hl.out fun j x y hx hy => hal j x y (by have := (List.getElem?_eq_some_iff.1 hx).1; omega) hx hy)
        replace hbr := Lib.hid hbr
        clear hal
        go_wp2_with fail
        go_ret
        exact ⟨by rw [hres.out]; rfl, hbr.out⟩
  · have hl1 : ((a.length : Int) == (b.length : Int)) = false := by simp; omega
    have hlz : ¬ (a.length : Int) = (b.length : Int) := by omega
    have hres := Lib.hid (eqL_len (e := permitEq) hl)
    clear ha hb hl
    go_enter Try.func46, Try.ntmps46
    go_wp2_with fail
    go_ret
    exact ⟨by rw [hres.out]; rfl, Below.refl _ _⟩
set_option maxHeartbeats 4000000 in
theorem eq48 (a b : List ByteArray) (va vb : Value) (w : World) (ha : Rd.SliceOf Rd.str w va a) (hb : Rd.SliceOf Rd.str w vb b) :
    Calls Try.prog 48 #[va, vb] w fun e w' => e = .returned (.bool (eqL strEq a b)) ∧ Below w.heap.size w w' := by
  have hla := ha.1
  have hlb := hb.1
  obtain ⟨ao, ca, hv⟩ := slice_shape ha
  subst hv
  obtain ⟨bo, cb, hv⟩ := slice_shape hb
  subst hv
  by_cases hl : a.length = b.length
  · have hl1 : ((a.length : Int) == (b.length : Int)) = true := by simp [hl]
    have hlz : (a.length : Int) = (b.length : Int) := by omega
    replace ha := Lib.hid ha
    replace hb := Lib.hid hb
    replace hl := Lib.hid hl
    go_enter Try.func48, Try.ntmps48
    go_wp2_with fail
    go_loopg [13] a.length (fun g ic wr => ∃ i : Nat, i ≤ a.length ∧ g = a.length - i ∧ ic = .int .i64 i ∧ (∀ (j : Nat) x y, j < i → a[j]? = some x → b[j]? = some y → strEq x y = true) ∧ Below w.heap.size w wr)
    case atStart => exact ⟨0, by omega, rfl, rfl, fun j x y hj => by omega, Below.refl _ _⟩
    case round =>
      obtain ⟨i, hi, rfl, rfl, hal, hbr⟩ := hrel
      by_cases hlt : i < a.length
      · have hltb : i < b.length := by have := hl.out; omega
        have hi1 : (i : Int) < (a.length : Int) := by omega
        have hi2 : (i : Int) < (b.length : Int) := by omega
        have hx := List.getElem?_eq_getElem hlt
        have hy := List.getElem?_eq_getElem hltb
        obtain ⟨ba, oa, rfl, _, hrx⟩ := at_i ha.out hbr hx
        obtain ⟨bb, ob, rfl, _, hry⟩ := at_i hb.out hbr hy
        generalize a[i] = x at *
        generalize b[i] = y at *
        obtain ⟨p0, _⟩ := hrx
        obtain ⟨q0, _⟩ := hry
        have c0 : wr.cell? ⟨ba, oa + i, none⟩ = some (.string x) := by simpa [Rd.cellsAt, Rd.str] using p0
        have d0 : wr.cell? ⟨bb, ob + i, none⟩ = some (.string y) := by simpa [Rd.cellsAt, Rd.str] using q0
        replace hal := Lib.hid hal
        replace hbr := Lib.hid hbr
        replace hx := Lib.hid hx
        replace hy := Lib.hid hy
        clear p0 q0
        rcases Bool.eq_false_or_eq_true (strEq x y) with h0 | h0
        · skip
          have f0 : (x.toList == y.toList) = true := h0
          have hyes := Lib.hid (show strEq x y = true from h0)
          clear h0
          go_upto_region 6 with fail
          go_quiet (fail)
          go_wp2
          go_roundg (a.length - (i + 1))
          case measure => omega
          case rel =>
            refine ⟨i + 1, by omega, rfl, by go_num, fun j x' y' hj hx' hy' => ?_, below_drewN hbr.out _⟩
            by_cases hji : j = i
            · subst hji
              rw [hx.out] at hx'
              rw [hy.out] at hy'
              cases hx'
              cases hy'
              exact hyes.out
            · exact hal.out j x' y' (by omega) hx' hy'
        · skip
          have f0 : (x.toList == y.toList) = false := h0
          have hres := Lib.hid (eqL_bad (e := strEq) hx.out hy.out h0)
          clear h0
          go_upto_region 6 with fail
          go_quiet (fail)
          go_wp2
          go_ret
          exact ⟨by rw [hres.out]; rfl, below_drewN hbr.out _⟩
      · have hi1 : (a.length : Int) ≤ (i : Int) := by omega
        have hres := Lib.hid (eqL_all (e := strEq) (a := a) (b := b) hl.out fun j x y hx hy => hal j x y (by have := (List.getElem?_eq_some_iff.1 hx).1; omega) hx hy)
        replace hbr := Lib.hid hbr
        clear hal
        go_wp2_with fail
        go_ret
        exact ⟨by rw [hres.out]; rfl, hbr.out⟩
  · have hl1 : ((a.length : Int) == (b.length : Int)) = false := by simp; omega
    have hlz : ¬ (a.length : Int) = (b.length : Int) := by omega
    have hres := Lib.hid (eqL_len (e := strEq) hl)
    clear ha hb hl
    go_enter Try.func48, Try.ntmps48
    go_wp2_with fail
    go_ret
    exact ⟨by rw [hres.out]; rfl, Below.refl _ _⟩
end Go.Proofs.Ytghfahhfiihneaa
