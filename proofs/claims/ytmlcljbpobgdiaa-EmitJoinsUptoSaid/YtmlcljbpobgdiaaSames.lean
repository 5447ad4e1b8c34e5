/- The walks of emit's Same and of the document's. -/
import Derived.Test.YtmlcljbpobgdiaaNodes
namespace Go.Proofs.Ytmlcljbpobgdiaa
open Go.ChangeShapes Go.WideShapes Go.ChangeAt Go.RowKit
open Go.Em
set_option linter.unusedVariables false
/-- A node's cells. -/
theorem node_cells {w : World} {b off i : Nat} {x : ENode} (h : nodeE.R w (Rd.cellsAt w b (off + i * nodeE.k)) x) : ∃ ao cap, w.cell? ⟨b, off + i * 6, none⟩ = some (.int .i64 x.1) ∧ w.cell? ⟨b, off + i * 6 + 1, none⟩ = some (.string x.2.1) ∧ w.cell? ⟨b, off + i * 6 + 2, none⟩ = some (.string x.2.2.1) ∧
    w.cell? ⟨b, off + i * 6 + 3, none⟩ = some (.bool x.2.2.2.1) ∧ w.cell? ⟨b, off + i * 6 + 4, none⟩ = some (.int .i64 x.2.2.2.2.1) ∧ w.cell? ⟨b, off + i * 6 + 5, none⟩ = some (.slice ao (kids x).length cap) ∧ Rd.SliceOf Rd.int w (.slice ao (kids x).length cap) (kids x) := by
  obtain ⟨⟨q0, _⟩, ⟨q1, _⟩, ⟨q2, _⟩, q3, ⟨q4, _⟩, ⟨v, q5, r⟩, _⟩ := h
  obtain ⟨ao, cap, rfl⟩ : ∃ ao cap, v = .slice ao (kids x).length cap := by obtain ⟨_, ao, cap, rfl, _⟩ := r; exact ⟨_, _, rfl⟩
  exact ⟨ao, cap, q0, q1, q2, q3, q4, q5, r⟩
set_option maxHeartbeats 4000000 in
theorem eq16 (a b : List ENode) (va vb : Value) (w : World) (ha : Rd.SliceOf nodeE w va a) (hb : Rd.SliceOf nodeE w vb b) :
    Calls Try.prog 16 #[va, vb, .func (.func 17) #[] #[]] w fun e w' => e = .returned (.bool (nodesEq a b)) ∧ Below w.heap.size w w' := by
  have hla := ha.1
  have hlb := hb.1
  obtain ⟨ao, ca, hv⟩ : ∃ ao cap, va = .slice ao a.length cap := by obtain ⟨_, ao, cap, rfl, _⟩ := ha; exact ⟨_, _, rfl⟩
  subst hv
  obtain ⟨bo, cb, hv⟩ : ∃ ao cap, vb = .slice ao b.length cap := by obtain ⟨_, ao, cap, rfl, _⟩ := hb; exact ⟨_, _, rfl⟩
  subst hv
  by_cases hl : a.length = b.length
  · have hl1 : ((a.length : Int) == (b.length : Int)) = true := by simp [hl]
    have hlz : (a.length : Int) = (b.length : Int) := by omega
    replace ha := Lib.hid ha
    replace hb := Lib.hid hb
    replace hl := Lib.hid hl
    go_enter Try.func16, Try.ntmps16
    go_wp2_with fail
    go_loopg [17] a.length (fun g ic wr => ∃ i : Nat, i ≤ a.length ∧ g = a.length - i ∧ ic = .int .i64 i ∧ (∀ (j : Nat) x y, j < i → a[j]? = some x → b[j]? = some y → nodeEq x y = true) ∧ Below w.heap.size w wr)
    case atStart => exact ⟨0, by omega, rfl, rfl, fun j x y hj => by omega, Below.refl _ _⟩
    case round =>
      obtain ⟨i, hi, rfl, rfl, hal, hbr⟩ := hrel
      by_cases hlt : i < a.length
      · have hltb : i < b.length := by have := hl.out; omega
        have hi1 : (i : Int) < (a.length : Int) := by omega
        have hi2 : (i : Int) < (b.length : Int) := by omega
        obtain ⟨ba, oa, ca', hv, hba, hxa⟩ := ha.out.at (by rintro rfl; simp at hlt)
        cases hv
        obtain ⟨bb, ob, cb', hv, hbb, hxb⟩ := hb.out.at (by rintro rfl; simp at hltb)
        cases hv
        have hx := List.getElem?_eq_getElem hlt
        have hy := List.getElem?_eq_getElem hltb
        have hrx := Rd.Elem.up nodeE (hxa i _ hx) hbr (fun j _ => hbr.cell (by exact hba))
        generalize a[i] = x at *
        obtain ⟨xo, xc, p0, p1, p2, p3, p4, p5, rx⟩ := node_cells hrx
        have hbq : Below w.heap.size w (wr.alloc (.cells #[.int .i64 x.1, .string x.2.1, .string x.2.2.1, .bool x.2.2.2.1, .int .i64 x.2.2.2.2.1, .slice xo (kids x).length xc] 45)) := Tp.Below_seq hbr ((Tp.Below_alloc wr _))
        have hry := Rd.Elem.up nodeE (hxb i _ hy) hbq (fun j _ => hbq.cell (by exact hbb))
        generalize b[i] = y at *
        obtain ⟨yo, yc, q0, q1, q2, q3, q4, q5, ry⟩ := node_cells hry
        clear hbq
        have hb2 := Tp.Below_seq (Tp.Below_alloc wr (.cells #[.int .i64 x.1, .string x.2.1, .string x.2.2.1, .bool x.2.2.2.1, .int .i64 x.2.2.2.2.1, .slice xo (kids x).length xc] 45)) (Tp.Below_alloc _ (.cells #[.int .i64 y.1, .string y.2.1, .string y.2.2.1, .bool y.2.2.2.1, .int .i64 y.2.2.2.2.1, .slice yo (kids y).length yc] 45))
        have hcall := same17 x y _ _ _ (rx.below hb2) (ry.below (Tp.Below_alloc _ (.cells #[.int .i64 y.1, .string y.2.1, .string y.2.2.1, .bool y.2.2.2.1, .int .i64 y.2.2.2.2.1, .slice yo (kids y).length yc] 45)))
        unfold nval at hcall
        have hb3 := Lib.hid (hbr.trans (hb2.mono hbr.size))
        replace hcall := Lib.hid hcall
        replace hal := Lib.hid hal
        replace hx := Lib.hid hx
        replace hy := Lib.hid hy
        clear hxa hxb hrx hry rx ry hb2 hbr
        cases hne : nodeEq x y with
        | true =>
          rw [hne] at hcall
          replace hne := Lib.hid hne
          go_wp2_with fail
          refine hcall.out.mono ?_
          rintro e w2 ⟨rfl, hb4⟩
          have hb5 := Lib.hid (hb3.out.trans (hb4.mono hb3.out.size))
          clear hb4 hcall p0 p1 p2 p3 p4 p5 q0 q1 q2 q3 q4 q5
          go_wp2_with fail
          go_roundg (a.length - (i + 1))
          case measure => omega
          case rel =>
            refine ⟨i + 1, by omega, rfl, by go_num, fun j x' y' hj hx' hy' => ?_, hb5.out⟩
            by_cases hji : j = i
            · subst hji
              rw [hx.out] at hx'
              rw [hy.out] at hy'
              cases hx'
              cases hy'
              exact hne.out
            · exact hal.out j x' y' (by omega) hx' hy'
        | false =>
          have hres := Lib.hid (nodesEq_bad hx.out hy.out hne)
          rw [hne] at hcall
          replace hne := Lib.hid hne
          go_wp2_with fail
          refine hcall.out.mono ?_
          rintro e w2 ⟨rfl, hb4⟩
          have hb5 := Lib.hid (hb3.out.trans (hb4.mono hb3.out.size))
          clear hb4 hcall p0 p1 p2 p3 p4 p5 q0 q1 q2 q3 q4 q5
          go_wp2_with fail
          go_ret
          exact ⟨by rw [hres.out]; rfl, hb5.out⟩
      · have hi1 : (a.length : Int) ≤ (i : Int) := by omega
        have hres := Lib.hid (nodesEq_all (a := a) (b := b) hl.out fun j x y hx hy => hal j x y (by have := (List.getElem?_eq_some_iff.1 hx).1; omega) hx hy)
        replace hbr := Lib.hid hbr
        clear hal
        go_wp2_with fail
        go_ret
        exact ⟨by rw [hres.out]; rfl, hbr.out⟩
  · have hl1 : ((a.length : Int) == (b.length : Int)) = false := by simp; omega
    have hlz : ¬ (a.length : Int) = (b.length : Int) := by omega
    have hres := Lib.hid (nodesEq_len hl)
    clear ha hb hl
    go_enter Try.func16, Try.ntmps16
    go_wp2_with fail
    go_ret
    exact ⟨by rw [hres.out]; rfl, Below.refl _ _⟩
theorem same8 (a b : List ENode) (va vb : Value) (w : World) (ha : Rd.SliceOf nodeE w va a) (hb : Rd.SliceOf nodeE w vb b) :
    Calls Try.prog 8 #[va, vb] w fun e w' => e = .returned (.bool (nodesEq a b)) ∧ Below w.heap.size w w' := by
  have hcall := Lib.hid (eq16 a b va vb w ha hb)
  clear ha hb
  go_enter Try.func8, Try.ntmps8
  go_wp2_with fail
  refine hcall.out.mono ?_
  rintro e w1 ⟨rfl, hb1⟩
  go_wp2_with fail
  go_ret
  exact ⟨rfl, hb1⟩
end Go.Proofs.Ytmlcljbpobgdiaa
