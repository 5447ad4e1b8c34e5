/- The walk of the document's Same. -/
import Derived.Test.YtmlcljbpobgdiaaSames
namespace Go.Proofs.Ytmlcljbpobgdiaa
open Go.ChangeShapes Go.WideShapes Go.ChangeAt Go.RowKit
open Go.Em
set_option linter.unusedVariables false
theorem beq_of_bne {α : Type} [BEq α] {a b : α} (h : (a != b) = false) : (a == b) = true := by simpa [bne] using h
theorem nbeq_of_bne {α : Type} [BEq α] {a b : α} (h : (a != b) = true) : (a == b) = false := by simpa [bne] using h
theorem nodeEq_of {x y : ENode} (h1 : (x.1 != y.1) = false) (h2 : (x.2.1.toList != y.2.1.toList) = false) (h3 : (x.2.2.1.toList != y.2.2.1.toList) = false) : nodeEq x y = (kids x == kids y) := by
  unfold nodeEq
  simp only [bne, Bool.not_eq_false'] at h1 h2 h3
  rw [h1, h2, h3]; rfl
theorem nodeEq_k {x y : ENode} (h1 : (x.1 != y.1) = true) : nodeEq x y = false := by
  unfold nodeEq
  simp only [bne, Bool.not_eq_true'] at h1
  rw [h1]; rfl
theorem nodeEq_s {x y : ENode} (h1 : (x.2.1.toList != y.2.1.toList) = true) : nodeEq x y = false := by
  unfold nodeEq
  simp only [bne, Bool.not_eq_true'] at h1
  rw [h1]; simp
theorem nodeEq_t {x y : ENode} (h1 : (x.2.2.1.toList != y.2.2.1.toList) = true) : nodeEq x y = false := by
  unfold nodeEq
  simp only [bne, Bool.not_eq_true'] at h1
  rw [h1]; simp
theorem nodeEq_l {x y : ENode} (h1 : (((kids x).length : Int) != ((kids y).length : Int)) = true) : nodeEq x y = false := by
  unfold nodeEq
  have : (kids x == kids y) = false := by
    rw [beq_eq_false_iff_ne]
    intro h
    rw [h] at h1
    simp at h1
  rw [this]; simp
theorem nodeEq_i {x y : ENode} {k : Nat} {u v : Int} (hu : (kids x)[k]? = some u) (hv : (kids y)[k]? = some v) (h1 : (u != v) = true) : nodeEq x y = false := by
  unfold nodeEq
  have : (kids x == kids y) = false := by
    rw [beq_eq_false_iff_ne]
    intro h
    rw [h, hv] at hu
    cases hu
    simp at h1
  rw [this]; simp
set_option maxHeartbeats 40000000 in
set_option maxRecDepth 100000 in
theorem refsame9 (a b : List ENode) (va vb : Value) (w : World) (ha : Rd.SliceOf nodeE w va a) (hb : Rd.SliceOf nodeE w vb b) :
    Calls Try.prog 9 #[va, vb] w fun e w' => e = .returned (.bool (nodesEq a b)) ∧ Below w.heap.size w w' := by
  have hla := ha.1
  have hlb := hb.1
  obtain ⟨ao, ca, hv⟩ : ∃ ao cap, va = .slice ao a.length cap := by obtain ⟨_, ao, cap, rfl, _⟩ := ha; exact ⟨_, _, rfl⟩
  subst hv
  obtain ⟨bo, cb, hv⟩ : ∃ ao cap, vb = .slice ao b.length cap := by obtain ⟨_, ao, cap, rfl, _⟩ := hb; exact ⟨_, _, rfl⟩
  subst hv
  by_cases hl : a.length = b.length
  · have hl1 : ((a.length : Int) == (b.length : Int)) = true := by simp [hl]
    have hlz : (a.length : Int) = (b.length : Int) := by omega
    replace ha := Lib.hid ha
    replace hb := Lib.hid hb
    replace hl := Lib.hid hl
    go_enter Try.func9, Try.ntmps9
    go_wp2_with fail
    go_loopg [5] a.length (fun g ic wr => ∃ i : Nat, i ≤ a.length ∧ g = a.length - i ∧ ic = .int .i64 i ∧ (∀ (j : Nat) x y, j < i → a[j]? = some x → b[j]? = some y → nodeEq x y = true) ∧ Below w.heap.size w wr)
    case atStart => exact ⟨0, by omega, rfl, rfl, fun j x y hj => by omega, Below.refl _ _⟩
    case round =>
      obtain ⟨i, hi, rfl, rfl, hal, hbr⟩ := hrel
      by_cases hlt : i < a.length
      · have hltb : i < b.length := by have := hl.out; omega
        have hi1 : (i : Int) < (a.length : Int) := by omega
        have hi2 : (i : Int) < (b.length : Int) := by omega
        obtain ⟨ba, oa, ca', hv, hba, hxa⟩ := ha.out.at (by rintro rfl; simp at hlt)
        cases hv
        obtain ⟨bb, ob, cb', hv, hbb, hxb⟩ := hb.out.at (by rintro rfl; simp at hltb)
        cases hv
        have hx := List.getElem?_eq_getElem hlt
        have hy := List.getElem?_eq_getElem hltb
        have hrx := hxa i _ hx
        have hry := hxb i _ hy
        generalize a[i] = x at *
        generalize b[i] = y at *
        obtain ⟨xo, xc, p0, p1, p2, p3, p4, p5, rx⟩ := node_cells hrx
        obtain ⟨yo, yc, q0, q1, q2, q3, q4, q5, ry⟩ := node_cells hry
        have hkx := rx.1
        have hky := ry.1
        have hP : ∀ w', Below w.heap.size w w' → (w'.cell? ⟨ba, oa + i * 6, none⟩ = some (.int .i64 x.1) ∧ w'.cell? ⟨ba, oa + i * 6 + 1, none⟩ = some (.string x.2.1) ∧ w'.cell? ⟨ba, oa + i * 6 + 2, none⟩ = some (.string x.2.2.1) ∧ w'.cell? ⟨ba, oa + i * 6 + 5, none⟩ = some (.slice xo (kids x).length xc)) ∧
            w'.cell? ⟨bb, ob + i * 6, none⟩ = some (.int .i64 y.1) ∧ w'.cell? ⟨bb, ob + i * 6 + 1, none⟩ = some (.string y.2.1) ∧ w'.cell? ⟨bb, ob + i * 6 + 2, none⟩ = some (.string y.2.2.1) ∧ w'.cell? ⟨bb, ob + i * 6 + 5, none⟩ = some (.slice yo (kids y).length yc) := fun w' hb =>
          ⟨⟨(hb.cell (by exact hba)).trans p0, (hb.cell (by exact hba)).trans p1, (hb.cell (by exact hba)).trans p2, (hb.cell (by exact hba)).trans p5⟩, (hb.cell (by exact hbb)).trans q0, (hb.cell (by exact hbb)).trans q1, (hb.cell (by exact hbb)).trans q2, (hb.cell (by exact hbb)).trans q5⟩
        clear p0 p1 p2 p3 p4 p5 q0 q1 q2 q3 q4 q5 hxa hxb hrx hry
        obtain ⟨⟨p0, p1, p2, p5⟩, q0, q1, q2, q5⟩ := hP wr hbr
        replace hP := Lib.hid hP
        replace rx := Lib.hid rx
        replace ry := Lib.hid ry
        replace hx := Lib.hid hx
        replace hy := Lib.hid hy
        replace hal := Lib.hid hal
        replace hbr := Lib.hid hbr
        by_cases hg : (x.1 != y.1) = false ∧ (x.2.1.toList != y.2.1.toList) = false ∧ (x.2.2.1.toList != y.2.2.1.toList) = false ∧ (((kids x).length : Int) != ((kids y).length : Int)) = false
        · obtain ⟨g1, g2, g3, g4⟩ := hg
          have hne := Lib.hid (nodeEq_of g1 g2 g3)
          have hkl0 : ((kids x).length : Int) = ((kids y).length : Int) := by simpa using g4
          have hkl : (kids x).length = (kids y).length := Int.ofNat.inj hkl0
          clear hkl0
          have f2 := beq_of_bne g2
          have f3 := beq_of_bne g3
          clear g2 g3
          go_upto_region 6 with fail
          go_quiet (fail)
          have hb2 := below_drewN hbr.out nq
          replace hb2 := Lib.hid hb2
          generalize wr.drewN nq = wq at *
          clear g1 f2 f3 g4 p0 p1 p2 p5 q0 q1 q2 q5
          go_wp2
          go_loopg [6] (kids x).length (fun g kc wk => ∃ k : Nat, k ≤ (kids x).length ∧ g = (kids x).length - k ∧ kc = .int .i64 k ∧ (∀ (j : Nat) u v, j < k → (kids x)[j]? = some u → (kids y)[j]? = some v → u = v) ∧ Below w.heap.size w wk)
          case atStart => exact ⟨0, by omega, rfl, rfl, fun j u v hj => by omega, hb2.out⟩
          case round =>
            obtain ⟨k, hk, rfl, rfl, hsame, hbk⟩ := hrel
            clear hb2
            obtain ⟨⟨p0, p1, p2, p5⟩, q0, q1, q2, q5⟩ := hP.out wr hbk
            clear p0 p1 p2 q0 q1 q2
            by_cases hkk : k < (kids x).length
            · have hk1 : (k : Int) < ((kids x).length : Int) := by omega
              have hk2 : (k : Int) < ((kids y).length : Int) := by omega
              obtain ⟨bx, ox, cx, hv, hbx, hcx⟩ := rx.out.at (by intro h; rw [h] at hkk; simp at hkk)
              cases hv
              obtain ⟨by', oy, cy, hv, hby, hcy⟩ := ry.out.at (by intro h; rw [h] at hkl; rw [hkl] at hkk; simp at hkk)
              cases hv
              have hu := List.getElem?_eq_getElem hkk
              have hv := List.getElem?_eq_getElem (show k < (kids y).length by omega)
              have d1 := (hcx k _ hu).1
              have d2 := (hcy k _ hv).1
              generalize (kids x)[k] = u at *
              generalize (kids y)[k]'(show k < (kids y).length by omega) = v at *
              have r1 : wr.cell? ⟨bx, ox + k, none⟩ = some (.int .i64 u) := (hbk.cell (by exact hbx)).trans (by simpa [Rd.cellsAt, Rd.int] using d1)
              have r2 : wr.cell? ⟨by', oy + k, none⟩ = some (.int .i64 v) := (hbk.cell (by exact hby)).trans (by simpa [Rd.cellsAt, Rd.int] using d2)
              replace hu := Lib.hid hu
              replace hv := Lib.hid hv
              replace hsame := Lib.hid hsame
              replace hbk := Lib.hid hbk
              clear d1 d2 hcx hcy
              rcases Bool.eq_false_or_eq_true (u != v) with h1 | h1
              · have hres := Lib.hid (nodesEq_bad hx.out hy.out (nodeEq_i hu.out hv.out h1))
                go_upto_region 11 with fail
                go_quiet (fail)
                go_wp2
                go_ret
                exact ⟨by rw [hres.out]; rfl, below_drewN hbk.out _⟩
              · go_upto_region 11 with fail
                go_quiet (fail)
                have huv : u = v := by simpa using h1
                go_wp2
                go_roundg ((kids x).length - (k + 1))
                case measure => omega
                case rel =>
                  refine ⟨k + 1, by omega, rfl, by go_num, fun j u' v' hj hu' hv' => ?_, below_drewN hbk.out _⟩
                  by_cases hjk : j = k
                  · subst hjk
                    rw [hu.out] at hu'
                    rw [hv.out] at hv'
                    cases hu'
                    cases hv'
                    exact huv
                  · exact hsame.out j u' v' (by omega) hu' hv'
            · have hk1 : ((kids x).length : Int) ≤ (k : Int) := by omega
              have hkeq : kids x = kids y := by
                refine List.ext_getElem? fun j => ?_
                rcases Nat.lt_or_ge j (kids x).length with hj | hj
                · have e1 := List.getElem?_eq_getElem hj
                  have e2 := List.getElem?_eq_getElem (show j < (kids y).length by omega)
                  rw [e1, e2, hsame j _ _ (by omega) e1 e2]
                · rw [List.getElem?_eq_none hj, List.getElem?_eq_none (by omega)]
              have hyes := Lib.hid (show nodeEq x y = true by rw [hne.out, hkeq]; simp)
              replace hbk := Lib.hid hbk
              clear hsame hkeq
              go_wp2_with fail
              go_roundg (a.length - (i + 1))
              case measure => omega
              case rel =>
                refine ⟨i + 1, by omega, rfl, by go_num, fun j x' y' hj hx' hy' => ?_, hbk.out⟩
                by_cases hji : j = i
                · subst hji
                  rw [hx.out] at hx'
                  rw [hy.out] at hy'
                  cases hx'
                  cases hy'
                  exact hyes.out
                · exact hal.out j x' y' (by omega) hx' hy'
        · rcases Bool.eq_false_or_eq_true (x.1 != y.1) with g1 | g1
          · have hres := Lib.hid (nodesEq_bad hx.out hy.out (nodeEq_k g1))
            clear hg
            go_upto_region 6 with fail
            go_quiet (fail)
            go_wp2
            go_ret
            exact ⟨by rw [hres.out]; rfl, below_drewN hbr.out _⟩
          · rcases Bool.eq_false_or_eq_true (x.2.1.toList != y.2.1.toList) with g2 | g2
            · have hres := Lib.hid (nodesEq_bad hx.out hy.out (nodeEq_s g2))
              have f2 := nbeq_of_bne g2
              clear hg g2
              go_upto_region 6 with fail
              go_quiet (fail)
              go_wp2
              go_ret
              exact ⟨by rw [hres.out]; rfl, below_drewN hbr.out _⟩
            · rcases Bool.eq_false_or_eq_true (x.2.2.1.toList != y.2.2.1.toList) with g3 | g3
              · have hres := Lib.hid (nodesEq_bad hx.out hy.out (nodeEq_t g3))
                have f2 := beq_of_bne g2
                have f3 := nbeq_of_bne g3
                clear hg g2 g3
                go_upto_region 6 with fail
                go_quiet (fail)
                go_wp2
                go_ret
                exact ⟨by rw [hres.out]; rfl, below_drewN hbr.out _⟩
              · have g4 : (((kids x).length : Int) != ((kids y).length : Int)) = true := by
                  rcases Bool.eq_false_or_eq_true (((kids x).length : Int) != ((kids y).length : Int)) with g4 | g4
                  · exact g4
                  · exact absurd ⟨g1, g2, g3, g4⟩ hg
                have hres := Lib.hid (nodesEq_bad hx.out hy.out (nodeEq_l g4))
                have f2 := beq_of_bne g2
                have f3 := beq_of_bne g3
                clear hg g2 g3
                go_upto_region 6 with fail
                go_quiet (fail)
                go_wp2
                go_ret
                exact ⟨by rw [hres.out]; rfl, below_drewN hbr.out _⟩
      · have hi1 : (a.length : Int) ≤ (i : Int) := by omega
        have hres := Lib.hid (nodesEq_all (a := a) (b := b) hl.out fun j x y hx hy => hal j x y (by have := (List.getElem?_eq_some_iff.1 hx).1; omega) hx hy)
        replace hbr := Lib.hid hbr
        clear hal
        go_wp2_with fail
        go_ret
        exact ⟨by rw [hres.out]; rfl, hbr.out⟩
  · have hl1 : ((a.length : Int) == (b.length : Int)) = false := by simp; omega
    have hlz : ¬ (a.length : Int) = (b.length : Int) := by omega
    have hres := Lib.hid (nodesEq_len hl)
    clear ha hb hl
    go_enter Try.func9, Try.ntmps9
    go_wp2_with fail
    go_ret
    exact ⟨by rw [hres.out]; rfl, Below.refl _ _⟩
end Go.Proofs.Ytmlcljbpobgdiaa
