/- The walk of the program's Same: targets, and the whole. -/
import Derived.Test.YtjepgpocmnijiaaZb17
section

namespace Go.Proofs.Ytjepgpocmnijiaa
open Go.RowKit Go.Mp Go.Ck
set_option linter.unusedVariables false
set_option maxRecDepth 100000
set_option maxHeartbeats 8000000
theorem same77 (x y : Tgt) (w : World) : Calls Try.prog 77 #[.agg #[.string x.service, .string x.split, .float .f64 x.weight], .agg #[.string y.service, .string y.split, .float .f64 y.weight]] w fun e w' => e = .returned (.bool (sameT x y)) ∧ Below w.heap.size w w' := by
  obtain ⟨w1, hw1⟩ : ∃ w1, w1 = (w.alloc (.cells #[.string x.service, .string x.split, .float .f64 x.weight] 57)).alloc (.cells #[.string y.service, .string y.split, .float .f64 y.weight] 57) := ⟨_, rfl⟩
  obtain ⟨g1, hg1⟩ : ∃ g, g = w.heap.size := ⟨_, rfl⟩
  obtain ⟨g2, hg2⟩ : ∃ g, g = w.heap.size + 1 := ⟨_, rfl⟩
  have hb1 : Below w.heap.size w w1 := by rw [hw1]; exact seq_below (alloc_below _ _) (alloc_below _ _)
  have hx1 : w1.heap[g1]? = some (.cells #[.string x.service, .string x.split, .float .f64 x.weight] 57 (0, 0)) := by
    rw [hw1, hg1]
    exact ((alloc_below (w.alloc (.cells #[.string x.service, .string x.split, .float .f64 x.weight] 57)) _).block _ (by simp)).trans (heap_alloc_new w _)
  have hx2 : w1.heap[g2]? = some (.cells #[.string y.service, .string y.split, .float .f64 y.weight] 57 (0, 0)) := by
    have := heap_alloc_new (w.alloc (.cells #[.string x.service, .string x.split, .float .f64 x.weight] 57)) (.cells #[.string y.service, .string y.split, .float .f64 y.weight] 57)
    rw [← hw1] at this
    rw [hg2]; simpa using this
  have c0 : w1.cell? ⟨g1, 0, none⟩ = some (.string x.service) := box_at hx1 rfl
  have c1 : w1.cell? ⟨g1, 1, none⟩ = some (.string x.split) := box_at hx1 rfl
  have c2 : w1.cell? ⟨g1, 2, none⟩ = some (.float .f64 x.weight) := box_at hx1 rfl
  have d0 : w1.cell? ⟨g2, 0, none⟩ = some (.string y.service) := box_at hx2 rfl
  have d1 : w1.cell? ⟨g2, 1, none⟩ = some (.string y.split) := box_at hx2 rfl
  have d2 : w1.cell? ⟨g2, 2, none⟩ = some (.float .f64 y.weight) := box_at hx2 rfl
  have h78 := weighed78 x.weight y.weight w1
  have hst : sameT x y = ((x.service.toList == y.service.toList) && ((x.split.toList == y.split.toList) && sameW x.weight y.weight)) := rfl
  obtain ⟨s0, hs0⟩ : ∃ s, (x.service.toList == y.service.toList) = s := ⟨_, rfl⟩
  obtain ⟨s1, hs1⟩ : ∃ s, (x.split.toList == y.split.toList) = s := ⟨_, rfl⟩
  generalize sameW x.weight y.weight = sw at *
  rw [hs0, hs1] at hst
  replace hw1 := Lib.hid hw1
  replace hg1 := Lib.hid hg1
  replace hg2 := Lib.hid hg2
  replace hb1 := Lib.hid hb1
  replace hx1 := Lib.hid hx1
  replace hx2 := Lib.hid hx2
  replace h78 := Lib.hid h78
  replace hst := Lib.hid hst
  cases s0 with
  | false =>
    go_enter Try.func77, Try.ntmps77
    go_upto_region 1 with fail
    rw [← hw1.out, ← hg2.out, ← hg1.out]
    go_wp2_with (first
      | (go_at_call 78; (with_reducible refine h78.out.mono ?_); rintro e w3 ⟨rfl, rfl⟩)
      | fail)
    go_ret
    exact ⟨ret_bool hst.out.symm, hb1.out⟩
  | true =>
    cases s1 with
    | false =>
      go_enter Try.func77, Try.ntmps77
      go_upto_region 1 with fail
      rw [← hw1.out, ← hg2.out, ← hg1.out]
      go_wp2_with (first
        | (go_at_call 78; (with_reducible refine h78.out.mono ?_); rintro e w3 ⟨rfl, rfl⟩)
        | fail)
      go_ret
      exact ⟨ret_bool hst.out.symm, hb1.out⟩
    | true =>
      go_enter Try.func77, Try.ntmps77
      go_upto_region 1 with fail
      rw [← hw1.out, ← hg2.out, ← hg1.out]
      go_wp2_with (first
        | (go_at_call 78; (with_reducible refine h78.out.mono ?_); rintro e w3 ⟨rfl, rfl⟩)
        | fail)
      go_ret
      exact ⟨ret_bool hst.out.symm, hb1.out⟩
theorem equal76 (p q : List Tgt) (v1 v2 : Value) (w : World) (h1 : Rd.SliceOf tgtE w v1 p) (h2 : Rd.SliceOf tgtE w v2 q) : Calls Try.prog 76 #[v1, v2, .func (.func 77) #[] #[]] w fun e w' => e = .returned (.bool (eqL sameT p q)) ∧ Below w.heap.size w w' := by
  obtain ⟨a1, cap1, rfl⟩ := slice_shape h1
  obtain ⟨a2, cap2, rfl⟩ := slice_shape h2
  have hlen := h1.1
  by_cases hpq : p.length = q.length
  · have t4 : ((p.length : Int) != (q.length : Int)) = false := by rw [hpq]; simp
    replace h1 := Lib.hid h1
    replace h2 := Lib.hid h2
    replace hpq := Lib.hid hpq
    go_enter Try.func76, Try.ntmps76
    go_wp2
    go_loopg [17] (p.length + 1) (fun gg ic wx => ∃ i : Nat, gg = p.length - i + 1 ∧ i ≤ p.length ∧ ic = .int .i64 i ∧ Hid (∀ (j : Nat) x y, j < i → p[j]? = some x → q[j]? = some y → sameT x y = true) ∧ Hid (Below w.heap.size w wx))
    case atStart => exact ⟨0, rfl, Nat.zero_le _, rfl, Lib.hid (fun j x y hj => absurd hj (Nat.not_lt_zero j)), Lib.hid (Below.refl _ _)⟩
    case round =>
      obtain ⟨i, rfl, hi, rfl, hal, hbr⟩ := hrel
      by_cases hlt : i < p.length
      · have hlb : i < q.length := by have := hpq.out; omega
        obtain ⟨x, hx⟩ : ∃ x, p[i]? = some x := ⟨_, List.getElem?_eq_getElem hlt⟩
        obtain ⟨y, hy⟩ : ∃ y, q[i]? = some y := ⟨_, List.getElem?_eq_getElem hlb⟩
        obtain ⟨xb, xo, rfl, _, c0, c1, c2, _⟩ := tgt_at h1.out hbr.out hx
        have k0 : (i : Int) < (p.length : Int) := nn_lt hlt
        have k1 : (i : Int) < (q.length : Int) := nn_lt hlb
        have k2 : (0 : Int) ≤ (i : Int) := by omega
        have hwk := Lib.hid (nn_succ2 hlt hlen)
        obtain ⟨wA, hwA⟩ : ∃ wA, wA = wr.alloc (.cells #[.string x.service, .string x.split, .float .f64 x.weight] 57) := ⟨_, rfl⟩
        obtain ⟨ga, hga⟩ : ∃ g, g = wr.heap.size := ⟨_, rfl⟩
        have hxA : wA.heap[ga]? = some (.cells #[.string x.service, .string x.split, .float .f64 x.weight] 57 (0, 0)) := by rw [hwA, hga]; exact heap_alloc_new wr _
        have hbA : Below wr.heap.size wr wA := by rw [hwA]; exact alloc_below _ _
        obtain ⟨wB, hwB⟩ : ∃ wB, wB = wA.alloc (.cells #[.string y.service, .string y.split, .float .f64 y.weight] 57) := ⟨_, rfl⟩
        obtain ⟨gb, hgb⟩ : ∃ g, g = wA.heap.size := ⟨_, rfl⟩
        have hyB : wB.heap[gb]? = some (.cells #[.string y.service, .string y.split, .float .f64 y.weight] 57 (0, 0)) := by rw [hwB, hgb]; exact heap_alloc_new wA _
        have hbB : Below wA.heap.size wA wB := by rw [hwB]; exact alloc_below _ _
        obtain ⟨yb, yo, rfl, _, d0, d1, d2, _⟩ := tgt_at h2.out (seq_below hbr.out hbA) hy
        have hxB := (hbB.block ga (Array.getElem?_eq_some_iff.1 hxA).1).trans hxA
        have a0 : wB.cell? ⟨ga, 0, none⟩ = some (.string x.service) := box_at hxB rfl
        have a1 : wB.cell? ⟨ga, 1, none⟩ = some (.string x.split) := box_at hxB rfl
        have a2 : wB.cell? ⟨ga, 2, none⟩ = some (.float .f64 x.weight) := box_at hxB rfl
        have e0 : wB.cell? ⟨gb, 0, none⟩ = some (.string y.service) := box_at hyB rfl
        have e1 : wB.cell? ⟨gb, 1, none⟩ = some (.string y.split) := box_at hyB rfl
        have e2 : wB.cell? ⟨gb, 2, none⟩ = some (.float .f64 y.weight) := box_at hyB rfl
        have h77 := same77 x y wB
        have hbw := seq_below hbr.out (seq_below hbA hbB)
        obtain ⟨ss, hs⟩ : ∃ s, sameT x y = s := ⟨_, rfl⟩
        rw [hs] at h77
        replace hx := Lib.hid hx
        replace hy := Lib.hid hy
        replace hwA := Lib.hid hwA
        replace hga := Lib.hid hga
        replace hxA := Lib.hid hxA
        replace hbA := Lib.hid hbA
        replace hwB := Lib.hid hwB
        replace hgb := Lib.hid hgb
        replace hyB := Lib.hid hyB
        replace hbB := Lib.hid hbB
        replace hxB := Lib.hid hxB
        replace h77 := Lib.hid h77
        replace hbw := Lib.hid hbw
        go_upto_region 6 with fail
        rw [← hwA.out, ← hga.out]
        clear c0 c1 c2
        go_upto_region 7 with fail
        rw [← hwB.out, ← hgb.out]
        clear d0 d1 d2
        cases ss with
        | false =>
          have hno := eqL_no (p := sameT) hpq.out hx.out hy.out hs
          replace hno := Lib.hid hno
          replace hal := Lib.hid hal
          replace hs := Lib.hid hs
          go_wp2_with (first
            | (go_at_call 77; (with_reducible refine h77.out.mono ?_); rintro e w3 ⟨rfl, hb3⟩; replace hb3 := Lib.hid (seq_below hbw.out hb3))
            | fail)
          go_ret
          exact ⟨ret_bool hno.out.symm, hb3.out⟩
        | true =>
          have hal2 : ∀ (j : Nat) x y, j < i + 1 → p[j]? = some x → q[j]? = some y → sameT x y = true := fun j x' y' hj hx' hy' => by
            rcases Nat.lt_succ_iff_lt_or_eq.1 hj with h | h
            · exact hal.out j x' y' h hx' hy'
            · subst h
              rw [hx.out] at hx'; rw [hy.out] at hy'
              cases hx'; cases hy'
              exact hs
          replace hal := Lib.hid hal
          replace hal2 := Lib.hid hal2
          replace hs := Lib.hid hs
          go_wp2_with (first
            | (go_at_call 77; (with_reducible refine h77.out.mono ?_); rintro e w3 ⟨rfl, hb3⟩; replace hb3 := Lib.hid (seq_below hbw.out hb3))
            | fail)
          go_roundg (p.length - (i + 1) + 1)
          case rel => exact ⟨i + 1, rfl, hlt, by first | rw [hwk.out] | go_num, hal2, hb3⟩
          case measure => exact nn_downS hlt
      · have k0 : decide ((i : Int) < (p.length : Int)) = false := decide_eq_false (by omega)
        have hE := eqL_yes (p := sameT) hpq.out (fun j x y hx hy => hal.out j x y (by have := (List.getElem?_eq_some_iff.1 hx).1; omega) hx hy)
        replace hE := Lib.hid hE
        replace hal := Lib.hid hal
        go_wp2
        go_ret
        exact ⟨ret_bool hE.out.symm, hbr.out⟩
  · have t4 : ((p.length : Int) != (q.length : Int)) = true := by
      rw [bne, beq_eq_false_iff_ne.2 (by omega)]; rfl
    have hno := eqL_len (p := sameT) hpq
    replace h1 := Lib.hid h1
    replace h2 := Lib.hid h2
    replace hpq := Lib.hid hpq
    replace hno := Lib.hid hno
    go_enter Try.func76, Try.ntmps76
    go_wp2
    go_ret
    exact ⟨ret_bool hno.out.symm, Below.refl _ _⟩
theorem same29 (a b : Res) (ea ta ra eb tb rb : Value) (w : World) (ha : RP w a ea ta ra) (hb : RP w b eb tb rb) : Calls Try.prog 29 #[.agg #[.int .i64 a.kind, .string a.name, ea, ta, .string a.host, ra, .string a.route, .bool a.del], .agg #[.int .i64 b.kind, .string b.name, eb, tb, .string b.host, rb, .string b.route, .bool b.del]] w
    fun e w' => e = .returned (.bool (sameR a b)) ∧ Below w.heap.size w w' := by
  obtain ⟨eao, eac, rfl⟩ := slice_shape ha.e
  obtain ⟨tao, tac, rfl⟩ := slice_shape ha.t
  obtain ⟨rao, rac, rfl⟩ := slice_shape ha.ru
  obtain ⟨ebo, ebc, rfl⟩ := slice_shape hb.e
  obtain ⟨tbo, tbc, rfl⟩ := slice_shape hb.t
  obtain ⟨rbo, rbc, rfl⟩ := slice_shape hb.ru
  obtain ⟨w1, hw1⟩ : ∃ w1, w1 = w.alloc (.cells #[.int .i64 a.kind, .string a.name, .slice eao a.eps.length eac, .slice tao a.tgts.length tac, .string a.host, .slice rao a.rules.length rac, .string a.route, .bool a.del] 52) := ⟨_, rfl⟩
  obtain ⟨w2, hw2⟩ : ∃ w2, w2 = w1.alloc (.cells #[.int .i64 b.kind, .string b.name, .slice ebo b.eps.length ebc, .slice tbo b.tgts.length tbc, .string b.host, .slice rbo b.rules.length rbc, .string b.route, .bool b.del] 52) := ⟨_, rfl⟩
  obtain ⟨ba, hba⟩ : ∃ ba, ba = w.heap.size := ⟨_, rfl⟩
  obtain ⟨bb, hbb⟩ : ∃ bb, bb = w.heap.size + 1 := ⟨_, rfl⟩
  have hs1 : w1.heap.size = bb := by rw [hw1, hbb]; simp
  have hb1 : Below w.heap.size w w1 := by rw [hw1]; exact alloc_below _ _
  have hb2 : Below w1.heap.size w1 w2 := by rw [hw2]; exact alloc_below _ _
  have hbw := seq_below hb1 hb2
  have xa0 : w1.heap[ba]? = some (.cells #[.int .i64 a.kind, .string a.name, .slice eao a.eps.length eac, .slice tao a.tgts.length tac, .string a.host, .slice rao a.rules.length rac, .string a.route, .bool a.del] 52 (0, 0)) := by rw [hw1, hba]; exact heap_alloc_new w _
  have xa := (hb2.block ba (Array.getElem?_eq_some_iff.1 xa0).1).trans xa0
  have xb : w2.heap[bb]? = some (.cells #[.int .i64 b.kind, .string b.name, .slice ebo b.eps.length ebc, .slice tbo b.tgts.length tbc, .string b.host, .slice rbo b.rules.length rbc, .string b.route, .bool b.del] 52 (0, 0)) := by rw [hw2, ← hs1]; exact heap_alloc_new w1 _
  have hYA : Hid (∀ w', Below w2.heap.size w2 w' → w'.cell? ⟨ba, 2, none⟩ = some (.slice eao a.eps.length eac) ∧ w'.cell? ⟨ba, 3, none⟩ = some (.slice tao a.tgts.length tac) ∧ w'.cell? ⟨ba, 5, none⟩ = some (.slice rao a.rules.length rac)) := Lib.hid (fun w' h => by
    have x := (h.block ba (Array.getElem?_eq_some_iff.1 xa).1).trans xa
    exact ⟨box_at x rfl, box_at x rfl, box_at x rfl⟩)
  have hYB : Hid (∀ w', Below w2.heap.size w2 w' → w'.cell? ⟨bb, 2, none⟩ = some (.slice ebo b.eps.length ebc) ∧ w'.cell? ⟨bb, 3, none⟩ = some (.slice tbo b.tgts.length tbc) ∧ w'.cell? ⟨bb, 5, none⟩ = some (.slice rbo b.rules.length rbc)) := Lib.hid (fun w' h => by
    have x := (h.block bb (Array.getElem?_eq_some_iff.1 xb).1).trans xb
    exact ⟨box_at x rfl, box_at x rfl, box_at x rfl⟩)
  have y0 : w2.cell? ⟨ba, 0, none⟩ = some (.int .i64 a.kind) := box_at xa rfl
  have y1 : w2.cell? ⟨ba, 1, none⟩ = some (.string a.name) := box_at xa rfl
  have y4 : w2.cell? ⟨ba, 4, none⟩ = some (.string a.host) := box_at xa rfl
  have y6 : w2.cell? ⟨ba, 6, none⟩ = some (.string a.route) := box_at xa rfl
  have y7 : w2.cell? ⟨ba, 7, none⟩ = some (.bool a.del) := box_at xa rfl
  have z0 : w2.cell? ⟨bb, 0, none⟩ = some (.int .i64 b.kind) := box_at xb rfl
  have z1 : w2.cell? ⟨bb, 1, none⟩ = some (.string b.name) := box_at xb rfl
  have z4 : w2.cell? ⟨bb, 4, none⟩ = some (.string b.host) := box_at xb rfl
  have z6 : w2.cell? ⟨bb, 6, none⟩ = some (.string b.route) := box_at xb rfl
  have z7 : w2.cell? ⟨bb, 7, none⟩ = some (.bool b.del) := box_at xb rfl
  obtain ⟨y2, y3, y5⟩ := hYA.out w2 (Below.refl _ _)
  obtain ⟨z2, z3, z5⟩ := hYB.out w2 (Below.refl _ _)
  have ha1 := ha.below hbw
  have hb1' := hb.below hbw
  obtain ⟨s5, hs5⟩ : ∃ s, eqL seq a.eps b.eps = s := ⟨_, rfl⟩
  obtain ⟨s6, hs6⟩ : ∃ s, eqL sameU a.rules b.rules = s := ⟨_, rfl⟩
  obtain ⟨s7, hs7⟩ : ∃ s, eqL sameT a.tgts b.tgts = s := ⟨_, rfl⟩
  have hK74 : Hid (∀ w', Below w2.heap.size w2 w' → Calls Try.prog 74 #[.slice eao a.eps.length eac, .slice ebo b.eps.length ebc] w' fun e wx => e = .returned (.bool s5) ∧ Below w2.heap.size w2 wx) := Lib.hid (fun w' h => by
    rw [← hs5]
    exact (equal74 _ _ _ _ w' (ha1.e.below h) (hb1'.e.below h)).mono fun _ _ ⟨he, hb⟩ => ⟨he, seq_below h hb⟩)
  have hK75 : Hid (∀ w', Below w2.heap.size w2 w' → Calls Try.prog 75 #[.slice rao a.rules.length rac, .slice rbo b.rules.length rbc] w' fun e wx => e = .returned (.bool s6) ∧ Below w2.heap.size w2 wx) := Lib.hid (fun w' h => by
    rw [← hs6]
    exact (equal75 _ _ _ _ w' (ha1.ru.below h) (hb1'.ru.below h)).mono fun _ _ ⟨he, hb⟩ => ⟨he, seq_below h hb⟩)
  have hK76 : Hid (∀ w', Below w2.heap.size w2 w' → Calls Try.prog 76 #[.slice tao a.tgts.length tac, .slice tbo b.tgts.length tbc, .func (.func 77) #[] #[]] w' fun e wx => e = .returned (.bool s7) ∧ Below w2.heap.size w2 wx) := Lib.hid (fun w' h => by
    rw [← hs7]
    exact (equal76 _ _ _ _ w' (ha1.t.below h) (hb1'.t.below h)).mono fun _ _ ⟨he, hb⟩ => ⟨he, seq_below h hb⟩)
  have hst : sameR a b = ((a.kind == b.kind) && ((a.name.toList == b.name.toList) && ((a.host.toList == b.host.toList) && ((a.route.toList == b.route.toList) && ((a.del == b.del) && (eqL seq a.eps b.eps && (eqL sameU a.rules b.rules && eqL sameT a.tgts b.tgts))))))) := by
    unfold sameR isK
    rw [Bool.and_comm (eqL sameT a.tgts b.tgts), Bool.and_assoc]
    rfl
  obtain ⟨s0, hs0⟩ : ∃ s, (a.kind == b.kind) = s := ⟨_, rfl⟩
  obtain ⟨s1, hs1'⟩ : ∃ s, (a.name.toList == b.name.toList) = s := ⟨_, rfl⟩
  obtain ⟨s2, hs2⟩ : ∃ s, (a.host.toList == b.host.toList) = s := ⟨_, rfl⟩
  obtain ⟨s3, hs3⟩ : ∃ s, (a.route.toList == b.route.toList) = s := ⟨_, rfl⟩
  obtain ⟨s4, hs4⟩ : ∃ s, (a.del == b.del) = s := ⟨_, rfl⟩
  rw [hs0, hs1', hs2, hs3, hs4, hs5, hs6, hs7] at hst
  have hcur := Lib.hid (Below.refl w2.heap.size w2)
  clear hs5 hs6 hs7
  replace hw1 := Lib.hid hw1
  replace hw2 := Lib.hid hw2
  replace hba := Lib.hid hba
  replace hbb := Lib.hid hbb
  replace hs1 := Lib.hid hs1
  replace hb1 := Lib.hid hb1
  replace hb2 := Lib.hid hb2
  replace hbw := Lib.hid hbw
  replace xa0 := Lib.hid xa0
  replace xa := Lib.hid xa
  replace xb := Lib.hid xb
  replace ha1 := Lib.hid ha1
  replace hb1' := Lib.hid hb1'
  replace hst := Lib.hid hst
  replace ha := Lib.hid ha
  replace hb := Lib.hid hb
  cases s0 with
  | false =>
    go_enter Try.func29, Try.ntmps29
    go_upto_region 1 with fail
    rw [← hw1.out, ← hw2.out, ← hbb.out, ← hba.out]
    go_wp2_with (first
      | (go_at_call 74; (with_reducible refine (hK74.out _ hcur.out).mono ?_); rintro e wC ⟨rfl, hbC⟩; (obtain ⟨y2, y3, y5⟩ := hYA.out _ hbC); (obtain ⟨z2, z3, z5⟩ := hYB.out _ hbC); replace hcur := Lib.hid hbC; clear hbC)
      | (go_at_call 75; (with_reducible refine (hK75.out _ hcur.out).mono ?_); rintro e wC ⟨rfl, hbC⟩; (obtain ⟨y2, y3, y5⟩ := hYA.out _ hbC); (obtain ⟨z2, z3, z5⟩ := hYB.out _ hbC); replace hcur := Lib.hid hbC; clear hbC)
      | (go_at_call 76; (with_reducible refine (hK76.out _ hcur.out).mono ?_); rintro e wC ⟨rfl, hbC⟩; replace hcur := Lib.hid hbC; clear hbC)
      | fail)
    go_ret
    exact ⟨ret_bool hst.out.symm, seq_below hbw.out hcur.out⟩
  | true =>
    cases s1 with
    | false =>
      go_enter Try.func29, Try.ntmps29
      go_upto_region 1 with fail
      rw [← hw1.out, ← hw2.out, ← hbb.out, ← hba.out]
      go_wp2_with (first
        | (go_at_call 74; (with_reducible refine (hK74.out _ hcur.out).mono ?_); rintro e wC ⟨rfl, hbC⟩; (obtain ⟨y2, y3, y5⟩ := hYA.out _ hbC); (obtain ⟨z2, z3, z5⟩ := hYB.out _ hbC); replace hcur := Lib.hid hbC; clear hbC)
        | (go_at_call 75; (with_reducible refine (hK75.out _ hcur.out).mono ?_); rintro e wC ⟨rfl, hbC⟩; (obtain ⟨y2, y3, y5⟩ := hYA.out _ hbC); (obtain ⟨z2, z3, z5⟩ := hYB.out _ hbC); replace hcur := Lib.hid hbC; clear hbC)
        | (go_at_call 76; (with_reducible refine (hK76.out _ hcur.out).mono ?_); rintro e wC ⟨rfl, hbC⟩; replace hcur := Lib.hid hbC; clear hbC)
        | fail)
      go_ret
      exact ⟨ret_bool hst.out.symm, seq_below hbw.out hcur.out⟩
    | true =>
      cases s2 with
      | false =>
        go_enter Try.func29, Try.ntmps29
        go_upto_region 1 with fail
        rw [← hw1.out, ← hw2.out, ← hbb.out, ← hba.out]
        go_wp2_with (first
          | (go_at_call 74; (with_reducible refine (hK74.out _ hcur.out).mono ?_); rintro e wC ⟨rfl, hbC⟩; (obtain ⟨y2, y3, y5⟩ := hYA.out _ hbC); (obtain ⟨z2, z3, z5⟩ := hYB.out _ hbC); replace hcur := Lib.hid hbC; clear hbC)
          | (go_at_call 75; (with_reducible refine (hK75.out _ hcur.out).mono ?_); rintro e wC ⟨rfl, hbC⟩; (obtain ⟨y2, y3, y5⟩ := hYA.out _ hbC); (obtain ⟨z2, z3, z5⟩ := hYB.out _ hbC); replace hcur := Lib.hid hbC; clear hbC)
          | (go_at_call 76; (with_reducible refine (hK76.out _ hcur.out).mono ?_); rintro e wC ⟨rfl, hbC⟩; replace hcur := Lib.hid hbC; clear hbC)
          | fail)
        go_ret
        exact ⟨ret_bool hst.out.symm, seq_below hbw.out hcur.out⟩
      | true =>
        cases s3 with
        | false =>
          go_enter Try.func29, Try.ntmps29
          go_upto_region 1 with fail
          rw [← hw1.out, ← hw2.out, ← hbb.out, ← hba.out]
          go_wp2_with (first
            | (go_at_call 74; (with_reducible refine (hK74.out _ hcur.out).mono ?_); rintro e wC ⟨rfl, hbC⟩; (obtain ⟨y2, y3, y5⟩ := hYA.out _ hbC); (obtain ⟨z2, z3, z5⟩ := hYB.out _ hbC); replace hcur := Lib.hid hbC; clear hbC)
            | (go_at_call 75; (with_reducible refine (hK75.out _ hcur.out).mono ?_); rintro e wC ⟨rfl, hbC⟩; (obtain ⟨y2, y3, y5⟩ := hYA.out _ hbC); (obtain ⟨z2, z3, z5⟩ := hYB.out _ hbC); replace hcur := Lib.hid hbC; clear hbC)
            | (go_at_call 76; (with_reducible refine (hK76.out _ hcur.out).mono ?_); rintro e wC ⟨rfl, hbC⟩; replace hcur := Lib.hid hbC; clear hbC)
            | fail)
          go_ret
          exact ⟨ret_bool hst.out.symm, seq_below hbw.out hcur.out⟩
        | true =>
          cases s4 with
          | false =>
            go_enter Try.func29, Try.ntmps29
            go_upto_region 1 with fail
            rw [← hw1.out, ← hw2.out, ← hbb.out, ← hba.out]
            go_wp2_with (first
              | (go_at_call 74; (with_reducible refine (hK74.out _ hcur.out).mono ?_); rintro e wC ⟨rfl, hbC⟩; (obtain ⟨y2, y3, y5⟩ := hYA.out _ hbC); (obtain ⟨z2, z3, z5⟩ := hYB.out _ hbC); replace hcur := Lib.hid hbC; clear hbC)
              | (go_at_call 75; (with_reducible refine (hK75.out _ hcur.out).mono ?_); rintro e wC ⟨rfl, hbC⟩; (obtain ⟨y2, y3, y5⟩ := hYA.out _ hbC); (obtain ⟨z2, z3, z5⟩ := hYB.out _ hbC); replace hcur := Lib.hid hbC; clear hbC)
              | (go_at_call 76; (with_reducible refine (hK76.out _ hcur.out).mono ?_); rintro e wC ⟨rfl, hbC⟩; replace hcur := Lib.hid hbC; clear hbC)
              | fail)
            go_ret
            exact ⟨ret_bool hst.out.symm, seq_below hbw.out hcur.out⟩
          | true =>
            cases s5 with
            | false =>
              go_enter Try.func29, Try.ntmps29
              go_upto_region 1 with fail
              rw [← hw1.out, ← hw2.out, ← hbb.out, ← hba.out]
              go_wp2_with (first
                | (go_at_call 74; (with_reducible refine (hK74.out _ hcur.out).mono ?_); rintro e wC ⟨rfl, hbC⟩; (obtain ⟨y2, y3, y5⟩ := hYA.out _ hbC); (obtain ⟨z2, z3, z5⟩ := hYB.out _ hbC); replace hcur := Lib.hid hbC; clear hbC)
                | (go_at_call 75; (with_reducible refine (hK75.out _ hcur.out).mono ?_); rintro e wC ⟨rfl, hbC⟩; (obtain ⟨y2, y3, y5⟩ := hYA.out _ hbC); (obtain ⟨z2, z3, z5⟩ := hYB.out _ hbC); replace hcur := Lib.hid hbC; clear hbC)
                | (go_at_call 76; (with_reducible refine (hK76.out _ hcur.out).mono ?_); rintro e wC ⟨rfl, hbC⟩; replace hcur := Lib.hid hbC; clear hbC)
                | fail)
              go_ret
              exact ⟨ret_bool hst.out.symm, seq_below hbw.out hcur.out⟩
            | true =>
              cases s6 with
              | false =>
                go_enter Try.func29, Try.ntmps29
                go_upto_region 1 with fail
                rw [← hw1.out, ← hw2.out, ← hbb.out, ← hba.out]
                go_wp2_with (first
                  | (go_at_call 74; (with_reducible refine (hK74.out _ hcur.out).mono ?_); rintro e wC ⟨rfl, hbC⟩; (obtain ⟨y2, y3, y5⟩ := hYA.out _ hbC); (obtain ⟨z2, z3, z5⟩ := hYB.out _ hbC); replace hcur := Lib.hid hbC; clear hbC)
                  | (go_at_call 75; (with_reducible refine (hK75.out _ hcur.out).mono ?_); rintro e wC ⟨rfl, hbC⟩; (obtain ⟨y2, y3, y5⟩ := hYA.out _ hbC); (obtain ⟨z2, z3, z5⟩ := hYB.out _ hbC); replace hcur := Lib.hid hbC; clear hbC)
                  | (go_at_call 76; (with_reducible refine (hK76.out _ hcur.out).mono ?_); rintro e wC ⟨rfl, hbC⟩; replace hcur := Lib.hid hbC; clear hbC)
                  | fail)
                go_ret
                exact ⟨ret_bool hst.out.symm, seq_below hbw.out hcur.out⟩
              | true =>
                go_enter Try.func29, Try.ntmps29
                go_upto_region 1 with fail
                rw [← hw1.out, ← hw2.out, ← hbb.out, ← hba.out]
                go_wp2_with (first
                  | (go_at_call 74; (with_reducible refine (hK74.out _ hcur.out).mono ?_); rintro e wC ⟨rfl, hbC⟩; (obtain ⟨y2, y3, y5⟩ := hYA.out _ hbC); (obtain ⟨z2, z3, z5⟩ := hYB.out _ hbC); replace hcur := Lib.hid hbC; clear hbC)
                  | (go_at_call 75; (with_reducible refine (hK75.out _ hcur.out).mono ?_); rintro e wC ⟨rfl, hbC⟩; (obtain ⟨y2, y3, y5⟩ := hYA.out _ hbC); (obtain ⟨z2, z3, z5⟩ := hYB.out _ hbC); replace hcur := Lib.hid hbC; clear hbC)
                  | (go_at_call 76; (with_reducible refine (hK76.out _ hcur.out).mono ?_); rintro e wC ⟨rfl, hbC⟩; replace hcur := Lib.hid hbC; clear hbC)
                  | fail)
                go_ret
                exact ⟨ret_bool hst.out.symm, seq_below hbw.out hcur.out⟩
end Go.Proofs.Ytjepgpocmnijiaa
end
