/- The walk of Lists. -/
import Derived.Test.YtjepgpocmnijiaaRn
namespace Go.Proofs.Ytjepgpocmnijiaa
open Go.RowKit Go.Mp Go.Ck
set_option linter.unusedVariables false
set_option maxRecDepth 100000
set_option maxHeartbeats 4000000
theorem lists22 (p q : List Res) (v1 v2 : Value) (w : World) (h1 : ResS w v1 p) (h2 : ResS w v2 q) : Calls Try.prog 22 #[v1, v2] w fun e w' => e = .returned (.bool (eqL sameR p q)) ∧ Below w.heap.size w w' := by
  obtain ⟨a1, cap1, rfl⟩ := slice_shape h1
  obtain ⟨a2, cap2, rfl⟩ := slice_shape h2
  have hlen := h1.1
  by_cases hpq : p.length = q.length
  · have t4 : ((p.length : Int) == (q.length : Int)) = true := beq_iff_eq.2 (by omega)
    have t4' : ((p.length : Int) != (q.length : Int)) = false := by rw [bne, t4]; rfl
    obtain ⟨res, hres⟩ : ∃ res, res = eqL sameR p q := ⟨_, rfl⟩
    rw [← hres]
    replace h1 := Lib.hid h1
    replace h2 := Lib.hid h2
    replace hpq := Lib.hid hpq
    replace hres := Lib.hid hres
    go_enter Try.func22, Try.ntmps22
    go_wp2
    clear t4 t4'
    go_loopg [5] (p.length + 1) (fun gg ic wr => ∃ i : Nat, gg = p.length - i + 1 ∧ i ≤ p.length ∧ ic = .int .i64 i ∧ Hid (∀ (j : Nat) x y, j < i → p[j]? = some x → q[j]? = some y → sameR x y = true) ∧ Hid (Below w.heap.size w wr))
    case atStart => exact ⟨0, rfl, Nat.zero_le _, rfl, Lib.hid (fun j x y hj => absurd hj (Nat.not_lt_zero j)), Lib.hid (Below.refl _ _)⟩
    case round =>
      obtain ⟨i, rfl, hi, rfl, hal, hbw⟩ := hrel
      by_cases hlt : i < p.length
      · have hlq : i < q.length := by have := hpq.out; omega
        obtain ⟨x, hx⟩ : ∃ x, p[i]? = some x := ⟨_, List.getElem?_eq_getElem hlt⟩
        obtain ⟨y, hy⟩ : ∃ y, q[i]? = some y := ⟨_, List.getElem?_eq_getElem hlq⟩
        obtain ⟨b1, o1, eo1, ec1, ta1, tc1, ra1, rc1, rfl, hl1, c, hp⟩ := res_at2 h1.out hx
        obtain ⟨b2, o2, eo2, ec2, ta2, tc2, ra2, rc2, rfl, hl2, d, hq⟩ := res_at2 h2.out hy
        have hk0 : (i : Int) < (p.length : Int) := nn_lt hlt
        have hk1 : (i : Int) < (q.length : Int) := nn_lt hlq
        have hk2 : (0 : Int) ≤ (i : Int) := by omega
        have hwk := Lib.hid (nn_succ2 hlt hlen)
        have hS : Hid (∀ w', Below wr.heap.size wr w' → Below wr.heap.size wr w' ∧ w'.cell? ⟨b1, o1 + i * 8, none⟩ = some (.int .i64 x.kind) ∧ w'.cell? ⟨b1, o1 + i * 8 + 1, none⟩ = some (.string x.name) ∧ w'.cell? ⟨b1, o1 + i * 8 + 2, none⟩ = some (Value.slice eo1 x.eps.length ec1) ∧ w'.cell? ⟨b1, o1 + i * 8 + 3, none⟩ = some (Value.slice ta1 x.tgts.length tc1) ∧ w'.cell? ⟨b1, o1 + i * 8 + 4, none⟩ = some (.string x.host) ∧ w'.cell? ⟨b1, o1 + i * 8 + 5, none⟩ = some (Value.slice ra1 x.rules.length rc1) ∧ w'.cell? ⟨b1, o1 + i * 8 + 6, none⟩ = some (.string x.route) ∧ w'.cell? ⟨b1, o1 + i * 8 + 7, none⟩ = some (.bool x.del) ∧ w'.cell? ⟨b2, o2 + i * 8, none⟩ = some (.int .i64 y.kind) ∧ w'.cell? ⟨b2, o2 + i * 8 + 1, none⟩ = some (.string y.name) ∧ w'.cell? ⟨b2, o2 + i * 8 + 2, none⟩ = some (Value.slice eo2 y.eps.length ec2) ∧ w'.cell? ⟨b2, o2 + i * 8 + 3, none⟩ = some (Value.slice ta2 y.tgts.length tc2) ∧ w'.cell? ⟨b2, o2 + i * 8 + 4, none⟩ = some (.string y.host) ∧ w'.cell? ⟨b2, o2 + i * 8 + 5, none⟩ = some (Value.slice ra2 y.rules.length rc2) ∧ w'.cell? ⟨b2, o2 + i * 8 + 6, none⟩ = some (.string y.route) ∧ w'.cell? ⟨b2, o2 + i * 8 + 7, none⟩ = some (.bool y.del)) := Lib.hid (fun w' hw => by
          have hb2 := seq_below hbw.out hw
          obtain ⟨q0, q1, q2, q3, q4, q5, q6, q7⟩ := c.below hl1 hb2
          obtain ⟨z0, z1, z2, z3, z4, z5, z6, z7⟩ := d.below hl2 hb2
          exact ⟨hw, q0, q1, q2, q3, q4, q5, q6, q7, z0, z1, z2, z3, z4, z5, z6, z7⟩)
        have hrefl : Hid (Below wr.heap.size wr wr.drew) := Lib.hid ⟨rfl, rfl, rfl, Nat.le_refl _, fun _ _ => rfl⟩
        obtain ⟨bb, hbb⟩ : ∃ bb, bb = sameR x y := ⟨_, rfl⟩
        have hO : Hid (∀ w', Below wr.heap.size wr w' → Calls Try.prog 30 #[.agg #[.int .i64 x.kind, .string x.name, .slice eo1 x.eps.length ec1, .slice ta1 x.tgts.length tc1, .string x.host, .slice ra1 x.rules.length rc1, .string x.route, .bool x.del], .agg #[.int .i64 y.kind, .string y.name, .slice eo2 y.eps.length ec2, .slice ta2 y.tgts.length tc2, .string y.host, .slice ra2 y.rules.length rc2, .string y.route, .bool y.del]] w' fun e w2 => e = .returned (.bool bb) ∧ Below wr.heap.size wr w2) := Lib.hid (fun w' h => by
          rw [hbb]
          exact (same30 x y _ _ _ _ _ _ w' (hp.below (seq_below hbw.out h)) (hq.below (seq_below hbw.out h))).mono fun _ _ ⟨he, hb⟩ => ⟨he, seq_below h hb⟩)
        replace hl1 := Lib.hid hl1
        replace hl2 := Lib.hid hl2
        replace c := Lib.hid c
        replace d := Lib.hid d
        replace hp := Lib.hid hp
        replace hq := Lib.hid hq
        cases bb with
        | false =>
          have hno := eqL_no (p := sameR) hpq.out hx hy hbb.symm
          replace hx := Lib.hid hx
          replace hy := Lib.hid hy
          replace hno := Lib.hid hno
          replace hal := Lib.hid hal
          replace hbb := Lib.hid hbb
          go_upto_region 6 with fail
          go_region_held3 (fun w' => Below wr.heap.size wr w' ∧ w'.cell? ⟨b1, o1 + i * 8, none⟩ = some (.int .i64 x.kind) ∧ w'.cell? ⟨b1, o1 + i * 8 + 1, none⟩ = some (.string x.name) ∧ w'.cell? ⟨b1, o1 + i * 8 + 2, none⟩ = some (Value.slice eo1 x.eps.length ec1) ∧ w'.cell? ⟨b1, o1 + i * 8 + 3, none⟩ = some (Value.slice ta1 x.tgts.length tc1) ∧ w'.cell? ⟨b1, o1 + i * 8 + 4, none⟩ = some (.string x.host) ∧ w'.cell? ⟨b1, o1 + i * 8 + 5, none⟩ = some (Value.slice ra1 x.rules.length rc1) ∧ w'.cell? ⟨b1, o1 + i * 8 + 6, none⟩ = some (.string x.route) ∧ w'.cell? ⟨b1, o1 + i * 8 + 7, none⟩ = some (.bool x.del) ∧ w'.cell? ⟨b2, o2 + i * 8, none⟩ = some (.int .i64 y.kind) ∧ w'.cell? ⟨b2, o2 + i * 8 + 1, none⟩ = some (.string y.name) ∧ w'.cell? ⟨b2, o2 + i * 8 + 2, none⟩ = some (Value.slice eo2 y.eps.length ec2) ∧ w'.cell? ⟨b2, o2 + i * 8 + 3, none⟩ = some (Value.slice ta2 y.tgts.length tc2) ∧ w'.cell? ⟨b2, o2 + i * 8 + 4, none⟩ = some (.string y.host) ∧ w'.cell? ⟨b2, o2 + i * 8 + 5, none⟩ = some (Value.slice ra2 y.rules.length rc2) ∧ w'.cell? ⟨b2, o2 + i * 8 + 6, none⟩ = some (.string y.route) ∧ w'.cell? ⟨b2, o2 + i * 8 + 7, none⟩ = some (.bool y.del))
            (first | exact hS.out _ hrefl.out | exact hS.out _ tC.out | fail)
            (first
              | (go_at_call 30; (with_reducible refine (hO.out _ (by exact hrefl.out)).mono ?_); rintro e wC ⟨rfl, tC⟩; replace tC := Lib.hid tC)
              | fail)
          all_goals
            go_wp2
            go_ret
            exact ⟨ret_bool (by rw [hres.out, hno.out]), seq_below hbw.out tC.out⟩
        | true =>
          have hal2 : ∀ (j : Nat) x y, j < i + 1 → p[j]? = some x → q[j]? = some y → sameR x y = true := fun j x' y' hj hx' hy' => by
            rcases Nat.lt_succ_iff_lt_or_eq.1 hj with h | h
            · exact hal.out j x' y' h hx' hy'
            · subst h
              rw [hx] at hx'; rw [hy] at hy'
              cases hx'; cases hy'
              exact hbb.symm
          replace hx := Lib.hid hx
          replace hy := Lib.hid hy
          replace hal2 := Lib.hid hal2
          replace hal := Lib.hid hal
          replace hbb := Lib.hid hbb
          go_upto_region 6 with fail
          go_region_held3 (fun w' => Below wr.heap.size wr w' ∧ w'.cell? ⟨b1, o1 + i * 8, none⟩ = some (.int .i64 x.kind) ∧ w'.cell? ⟨b1, o1 + i * 8 + 1, none⟩ = some (.string x.name) ∧ w'.cell? ⟨b1, o1 + i * 8 + 2, none⟩ = some (Value.slice eo1 x.eps.length ec1) ∧ w'.cell? ⟨b1, o1 + i * 8 + 3, none⟩ = some (Value.slice ta1 x.tgts.length tc1) ∧ w'.cell? ⟨b1, o1 + i * 8 + 4, none⟩ = some (.string x.host) ∧ w'.cell? ⟨b1, o1 + i * 8 + 5, none⟩ = some (Value.slice ra1 x.rules.length rc1) ∧ w'.cell? ⟨b1, o1 + i * 8 + 6, none⟩ = some (.string x.route) ∧ w'.cell? ⟨b1, o1 + i * 8 + 7, none⟩ = some (.bool x.del) ∧ w'.cell? ⟨b2, o2 + i * 8, none⟩ = some (.int .i64 y.kind) ∧ w'.cell? ⟨b2, o2 + i * 8 + 1, none⟩ = some (.string y.name) ∧ w'.cell? ⟨b2, o2 + i * 8 + 2, none⟩ = some (Value.slice eo2 y.eps.length ec2) ∧ w'.cell? ⟨b2, o2 + i * 8 + 3, none⟩ = some (Value.slice ta2 y.tgts.length tc2) ∧ w'.cell? ⟨b2, o2 + i * 8 + 4, none⟩ = some (.string y.host) ∧ w'.cell? ⟨b2, o2 + i * 8 + 5, none⟩ = some (Value.slice ra2 y.rules.length rc2) ∧ w'.cell? ⟨b2, o2 + i * 8 + 6, none⟩ = some (.string y.route) ∧ w'.cell? ⟨b2, o2 + i * 8 + 7, none⟩ = some (.bool y.del))
            (first | exact hS.out _ hrefl.out | exact hS.out _ tC.out | fail)
            (first
              | (go_at_call 30; (with_reducible refine (hO.out _ (by exact hrefl.out)).mono ?_); rintro e wC ⟨rfl, tC⟩; replace tC := Lib.hid tC)
              | fail)
          all_goals
            go_wp2
            go_roundg (p.length - (i + 1) + 1)
            case rel => exact ⟨i + 1, rfl, hlt, by first | rw [hwk.out] | go_num, hal2, Lib.hid (seq_below hbw.out tC.out)⟩
            case measure => exact nn_downS hlt
      · have hk0 : decide ((i : Int) < (p.length : Int)) = false := decide_eq_false (by omega)
        have hE := eqL_yes (p := sameR) hpq.out (fun j x y hx hy => hal.out j x y (by have := (List.getElem?_eq_some_iff.1 hx).1; omega) hx hy)
        replace hE := Lib.hid hE
        replace hal := Lib.hid hal
        go_wp2
        go_ret
        exact ⟨ret_bool (by rw [hres.out, hE.out]), hbw.out⟩
  · have hno := eqL_len (p := sameR) hpq
    have t4 : ((p.length : Int) == (q.length : Int)) = false := beq_eq_false_iff_ne.2 (by omega)
    have t4' : ((p.length : Int) != (q.length : Int)) = true := by rw [bne, t4]; rfl
    replace h1 := Lib.hid h1
    replace h2 := Lib.hid h2
    replace hpq := Lib.hid hpq
    replace hno := Lib.hid hno
    go_enter Try.func22, Try.ntmps22
    go_wp2
    go_ret
    exact ⟨ret_bool (by rw [hno.out]), Below.refl _ _⟩
end Go.Proofs.Ytjepgpocmnijiaa
