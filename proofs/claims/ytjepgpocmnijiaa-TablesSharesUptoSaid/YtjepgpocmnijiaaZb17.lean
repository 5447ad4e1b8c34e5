/- The walk of the program's Same. -/
import Derived.Test.YtjepgpocmnijiaaZb15
section
/- The walk of Lists. -/
namespace Go.Proofs.Ytjepgpocmnijiaa
open Go.RowKit Go.Mp Go.Ck
set_option linter.unusedVariables false
set_option maxRecDepth 100000
set_option maxHeartbeats 4000000
theorem lists22 (p q : List Res) (v1 v2 : Value) (w : World) (h1 : ResS w v1 p) (h2 : ResS w v2 q) : Calls Try.prog 22 #[v1, v2] w fun e w' => e = .returned (.bool (eqL sameR p q)) ∧ Below w.heap.size w w' := by
  obtain ⟨a1, cap1, rfl⟩ := slice_shape h1
  obtain ⟨a2, cap2, rfl⟩ := slice_shape h2
  have hlen := h1.1
  by_cases hpq : p.length = q.length
  · have t4 : ((p.length : Int) == (q.length : Int)) = true := beq_iff_eq.2 (by omega)
    have t4' : ((p.length : Int) != (q.length : Int)) = false := by rw [bne, t4]; rfl
    obtain ⟨res, hres⟩ : ∃ res, res = eqL sameR p q := ⟨_, rfl⟩
    rw [← hres]
    replace h1 := Lib.hid h1
    replace h2 := Lib.hid h2
    replace hpq := Lib.hid hpq
    replace hres := Lib.hid hres
    go_enter Try.func22, Try.ntmps22
    go_wp2
    clear t4 t4'
    go_loopg [5] (p.length + 1) (fun gg ic wr => ∃ i : Nat, gg = p.length - i + 1 ∧ i ≤ p.length ∧ ic = .int .i64 i ∧ Hid (∀ (j : Nat) x y, j < i → p[j]? = some x → q[j]? = some y → sameR x y = true) ∧ Hid (Below w.heap.size w wr))
    case atStart => exact ⟨0, rfl, Nat.zero_le _, rfl, Lib.hid (fun j x y hj => absurd hj (Nat.not_lt_zero j)), Lib.hid (Below.refl _ _)⟩
    case round =>
      obtain ⟨i, rfl, hi, rfl, hal, hbw⟩ := hrel
      by_cases hlt : i < p.length
      · have hlq : i < q.length := by have := hpq.out; omega
        obtain ⟨x, hx⟩ : ∃ x, p[i]? = some x := ⟨_, List.getElem?_eq_getElem hlt⟩
        obtain ⟨y, hy⟩ : ∃ y, q[i]? = some y := ⟨_, List.getElem?_eq_getElem hlq⟩
        obtain ⟨b1, o1, eo1, ec1, ta1, tc1, ra1, rc1, rfl, hl1, c, hp⟩ := res_at2 h1.out hx
        obtain ⟨b2, o2, eo2, ec2, ta2, tc2, ra2, rc2, rfl, hl2, d, hq⟩ := res_at2 h2.out hy
        have hk0 : (i : Int) < (p.length : Int) := nn_lt hlt
        have hk1 : (i : Int) < (q.length : Int) := nn_lt hlq
        have hk2 : (0 : Int) ≤ (i : Int) := by omega
        have hwk := Lib.hid (nn_succ2 hlt hlen)
        have hS : Hid (∀ w', Below wr.heap.size wr w' → Below wr.heap.size wr w' ∧ w'.cell? ⟨b1, o1 + i * 8, none⟩ = some (.int .i64 x.kind) ∧ w'.cell? ⟨b1, o1 + i * 8 + 1, none⟩ = some (.string x.name) ∧ w'.cell? ⟨b1, o1 + i * 8 + 2, none⟩ = some (Value.slice eo1 x.eps.length ec1) ∧ w'.cell? ⟨b1, o1 + i * 8 + 3, none⟩ = some (Value.slice ta1 x.tgts.length tc1) ∧ w'.cell? ⟨b1, o1 + i * 8 + 4, none⟩ = some (.string x.host) ∧ w'.cell? ⟨b1, o1 + i * 8 + 5, none⟩ = some (Value.slice ra1 x.rules.length rc1) ∧ w'.cell? ⟨b1, o1 + i * 8 + 6, none⟩ = some (.string x.route) ∧ w'.cell? ⟨b1, o1 + i * 8 + 7, none⟩ = some (.bool x.del) ∧ w'.cell? ⟨b2, o2 + i * 8, none⟩ = some (.int .i64 y.kind) ∧ w'.cell? ⟨b2, o2 + i * 8 + 1, none⟩ = some (.string y.name) ∧ w'.cell? ⟨b2, o2 + i * 8 + 2, none⟩ = some (Value.slice eo2 y.eps.length ec2) ∧ w'.cell? ⟨b2, o2 + i * 8 + 3, none⟩ = some (Value.slice ta2 y.tgts.length tc2) ∧ w'.cell? ⟨b2, o2 + i * 8 + 4, none⟩ = some (.string y.host) ∧ w'.cell? ⟨b2, o2 + i * 8 + 5, none⟩ = some (Value.slice ra2 y.rules.length rc2) ∧ w'.cell? ⟨b2, o2 + i * 8 + 6, none⟩ = some (.string y.route) ∧ w'.cell? ⟨b2, o2 + i * 8 + 7, none⟩ = some (.bool y.del)) := Lib.hid (fun w' hw => by
          have hb2 := seq_below hbw.out hw
          obtain ⟨q0, q1, q2, q3, q4, q5, q6, q7⟩ := c.below hl1 hb2
          obtain ⟨z0, z1, z2, z3, z4, z5, z6, z7⟩ := d.below hl2 hb2
          exact ⟨hw, q0, q1, q2, q3, q4, q5, q6, q7, z0, z1, z2, z3, z4, z5, z6, z7⟩)
        have hrefl : Hid (Below wr.heap.size wr wr.drew) := Lib.hid ⟨rfl, rfl, rfl, Nat.le_refl _, fun _ _ => rfl⟩
        obtain ⟨bb, hbb⟩ : ∃ bb, bb = sameR x y := ⟨_, rfl⟩
        have hO : Hid (∀ w', Below wr.heap.size wr w' → Calls Try.prog 30 #[.agg #[.int .i64 x.kind, .string x.name, .slice eo1 x.eps.length ec1, .slice ta1 x.tgts.length tc1, .string x.host, .slice ra1 x.rules.length rc1, .string x.route, .bool x.del], .agg #[.int .i64 y.kind, .string y.name, .slice eo2 y.eps.length ec2, .slice ta2 y.tgts.length tc2, .string y.host, .slice ra2 y.rules.length rc2, .string y.route, .bool y.del]] w' fun e w2 => e = .returned (.bool bb) ∧ Below wr.heap.size wr w2) := Lib.hid (fun w' h => by
          rw [hbb]
          exact (same30 x y _ _ _ _ _ _ w' (hp.below (seq_below hbw.out h)) (hq.below (seq_below hbw.out h))).mono fun _ _ ⟨he, hb⟩ => ⟨he, seq_below h hb⟩)
        replace hl1 := Lib.hid hl1
        replace hl2 := Lib.hid hl2
        replace c := Lib.hid c
        replace d := Lib.hid d
        replace hp := Lib.hid hp
        replace hq := Lib.hid hq
        cases bb with
        | false =>
          have hno := eqL_no (p := sameR) hpq.out hx hy hbb.symm
          replace hx := Lib.hid hx
          replace hy := Lib.hid hy
          replace hno := Lib.hid hno
          replace hal := Lib.hid hal
          replace hbb := Lib.hid hbb
          go_upto_region 6 with fail
          go_region_held3 (fun w' => Below wr.heap.size wr w' ∧ w'.cell? ⟨b1, o1 + i * 8, none⟩ = some (.int .i64 x.kind) ∧ w'.cell? ⟨b1, o1 + i * 8 + 1, none⟩ = some (.string x.name) ∧ w'.cell? ⟨b1, o1 + i * 8 + 2, none⟩ = some (Value.slice eo1 x.eps.length ec1) ∧ w'.cell? ⟨b1, o1 + i * 8 + 3, none⟩ = some (Value.slice ta1 x.tgts.length tc1) ∧ w'.cell? ⟨b1, o1 + i * 8 + 4, none⟩ = some (.string x.host) ∧ w'.cell? ⟨b1, o1 + i * 8 + 5, none⟩ = some (Value.slice ra1 x.rules.length rc1) ∧ w'.cell? ⟨b1, o1 + i * 8 + 6, none⟩ = some (.string x.route) ∧ w'.cell? ⟨b1, o1 + i * 8 + 7, none⟩ = some (.bool x.del) ∧ w'.cell? ⟨b2, o2 + i * 8, none⟩ = some (.int .i64 y.kind) ∧ w'.cell? ⟨b2, o2 + i * 8 + 1, none⟩ = some (.string y.name) ∧ w'.cell? ⟨b2, o2 + i * 8 + 2, none⟩ = some (Value.slice eo2 y.eps.length ec2) ∧ w'.cell? ⟨b2, o2 + i * 8 + 3, none⟩ = some (Value.slice ta2 y.tgts.length tc2) ∧ w'.cell? ⟨b2, o2 + i * 8 + 4, none⟩ = some (.string y.host) ∧ w'.cell? ⟨b2, o2 + i * 8 + 5, none⟩ = some (Value.slice ra2 y.rules.length rc2) ∧ w'.cell? ⟨b2, o2 + i * 8 + 6, none⟩ = some (.string y.route) ∧ w'.cell? ⟨b2, o2 + i * 8 + 7, none⟩ = some (.bool y.del))
            (first | exact hS.out _ hrefl.out | exact hS.out _ tC.out | fail)
            (first
              | (go_at_call 30; (with_reducible refine (hO.out _ (by exact hrefl.out)).mono ?_); rintro e wC ⟨rfl, tC⟩; replace tC := Lib.hid tC)
              | fail)
          all_goals
            go_wp2
            go_ret
            exact ⟨ret_bool (by rw [hres.out, hno.out]), seq_below hbw.out tC.out⟩
        | true =>
          have hal2 : ∀ (j : Nat) x y, j < i + 1 → p[j]? = some x → q[j]? = some y → sameR x y = true := fun j x' y' hj hx' hy' => by
            rcases Nat.lt_succ_iff_lt_or_eq.1 hj with h | h
            · exact hal.out j x' y' h hx' hy'
            · subst h
              rw [hx] at hx'; rw [hy] at hy'
              cases hx'; cases hy'
              exact hbb.symm
          replace hx := Lib.hid hx
          replace hy := Lib.hid hy
          replace hal2 := Lib.hid hal2
          replace hal := Lib.hid hal
          replace hbb := Lib.hid hbb
          go_upto_region 6 with fail
          go_region_held3 (fun w' => Below wr.heap.size wr w' ∧ w'.cell? ⟨b1, o1 + i * 8, none⟩ = some (.int .i64 x.kind) ∧ w'.cell? ⟨b1, o1 + i * 8 + 1, none⟩ = some (.string x.name) ∧ w'.cell? ⟨b1, o1 + i * 8 + 2, none⟩ = some (Value.slice eo1 x.eps.length ec1) ∧ w'.cell? ⟨b1, o1 + i * 8 + 3, none⟩ = some (Value.slice ta1 x.tgts.length tc1) ∧ w'.cell? ⟨b1, o1 + i * 8 + 4, none⟩ = some (.string x.host) ∧ w'.cell? ⟨b1, o1 + i * 8 + 5, none⟩ = some (Value.slice ra1 x.rules.length rc1) ∧ w'.cell? ⟨b1, o1 + i * 8 + 6, none⟩ = some (.string x.route) ∧ w'.cell? ⟨b1, o1 + i * 8 + 7, none⟩ = some (.bool x.del) ∧ w'.cell? ⟨b2, o2 + i * 8, none⟩ = some (.int .i64 y.kind) ∧ w'.cell? ⟨b2, o2 + i * 8 + 1, none⟩ = some (.string y.name) ∧ w'.cell? ⟨b2, o2 + i * 8 + 2, none⟩ = some (Value.slice eo2 y.eps.length ec2) ∧ w'.cell? ⟨b2, o2 + i * 8 + 3, none⟩ = some (Value.slice ta2 y.tgts.length tc2) ∧ w'.cell? ⟨b2, o2 + i * 8 + 4, none⟩ = some (.string y.host) ∧ w'.cell? ⟨b2, o2 + i * 8 + 5, none⟩ = some (Value.slice ra2 y.rules.length rc2) ∧ w'.cell? ⟨b2, o2 + i * 8 + 6, none⟩ = some (.string y.route) ∧ w'.cell? ⟨b2, o2 + i * 8 + 7, none⟩ = some (.bool y.del))
            (first | exact hS.out _ hrefl.out | exact hS.out _ tC.out | fail)
            (first
              | (go_at_call 30; (with_reducible refine (hO.out _ (by exact hrefl.out)).mono ?_); rintro e wC ⟨rfl, tC⟩; replace tC := Lib.hid tC)
              | fail)
          all_goals
            go_wp2
            go_roundg (p.length - (i + 1) + 1)
            case rel => exact ⟨i + 1, rfl, hlt, by first | rw [hwk.out] | go_num, hal2, Lib.hid (seq_below hbw.out tC.out)⟩
            case measure => exact nn_downS hlt
      · have hk0 : decide ((i : Int) < (p.length : Int)) = false := decide_eq_false (by omega)
        have hE := eqL_yes (p := sameR) hpq.out (fun j x y hx hy => hal.out j x y (by have := (List.getElem?_eq_some_iff.1 hx).1; omega) hx hy)
        replace hE := Lib.hid hE
        replace hal := Lib.hid hal
        go_wp2
        go_ret
        exact ⟨ret_bool (by rw [hres.out, hE.out]), hbw.out⟩
  · have hno := eqL_len (p := sameR) hpq
    have t4 : ((p.length : Int) == (q.length : Int)) = false := beq_eq_false_iff_ne.2 (by omega)
    have t4' : ((p.length : Int) != (q.length : Int)) = true := by rw [bne, t4]; rfl
    replace h1 := Lib.hid h1
    replace h2 := Lib.hid h2
    replace hpq := Lib.hid hpq
    replace hno := Lib.hid hno
    go_enter Try.func22, Try.ntmps22
    go_wp2
    go_ret
    exact ⟨ret_bool (by rw [hno.out]), Below.refl _ _⟩
end Go.Proofs.Ytjepgpocmnijiaa
end

section

namespace Go.Proofs.Ytjepgpocmnijiaa
open Go.RowKit Go.Mp Go.Ck
set_option linter.unusedVariables false
set_option maxRecDepth 100000
set_option maxHeartbeats 8000000
theorem below_of_drew {w w' : World} (h : ∃ n, w' = w.drewN n) : Below w.heap.size w w' := by
  obtain ⟨n, rfl⟩ := h
  exact below_drewN (Below.refl _ _) n
theorem equal74 (p q : List ByteArray) (v1 v2 : Value) (w : World) (h1 : Rd.SliceOf Rd.str w v1 p) (h2 : Rd.SliceOf Rd.str w v2 q) : Calls Try.prog 74 #[v1, v2] w fun e w' => e = .returned (.bool (eqL seq p q)) ∧ Below w.heap.size w w' := by
  obtain ⟨a1, cap1, rfl⟩ := slice_shape h1
  obtain ⟨a2, cap2, rfl⟩ := slice_shape h2
  have hlen := h1.1
  by_cases hpq : p.length = q.length
  · have t4 : ((p.length : Int) != (q.length : Int)) = false := by rw [hpq]; simp
    replace h1 := Lib.hid h1
    replace h2 := Lib.hid h2
    replace hpq := Lib.hid hpq
    go_enter Try.func74, Try.ntmps74
    go_wp2
    go_loopg [13] (p.length + 1) (fun gg ic wx => ∃ i : Nat, gg = p.length - i + 1 ∧ i ≤ p.length ∧ ic = .int .i64 i ∧ Hid (∀ (j : Nat) x y, j < i → p[j]? = some x → q[j]? = some y → seq x y = true) ∧ Hid (Below w.heap.size w wx))
    case atStart => exact ⟨0, rfl, Nat.zero_le _, rfl, Lib.hid (fun j x y hj => absurd hj (Nat.not_lt_zero j)), Lib.hid (Below.refl _ _)⟩
    case round =>
      obtain ⟨i, rfl, hi, rfl, hal, hbr⟩ := hrel
      by_cases hlt : i < p.length
      · have hlb : i < q.length := by have := hpq.out; omega
        obtain ⟨x, hx⟩ : ∃ x, p[i]? = some x := ⟨_, List.getElem?_eq_getElem hlt⟩
        obtain ⟨y, hy⟩ : ∃ y, q[i]? = some y := ⟨_, List.getElem?_eq_getElem hlb⟩
        obtain ⟨xb, xo, rfl, _, cx, _⟩ := at_i h1.out hbr.out hx
        obtain ⟨yb, yo, rfl, _, cy, _⟩ := at_i h2.out hbr.out hy
        replace cx : wr.cell? ⟨xb, xo + i, none⟩ = some (.string x) := by simpa [Rd.cellsAt, Rd.str] using cx
        replace cy : wr.cell? ⟨yb, yo + i, none⟩ = some (.string y) := by simpa [Rd.cellsAt, Rd.str] using cy
        have k0 : (i : Int) < (p.length : Int) := nn_lt hlt
        have k1 : (i : Int) < (q.length : Int) := nn_lt hlb
        have k2 : (0 : Int) ≤ (i : Int) := by omega
        have hwk := Lib.hid (nn_succ2 hlt hlen)
        cases hs : (x.toList == y.toList) with
        | false =>
          have hs' : (x.toList != y.toList) = true := by rw [bne, hs]; rfl
          have hno := eqL_no (p := seq) hpq.out hx hy hs
          replace hx := Lib.hid hx
          replace hy := Lib.hid hy
          replace hno := Lib.hid hno
          replace hal := Lib.hid hal
          go_upto_region 6 with fail
          go_quiet (fail)
          all_goals
            go_wp2
            go_ret
            exact ⟨ret_bool hno.out.symm, below_drewN hbr.out _⟩
        | true =>
          have hs' : (x.toList != y.toList) = false := by rw [bne, hs]; rfl
          have hal2 : ∀ (j : Nat) x y, j < i + 1 → p[j]? = some x → q[j]? = some y → seq x y = true := fun j x' y' hj hx' hy' => by
            rcases Nat.lt_succ_iff_lt_or_eq.1 hj with h | h
            · exact hal.out j x' y' h hx' hy'
            · subst h
              rw [hx] at hx'; rw [hy] at hy'
              cases hx'; cases hy'
              exact hs
          replace hx := Lib.hid hx
          replace hy := Lib.hid hy
          replace hal := Lib.hid hal
          replace hal2 := Lib.hid hal2
          go_upto_region 6 with fail
          go_quiet (fail)
          all_goals
            go_wp2
            go_roundg (p.length - (i + 1) + 1)
            case rel => exact ⟨i + 1, rfl, hlt, by first | rw [hwk.out] | go_num, hal2, Lib.hid (below_drewN hbr.out _)⟩
            case measure => exact nn_downS hlt
      · have k0 : decide ((i : Int) < (p.length : Int)) = false := decide_eq_false (by omega)
        have hE := eqL_yes (p := seq) hpq.out (fun j x y hx hy => hal.out j x y (by have := (List.getElem?_eq_some_iff.1 hx).1; omega) hx hy)
        replace hE := Lib.hid hE
        replace hal := Lib.hid hal
        go_wp2
        go_ret
        exact ⟨ret_bool hE.out.symm, hbr.out⟩
  · have t4 : ((p.length : Int) != (q.length : Int)) = true := by
      rw [bne, beq_eq_false_iff_ne.2 (by omega)]; rfl
    have hno := eqL_len (p := seq) hpq
    replace h1 := Lib.hid h1
    replace h2 := Lib.hid h2
    replace hpq := Lib.hid hpq
    replace hno := Lib.hid hno
    go_enter Try.func74, Try.ntmps74
    go_wp2
    go_ret
    exact ⟨ret_bool hno.out.symm, Below.refl _ _⟩
theorem weighed78 (a b : Nat) (w : World) : Calls Try.prog 78 #[.float .f64 a, .float .f64 b] w fun e w' => e = .returned (.bool (sameW a b)) ∧ w = w' := by
  obtain ⟨s2, hs2⟩ : ∃ s, (FloatKind.f64.format.order a b == some Ordering.eq) = s := ⟨_, rfl⟩
  obtain ⟨s3, hs3⟩ : ∃ s, (FloatKind.f64.format.order a a == some Ordering.eq) = s := ⟨_, rfl⟩
  obtain ⟨s4, hs4⟩ : ∃ s, (FloatKind.f64.format.order b b == some Ordering.eq) = s := ⟨_, rfl⟩
  have hst : sameW a b = ((FloatKind.f64.format.order a b == some Ordering.eq) || !((FloatKind.f64.format.order a a == some Ordering.eq) || (FloatKind.f64.format.order b b == some Ordering.eq))) := rfl
  rw [hs2, hs3, hs4] at hst
  replace hst := Lib.hid hst
  cases s2 with
  | true =>
    go_enter Try.func78, Try.ntmps78
    go_wp2
    go_ret
    exact ⟨ret_bool hst.out.symm, rfl⟩
  | false =>
    cases s3 with
    | true =>
      have n3 : (FloatKind.f64.format.order a a != some Ordering.eq) = false := by rw [bne, hs3]; rfl
      go_enter Try.func78, Try.ntmps78
      go_wp2
      go_ret
      exact ⟨ret_bool hst.out.symm, rfl⟩
    | false =>
      have n3 : (FloatKind.f64.format.order a a != some Ordering.eq) = true := by rw [bne, hs3]; rfl
      cases s4 with
      | true =>
        have n4 : (FloatKind.f64.format.order b b != some Ordering.eq) = false := by rw [bne, hs4]; rfl
        go_enter Try.func78, Try.ntmps78
        go_wp2
        go_ret
        exact ⟨ret_bool hst.out.symm, rfl⟩
      | false =>
        have n4 : (FloatKind.f64.format.order b b != some Ordering.eq) = true := by rw [bne, hs4]; rfl
        go_enter Try.func78, Try.ntmps78
        go_wp2
        go_ret
        exact ⟨ret_bool hst.out.symm, rfl⟩
theorem rul_equal (x y : Rul) (w : World) : (Op.equal 101 (.agg #[.string x.path, .string x.method, .string x.split, .bool x.allow]) (.agg #[.string y.path, .string y.method, .string y.split, .bool y.allow])).run Try.prog w = .ok (sameU x y) w := by
  have hu : Try.prog.underlying 101 = some (.struct (Try.prog.fieldsOf 101)) := by kernel_rfl
  have hs : Try.prog.stoodInHeld 101 = false := by kernel_rfl
  have hf := Try.underlying101
  unfold Op.equal
  rw [show Op.maxDepth = 9999 + 1 from rfl, run_equalIn_struct w 9999 101 _ _ hu hs]
  unfold Program.fieldsOf
  rw [hf]
  unfold sameU seq
  simp only [Op.eqFields, go_sem]
  cases h1 : x.path.toList == y.path.toList with
  | false => simp [go_sem, Try.underlying4, Try.underlying9, h1]
  | true =>
    cases h2 : x.method.toList == y.method.toList with
    | false => simp [go_sem, Try.underlying4, Try.underlying9, h1, h2]
    | true =>
      cases h3 : x.split.toList == y.split.toList with
      | false => simp [go_sem, Try.underlying4, Try.underlying9, h1, h2, h3]
      | true =>
        simp [go_sem, Try.underlying4, Try.underlying9, h1, h2, h3]
        cases x.allow <;> cases y.allow <;> rfl
theorem rul_neq (x y : Rul) (w : World) : (binOp .neq 101 (.agg #[.string x.path, .string x.method, .string x.split, .bool x.allow]) (.agg #[.string y.path, .string y.method, .string y.split, .bool y.allow])).run Try.prog w = .ok (.bool (!sameU x y)) w := by
  simp [binOp, go_sem, rul_equal]
theorem equal75 (p q : List Rul) (v1 v2 : Value) (w : World) (h1 : Rd.SliceOf rulE w v1 p) (h2 : Rd.SliceOf rulE w v2 q) : Calls Try.prog 75 #[v1, v2] w fun e w' => e = .returned (.bool (eqL sameU p q)) ∧ Below w.heap.size w w' := by
  obtain ⟨a1, cap1, rfl⟩ := slice_shape h1
  obtain ⟨a2, cap2, rfl⟩ := slice_shape h2
  have hlen := h1.1
  by_cases hpq : p.length = q.length
  · have t4 : ((p.length : Int) != (q.length : Int)) = false := by rw [hpq]; simp
    replace h1 := Lib.hid h1
    replace h2 := Lib.hid h2
    replace hpq := Lib.hid hpq
    go_enter Try.func75, Try.ntmps75
    go_wp2
    go_loopg [13] (p.length + 1) (fun gg ic wx => ∃ i : Nat, gg = p.length - i + 1 ∧ i ≤ p.length ∧ ic = .int .i64 i ∧ Hid (∀ (j : Nat) x y, j < i → p[j]? = some x → q[j]? = some y → sameU x y = true) ∧ Hid (Below w.heap.size w wx))
    case atStart => exact ⟨0, rfl, Nat.zero_le _, rfl, Lib.hid (fun j x y hj => absurd hj (Nat.not_lt_zero j)), Lib.hid (Below.refl _ _)⟩
    case round =>
      obtain ⟨i, rfl, hi, rfl, hal, hbr⟩ := hrel
      by_cases hlt : i < p.length
      · have hlb : i < q.length := by have := hpq.out; omega
        obtain ⟨x, hx⟩ : ∃ x, p[i]? = some x := ⟨_, List.getElem?_eq_getElem hlt⟩
        obtain ⟨y, hy⟩ : ∃ y, q[i]? = some y := ⟨_, List.getElem?_eq_getElem hlb⟩
        obtain ⟨xb, xo, rfl, _, c0, c1, c2, c3, _⟩ := rul_at h1.out hbr.out hx
        obtain ⟨yb, yo, rfl, _, d0, d1, d2, d3, _⟩ := rul_at h2.out hbr.out hy
        have heq : ∀ w, (binOp .neq 101 (.agg #[.string x.path, .string x.method, .string x.split, .bool x.allow]) (.agg #[.string y.path, .string y.method, .string y.split, .bool y.allow])).run Try.prog w = .ok (.bool (!sameU x y)) w := fun w => rul_neq x y w
        have k0 : (i : Int) < (p.length : Int) := nn_lt hlt
        have k1 : (i : Int) < (q.length : Int) := nn_lt hlb
        have k2 : (0 : Int) ≤ (i : Int) := by omega
        have hwk := Lib.hid (nn_succ2 hlt hlen)
        cases hs : sameU x y with
        | false =>
          simp only [hs] at heq
          have hno := eqL_no (p := sameU) hpq.out hx hy hs
          replace hx := Lib.hid hx
          replace hy := Lib.hid hy
          replace hno := Lib.hid hno
          replace hal := Lib.hid hal
          go_upto_region 6 with fail
          go_quiet (fail)
          all_goals
            go_wp2
            go_ret
            exact ⟨ret_bool hno.out.symm, below_drewN hbr.out _⟩
        | true =>
          simp only [hs] at heq
          have hal2 : ∀ (j : Nat) x y, j < i + 1 → p[j]? = some x → q[j]? = some y → sameU x y = true := fun j x' y' hj hx' hy' => by
            rcases Nat.lt_succ_iff_lt_or_eq.1 hj with h | h
            · exact hal.out j x' y' h hx' hy'
            · subst h
              rw [hx] at hx'; rw [hy] at hy'
              cases hx'; cases hy'
              exact hs
          replace hx := Lib.hid hx
          replace hy := Lib.hid hy
          replace hal := Lib.hid hal
          replace hal2 := Lib.hid hal2
          go_upto_region 6 with fail
          go_quiet (fail)
          all_goals
            go_wp2
            go_roundg (p.length - (i + 1) + 1)
            case rel => exact ⟨i + 1, rfl, hlt, by first | rw [hwk.out] | go_num, hal2, Lib.hid (below_drewN hbr.out _)⟩
            case measure => exact nn_downS hlt
      · have k0 : decide ((i : Int) < (p.length : Int)) = false := decide_eq_false (by omega)
        have hE := eqL_yes (p := sameU) hpq.out (fun j x y hx hy => hal.out j x y (by have := (List.getElem?_eq_some_iff.1 hx).1; omega) hx hy)
        replace hE := Lib.hid hE
        replace hal := Lib.hid hal
        go_wp2
        go_ret
        exact ⟨ret_bool hE.out.symm, hbr.out⟩
  · have t4 : ((p.length : Int) != (q.length : Int)) = true := by
      rw [bne, beq_eq_false_iff_ne.2 (by omega)]; rfl
    have hno := eqL_len (p := sameU) hpq
    replace h1 := Lib.hid h1
    replace h2 := Lib.hid h2
    replace hpq := Lib.hid hpq
    replace hno := Lib.hid hno
    go_enter Try.func75, Try.ntmps75
    go_wp2
    go_ret
    exact ⟨ret_bool hno.out.symm, Below.refl _ _⟩
end Go.Proofs.Ytjepgpocmnijiaa
end
