/- The walk of heavy, and of what adds reals that may be none. -/
import Derived.Test.YtjepgpocmnijiaaRf
namespace Go.Ck
open Go.RowKit
set_option linter.unusedVariables false
open Go.Proofs.Ytjepgpocmnijiaa
theorem wOk_ge {x : Nat} (h : wOk x = true) : Fl.ge x = true := by
  unfold wOk at h
  rw [Bool.and_eq_true] at h
  exact h.1
theorem weights_at {r : Res} {i : Nat} {t : Tgt} (h : r.tgts[i]? = some t) : (weights r)[i]? = some t.weight ∧ (weights r).getD i 0 = t.weight := by
  have h1 : (weights r)[i]? = some t.weight := by unfold weights; rw [List.getElem?_map, h]; rfl
  exact ⟨h1, by simp [List.getD, h1]⟩
theorem weights_len (r : Res) : (weights r).length = r.tgts.length := by unfold weights; rw [List.length_map]
def Fine (r : Res) (i : Nat) : Prop := ∀ j x, j < i → (weights r)[j]? = some x → wOk x = true
theorem Fine.take {r : Res} {i : Nat} (h : Fine r i) : ((weights r).take i).all Fl.ge = true := by
  rw [List.all_eq_true]
  intro x hx
  obtain ⟨j, hj⟩ := List.mem_iff_getElem?.1 hx
  have hji : j < i := by have := (List.getElem?_eq_some_iff.1 hj).1; rw [List.length_take] at this; omega
  rw [List.getElem?_take_of_lt hji] at hj
  exact wOk_ge (h j x hji hj)
theorem Fine.succ {r : Res} {i : Nat} {t : Tgt} (h : Fine r i) (ht : r.tgts[i]? = some t) (hw : wOk t.weight = true) : Fine r (i + 1) := fun j x hj hx => by
  rcases Nat.lt_succ_iff_lt_or_eq.1 hj with h1 | h1
  · exact h j x h1 hx
  · subst h1
    rw [(weights_at ht).1] at hx
    cases hx; exact hw
theorem Fine.all {r : Res} {i : Nat} (h : Fine r i) (hi : ¬ i < r.tgts.length) : (weights r).all wOk = true := by
  rw [List.all_eq_true]
  intro x hx
  obtain ⟨j, hj⟩ := List.mem_iff_getElem?.1 hx
  have hjl := (List.getElem?_eq_some_iff.1 hj).1
  rw [weights_len] at hjl
  exact h j x (by omega) hj
theorem not_fine {r : Res} {i : Nat} {t : Tgt} (ht : r.tgts[i]? = some t) (hw : wOk t.weight = false) : (weights r).all wOk = false := by
  rw [Bool.eq_false_iff]
  intro h
  rw [List.all_eq_true] at h
  have := h t.weight (List.mem_of_getElem? (weights_at ht).1)
  rw [hw] at this; cases this
theorem add_fine {r : Res} {i : Nat} {t : Tgt} (hlt : ∀ x ∈ weights r, x < 18446744073709551616) (h : Fine r i) (ht : r.tgts[i]? = some t) (hw : wOk t.weight = true) :
    FloatKind.f64.format.add (Cum.sumTo (weights r) i) t.weight = some (Cum.sumTo (weights r) (i + 1)) := by
  have hi : i < (weights r).length := (List.getElem?_eq_some_iff.1 (weights_at ht).1).1
  have := Cum.add_step (weights r) hlt i hi h.take (by rw [(weights_at ht).2]; exact wOk_ge hw)
  rw [(weights_at ht).2] at this
  exact this
theorem heavy_bad {r : Res} (h : (weights r).all wOk = false) : heavy r = true := by unfold heavy; rw [h]; rfl
theorem heavy_sum {r : Res} (h : (weights r).all wOk = true) : heavy r = !sumOk (Cum.sumTo (weights r) r.tgts.length) := by unfold heavy; rw [h]; rfl
theorem rp_weights {w : World} {r : Res} {ev tv rv : Value} (h : RP w r ev tv rv) : ∀ x ∈ weights r, x < 18446744073709551616 := fun x hx => by
  obtain ⟨t, ht, rfl⟩ := List.mem_map.1 hx
  obtain ⟨i, hi⟩ := List.mem_iff_getElem?.1 ht
  obtain ⟨ao, cap, rfl⟩ := slice_shape h.t
  obtain ⟨_, _, _, _, _, _, _, _, _, h3⟩ := tgt_at h.t (Below.refl _ _) hi
  exact h3
end Go.Ck
namespace Go.Proofs.Ytjepgpocmnijiaa
open Go.RowKit Go.Mp Go.Ck
set_option linter.unusedVariables false
set_option maxRecDepth 100000
set_option maxHeartbeats 4000000
theorem heavy63 (r : Res) (ev tv rv : Value) (w : World) (hp : RP w r ev tv rv) :
    Calls Try.prog 63 #[.agg #[.int .i64 r.kind, .string r.name, ev, tv, .string r.host, rv, .string r.route, .bool r.del]] w fun e w' => e = .returned (.bool (heavy r)) ∧ Below w.heap.size w w' := by
  obtain ⟨eo, ec, rfl⟩ := slice_shape hp.e
  obtain ⟨ta, tc, rfl⟩ := slice_shape hp.t
  obtain ⟨ra, rc, rfl⟩ := slice_shape hp.ru
  have htl := hp.t.1
  have hws := rp_weights hp
  obtain ⟨w1, hw1⟩ : ∃ w1, w1 = w.alloc (.cells #[.int .i64 r.kind, .string r.name, .slice eo r.eps.length ec, .slice ta r.tgts.length tc, .string r.host, .slice ra r.rules.length rc, .string r.route, .bool r.del] 52) := ⟨_, rfl⟩
  have hb1 : Below w.heap.size w w1 := by rw [hw1]; exact alloc_below _ _
  obtain ⟨bk, hbk⟩ : ∃ bk, bk = w.heap.size := ⟨_, rfl⟩
  have hp1 := hp.below hb1
  clear hp
  obtain ⟨hv, hhv⟩ : ∃ hv, hv = heavy r := ⟨_, rfl⟩
  rw [← hhv]
  replace hw1 := Lib.hid hw1
  replace hbk := Lib.hid hbk
  replace hb1 := Lib.hid hb1
  replace hp1 := Lib.hid hp1
  replace hws := Lib.hid hws
  replace hhv := Lib.hid hhv
  go_enter Try.func63, Try.ntmps63
  go_wp2
  rw [← hbk.out, ← hw1.out]
  go_loopg [3, 9] (r.tgts.length + 1) (fun gg sv ic wr => ∃ i : Nat, gg = r.tgts.length - i + 1 ∧ i ≤ r.tgts.length ∧ ic = .int .i64 i ∧ sv = .float .f64 (Cum.sumTo (weights r) i) ∧ Hid (Fine r i) ∧ Hid (Below w1.heap.size w1 wr))
  case atStart => exact ⟨0, rfl, Nat.zero_le _, rfl, rfl, Lib.hid (fun j x hj => absurd hj (Nat.not_lt_zero j)), Lib.hid (Below.refl _ _)⟩
  case round =>
    obtain ⟨i, rfl, hi, rfl, rfl, hno, hbw⟩ := hrel
    by_cases hlt : i < r.tgts.length
    · obtain ⟨t, ht⟩ : ∃ t, r.tgts[i]? = some t := ⟨_, List.getElem?_eq_getElem hlt⟩
      obtain ⟨tb, toff, rfl, _, c0, c1, c2, _⟩ := tgt_at hp1.out.t hbw.out ht
      have hk0 : (i : Int) < (r.tgts.length : Int) := nn_lt hlt
      have hwk := Lib.hid (nn_succ2 hlt htl)
      have hbw2 := Lib.hid (seq_below hbw.out (alloc_below wr (.cells #[.string t.service, .string t.split, .float .f64 t.weight] 57)))
      obtain ⟨b1, hb⟩ : ∃ b, b = geF t.weight 0 := ⟨_, rfl⟩
      obtain ⟨b2, hb2⟩ : ∃ b, b = leF t.weight 4636737291354636288 := ⟨_, rfl⟩
      have hwo : wOk t.weight = (b1 && b2) := by rw [hb, hb2]; rfl
      have g1 : (FloatKind.f64.format.order t.weight 0 == some Ordering.gt || FloatKind.f64.format.order t.weight 0 == some Ordering.eq) = b1 := hb.symm
      have g2 : (FloatKind.f64.format.order t.weight 4636737291354636288 == some Ordering.lt || FloatKind.f64.format.order t.weight 4636737291354636288 == some Ordering.eq) = b2 := hb2.symm
      clear hb hb2
      cases b1 with
      | false =>
        have hh := heavy_bad (not_fine ht hwo)
        replace hwo := Lib.hid hwo
        replace ht := Lib.hid ht
        replace hno := Lib.hid hno
        replace hh := Lib.hid hh
        go_wp2
        go_ret
        exact ⟨ret_bool (by rw [hhv.out, hh.out]), seq_below hb1.out hbw2.out⟩
      | true =>
        cases b2 with
        | false =>
          have hh := heavy_bad (not_fine ht hwo)
          replace hwo := Lib.hid hwo
          replace ht := Lib.hid ht
          replace hno := Lib.hid hno
          replace hh := Lib.hid hh
          go_wp2
          go_ret
          exact ⟨ret_bool (by rw [hhv.out, hh.out]), seq_below hb1.out hbw2.out⟩
        | true =>
          have hadd : ∀ w, (binOp .add 55 (.float .f64 (Cum.sumTo (weights r) i)) (.float .f64 t.weight)).run Try.prog w = .ok (.float .f64 (Cum.sumTo (weights r) (i + 1))) w := fun w => run_float_arith w _ _ _ _ _ _ (add_fine hws.out hno.out ht hwo)
          have hno2 := hno.out.succ ht hwo
          replace hwo := Lib.hid hwo
          replace ht := Lib.hid ht
          replace hno := Lib.hid hno
          replace hno2 := Lib.hid hno2
          go_wp2
          go_roundg (r.tgts.length - (i + 1) + 1)
          case rel => exact ⟨i + 1, rfl, hlt, by first | rw [hwk.out] | go_num, rfl, hno2, hbw2⟩
          case measure => exact nn_downS hlt
    · have hk0 : decide ((i : Int) < (r.tgts.length : Int)) = false := decide_eq_false (by omega)
      have hil : i = r.tgts.length := by omega
      have hh := heavy_sum (hno.out.all hlt)
      rw [← hil] at hh
      generalize Cum.sumTo (weights r) i = s at *
      obtain ⟨b1, hb⟩ : ∃ b, b = geF s 4636737291287527424 := ⟨_, rfl⟩
      obtain ⟨b2, hb2⟩ : ∃ b, b = leF s 4636737291421745152 := ⟨_, rfl⟩
      have hwo : sumOk s = (b1 && b2) := by rw [hb, hb2]; rfl
      have g1 : (FloatKind.f64.format.order s 4636737291287527424 == some Ordering.gt || FloatKind.f64.format.order s 4636737291287527424 == some Ordering.eq) = b1 := hb.symm
      have g2 : (FloatKind.f64.format.order s 4636737291421745152 == some Ordering.lt || FloatKind.f64.format.order s 4636737291421745152 == some Ordering.eq) = b2 := hb2.symm
      rw [hwo] at hh
      clear hb hb2 hwo
      replace hno := Lib.hid hno
      replace hil := Lib.hid hil
      replace hh := Lib.hid hh
      cases b1 <;> cases b2
      all_goals
        go_wp2
        go_ret
        exact ⟨ret_bool (by rw [hhv.out, hh.out]; rfl), seq_below hb1.out hbw.out⟩
end Go.Proofs.Ytjepgpocmnijiaa
