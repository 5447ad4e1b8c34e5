/- The walk of the document's Check. -/
import Derived.Test.YtjepgpocmnijiaaZb21
section

namespace Go.Proofs.Ytjepgpocmnijiaa
open Go.RowKit Go.Mp Go.Ck
set_option linter.unusedVariables false
set_option maxRecDepth 100000
set_option maxHeartbeats 8000000
theorem tw_no {l : List Res} {i : Nat} {r : Res} (hr : l[i]? = some r) (h : ∀ (j : Nat) p, j < i → l[j]? = some p → (r.kind == 3 && (p.kind == 3 && r.host.toList == p.host.toList)) = false) : twiceIx l i = false := by
  unfold twiceIx
  rw [hr]
  simp only
  cases h3 : r.kind == 3 with
  | false => rfl
  | true =>
    rw [Bool.true_and, List.any_eq_false]
    intro p hp
    obtain ⟨j, hj⟩ := List.mem_iff_getElem?.1 hp
    have hji : j < i := by have := (List.getElem?_eq_some_iff.1 hj).1; rw [List.length_take] at this; omega
    rw [List.getElem?_take_of_lt hji] at hj
    have := h j p hji hj
    rw [h3, Bool.true_and] at this
    unfold seq
    rw [this]; simp
theorem tw_yes {l : List Res} {i j : Nat} {r p : Res} (hr : l[i]? = some r) (hj : j < i) (hp : l[j]? = some p) (h : (r.kind == 3 && (p.kind == 3 && r.host.toList == p.host.toList)) = true) : twiceIx l i = true := by
  unfold twiceIx
  rw [hr]
  simp only
  rw [Bool.and_eq_true] at h
  rw [h.1, Bool.true_and, List.any_eq_true]
  refine ⟨p, List.mem_of_getElem? (i := j) (by rw [List.getElem?_take_of_lt hj]; exact hp), h.2⟩
theorem less_upto {i : Nat} {Q : Nat → Prop} (h : ∀ j, j < i → Q j) (hi : Q i) : ∀ j, j < i + 1 → Q j := fun j hj => by
  rcases Nat.lt_succ_iff_lt_or_eq.1 hj with h1 | h1
  · exact h j h1
  · rw [h1]; exact hi
theorem add_any (w : World) (x y : Nat) : ∃ z w', (binOp .add 55 (.float .f64 x) (.float .f64 y)).run Try.prog w = .ok (.float .f64 z) w' ∧ (w' = w ∨ w' = w.drew) := by
  cases h : FloatKind.f64.format.add x y with
  | some z => exact ⟨z, w, run_float_arith w .add 55 .f64 x y z h, .inl rfl⟩
  | none => exact ⟨_, w.drew, by simp [binOp, Op.floatArith, h]; rfl, .inr rfl⟩
theorem near_lo : ∀ w, (binOp .sub 55 (.float .f64 4636737291354636288) (.float .f64 4517110426252607488)).run Try.prog w = .ok (.float .f64 4636737291287527424) w := fun w => run_float_arith w .sub 55 .f64 _ _ _ (by decide +kernel)
theorem near_hi : ∀ w, (binOp .add 55 (.float .f64 4636737291354636288) (.float .f64 4517110426252607488)).run Try.prog w = .ok (.float .f64 4636737291421745152) w := fun w => run_float_arith w .add 55 .f64 _ _ _ (by decide +kernel)
theorem all_next {r : Res} {k : Nat} {t : Tgt} (ht : r.tgts[k]? = some t) : ((weights r).take (k + 1)).all wOk = (((weights r).take k).all wOk && wOk t.weight) := by
  have h := (weights_at ht).1
  have hk := (List.getElem?_eq_some_iff.1 h)
  rw [List.take_succ_eq_append_getElem hk.1, hk.2, List.all_append]
  simp
theorem fine_of {r : Res} {k : Nat} (h : ((weights r).take k).all wOk = true) : Fine r k := fun j x hj hx => by
  rw [List.all_eq_true] at h
  exact h x (List.mem_of_getElem? (i := j) (by rw [List.getElem?_take_of_lt hj]; exact hx))
theorem info41 : (Try.prog.info? 41).map (fun i => (i.zero, i.size, i.bytes)) = some (some (.agg #[.int .i64 0, .int .i64 0, .int .i64 0]), 3, 24) := by kernel_rfl
theorem tch_three {w : World} {g : Nat} (a b c : Value) : Tch (fun q => q = g) w (((w.setCell ⟨g, 0, none⟩ a).setCell ⟨g, 1, none⟩ b).setCell ⟨g, 2, none⟩ c) :=
  ((Tch.setCell (S := fun q => q = g) w (p := ⟨g, 0, none⟩) rfl a).trans (Tch.setCell (S := fun q => q = g) _ (p := ⟨g, 1, none⟩) rfl b) (fun k q => .inl q)).trans (Tch.setCell (S := fun q => q = g) _ (p := ⟨g, 2, none⟩) rfl c) (fun k q => .inl q)
theorem warn_lim {n : Nat} (h : n ≤ 1048576) : n + 1 ≤ maxLen ∧ (n + 1) * 24 ≤ 140737488355328 := by unfold maxLen; omega
def CheckOut (w : World) (e40 : TypeId) (l : List Res) (e : Ending) (w' : World) : Prop := ∃ wv f ws, Chk l f ws ∧ e = .returned (.tuple #[wv, .agg #[.int .i64 f.1, .int .i64 f.2.1, .int .i64 f.2.2]]) ∧ w'.ownsRow w.heap.size e40 3 wv ws.length (wcs ws) ∧ Below w.heap.size w w'
theorem three_cells {w : World} {g T : Nat} {a b c : Value} (h : w.heap[g]? = some (.cells #[a, b, c] T (0, 0))) : (w.cell? ⟨g, 0, none⟩ = some a ∧ w.cell? ⟨g, 1, none⟩ = some b ∧ w.cell? ⟨g, 2, none⟩ = some c) ∧ (w.frozen? ⟨g, 0, none⟩ = false ∧ w.frozen? ⟨g, 1, none⟩ = false ∧ w.frozen? ⟨g, 2, none⟩ = false) :=
  ⟨⟨box_at h rfl, box_at h rfl, box_at h rfl⟩, frozen_of_row _ _ _ _ _ h, frozen_of_row _ _ _ _ _ h, frozen_of_row _ _ _ _ _ h⟩
theorem set_three {w w' : World} {B g : Nat} (h : Below B w w') (hB : B ≤ g) (a b c : Value) : Below B w (((w'.setCell ⟨g, 0, none⟩ a).setCell ⟨g, 1, none⟩ b).setCell ⟨g, 2, none⟩ c) :=
  ((h.setCell (p := ⟨g, 0, none⟩) hB _).setCell (p := ⟨g, 1, none⟩) hB _).setCell (p := ⟨g, 2, none⟩) hB _
theorem check20 (l : List Res) (v : Value) (w : World) (hl : ResS w v l) (hM : listM l ≤ 1048576) : Calls Try.prog 20 #[v] w (CheckOut w 41 l) := by
  obtain ⟨ao, cap, rfl⟩ := slice_shape hl
  have hlen := hl.1
  obtain ⟨w1, hw1⟩ : ∃ w1, w1 = w.alloc (.cells #[.int .i64 0, .int .i64 0, .int .i64 0] 32) := ⟨_, rfl⟩
  obtain ⟨g3, hg3⟩ : ∃ g3, g3 = w.heap.size := ⟨_, rfl⟩
  have hb1 : Below w.heap.size w w1 := by rw [hw1]; exact alloc_below _ _
  have hbx1 : w1.heap[g3]? = some (.cells #[.int .i64 0, .int .i64 0, .int .i64 0] 32 (0, 0)) := by rw [hw1, hg3]; exact heap_alloc_new w _
  have hB3 : w.heap.size ≤ g3 := by omega
  have hg3l := (Array.getElem?_eq_some_iff.1 hbx1).1
  have hl1 := hl.below hb1
  have hO := Out24 l _ w1 hl1
  have hchkO := fun h => Chk.out (l := l) h
  have hchkC := fun h => Chk.count (l := l) h
  have hord := fun h => ord_of (l := l) h
  obtain ⟨oi, hoi⟩ : ∃ oi, oi = outI l := ⟨_, rfl⟩
  rw [← hoi] at hO hchkO hchkC hord
  replace hl := Lib.hid hl
  replace hM := Lib.hid hM
  replace hw1 := Lib.hid hw1
  replace hg3 := Lib.hid hg3
  replace hb1 := Lib.hid hb1
  replace hbx1 := Lib.hid hbx1
  replace hB3 := Lib.hid hB3
  replace hg3l := Lib.hid hg3l
  replace hl1 := Lib.hid hl1
  replace hO := Lib.hid hO
  replace hoi := Lib.hid hoi
  by_cases h0 : 0 ≤ oi
  · have hchk := Lib.hid (hchkO h0)
    clear hchkO hchkC hord
    go_enter Try.func20, Try.ntmps20
    go_upto_region 1 with fail
    rw [← hw1.out, ← hg3.out]
    go_wp2_with (first
      | (go_at_call 24; (with_reducible refine hO.out.mono ?_); rintro e w2 ⟨rfl, hb2⟩; obtain ⟨⟨z0, z1, z2⟩, f0, f1, f2⟩ := three_cells ((hb2.block g3 hg3l.out).trans hbx1.out); replace hb2 := Lib.hid hb2)
      | fail)
    refine bodyPost_ret (v := .tuple #[.slice none 0 0, .agg #[.int .i64 oi, .int .i64 0, .int .i64 2]]) (by simp [results, Try.results20, go_sem, z0, z1, z2]) rfl ⟨_, _, _, hchk.out, rfl, World.ownsRow_nil _ _ _ _, ?_⟩
    exact set_three (seq_below hb1.out hb2.out) hB3.out _ _ _
  · have h0' : decide (0 ≤ oi) = false := decide_eq_false h0
    have h0n : oi < 0 := by omega
    by_cases h64 : 64 < l.length
    · have hchk := Lib.hid (hchkC h0n h64)
      have k64 : (64 : Int) < (l.length : Int) := by omega
      clear hchkO hchkC hord
      go_enter Try.func20, Try.ntmps20
      go_upto_region 1 with fail
      rw [← hw1.out, ← hg3.out]
      go_wp2_with (first
        | (go_at_call 24; (with_reducible refine hO.out.mono ?_); rintro e w2 ⟨rfl, hb2⟩; obtain ⟨⟨z0, z1, z2⟩, f0, f1, f2⟩ := three_cells ((hb2.block g3 hg3l.out).trans hbx1.out); replace hb2 := Lib.hid hb2)
        | fail)
      refine bodyPost_ret (v := .tuple #[.slice none 0 0, .agg #[.int .i64 0, .int .i64 0, .int .i64 124]]) (by simp [results, Try.results20, go_sem, z0, z1, z2]) rfl ⟨_, _, _, hchk.out, rfl, World.ownsRow_nil _ _ _ _, ?_⟩
      exact set_three (seq_below hb1.out hb2.out) hB3.out _ _ _
    · have k64 : decide ((64 : Int) < (l.length : Int)) = false := decide_eq_false (by omega)
      have hcD := fun i r => Chk.dang (l := l) (i := i) (r := r) (hoi.out ▸ h0n) (by omega)
      have hcT := fun i => Chk.twice (l := l) (i := i) (hoi.out ▸ h0n) (by omega)
      have hcH := fun i => Chk.heavy (l := l) (i := i) (hoi.out ▸ h0n) (by omega)
      have hcR := fun i => Chk.ring (l := l) (i := i) (hoi.out ▸ h0n) (by omega)
      have hcF := Chk.fine (l := l) (hoi.out ▸ h0n) (by omega)
      have hOrd := hord h0n
      have h64' : l.length ≤ 64 := by omega
      clear hchkO hchkC hord
      replace hcD := Lib.hid hcD
      replace hcT := Lib.hid hcT
      replace hcH := Lib.hid hcH
      replace hcR := Lib.hid hcR
      replace hcF := Lib.hid hcF
      replace hOrd := Lib.hid hOrd
      replace h0 := Lib.hid h0
      replace h64 := Lib.hid h64
      replace h64' := Lib.hid h64'
      go_enter Try.func20, Try.ntmps20
      go_upto_region 1 with fail
      rw [← hw1.out, ← hg3.out]
      go_wp2_with (first
        | (go_at_call 24; (with_reducible refine hO.out.mono ?_); rintro e w2 ⟨rfl, hb2⟩; replace hb2 := Lib.hid hb2)
        | fail)
      go_loopg [5] (l.length + 1) (fun gg ic wr => ∃ i : Nat, gg = l.length - i + 1 ∧ i ≤ l.length ∧ ic = .int .i64 i ∧ Hid (∀ j, j < i → dangIx l j = false) ∧ Hid (Below w1.heap.size w1 wr))
      case atStart => exact ⟨0, rfl, Nat.zero_le _, rfl, Lib.hid (fun j hj => absurd hj (Nat.not_lt_zero j)), hb2⟩
      case round =>
        obtain ⟨i, rfl, hi, rfl, hno, hbw⟩ := hrel
        by_cases hlt : i < l.length
        · obtain ⟨r, hr⟩ : ∃ r, l[i]? = some r := ⟨_, List.getElem?_eq_getElem hlt⟩
          obtain ⟨b, off, eo, ec, ta, tc, ra, rc, rfl, hbl, c, hp⟩ := res_at2 hl1.out hr
          obtain ⟨c0, c1, c2, c3, c4, c5, c6, c7⟩ := c.below hbl hbw.out
          have hk0 : (i : Int) < (l.length : Int) := nn_lt hlt
          have hwk := Lib.hid (nn_succ2 hlt hlen)
          have hix := dangIx_at hr
          have hC := dang66 l _ r _ _ _ wr (hl1.out.below hbw.out) (hp.below hbw.out)
          have hcd := hcD.out i r hno.out hr
          obtain ⟨dn, hdn⟩ : ∃ dn, dn = dangI l r := ⟨_, rfl⟩
          rw [← hdn] at hC hix hcd
          by_cases hd : 0 ≤ dn
          · have hchk := hcd hd
            clear hcd
            replace hC := Lib.hid hC
            replace hix := Lib.hid hix
            replace hr := Lib.hid hr
            replace hno := Lib.hid hno
            replace hp := Lib.hid hp
            replace c := Lib.hid c
            replace hbl := Lib.hid hbl
            replace hdn := Lib.hid hdn
            replace hchk := Lib.hid hchk
            go_wp2_with (first
              | (go_at_call 66; (with_reducible refine hC.out.mono ?_); rintro e w3 ⟨rfl, hb3⟩; obtain ⟨⟨z0, z1, z2⟩, f0, f1, f2⟩ := three_cells (((seq_below hbw.out hb3).block g3 hg3l.out).trans hbx1.out); replace hb3 := Lib.hid (seq_below hbw.out hb3))
              | fail)
            refine bodyPost_ret (v := .tuple #[.slice none 0 0, .agg #[.int .i64 i, .int .i64 dn, .int .i64 140]]) (by simp [results, Try.results20, go_sem, z0, z1, z2]) rfl ⟨_, _, _, hchk.out, rfl, World.ownsRow_nil _ _ _ _, ?_⟩
            exact set_three (seq_below hb1.out hb3.out) hB3.out _ _ _
          · have hd' : decide (0 ≤ dn) = false := decide_eq_false hd
            rw [hd'] at hix
            have hno2 := no_upto hno.out hix
            clear hcd
            replace hC := Lib.hid hC
            replace hix := Lib.hid hix
            replace hr := Lib.hid hr
            replace hno := Lib.hid hno
            replace hp := Lib.hid hp
            replace c := Lib.hid c
            replace hbl := Lib.hid hbl
            replace hdn := Lib.hid hdn
            replace hno2 := Lib.hid hno2
            go_wp2_with (first
              | (go_at_call 66; (with_reducible refine hC.out.mono ?_); rintro e w3 ⟨rfl, hb3⟩; replace hb3 := Lib.hid (seq_below hbw.out hb3))
              | fail)
            go_roundg (l.length - (i + 1) + 1)
            case rel => exact ⟨i + 1, rfl, hlt, by first | rw [hwk.out] | go_num, hno2, hb3⟩
            case measure => exact nn_downS hlt
        · have hk0 : decide ((i : Int) < (l.length : Int)) = false := decide_eq_false (by omega)
          have hD : Hid (∀ j, j < l.length → dangIx l j = false) := Lib.hid (fun j hj => hno.out j (by omega))
          clear hno
          go_wp2
          go_loopg [7] (l.length + 1) (fun gg ic wr => ∃ i : Nat, gg = l.length - i + 1 ∧ i ≤ l.length ∧ ic = .int .i64 i ∧ Hid (∀ j, j < i → twiceIx l j = false) ∧ Hid (Below w1.heap.size w1 wr))
          case atStart => exact ⟨0, rfl, Nat.zero_le _, rfl, Lib.hid (fun j hj => absurd hj (Nat.not_lt_zero j)), hbw⟩
          case round =>
            clear hk0 hi hlt
            obtain ⟨i, rfl, hi, rfl, hno, hbw⟩ := hrel
            by_cases hlt : i < l.length
            · obtain ⟨r, hr⟩ : ∃ r, l[i]? = some r := ⟨_, List.getElem?_eq_getElem hlt⟩
              obtain ⟨b, off, eo, ec, ta, tc, ra, rc, rfl, hbl, c, hp⟩ := res_at2 hl1.out hr
              have hk0 : (i : Int) < (l.length : Int) := nn_lt hlt
              have hwk := Lib.hid (nn_succ2 hlt hlen)
              replace hr := Lib.hid hr
              replace hno := Lib.hid hno
              replace c := Lib.hid c
              replace hp := Lib.hid hp
              replace hbl := Lib.hid hbl
              go_wp2
              go_loopg [8] (i + 1) (fun gg kc wx => ∃ k : Nat, gg = i - k + 1 ∧ k ≤ i ∧ kc = .int .i64 k ∧ Hid (∀ (j : Nat) p, j < k → l[j]? = some p → (r.kind == 3 && (p.kind == 3 && r.host.toList == p.host.toList)) = false) ∧ Hid (Below w1.heap.size w1 wx))
              case atStart => exact ⟨0, rfl, Nat.zero_le _, rfl, Lib.hid (fun j p hj => absurd hj (Nat.not_lt_zero j)), hbw⟩
              case round =>
                obtain ⟨k, rfl, hk, rfl, hnk, hbx⟩ := hrel
                by_cases hki : k < i
                · have hkl : k < l.length := by omega
                  obtain ⟨p, hpk⟩ : ∃ p, l[k]? = some p := ⟨_, List.getElem?_eq_getElem hkl⟩
                  obtain ⟨b', off', eo', ec', ta', tc', ra', rc', e', hbl', d, _⟩ := res_at2 hl1.out hpk
                  simp only [Option.some.injEq, Addr.mk.injEq, and_true] at e'
                  obtain ⟨rfl, rfl⟩ := e'
                  obtain ⟨c0, _, _, _, c4, _, _, _⟩ := c.out.below hbl.out hbx.out
                  obtain ⟨d0, _, _, _, d4, _, _, _⟩ := d.below hbl.out hbx.out
                  have k0 : (k : Int) < (i : Int) := nn_lt hki
                  have k1 : (k : Int) < (l.length : Int) := nn_lt hkl
                  have k2 : (0 : Int) ≤ (i : Int) := by omega
                  have k3 : (0 : Int) ≤ (k : Int) := by omega
                  have hwk2 := Lib.hid (nn_succ2 hki (by omega))
                  have hty := fun h => hcT.out i hD.out hno.out hlt (tw_yes hr.out hki hpk h)
                  have htn := fun h => less_upto (Q := fun j => ∀ p, l[j]? = some p → (r.kind == 3 && (p.kind == 3 && r.host.toList == p.host.toList)) = false) (fun j hj p => hnk.out j p hj) (i := k) h
                  have hval : (r.kind == 3 && (p.kind == 3 && r.host.toList == p.host.toList)) = (r.kind == 3 && (p.kind == 3 && r.host.toList == p.host.toList)) := rfl
                  obtain ⟨kr, hkr⟩ : ∃ q, (r.kind == 3) = q := ⟨_, rfl⟩
                  obtain ⟨kp, hkp⟩ : ∃ q, (p.kind == 3) = q := ⟨_, rfl⟩
                  obtain ⟨kh, hkh⟩ : ∃ q, (r.host.toList == p.host.toList) = q := ⟨_, rfl⟩
                  conv at hval => rhs; rw [hkr, hkp, hkh]
                  cases kr with
                  | false =>
                    have hn2 := htn (fun p' hp' => by rw [hpk] at hp'; cases hp'; rw [hval]; rfl)
                    clear htn hty
                    replace hpk := Lib.hid hpk
                    replace hval := Lib.hid hval
                    replace d := Lib.hid d
                    replace hn2 := Lib.hid hn2
                    replace hnk := Lib.hid hnk
                    go_upto_region 18 with fail
                    go_quiet (fail)
                    all_goals
                      go_wp2
                      go_roundg (i - (k + 1) + 1)
                      case rel => exact ⟨k + 1, rfl, hki, by first | rw [hwk2.out] | go_num, Lib.hid (fun j p hj hp => hn2.out j hj p hp), Lib.hid (below_drewN hbx.out _)⟩
                      case measure => exact nn_downS hki
                  | true =>
                    cases kp with
                    | false =>
                      have hn2 := htn (fun p' hp' => by rw [hpk] at hp'; cases hp'; rw [hval]; rfl)
                      clear htn hty
                      replace hpk := Lib.hid hpk
                      replace hval := Lib.hid hval
                      replace d := Lib.hid d
                      replace hn2 := Lib.hid hn2
                      replace hnk := Lib.hid hnk
                      go_upto_region 18 with fail
                      go_quiet (fail)
                      all_goals
                        go_wp2
                        go_roundg (i - (k + 1) + 1)
                        case rel => exact ⟨k + 1, rfl, hki, by first | rw [hwk2.out] | go_num, Lib.hid (fun j p hj hp => hn2.out j hj p hp), Lib.hid (below_drewN hbx.out _)⟩
                        case measure => exact nn_downS hki
                    | true =>
                      cases kh with
                      | false =>
                        have hn2 := htn (fun p' hp' => by rw [hpk] at hp'; cases hp'; rw [hval]; rfl)
                        clear htn hty
                        replace hpk := Lib.hid hpk
                        replace hval := Lib.hid hval
                        replace d := Lib.hid d
                        replace hn2 := Lib.hid hn2
                        replace hnk := Lib.hid hnk
                        go_upto_region 18 with fail
                        go_quiet (fail)
                        all_goals
                          go_wp2
                          go_roundg (i - (k + 1) + 1)
                          case rel => exact ⟨k + 1, rfl, hki, by first | rw [hwk2.out] | go_num, Lib.hid (fun j p hj hp => hn2.out j hj p hp), Lib.hid (below_drewN hbx.out _)⟩
                          case measure => exact nn_downS hki
                      | true =>
                        have hchk := hty (by rw [hval]; rfl)
                        clear htn hty
                        obtain ⟨⟨z0, z1, z2⟩, f0, f1, f2⟩ := three_cells ((hbx.out.block g3 hg3l.out).trans hbx1.out)
                        replace hpk := Lib.hid hpk
                        replace hval := Lib.hid hval
                        replace d := Lib.hid d
                        replace hnk := Lib.hid hnk
                        replace hchk := Lib.hid hchk
                        go_upto_region 18 with fail
                        go_quiet (fail)
                        all_goals
                          go_wp2
                          refine bodyPost_ret (v := .tuple #[.slice none 0 0, .agg #[.int .i64 i, .int .i64 0, .int .i64 141]]) (by simp [results, Try.results20, go_sem, z0, z1, z2]) rfl ⟨_, _, _, hchk.out, rfl, World.ownsRow_nil _ _ _ _, ?_⟩
                          exact set_three (below_drewN (seq_below hb1.out hbx.out) _) hB3.out _ _ _
                · have k0 : decide ((k : Int) < (i : Int)) = false := decide_eq_false (by omega)
                  have hno2 := no_upto hno.out (tw_no hr.out (fun j p hj hp => hnk.out j p (by omega) hp))
                  replace hno2 := Lib.hid hno2
                  replace hnk := Lib.hid hnk
                  go_wp2
                  go_roundg (l.length - (i + 1) + 1)
                  case rel => exact ⟨i + 1, rfl, hlt, by first | rw [hwk.out] | go_num, hno2, hbx⟩
                  case measure => exact nn_downS hlt
            · have hk0 : decide ((i : Int) < (l.length : Int)) = false := decide_eq_false (by omega)
              have hT : Hid (∀ j, j < l.length → twiceIx l j = false) := Lib.hid (fun j hj => hno.out j (by omega))
              clear hno
              go_wp2
              go_loopg [9] (l.length + 1) (fun gg ic wr => ∃ i : Nat, gg = l.length - i + 1 ∧ i ≤ l.length ∧ ic = .int .i64 i ∧ Hid (∀ j, j < i → heavyIx l j = false) ∧ Hid (Below w1.heap.size w1 wr))
              case atStart => exact ⟨0, rfl, Nat.zero_le _, rfl, Lib.hid (fun j hj => absurd hj (Nat.not_lt_zero j)), hbw⟩
              case round =>
                clear hk0 hi hlt
                obtain ⟨i, rfl, hi, rfl, hno, hbw⟩ := hrel
                by_cases hlt : i < l.length
                · obtain ⟨r, hr⟩ : ∃ r, l[i]? = some r := ⟨_, List.getElem?_eq_getElem hlt⟩
                  obtain ⟨b, off, eo, ec, ta, tc, ra, rc, rfl, hbl, c, hp⟩ := res_at2 hl1.out hr
                  have hk0 : (i : Int) < (l.length : Int) := nn_lt hlt
                  have hwk := Lib.hid (nn_succ2 hlt hlen)
                  have hws := rp_weights hp
                  have htl := hp.t.1
                  replace hr := Lib.hid hr
                  replace hno := Lib.hid hno
                  replace c := Lib.hid c
                  replace hp := Lib.hid hp
                  replace hbl := Lib.hid hbl
                  replace hws := Lib.hid hws
                  go_wp2
                  go_loopg [10, 11, 12] (r.tgts.length + 1) (fun gg sv fv kc wx => ∃ (k : Nat) (s : Nat) (fb : Bool), gg = r.tgts.length - k + 1 ∧ k ≤ r.tgts.length ∧ kc = .int .i64 k ∧ fv = .bool fb ∧ sv = .float .f64 s ∧ Hid (fb = ((weights r).take k).all wOk) ∧ Hid (fb = true → s = Cum.sumTo (weights r) k) ∧ Hid (Below w1.heap.size w1 wx))
                  case atStart => exact ⟨0, 0, true, rfl, Nat.zero_le _, rfl, rfl, rfl, Lib.hid rfl, Lib.hid (fun _ => rfl), hbw⟩
                  case round =>
                    obtain ⟨k, s, fb, rfl, hk, rfl, rfl, rfl, hfb, hs, hbx⟩ := hrel
                    obtain ⟨c0, _, _, c3, _, _, _, _⟩ := c.out.below hbl.out hbx.out
                    by_cases hkt : k < r.tgts.length
                    · obtain ⟨t, ht⟩ : ∃ t, r.tgts[k]? = some t := ⟨_, List.getElem?_eq_getElem hkt⟩
                      obtain ⟨tb, toff, rfl, _, e0, e1, e2, _⟩ := tgt_at hp.out.t hbx.out ht
                      have k0 : (k : Int) < (r.tgts.length : Int) := nn_lt hkt
                      have hwk2 := Lib.hid (nn_succ2 hkt htl)
                      have han := all_next ht
                      obtain ⟨b1, hb⟩ : ∃ b, b = geF t.weight 0 := ⟨_, rfl⟩
                      obtain ⟨b2, hb2'⟩ : ∃ b, b = leF t.weight 4636737291354636288 := ⟨_, rfl⟩
                      have hwo : wOk t.weight = (b1 && b2) := by rw [hb, hb2']; rfl
                      have g1 : (FloatKind.f64.format.order t.weight 0 == some Ordering.gt || FloatKind.f64.format.order t.weight 0 == some Ordering.eq) = b1 := hb.symm
                      have g2 : (FloatKind.f64.format.order t.weight 4636737291354636288 == some Ordering.lt || FloatKind.f64.format.order t.weight 4636737291354636288 == some Ordering.eq) = b2 := hb2'.symm
                      clear hb hb2'
                      have han2 : ((weights r).take (k + 1)).all wOk = (fb && (b1 && b2)) := by rw [han, hwo, ← hfb.out]
                      have hadd : fb = true → (b1 && b2) = true → FloatKind.f64.format.add s t.weight = some (Cum.sumTo (weights r) (k + 1)) := fun q1 q2 => by
                        rw [hs.out q1]
                        exact add_fine hws.out (fine_of (by rw [← hfb.out]; exact q1)) ht (by rw [hwo]; exact q2)
                      clear han
                      cases fb with
                      | false =>
                        obtain ⟨z, w9, hz, hw9⟩ := add_any wr s t.weight
                        have hbz : Hid (Below w1.heap.size w1 w9) := Lib.hid (by rcases hw9 with h | h <;> rw [h]; exact hbx.out; exact below_drewN hbx.out 1)
                        have hf2 : Hid (false = ((weights r).take (k + 1)).all wOk) := Lib.hid (by rw [han2]; rfl)
                        replace hw9 := Lib.hid hw9
                        replace hadd := Lib.hid hadd
                        replace han2 := Lib.hid han2
                        replace hwo := Lib.hid hwo
                        replace ht := Lib.hid ht
                        replace hfb := Lib.hid hfb
                        replace hs := Lib.hid hs
                        go_wp2
                        go_roundg (r.tgts.length - (k + 1) + 1)
                        case rel => exact ⟨k + 1, z, false, rfl, hkt, by first | rw [hwk2.out] | go_num, rfl, rfl, hf2, Lib.hid (fun h => by cases h), hbz⟩
                        case measure => exact nn_downS hkt
                      | true =>
                        cases b1 with
                        | false =>
                          obtain ⟨z, w9, hz, hw9⟩ := add_any wr s t.weight
                          have hbz : Hid (Below w1.heap.size w1 w9) := Lib.hid (by rcases hw9 with h | h <;> rw [h]; exact hbx.out; exact below_drewN hbx.out 1)
                          have hf2 : Hid (false = ((weights r).take (k + 1)).all wOk) := Lib.hid (by rw [han2]; rfl)
                          replace hw9 := Lib.hid hw9
                          replace hadd := Lib.hid hadd
                          replace han2 := Lib.hid han2
                          replace hwo := Lib.hid hwo
                          replace ht := Lib.hid ht
                          replace hfb := Lib.hid hfb
                          replace hs := Lib.hid hs
                          go_wp2
                          go_roundg (r.tgts.length - (k + 1) + 1)
                          case rel => exact ⟨k + 1, z, false, rfl, hkt, by first | rw [hwk2.out] | go_num, rfl, rfl, hf2, Lib.hid (fun h => by cases h), hbz⟩
                          case measure => exact nn_downS hkt
                        | true =>
                          cases b2 with
                          | false =>
                            obtain ⟨z, w9, hz, hw9⟩ := add_any wr s t.weight
                            have hbz : Hid (Below w1.heap.size w1 w9) := Lib.hid (by rcases hw9 with h | h <;> rw [h]; exact hbx.out; exact below_drewN hbx.out 1)
                            have hf2 : Hid (false = ((weights r).take (k + 1)).all wOk) := Lib.hid (by rw [han2]; rfl)
                            replace hw9 := Lib.hid hw9
                            replace hadd := Lib.hid hadd
                            replace han2 := Lib.hid han2
                            replace hwo := Lib.hid hwo
                            replace ht := Lib.hid ht
                            replace hfb := Lib.hid hfb
                            replace hs := Lib.hid hs
                            go_wp2
                            go_roundg (r.tgts.length - (k + 1) + 1)
                            case rel => exact ⟨k + 1, z, false, rfl, hkt, by first | rw [hwk2.out] | go_num, rfl, rfl, hf2, Lib.hid (fun h => by cases h), hbz⟩
                            case measure => exact nn_downS hkt
                          | true =>
                            have hz : ∀ w, (binOp .add 55 (.float .f64 s) (.float .f64 t.weight)).run Try.prog w = .ok (.float .f64 (Cum.sumTo (weights r) (k + 1))) w := fun w => run_float_arith w .add 55 .f64 _ _ _ (hadd rfl rfl)
                            have hf2 : Hid (true = ((weights r).take (k + 1)).all wOk) := Lib.hid (by rw [han2]; rfl)
                            replace hadd := Lib.hid hadd
                            replace han2 := Lib.hid han2
                            replace hwo := Lib.hid hwo
                            replace ht := Lib.hid ht
                            replace hfb := Lib.hid hfb
                            replace hs := Lib.hid hs
                            go_wp2
                            go_roundg (r.tgts.length - (k + 1) + 1)
                            case rel => exact ⟨k + 1, _, true, rfl, hkt, by first | rw [hwk2.out] | go_num, rfl, rfl, hf2, Lib.hid (fun _ => rfl), hbx⟩
                            case measure => exact nn_downS hkt
                    · have k0 : decide ((k : Int) < (r.tgts.length : Int)) = false := decide_eq_false (by omega)
                      have hkl : k = r.tgts.length := by omega
                      have hix := heavyIx_at hr.out
                      have hfa : fb = (weights r).all wOk := by rw [hfb.out, List.take_of_length_le (by rw [weights_len]; omega)]
                      have hs2 := hs.out
                      rw [hkl] at hs2
                      have hlo := near_lo
                      have hhi := near_hi
                      have hcy := fun h => hcH.out i hD.out hT.out hno.out hlt h
                      have hcn := fun h => no_upto hno.out (i := i) h
                      obtain ⟨b3, hb3'⟩ : ∃ b, b = geF s 4636737291287527424 := ⟨_, rfl⟩
                      obtain ⟨b4, hb4'⟩ : ∃ b, b = leF s 4636737291421745152 := ⟨_, rfl⟩
                      have hso : sumOk s = (b3 && b4) := by rw [hb3', hb4']; rfl
                      have g1 : (FloatKind.f64.format.order s 4636737291287527424 == some Ordering.gt || FloatKind.f64.format.order s 4636737291287527424 == some Ordering.eq) = b3 := hb3'.symm
                      have g2 : (FloatKind.f64.format.order s 4636737291421745152 == some Ordering.lt || FloatKind.f64.format.order s 4636737291421745152 == some Ordering.eq) = b4 := hb4'.symm
                      clear hb3' hb4'
                      obtain ⟨⟨z0, z1, z2⟩, f0, f1, f2⟩ := three_cells ((hbx.out.block g3 hg3l.out).trans hbx1.out)
                      have hhv : heavy r = !(fb && (b3 && b4)) := by
                        cases fb with
                        | false => rw [heavy_bad hfa.symm]; rfl
                        | true => rw [heavy_sum hfa.symm, ← hs2 rfl, hso]; rfl
                      rw [hhv] at hix
                      clear hs2
                      by_cases kd2 : r.kind = 2
                      · have kk2 : (r.kind == 2) = true := beq_iff_eq.2 kd2
                        cases fb with
                        | false =>
                          have hchk := hcy (hix.trans (by simp [kd2]))
                          clear hcy hcn
                          replace hix := Lib.hid hix
                          replace hhv := Lib.hid hhv
                          replace hso := Lib.hid hso
                          replace hfa := Lib.hid hfa
                          replace hkl := Lib.hid hkl
                          replace hfb := Lib.hid hfb
                          replace hs := Lib.hid hs
                          replace hchk := Lib.hid hchk
                          replace kd2 := Lib.hid kd2
                          go_wp2
                          refine bodyPost_ret (v := .tuple #[.slice none 0 0, .agg #[.int .i64 i, .int .i64 0, .int .i64 142]]) (by simp [results, Try.results20, go_sem, z0, z1, z2]) rfl ⟨_, _, _, hchk.out, rfl, World.ownsRow_nil _ _ _ _, ?_⟩
                          exact set_three (seq_below hb1.out hbx.out) hB3.out _ _ _
                        | true =>
                          cases b3 with
                          | false =>
                            have hchk := hcy (hix.trans (by simp [kd2]))
                            clear hcy hcn
                            replace hix := Lib.hid hix
                            replace hhv := Lib.hid hhv
                            replace hso := Lib.hid hso
                            replace hfa := Lib.hid hfa
                            replace hkl := Lib.hid hkl
                            replace hfb := Lib.hid hfb
                            replace hs := Lib.hid hs
                            replace hchk := Lib.hid hchk
                            replace kd2 := Lib.hid kd2
                            go_wp2
                            refine bodyPost_ret (v := .tuple #[.slice none 0 0, .agg #[.int .i64 i, .int .i64 0, .int .i64 142]]) (by simp [results, Try.results20, go_sem, z0, z1, z2]) rfl ⟨_, _, _, hchk.out, rfl, World.ownsRow_nil _ _ _ _, ?_⟩
                            exact set_three (seq_below hb1.out hbx.out) hB3.out _ _ _
                          | true =>
                            cases b4 with
                            | false =>
                              have hchk := hcy (hix.trans (by simp [kd2]))
                              clear hcy hcn
                              replace hix := Lib.hid hix
                              replace hhv := Lib.hid hhv
                              replace hso := Lib.hid hso
                              replace hfa := Lib.hid hfa
                              replace hkl := Lib.hid hkl
                              replace hfb := Lib.hid hfb
                              replace hs := Lib.hid hs
                              replace hchk := Lib.hid hchk
                              replace kd2 := Lib.hid kd2
                              go_wp2
                              refine bodyPost_ret (v := .tuple #[.slice none 0 0, .agg #[.int .i64 i, .int .i64 0, .int .i64 142]]) (by simp [results, Try.results20, go_sem, z0, z1, z2]) rfl ⟨_, _, _, hchk.out, rfl, World.ownsRow_nil _ _ _ _, ?_⟩
                              exact set_three (seq_below hb1.out hbx.out) hB3.out _ _ _
                            | true =>
                              have hno2 := hcn (hix.trans (by simp [kd2]))
                              clear hcy hcn
                              replace hix := Lib.hid hix
                              replace hhv := Lib.hid hhv
                              replace hso := Lib.hid hso
                              replace hfa := Lib.hid hfa
                              replace hkl := Lib.hid hkl
                              replace hfb := Lib.hid hfb
                              replace hs := Lib.hid hs
                              replace hno2 := Lib.hid hno2
                              replace kd2 := Lib.hid kd2
                              go_wp2
                              go_roundg (l.length - (i + 1) + 1)
                              case rel => exact ⟨i + 1, rfl, hlt, by first | rw [hwk.out] | go_num, hno2, hbx⟩
                              case measure => exact nn_downS hlt
                      · have kk2 : (r.kind == 2) = false := beq_eq_false_iff_ne.2 kd2
                        have hno2 := hcn (hix.trans (by simp [kd2]))
                        clear hcy hcn
                        replace hix := Lib.hid hix
                        replace hhv := Lib.hid hhv
                        replace hso := Lib.hid hso
                        replace hfa := Lib.hid hfa
                        replace hkl := Lib.hid hkl
                        replace hfb := Lib.hid hfb
                        replace hs := Lib.hid hs
                        replace hno2 := Lib.hid hno2
                        replace kd2 := Lib.hid kd2
                        go_wp2
                        go_roundg (l.length - (i + 1) + 1)
                        case rel => exact ⟨i + 1, rfl, hlt, by first | rw [hwk.out] | go_num, hno2, hbx⟩
                        case measure => exact nn_downS hlt
                · have hk0 : decide ((i : Int) < (l.length : Int)) = false := decide_eq_false (by omega)
                  have hH : Hid (∀ j, j < l.length → heavyIx l j = false) := Lib.hid (fun j hj => hno.out j (by omega))
                  clear hno
                  have hDep := depths67 l _ wr (hl1.out.below hbw.out) h64'.out hOrd.out.uniq
                  replace hDep := Lib.hid hDep
                  go_wp2_with (first
                    | (go_at_call 67; (with_reducible refine hDep.out.mono ?_); rintro e w4 ⟨gd, rfl, hrow4, hb4⟩; have hb4' := Lib.hid (seq_below hbw.out hb4); replace hrow4 := Lib.hid (ownsRow_base hrow4 (Nat.le_trans (Nat.le_trans hb1.out.size (Nat.le_refl _)) hbw.out.size)); clear hb4)
                    | fail)
                  go_loopg [16] (l.length + 1) (fun gg ic wx => ∃ i : Nat, gg = l.length - i + 1 ∧ i ≤ l.length ∧ ic = .int .i64 i ∧ Hid (∀ j, j < i → ringIx l j = false) ∧ wx = w4)
                  case atStart => exact ⟨0, rfl, Nat.zero_le _, rfl, Lib.hid (fun j hj => absurd hj (Nat.not_lt_zero j)), rfl⟩
                  case round =>
                    clear hk0 hi hlt
                    obtain ⟨i, rfl, hi, rfl, hno, hww⟩ := hrel
                    subst hww
                    by_cases hlt : i < l.length
                    · obtain ⟨r, hr⟩ : ∃ r, l[i]? = some r := ⟨_, List.getElem?_eq_getElem hlt⟩
                      obtain ⟨b, off, eo, ec, ta, tc, ra, rc, rfl, hbl, c, hp⟩ := res_at2 hl1.out hr
                      obtain ⟨c0, _, _, _, _, _, _, _⟩ := c.below hbl hb4'.out
                      have hk0 : (i : Int) < (l.length : Int) := nn_lt hlt
                      have hwk := Lib.hid (nn_succ2 hlt hlen)
                      have hix := ringIx_at hr
                      have hel : r.kind = 2 → dEl l 8 i = known l 8 r.name := fun h => by unfold dEl; rw [hr]; simp only; rw [if_pos h]
                      obtain ⟨gx, eg, en, _, cd, _⟩ := ownsRow_cell hrow4.out (dCells_at (rd := 8) hlt)
                      clear en
                      simp only [Option.some.injEq, Addr.mk.injEq, and_true] at eg
                      subst eg
                      have hcy := fun h => hcR.out i hD.out hT.out hH.out hno.out hlt h
                      have hcn := fun h => no_upto hno.out (i := i) h
                      by_cases kd2 : r.kind = 2
                      · have kk2 : (r.kind == 2) = true := beq_iff_eq.2 kd2
                        have he := hel kd2
                        generalize dEl l 8 i = dv at *
                        by_cases hdv : dv = 0
                        · have hd0 : ((dv : Int) == 0) = true := beq_iff_eq.2 (by omega)
                          obtain ⟨⟨z0, z1, z2⟩, f0, f1, f2⟩ := three_cells ((hb4'.out.block g3 hg3l.out).trans hbx1.out)
                          have hchk := hcy (hix.trans (by simp [kd2, ← he, hdv]))
                          clear hcy hcn
                          replace hix := Lib.hid hix
                          replace hel := Lib.hid hel
                          replace hr := Lib.hid hr
                          replace hchk := Lib.hid hchk
                          replace c := Lib.hid c
                          replace hp := Lib.hid hp
                          replace hbl := Lib.hid hbl
                          replace kd2 := Lib.hid kd2
                          replace he := Lib.hid he
                          replace hdv := Lib.hid hdv
                          go_wp2
                          refine bodyPost_ret (v := .tuple #[.slice none 0 0, .agg #[.int .i64 i, .int .i64 0, .int .i64 143]]) (by simp [results, Try.results20, go_sem, z0, z1, z2]) rfl ⟨_, _, _, hchk.out, rfl, World.ownsRow_nil _ _ _ _, ?_⟩
                          exact set_three (seq_below hb1.out hb4'.out) hB3.out _ _ _
                        · have hd0 : ((dv : Int) == 0) = false := beq_eq_false_iff_ne.2 (by omega)
                          have hq : known l 8 r.name ≠ 0 := by rw [← he]; exact hdv
                          replace he := Lib.hid he
                          replace hdv := Lib.hid hdv
                          have hno2 := hcn (hix.trans (by simp [kd2, hq]))
                          clear hcy hcn
                          replace hix := Lib.hid hix
                          replace hel := Lib.hid hel
                          replace hr := Lib.hid hr
                          replace hno2 := Lib.hid hno2
                          replace c := Lib.hid c
                          replace hp := Lib.hid hp
                          replace hbl := Lib.hid hbl
                          replace kd2 := Lib.hid kd2
                          go_wp2
                          go_roundg (l.length - (i + 1) + 1)
                          case rel => exact ⟨i + 1, rfl, hlt, by first | rw [hwk.out] | go_num, hno2, rfl⟩
                          case measure => exact nn_downS hlt
                      · have kk2 : (r.kind == 2) = false := beq_eq_false_iff_ne.2 kd2
                        clear cd
                        have hno2 := hcn (hix.trans (by simp [kd2]))
                        clear hcy hcn
                        replace hix := Lib.hid hix
                        replace hel := Lib.hid hel
                        replace hr := Lib.hid hr
                        replace hno2 := Lib.hid hno2
                        replace c := Lib.hid c
                        replace hp := Lib.hid hp
                        replace hbl := Lib.hid hbl
                        replace kd2 := Lib.hid kd2
                        go_wp2
                        go_roundg (l.length - (i + 1) + 1)
                        case rel => exact ⟨i + 1, rfl, hlt, by first | rw [hwk.out] | go_num, hno2, rfl⟩
                        case measure => exact nn_downS hlt
                    · have hk0 : decide ((i : Int) < (l.length : Int)) = false := decide_eq_false (by omega)
                      have hR : Hid (∀ j, j < l.length → ringIx l j = false) := Lib.hid (fun j hj => hno.out j (by omega))
                      clear hno
                      have hrow0 := Lib.hid (World.ownsRow_nil wr w1.heap.size 41 3)
                      go_wp2
                      clear hrow4
                      go_loopg [17, 18] (l.length + 1) (fun gg ov ic wx => ∃ i : Nat, gg = l.length - i + 1 ∧ i ≤ l.length ∧ ic = .int .i64 i ∧ Hid (wx.ownsRow w1.heap.size 41 3 ov (shadowL l i).length (wcs (shadowL l i))) ∧ Hid (Below w1.heap.size w1 wx))
                      case atStart => exact ⟨0, rfl, Nat.zero_le _, rfl, hrow0, hb4'⟩
                      case round =>
                        clear hk0 hi hlt
                        obtain ⟨i, rfl, hi, rfl, hrow, hbw⟩ := hrel
                        obtain ⟨oo, oc, rfl⟩ := ownsRow_shape hrow.out
                        by_cases hlt : i < l.length
                        · obtain ⟨r, hr⟩ : ∃ r, l[i]? = some r := ⟨_, List.getElem?_eq_getElem hlt⟩
                          obtain ⟨b, off, eo, ec, ta, tc, ra, rc, rfl, hbl, c, hp⟩ := res_at2 hl1.out hr
                          obtain ⟨c0, _, _, _, _, _, _, _⟩ := c.below hbl hbw.out
                          have hk0 : (i : Int) < (l.length : Int) := nn_lt hlt
                          have hwk := Lib.hid (nn_succ2 hlt hlen)
                          have hrl := hp.ru.1
                          have hskip : ¬ 3 ≤ r.kind → shadowL l (i + 1) = shadowL l i := fun h => ofS_skip hr h
                          have htake : 3 ≤ r.kind → shadowL l (i + 1) = shadowL l i ++ rowS i r.rules r.rules.length := fun h => ofS_take hr h
                          have hsz : Hid (∀ k, k ≤ r.rules.length → (shadowL l i ++ rowS i r.rules k).length ≤ 1048576) := Lib.hid (fun k hk => Nat.le_trans (shadow_row hr hk) hM.out)
                          by_cases k3 : r.kind < 3
                          · have he := hskip (by omega)
                            clear hskip htake
                            replace he := Lib.hid he
                            replace c := Lib.hid c
                            replace hp := Lib.hid hp
                            replace hbl := Lib.hid hbl
                            replace hr := Lib.hid hr
                            go_wp2
                            go_roundg (l.length - (i + 1) + 1)
                            case rel => exact ⟨i + 1, rfl, hlt, by first | rw [hwk.out] | go_num, by rw [he.out]; exact hrow, hbw⟩
                            case measure => exact nn_downS hlt
                          · have k3' : decide (r.kind < 3) = false := decide_eq_false k3
                            have htk := htake (by omega)
                            clear hskip htake
                            replace htk := Lib.hid htk
                            replace c := Lib.hid c
                            replace hp := Lib.hid hp
                            replace hbl := Lib.hid hbl
                            replace hr := Lib.hid hr
                            replace k3 := Lib.hid k3
                            go_wp2
                            go_loopg [17, 19] (r.rules.length + 1) (fun gg ov kc wx => ∃ (k : Nat) (Lk : List Warn), gg = r.rules.length - k + 1 ∧ k ≤ r.rules.length ∧ kc = .int .i64 k ∧ Hid (Lk = shadowL l i ++ rowS i r.rules k) ∧ Hid (wx.ownsRow w1.heap.size 41 3 ov Lk.length (wcs Lk)) ∧ Hid (Below w1.heap.size w1 wx))
                            case atStart => exact ⟨0, shadowL l i, rfl, Nat.zero_le _, rfl, Lib.hid (by simp only [rowS, List.append_nil]), hrow, hbw⟩
                            case round =>
                              obtain ⟨k, Lk, rfl, hk, rfl, hLk, hrowk, hbk⟩ := hrel
                              obtain ⟨ok, ock, rfl⟩ := ownsRow_shape hrowk.out
                              obtain ⟨_, _, _, _, _, c5, _, _⟩ := c.out.below hbl.out hbk.out
                              by_cases hlk : k < r.rules.length
                              · obtain ⟨x, hx⟩ : ∃ x, r.rules[k]? = some x := ⟨_, List.getElem?_eq_getElem hlk⟩
                                obtain ⟨rb, roff, rfl, hrbl, e0, e1, e2, e3, s0, s1, _⟩ := rul_at hp.out.ru hbk.out hx
                                have j0 : (k : Int) < (r.rules.length : Int) := nn_lt hlk
                                have hwk2 := Lib.hid (nn_succ2 hlk hrl)
                                have hone := oneS_no (i := i) hx
                                have hyes := oneS_yes (i := i) hx
                                have hs1 := hsz.out (k + 1) hlk
                                obtain ⟨wo, hwo⟩ : ∃ wo, wo = wr.alloc (.cells #[.string x.path, .string x.method, .string x.split, .bool x.allow] 101) := ⟨_, rfl⟩
                                obtain ⟨xb, hxb⟩ : ∃ xb, xb = wr.heap.size := ⟨_, rfl⟩
                                have hbo : Below wr.heap.size wr wo := by rw [hwo]; exact alloc_below _ _
                                have hxbx : wo.heap[xb]? = some (.cells #[.string x.path, .string x.method, .string x.split, .bool x.allow] 101 (0, 0)) := by rw [hwo, hxb]; exact heap_alloc_new wr _
                                have hxbl := (Array.getElem?_eq_some_iff.1 hxbx).1
                                have hrowo := Lib.hid (ownsRow_tch hrowk.out (Tch.of_below (S := No) hbo) (fun _ _ q => q))
                                have hbwo := Lib.hid (seq_below hbk.out hbo)
                                replace hx := Lib.hid hx
                                replace hbo := Lib.hid hbo
                                replace hxbx := Lib.hid hxbx
                                replace hxbl := Lib.hid hxbl
                                replace hrowk := Lib.hid hrowk
                                replace hone := Lib.hid hone
                                replace hyes := Lib.hid hyes
                                replace hs1 := Lib.hid hs1
                                replace hbk := Lib.hid hbk
                                go_upto_region 49 with fail
                                rw [← hwo, ← hxb]
                                replace hwo := Lib.hid hwo
                                replace hxb := Lib.hid hxb
                                clear e0 e1 e2 e3
                                go_wp2
                                go_loopg [17, 21] (k + 1) (fun gg ov mc wy => ∃ m : Nat, gg = k - m + 1 ∧ m ≤ k ∧ ov = .slice ok Lk.length ock ∧ mc = .int .i64 m ∧ Hid (∀ j, j < m → covIx r.rules x j = false) ∧ Hid (Below wo.heap.size wo wy))
                                case atStart => exact ⟨0, rfl, Nat.zero_le _, rfl, rfl, Lib.hid (fun j hj => absurd hj (Nat.not_lt_zero j)), Lib.hid (Below.refl _ _)⟩
                                case round =>
                                  obtain ⟨m, rfl, hm, rfl, rfl, hno, hby⟩ := hrel
                                  have hbwy := Lib.hid (seq_below hbwo.out hby.out)
                                  obtain ⟨_, _, _, _, _, d5, _, _⟩ := c.out.below hbl.out hbwy.out
                                  clear c5
                                  by_cases hmk : m < k
                                  · have hml : m < r.rules.length := by omega
                                    obtain ⟨y, hy⟩ : ∃ y, r.rules[m]? = some y := ⟨_, List.getElem?_eq_getElem hml⟩
                                    obtain ⟨rb', roff', er, _, u0, u1, u2, u3, t0, _⟩ := rul_at hp.out.ru hbwy.out hy
                                    simp only [Option.some.injEq, Addr.mk.injEq, and_true] at er
                                    obtain ⟨rfl, rfl⟩ := er
                                    have k0 : (m : Int) < (k : Int) := nn_lt hmk
                                    have k1 : (m : Int) < (r.rules.length : Int) := nn_lt hml
                                    have hwm := Lib.hid (nn_succ2 hmk (by omega))
                                    have hxw := (hby.out.block xb hxbl.out).trans hxbx.out
                                    have hxl := (Array.getElem?_eq_some_iff.1 hxw).1
                                    have x0 : wr.cell? ⟨xb, 0, none⟩ = some (.string x.path) := box_at hxw rfl
                                    have x1 : wr.cell? ⟨xb, 1, none⟩ = some (.string x.method) := box_at hxw rfl
                                    have hba := alloc_below wr (.cells #[.string y.path, .string y.method, .string y.split, .bool y.allow] 101)
                                    have hby3 := Lib.hid (seq_below hby.out hba)
                                    have hrow3 := Lib.hid (ownsRow_tch hrowo.out (Tch.of_below (S := No) hby3.out) (fun _ _ q => q))
                                    have hbw3 := Lib.hid (seq_below hbwo.out hby3.out)
                                    have hC := covpath30 y.path x.path (wr.alloc (.cells #[.string y.path, .string y.method, .string y.split, .bool y.allow] 101)) t0 s0
                                    obtain ⟨b1, h1⟩ : ∃ b, (y.method.toList == [42]) = b := ⟨_, rfl⟩
                                    obtain ⟨b2, h2⟩ : ∃ b, (y.method.toList == x.method.toList) = b := ⟨_, rfl⟩
                                    obtain ⟨b3, h3⟩ : ∃ b, Go.Pa.pathCovers y.path.data.toList x.path.data.toList = b := ⟨_, rfl⟩
                                    have hcv := (covIx_at (x := x) hy).trans (covers_of y x h1 h2 h3)
                                    rw [h3] at hC
                                    clear h3
                                    have hny := fun h => no_upto hno.out (i := m) h
                                    have hfy := fun h => firstN_at (p := covIx r.rules x) hno.out hmk h
                                    cases b3 with
                                    | false =>
                                      cases b1 with
                                      | true =>
                                        have hno2 := hny (hcv.trans (by simp))
                                        clear hny hfy
                                        replace hC := Lib.hid hC
                                        replace hcv := Lib.hid hcv
                                        replace hy := Lib.hid hy
                                        replace hno := Lib.hid hno
                                        replace hno2 := Lib.hid hno2
                                        replace hxw := Lib.hid hxw
                                        replace hba := Lib.hid hba
                                        replace hm := Lib.hid hm
                                        go_wp2_with (first | (go_at_call 68; (with_reducible refine hC.out.mono ?_); rintro e w5 ⟨rfl, rfl⟩) | fail)
                                        go_roundg (k - (m + 1) + 1)
                                        case rel => exact ⟨m + 1, rfl, hmk, rfl, by first | rw [hwm.out] | go_num, hno2, hby3⟩
                                        case measure => exact nn_downS hmk
                                      | false =>
                                        cases b2 with
                                        | true =>
                                          have hno2 := hny (hcv.trans (by simp))
                                          clear hny hfy
                                          replace hC := Lib.hid hC
                                          replace hcv := Lib.hid hcv
                                          replace hy := Lib.hid hy
                                          replace hno := Lib.hid hno
                                          replace hno2 := Lib.hid hno2
                                          replace hxw := Lib.hid hxw
                                          replace hba := Lib.hid hba
                                          replace hm := Lib.hid hm
                                          go_wp2_with (first | (go_at_call 68; (with_reducible refine hC.out.mono ?_); rintro e w5 ⟨rfl, rfl⟩) | fail)
                                          go_roundg (k - (m + 1) + 1)
                                          case rel => exact ⟨m + 1, rfl, hmk, rfl, by first | rw [hwm.out] | go_num, hno2, hby3⟩
                                          case measure => exact nn_downS hmk
                                        | false =>
                                          have hno2 := hny (hcv.trans (by simp))
                                          clear hny hfy
                                          replace hC := Lib.hid hC
                                          replace hcv := Lib.hid hcv
                                          replace hy := Lib.hid hy
                                          replace hno := Lib.hid hno
                                          replace hno2 := Lib.hid hno2
                                          replace hxw := Lib.hid hxw
                                          replace hba := Lib.hid hba
                                          replace hm := Lib.hid hm
                                          go_wp2_with (first | (go_at_call 68; (with_reducible refine hC.out.mono ?_); rintro e w5 ⟨rfl, rfl⟩) | fail)
                                          go_roundg (k - (m + 1) + 1)
                                          case rel => exact ⟨m + 1, rfl, hmk, rfl, by first | rw [hwm.out] | go_num, hno2, hby3⟩
                                          case measure => exact nn_downS hmk
                                    | true =>
                                      cases b1 with
                                      | true =>
                                        have hby2 : byI r.rules x k = (m : Int) := hfy (hcv.trans (by simp))
                                        have he := hyes.out (by rw [hby2]; exact Int.natCast_nonneg m)
                                        rw [hby2] at he
                                        have hlim : Lk.length + 1 ≤ maxLen ∧ (Lk.length + 1) * 24 ≤ 140737488355328 := warn_lim (by
                                          have h1 := hsz.out k hk
                                          rw [← hLk.out] at h1
                                          exact h1)
                                        obtain ⟨i41, hi41, hz0, hz1, hz2⟩ := info_parts info41
                                        have hszw : (wr.alloc (.cells #[.string y.path, .string y.method, .string y.split, .bool y.allow] 101)).heap.size = wr.heap.size + 1 := by simp
                                        clear hny hfy
                                        replace hC := Lib.hid hC
                                        replace hcv := Lib.hid hcv
                                        replace hy := Lib.hid hy
                                        replace hno := Lib.hid hno
                                        replace hxw := Lib.hid hxw
                                        replace hba := Lib.hid hba
                                        replace hm := Lib.hid hm
                                        replace hby2 := Lib.hid hby2
                                        replace he := Lib.hid he
                                        replace hlim := Lib.hid hlim
                                        replace hi41 := Lib.hid hi41
                                        replace hz0 := Lib.hid hz0
                                        replace hz1 := Lib.hid hz1
                                        replace hz2 := Lib.hid hz2
                                        replace hszw := Lib.hid hszw
                                        go_wp2_with (first
                                          | (go_at_call 68; (with_reducible refine hC.out.mono ?_); rintro e w5 ⟨rfl, rfl⟩)
                                          | (at_builtin; refine wp_append_us (us := [.int .i64 i, .int .i64 k, .int .i64 m]) (by rfl) _ _ 30 (by rfl) w1.heap.size 41 i41 _ 3 24 Try.underlying30 hi41.out hz0.out hz1.out hz2.out rfl (by decide) _ Lk.length (wcs Lk) (by rfl) hrow3.out 1 (by rw [hszw.out]; rfl) rfl (by intro u hu; simp only [List.mem_cons, List.not_mem_nil, or_false] at hu; rcases hu with rfl | rfl | rfl <;> rfl) hlim.out.1 hlim.out.2 hbw3.out.size ?_; intro v6 w6 hr6 hg6 hl6; obtain ⟨oo6, oc6, rfl⟩ := ownsRow_shape hr6; have hb6 := Lib.hid (hbw3.out.grown hg6 hbw3.out.size (fun q hq => (ownsRow_ge hrow3.out hq).1)); replace hr6 := Lib.hid hr6; replace hg6 := Lib.hid hg6; replace hl6 := Lib.hid hl6)
                                          | fail)
                                        have hL6 : Hid (Lk ++ [((i : Int), (k : Int), (m : Int))] = shadowL l i ++ rowS i r.rules (k + 1)) := Lib.hid (by rw [he.out, ← List.append_assoc, ← hLk.out])
                                        have hr7 := Lib.hid (warn_snoc (x := ((i : Int), (k : Int), (m : Int))) hr6.out)
                                        go_wp2
                                        go_roundg (r.rules.length - (k + 1) + 1)
                                        case rel => exact ⟨k + 1, _, rfl, hlk, by first | rw [hwk2.out] | go_num, hL6, hr7, hb6⟩
                                        case measure => exact nn_downS hlk
                                      | false =>
                                        cases b2 with
                                        | true =>
                                          have hby2 : byI r.rules x k = (m : Int) := hfy (hcv.trans (by simp))
                                          have he := hyes.out (by rw [hby2]; exact Int.natCast_nonneg m)
                                          rw [hby2] at he
                                          have hlim : Lk.length + 1 ≤ maxLen ∧ (Lk.length + 1) * 24 ≤ 140737488355328 := warn_lim (by
                                            have h1 := hsz.out k hk
                                            rw [← hLk.out] at h1
                                            exact h1)
                                          obtain ⟨i41, hi41, hz0, hz1, hz2⟩ := info_parts info41
                                          have hszw : (wr.alloc (.cells #[.string y.path, .string y.method, .string y.split, .bool y.allow] 101)).heap.size = wr.heap.size + 1 := by simp
                                          clear hny hfy
                                          replace hC := Lib.hid hC
                                          replace hcv := Lib.hid hcv
                                          replace hy := Lib.hid hy
                                          replace hno := Lib.hid hno
                                          replace hxw := Lib.hid hxw
                                          replace hba := Lib.hid hba
                                          replace hm := Lib.hid hm
                                          replace hby2 := Lib.hid hby2
                                          replace he := Lib.hid he
                                          replace hlim := Lib.hid hlim
                                          replace hi41 := Lib.hid hi41
                                          replace hz0 := Lib.hid hz0
                                          replace hz1 := Lib.hid hz1
                                          replace hz2 := Lib.hid hz2
                                          replace hszw := Lib.hid hszw
                                          go_wp2_with (first
                                            | (go_at_call 68; (with_reducible refine hC.out.mono ?_); rintro e w5 ⟨rfl, rfl⟩)
                                            | (at_builtin; refine wp_append_us (us := [.int .i64 i, .int .i64 k, .int .i64 m]) (by rfl) _ _ 30 (by rfl) w1.heap.size 41 i41 _ 3 24 Try.underlying30 hi41.out hz0.out hz1.out hz2.out rfl (by decide) _ Lk.length (wcs Lk) (by rfl) hrow3.out 1 (by rw [hszw.out]; rfl) rfl (by intro u hu; simp only [List.mem_cons, List.not_mem_nil, or_false] at hu; rcases hu with rfl | rfl | rfl <;> rfl) hlim.out.1 hlim.out.2 hbw3.out.size ?_; intro v6 w6 hr6 hg6 hl6; obtain ⟨oo6, oc6, rfl⟩ := ownsRow_shape hr6; have hb6 := Lib.hid (hbw3.out.grown hg6 hbw3.out.size (fun q hq => (ownsRow_ge hrow3.out hq).1)); replace hr6 := Lib.hid hr6; replace hg6 := Lib.hid hg6; replace hl6 := Lib.hid hl6)
                                            | fail)
                                          have hL6 : Hid (Lk ++ [((i : Int), (k : Int), (m : Int))] = shadowL l i ++ rowS i r.rules (k + 1)) := Lib.hid (by rw [he.out, ← List.append_assoc, ← hLk.out])
                                          have hr7 := Lib.hid (warn_snoc (x := ((i : Int), (k : Int), (m : Int))) hr6.out)
                                          go_wp2
                                          go_roundg (r.rules.length - (k + 1) + 1)
                                          case rel => exact ⟨k + 1, _, rfl, hlk, by first | rw [hwk2.out] | go_num, hL6, hr7, hb6⟩
                                          case measure => exact nn_downS hlk
                                        | false =>
                                          have hno2 := hny (hcv.trans (by simp))
                                          clear hny hfy
                                          replace hC := Lib.hid hC
                                          replace hcv := Lib.hid hcv
                                          replace hy := Lib.hid hy
                                          replace hno := Lib.hid hno
                                          replace hno2 := Lib.hid hno2
                                          replace hxw := Lib.hid hxw
                                          replace hba := Lib.hid hba
                                          replace hm := Lib.hid hm
                                          go_wp2_with (first | (go_at_call 68; (with_reducible refine hC.out.mono ?_); rintro e w5 ⟨rfl, rfl⟩) | fail)
                                          go_roundg (k - (m + 1) + 1)
                                          case rel => exact ⟨m + 1, rfl, hmk, rfl, by first | rw [hwm.out] | go_num, hno2, hby3⟩
                                          case measure => exact nn_downS hmk
                                  · have k0 : decide ((m : Int) < (k : Int)) = false := decide_eq_false (by omega)
                                    have hby2 : byI r.rules x k = -1 := firstN_none (p := covIx r.rules x) (fun j hj => hno.out j (by omega))
                                    have he := hone.out (by rw [hby2]; decide)
                                    have hrow3 := Lib.hid (ownsRow_tch hrowo.out (Tch.of_below (S := No) hby.out) (fun _ _ q => q))
                                    replace hby2 := Lib.hid hby2
                                    replace he := Lib.hid he
                                    replace hno := Lib.hid hno
                                    go_wp2
                                    go_roundg (r.rules.length - (k + 1) + 1)
                                    case rel => exact ⟨k + 1, Lk, rfl, hlk, by first | rw [hwk2.out] | go_num, Lib.hid (by rw [he.out]; exact hLk.out), hrow3, hbwy⟩
                                    case measure => exact nn_downS hlk
                              · have j0 : decide ((k : Int) < (r.rules.length : Int)) = false := decide_eq_false (by omega)
                                have hkl : k = r.rules.length := by omega
                                replace hkl := Lib.hid hkl
                                go_wp2
                                go_roundg (l.length - (i + 1) + 1)
                                case rel => exact ⟨i + 1, rfl, hlt, by first | rw [hwk.out] | go_num, by rw [htk.out, ← hkl.out, ← hLk.out]; exact hrowk, hbk⟩
                                case measure => exact nn_downS hlt
                        · have hk0 : decide ((i : Int) < (l.length : Int)) = false := decide_eq_false (by omega)
                          have hil : i = l.length := by omega
                          have hchk := Lib.hid (hcF.out hD.out hT.out hH.out hR.out)
                          obtain ⟨⟨z0, z1, z2⟩, f0, f1, f2⟩ := three_cells ((hbw.out.block g3 hg3l.out).trans hbx1.out)
                          have hgx := Lib.hid ((hbw.out.block g3 hg3l.out).trans hbx1.out)
                          replace hil := Lib.hid hil
                          go_wp2
                          refine bodyPost_ret (v := .tuple #[.slice oo (shadowL l i).length oc, .agg #[.int .i64 0, .int .i64 0, .int .i64 0]]) (by simp [results, Try.results20, go_sem, z0, z1, z2]) rfl ⟨_, _, _, hchk.out, rfl, ?_, ?_⟩
                          · rw [← hil.out]
                            exact ownsRow_base (ownsRow_tch hrow.out (tch_three _ _ _) (fun g hg e => row_block_ne hrow.out hgx.out (by decide) g hg e)) hb1.out.size
                          · exact set_three (seq_below hb1.out hbw.out) hB3.out _ _ _
end Go.Proofs.Ytjepgpocmnijiaa
end
