/- The walk of the law CheckKeeps. -/
import Derived.Test.YtjepgpocmnijiaaZb35
section

namespace Go.Proofs.Ytjepgpocmnijiaa
open Go.RowKit Go.Mp Go.Ck
set_option linter.unusedVariables false
set_option maxRecDepth 100000
set_option maxHeartbeats 8000000
theorem merge25r {C D : List Res} {u1 u2 : Value} {w' : World} (h1 : ResS w' u1 C) (h2 : ResS w' u2 D) (hC : SzL C) (hD : SzL D) : Calls Try.prog 25 #[u1, u2] w' fun e w2 => ∃ o2 c2 L i f, e = .returned (.tuple #[.slice o2 L.length c2, .int .i64 i, .int .i64 f]) ∧ MgE C D L i f ∧ ResS w2 (.slice o2 L.length c2) L ∧ Below w'.heap.size w' w2 := by
  refine (merge25 C D u1 u2 w' h1 h2 hC hD).mono ?_
  rintro e w2 ⟨v2, L, i, f, rfl, hE, hO, hb⟩
  have hl := mge_len hE
  rw [List.length_map] at hl
  have hr := own_reads2 hO (by omega)
  obtain ⟨o2, c2, rfl⟩ := slice_shape hr
  exact ⟨o2, c2, _, i, f, rfl, hE, hr, hb⟩
theorem seq_false {a b : ByteArray} (h : ¬ a = b) : (a.toList == b.toList) = false := seq_not.2 h
theorem keeps6 (C D : List Res) (v1 v2 : Value) (w : World) (h1 : ResS w v1 C) (h2 : ResS w v2 D) (hC : SzL C) (hD : SzL D) : Calls Try.prog 6 #[v1, v2] w fun e w' => e = .returned (.bool true) ∧ Below w.heap.size w w' := by
  obtain ⟨ao, cap, rfl⟩ := slice_shape h1
  obtain ⟨bo, bcp, rfl⟩ := slice_shape h2
  have hlen1 := h1.1
  have hlen2 := h2.1
  have hK18 : ∀ (v' : Value) (w' : World) (l : List Res), ResS w' v' l → SzL l → Calls Try.prog 18 #[v'] w' fun e w2 => ∃ o2 c2, e = .returned (.slice o2 l.length c2) ∧ ResS w2 (.slice o2 l.length c2) l ∧ Below w'.heap.size w' w2 := fun v' w' l h hm => own18r h hm
  have hK25 : ∀ (u1 u2 : Value) (w' : World), ResS w' u1 C → ResS w' u2 D → Calls Try.prog 25 #[u1, u2] w' fun e w2 => ∃ o2 c2 L i f, e = .returned (.tuple #[.slice o2 L.length c2, .int .i64 i, .int .i64 f]) ∧ MgE C D L i f ∧ ResS w2 (.slice o2 L.length c2) L ∧ Below w'.heap.size w' w2 := fun u1 u2 w' h1 h2 => merge25r h1 h2 hC hD
  replace h1 := Lib.hid h1
  replace h2 := Lib.hid h2
  replace hC := Lib.hid hC
  replace hD := Lib.hid hD
  replace hK18 := Lib.hid hK18
  replace hK25 := Lib.hid hK25
  go_enter Try.func6, Try.ntmps6
  go_upto_region 4 with (first
    | (go_at_call 31; (with_reducible refine (awake31 _).mono ?_); rintro e w0 ⟨rfl, hb0⟩; have h10 := Lib.hid (h1.out.below hb0); replace hb0 := Lib.hid hb0)
    | (go_at_call 18; (with_reducible refine (hK18.out _ _ C h10.out hC.out).mono ?_); rintro e w1 ⟨p1, q1, rfl, ha, hb1⟩; have h21 := Lib.hid (h2.out.below (seq_below hb0.out hb1)); replace ha := Lib.hid ha; replace hb1 := Lib.hid hb1)
    | (go_at_call 18; (with_reducible refine (hK18.out _ _ D h21.out hD.out).mono ?_); rintro e w2 ⟨p2, q2, rfl, hb, hb2⟩; have ha2 := Lib.hid (ha.out.below hb2); have hB2 := Lib.hid (seq_below hb0.out (seq_below hb1.out hb2)); replace hb := Lib.hid hb; replace hb2 := Lib.hid hb2)
    | (go_at_call 25; (with_reducible refine (hK25.out _ _ _ ha2.out hb.out).mono ?_); rintro e w3 ⟨p3, q3, L, i3, f3, rfl, hE3, hr3, hb3⟩; have hB3 := Lib.hid (seq_below hB2.out hb3); replace hE3 := Lib.hid hE3; replace hr3 := Lib.hid hr3; replace hb3 := Lib.hid hb3)
    | fail)
  by_cases hf : f3 = 0
  · obtain ⟨hoC, hG, hl64, hi0⟩ := mge_ok hE3.out hf
    have hoL := ord_of_mgs hG hoC
    have hSL := hG.srt
    have hSC := srt_of_ord (ord_of hoC)
    subst hf
    have h23 : Calls Try.prog 23 #[.slice p3 L.length q3] w3 fun e w' => e = .returned (.bool true) ∧ Below w3.heap.size w3 w' := by
      have := ordered23 L _ w3 hr3.out
      rw [decide_eq_true hoL] at this
      exact this
    have hl640 : decide ((64 : Int) < (L.length : Int)) = false := decide_eq_false (by omega)
    have hl641 : ¬ (64 : Int) < (L.length : Int) := by omega
    replace hoC := Lib.hid hoC
    replace hG := Lib.hid hG
    replace hl64 := Lib.hid hl64
    replace hi0 := Lib.hid hi0
    replace hoL := Lib.hid hoL
    replace hSL := Lib.hid hSL
    replace hSC := Lib.hid hSC
    replace h23 := Lib.hid h23
    go_upto_region 8 with (first
      | (go_at_call 23; (with_reducible refine h23.out.mono ?_); rintro e w4 ⟨rfl, hb4⟩; have hB4 := Lib.hid (seq_below hB3.out hb4); have hr4 := Lib.hid (hr3.out.below hb4); replace hb4 := Lib.hid hb4)
      | fail)
    have hD4 := Lib.hid (h2.out.below hB4.out)
    have hC4 := Lib.hid (h1.out.below hB4.out)
    go_wp2
    go_loopg [8] (D.length + 1) (fun gg ic wx => ∃ i : Nat, gg = D.length - i + 1 ∧ i ≤ D.length ∧ ic = .int .i64 i ∧ Hid (Below w4.heap.size w4 wx))
    case atStart => exact ⟨0, rfl, Nat.zero_le _, rfl, Lib.hid (Below.refl _ _)⟩
    case round =>
      obtain ⟨i, rfl, hi, rfl, hbw⟩ := hrel
      by_cases hlt : i < D.length
      · obtain ⟨d, hd⟩ : ∃ d, D[i]? = some d := ⟨_, List.getElem?_eq_getElem hlt⟩
        obtain ⟨b, off, eo, ec, ta, tc, ra, rc, rfl, hbl, c, hp⟩ := res_at2 hD4.out hd
        have hdoc := mgs_doc hG.out hlt hd
        have hk0 : (i : Int) < (D.length : Int) := nn_lt hlt
        have hwk := Lib.hid (nn_succ2 hlt hlen2)
        obtain ⟨wo, hwo⟩ : ∃ wo, wo = wr := ⟨_, rfl⟩
        rw [← hwo] at hbw ⊢
        clear hwo
        have hCD : Hid (∀ w', Below w4.heap.size w4 w' → w'.cell? ⟨b, off + i * 8, none⟩ = some (.int .i64 d.kind) ∧ w'.cell? ⟨b, off + i * 8 + 1, none⟩ = some (.string d.name) ∧ w'.cell? ⟨b, off + i * 8 + 2, none⟩ = some (.slice eo d.eps.length ec) ∧ w'.cell? ⟨b, off + i * 8 + 3, none⟩ = some (.slice ta d.tgts.length tc) ∧ w'.cell? ⟨b, off + i * 8 + 4, none⟩ = some (.string d.host) ∧ w'.cell? ⟨b, off + i * 8 + 5, none⟩ = some (.slice ra d.rules.length rc) ∧ w'.cell? ⟨b, off + i * 8 + 6, none⟩ = some (.string d.route) ∧ w'.cell? ⟨b, off + i * 8 + 7, none⟩ = some (.bool d.del)) := Lib.hid (fun w' h => by
          obtain ⟨d0, d1, d2, d3, d4, d5, d6, d7⟩ := c.below hbl h
          exact ⟨d0, d1, d2, d3, d4, d5, d6, d7⟩)
        have hF0 := Lib.hid (hasK_zero L (rk d))
        replace hd := Lib.hid hd
        replace hbl := Lib.hid hbl
        replace c := Lib.hid c
        replace hp := Lib.hid hp
        replace hdoc := Lib.hid hdoc
        go_upto_region 13 with fail
        go_loopg [9, 10] (L.length + 1) (fun gg fv kc wx => ∃ k : Nat, gg = L.length - k + 1 ∧ k ≤ L.length ∧ kc = .int .i64 k ∧ fv = .bool (hasK L k (rk d)) ∧ Hid (Below w4.heap.size w4 wx))
        case atStart => exact ⟨0, rfl, Nat.zero_le _, rfl, by rw [hF0.out], hbw⟩
        case round =>
          obtain ⟨k, rfl, hkl, rfl, rfl, hbk⟩ := hrel
          by_cases hkt : k < L.length
          · obtain ⟨y, hy⟩ : ∃ y, L[k]? = some y := ⟨_, List.getElem?_eq_getElem hkt⟩
            obtain ⟨b2, off2, eo2, ec2, ta2, tc2, ra2, rc2, rfl, hbl2, c2, hp2⟩ := res_at2 hr4.out hy
            obtain ⟨e0, e1, e2, e3, e4, e5, e6, e7⟩ := hCD.out wr hbk.out
            obtain ⟨j0, j1, j2, j3, j4, j5, j6, j7⟩ := c2.below hbl2 hbk.out
            have hk1 : (k : Int) < (L.length : Int) := nn_lt hkt
            have hwk1 := Lib.hid (nn_succ2 hkt (by have := hl64.out; omega))
            have hsucc := hasK_succ hy (rk d)
            by_cases hke : rk y = rk d
            · have hq1 : y.kind = d.kind := congrArg Prod.fst hke
              have hq2 : y.name = d.name := congrArg Prod.snd hke
              have hyd : y = d ∧ d.del = false := by
                have h1 := srt_at hSL.out hy hke
                have h2 := hdoc.out
                rw [h1] at h2
                split at h2
                · cases h2
                · rename_i q; exact ⟨Option.some.inj h2, by simpa using q⟩
              have hsm : sameR y d = true := by rw [hyd.1]; exact sameR_refl d
              have hsucc' : hasK L (k + 1) (rk d) = true := by rw [hsucc, hke]; simp
              have hq3 : (y.kind == d.kind) = true := beq_iff_eq.2 hq1
              have hq4 : (y.name.toList == d.name.toList) = true := seq_iff.2 hq2
              have hSS : Hid (∀ w', Below wr.heap.size wr w' → w'.cell? ⟨b, off + i * 8, none⟩ = some (.int .i64 d.kind) ∧ w'.cell? ⟨b, off + i * 8 + 1, none⟩ = some (.string d.name) ∧ w'.cell? ⟨b, off + i * 8 + 2, none⟩ = some (.slice eo d.eps.length ec) ∧ w'.cell? ⟨b, off + i * 8 + 3, none⟩ = some (.slice ta d.tgts.length tc) ∧ w'.cell? ⟨b, off + i * 8 + 4, none⟩ = some (.string d.host) ∧ w'.cell? ⟨b, off + i * 8 + 5, none⟩ = some (.slice ra d.rules.length rc) ∧ w'.cell? ⟨b, off + i * 8 + 6, none⟩ = some (.string d.route) ∧ w'.cell? ⟨b, off + i * 8 + 7, none⟩ = some (.bool d.del) ∧ w'.cell? ⟨b2, off2 + k * 8, none⟩ = some (.int .i64 y.kind) ∧ w'.cell? ⟨b2, off2 + k * 8 + 1, none⟩ = some (.string y.name) ∧ w'.cell? ⟨b2, off2 + k * 8 + 2, none⟩ = some (.slice eo2 y.eps.length ec2) ∧ w'.cell? ⟨b2, off2 + k * 8 + 3, none⟩ = some (.slice ta2 y.tgts.length tc2) ∧ w'.cell? ⟨b2, off2 + k * 8 + 4, none⟩ = some (.string y.host) ∧ w'.cell? ⟨b2, off2 + k * 8 + 5, none⟩ = some (.slice ra2 y.rules.length rc2) ∧ w'.cell? ⟨b2, off2 + k * 8 + 6, none⟩ = some (.string y.route) ∧ w'.cell? ⟨b2, off2 + k * 8 + 7, none⟩ = some (.bool y.del)) := Lib.hid (fun w' h => by
                obtain ⟨x0, x1, x2, x3, x4, x5, x6, x7⟩ := hCD.out w' (seq_below hbk.out h)
                obtain ⟨z0, z1, z2, z3, z4, z5, z6, z7⟩ := c2.below hbl2 (seq_below hbk.out h)
                exact ⟨x0, x1, x2, x3, x4, x5, x6, x7, z0, z1, z2, z3, z4, z5, z6, z7⟩)
              have hK30 : Hid (∀ w', Below wr.heap.size wr w' → Calls Try.prog 30 #[.agg #[.int .i64 y.kind, .string y.name, .slice eo2 y.eps.length ec2, .slice ta2 y.tgts.length tc2, .string y.host, .slice ra2 y.rules.length rc2, .string y.route, .bool y.del], .agg #[.int .i64 d.kind, .string d.name, .slice eo d.eps.length ec, .slice ta d.tgts.length tc, .string d.host, .slice ra d.rules.length rc, .string d.route, .bool d.del]] w' fun e w2 => e = .returned (.bool true) ∧ Below w'.heap.size w' w2) := Lib.hid (fun w' h => by
                rw [← hsm]
                exact same30 y d _ _ _ _ _ _ w' (hp2.below (seq_below hbk.out h)) (hp.out.below (seq_below hbk.out h)))
              replace hy := Lib.hid hy
              replace hbl2 := Lib.hid hbl2
              replace c2 := Lib.hid c2
              replace hp2 := Lib.hid hp2
              replace hsucc := Lib.hid hsucc
              replace hke := Lib.hid hke
              replace hq1 := Lib.hid hq1
              replace hq2 := Lib.hid hq2
              replace hyd := Lib.hid hyd
              replace hsm := Lib.hid hsm
              replace hsucc' := Lib.hid hsucc'
              go_upto_region 15 with fail
              go_quiet (fail)
              clear hq3 hq4 e0 e1 e2 e3 e4 e5 e6 e7 j0 j1 j2 j3 j4 j5 j6 j7
              obtain ⟨wd, hwd⟩ : ∃ wd, wd = wr.drewN nq := ⟨_, rfl⟩
              rw [← hwd]
              have hcur0 : Hid (Below wr.heap.size wr wd) := Lib.hid (by rw [hwd]; exact drew_below wr nq)
              have hcur : Hid (Below wr.heap.size wr wd.drew) := Lib.hid (by rw [hwd]; exact drew_below wr (nq + 1))
              replace hwd := Lib.hid hwd
              obtain ⟨e0, e1, e2, e3, e4, e5, e6, e7, j0, j1, j2, j3, j4, j5, j6, j7⟩ := hSS.out wd hcur0.out
              go_upto_region 17 with fail
              go_region_held3 (fun w' => w'.cell? ⟨b, off + i * 8, none⟩ = some (.int .i64 d.kind) ∧ w'.cell? ⟨b, off + i * 8 + 1, none⟩ = some (.string d.name) ∧ w'.cell? ⟨b, off + i * 8 + 2, none⟩ = some (.slice eo d.eps.length ec) ∧ w'.cell? ⟨b, off + i * 8 + 3, none⟩ = some (.slice ta d.tgts.length tc) ∧ w'.cell? ⟨b, off + i * 8 + 4, none⟩ = some (.string d.host) ∧ w'.cell? ⟨b, off + i * 8 + 5, none⟩ = some (.slice ra d.rules.length rc) ∧ w'.cell? ⟨b, off + i * 8 + 6, none⟩ = some (.string d.route) ∧ w'.cell? ⟨b, off + i * 8 + 7, none⟩ = some (.bool d.del) ∧ w'.cell? ⟨b2, off2 + k * 8, none⟩ = some (.int .i64 y.kind) ∧ w'.cell? ⟨b2, off2 + k * 8 + 1, none⟩ = some (.string y.name) ∧ w'.cell? ⟨b2, off2 + k * 8 + 2, none⟩ = some (.slice eo2 y.eps.length ec2) ∧ w'.cell? ⟨b2, off2 + k * 8 + 3, none⟩ = some (.slice ta2 y.tgts.length tc2) ∧ w'.cell? ⟨b2, off2 + k * 8 + 4, none⟩ = some (.string y.host) ∧ w'.cell? ⟨b2, off2 + k * 8 + 5, none⟩ = some (.slice ra2 y.rules.length rc2) ∧ w'.cell? ⟨b2, off2 + k * 8 + 6, none⟩ = some (.string y.route) ∧ w'.cell? ⟨b2, off2 + k * 8 + 7, none⟩ = some (.bool y.del))
                (first | exact hSS.out _ hcur.out | fail)
                (first
                  | (go_at_call 30; (with_reducible refine (hK30.out _ hcur.out).mono ?_); rintro e wS ⟨rfl, hbS⟩; replace hcur := Lib.hid (seq_below hcur.out hbS); clear hbS)
                  | fail)
              all_goals
                go_wp2
                go_roundg (L.length - (k + 1) + 1)
                case rel => exact ⟨k + 1, rfl, hkt, by first | rw [hwk1.out] | go_num, by rw [hsucc'.out], Lib.hid (seq_below hbk.out hcur.out)⟩
                case measure => exact nn_downS hkt
            · have hsucc' : hasK L (k + 1) (rk d) = hasK L k (rk d) := by rw [hsucc, decide_eq_false hke, Bool.or_false]
              have hne := hke
              by_cases hq1 : y.kind = d.kind
              · have hq2 : ¬ y.name = d.name := fun q => hke (Prod.ext hq1 q)
                have hq3 : (y.kind == d.kind) = true := beq_iff_eq.2 hq1
                have hq4 : (y.name.toList == d.name.toList) = false := seq_false hq2
                replace hy := Lib.hid hy
                replace hbl2 := Lib.hid hbl2
                replace c2 := Lib.hid c2
                replace hp2 := Lib.hid hp2
                replace hsucc := Lib.hid hsucc
                replace hke := Lib.hid hke
                replace hq1 := Lib.hid hq1
                replace hq2 := Lib.hid hq2
                replace hsucc' := Lib.hid hsucc'
                replace hne := Lib.hid hne
                go_upto_region 15 with fail
                go_quiet (fail)
                go_wp2
                go_roundg (L.length - (k + 1) + 1)
                case rel => exact ⟨k + 1, rfl, hkt, by first | rw [hwk1.out] | go_num, by rw [hsucc'.out], Lib.hid (below_drewN hbk.out _)⟩
                case measure => exact nn_downS hkt
              · have hq3 : (y.kind == d.kind) = false := beq_eq_false_iff_ne.2 hq1
                replace hy := Lib.hid hy
                replace hbl2 := Lib.hid hbl2
                replace c2 := Lib.hid c2
                replace hp2 := Lib.hid hp2
                replace hsucc := Lib.hid hsucc
                replace hke := Lib.hid hke
                replace hq1 := Lib.hid hq1
                replace hsucc' := Lib.hid hsucc'
                replace hne := Lib.hid hne
                go_upto_region 15 with fail
                go_quiet (fail)
                go_wp2
                go_roundg (L.length - (k + 1) + 1)
                case rel => exact ⟨k + 1, rfl, hkt, by first | rw [hwk1.out] | go_num, by rw [hsucc'.out], Lib.hid (below_drewN hbk.out _)⟩
                case measure => exact nn_downS hkt
          · have hk1 : decide ((k : Int) < (L.length : Int)) = false := decide_eq_false (by omega)
            have hke : k = L.length := by omega
            subst hke
            have hfin : hasK L L.length (rk d) = !d.del := by
              unfold hasK
              rw [List.take_length, hdoc.out]
              cases d.del <;> rfl
            obtain ⟨dl, hdl⟩ : ∃ x, x = d.del := ⟨_, rfl⟩
            rw [hfin, ← hdl]
            have e7 : wr.cell? ⟨b, off + i * 8 + 7, none⟩ = some (.bool dl) := by rw [hdl]; exact (hCD.out wr hbk.out).2.2.2.2.2.2.2
            replace hfin := Lib.hid hfin
            replace hdl := Lib.hid hdl
            clear hkt
            cases dl <;>
            · go_wp2
              go_roundg (D.length - (i + 1) + 1)
              case rel => exact ⟨i + 1, rfl, hlt, by first | rw [hwk.out] | go_num, hbk⟩
              case measure => exact nn_downS hlt
      · have hk0 : decide ((i : Int) < (D.length : Int)) = false := decide_eq_false (by omega)
        have hie : i = D.length := by omega
        subst hie
        clear hlt hi
        obtain ⟨wm, hwm⟩ : ∃ wm, wm = wr := ⟨_, rfl⟩
        rw [← hwm] at hbw ⊢
        clear hwm
        go_upto_region 22 with fail
        go_loopg [11] (C.length + 1) (fun gg ic wx => ∃ i : Nat, gg = C.length - i + 1 ∧ i ≤ C.length ∧ ic = .int .i64 i ∧ Hid (Below w4.heap.size w4 wx))
        case atStart => exact ⟨0, rfl, Nat.zero_le _, rfl, hbw⟩
        case round =>
          clear hbw hk0
          obtain ⟨i, rfl, hi, rfl, hbw⟩ := hrel
          by_cases hlt : i < C.length
          · obtain ⟨x, hx⟩ : ∃ x, C[i]? = some x := ⟨_, List.getElem?_eq_getElem hlt⟩
            obtain ⟨b, off, eo, ec, ta, tc, ra, rc, rfl, hbl, c, hp⟩ := res_at2 hC4.out hx
            have hk0 : (i : Int) < (C.length : Int) := nn_lt hlt
            have hwk := Lib.hid (nn_succ2 hlt hlen1)
            have hfinal : hasK D D.length (rk x) = false → hasS L L.length x = true := fun hn => by
              unfold hasK at hn
              rw [List.take_length] at hn
              have hnone : fnd D (rk x) = none := by
                cases h : fnd D (rk x) with
                | none => rfl
                | some z => rw [h] at hn; cases hn
              have h1 := mgs_conf hG.out (k := rk x) (fun j d hj hd => fnd_none.1 hnone d (List.mem_of_getElem? hd))
              rw [hSC.out.fnd_mem (List.mem_of_getElem? hx)] at h1
              unfold hasS
              rw [List.take_length, List.any_eq_true]
              exact ⟨x, (fnd_some h1).2, sameR_refl x⟩
            obtain ⟨wo, hwo⟩ : ∃ wo, wo = wr := ⟨_, rfl⟩
            rw [← hwo] at hbw ⊢
            clear hwo
            have hCX : Hid (∀ w', Below w4.heap.size w4 w' → w'.cell? ⟨b, off + i * 8, none⟩ = some (.int .i64 x.kind) ∧ w'.cell? ⟨b, off + i * 8 + 1, none⟩ = some (.string x.name) ∧ w'.cell? ⟨b, off + i * 8 + 2, none⟩ = some (.slice eo x.eps.length ec) ∧ w'.cell? ⟨b, off + i * 8 + 3, none⟩ = some (.slice ta x.tgts.length tc) ∧ w'.cell? ⟨b, off + i * 8 + 4, none⟩ = some (.string x.host) ∧ w'.cell? ⟨b, off + i * 8 + 5, none⟩ = some (.slice ra x.rules.length rc) ∧ w'.cell? ⟨b, off + i * 8 + 6, none⟩ = some (.string x.route) ∧ w'.cell? ⟨b, off + i * 8 + 7, none⟩ = some (.bool x.del)) := Lib.hid (fun w' h => by
              obtain ⟨d0, d1, d2, d3, d4, d5, d6, d7⟩ := c.below hbl h
              exact ⟨d0, d1, d2, d3, d4, d5, d6, d7⟩)
            have hF0 := Lib.hid (hasK_zero D (rk x))
            have hF1 := Lib.hid (hasS_zero L x)
            replace hx := Lib.hid hx
            replace hbl := Lib.hid hbl
            replace c := Lib.hid c
            replace hp := Lib.hid hp
            replace hfinal := Lib.hid hfinal
            go_upto_region 26 with fail
            go_loopg [12, 14] (D.length + 1) (fun gg fv kc wx => ∃ k : Nat, gg = D.length - k + 1 ∧ k ≤ D.length ∧ kc = .int .i64 k ∧ fv = .bool (hasK D k (rk x)) ∧ Hid (Below w4.heap.size w4 wx))
            case atStart => exact ⟨0, rfl, Nat.zero_le _, rfl, by rw [hF0.out], hbw⟩
            case round =>
              obtain ⟨k, rfl, hkl, rfl, rfl, hbk⟩ := hrel
              by_cases hkt : k < D.length
              · obtain ⟨d, hd⟩ : ∃ d, D[k]? = some d := ⟨_, List.getElem?_eq_getElem hkt⟩
                obtain ⟨b2, off2, eo2, ec2, ta2, tc2, ra2, rc2, rfl, hbl2, c2, hp2⟩ := res_at2 hD4.out hd
                obtain ⟨e0, e1, e2, e3, e4, e5, e6, e7⟩ := hCX.out wr hbk.out
                obtain ⟨j0, j1, j2, j3, j4, j5, j6, j7⟩ := c2.below hbl2 hbk.out
                clear e2 e3 e4 e5 e6 e7 j2 j3 j4 j5 j6 j7
                have hk1 : (k : Int) < (D.length : Int) := nn_lt hkt
                have hwk1 := Lib.hid (nn_succ2 hkt hlen2)
                have hsucc := hasK_succ hd (rk x)
                obtain ⟨nm, hnm⟩ : ∃ nm, nm = hasK D k (rk x) := ⟨_, rfl⟩
                rw [← hnm]
                rw [← hnm] at hsucc
                replace hnm := Lib.hid hnm
                cases nm with
                | true =>
                  have hsucc' : hasK D (k + 1) (rk x) = true := by rw [hsucc]; rfl
                  replace hd := Lib.hid hd
                  replace hbl2 := Lib.hid hbl2
                  replace c2 := Lib.hid c2
                  replace hp2 := Lib.hid hp2
                  replace hsucc := Lib.hid hsucc
                  replace hsucc' := Lib.hid hsucc'
                  go_upto_region 28 with fail
                  go_quiet (fail)
                  go_wp2
                  go_roundg (D.length - (k + 1) + 1)
                  case rel => exact ⟨k + 1, rfl, hkt, by first | rw [hwk1.out] | go_num, by rw [hsucc'.out], Lib.hid (below_drewN hbk.out _)⟩
                  case measure => exact nn_downS hkt
                | false =>
                  by_cases hke : rk d = rk x
                  · have hq1 : (x.kind == d.kind) = true := beq_iff_eq.2 (congrArg Prod.fst hke).symm
                    have hq2 : (x.name.toList == d.name.toList) = true := seq_iff.2 (congrArg Prod.snd hke).symm
                    have hsucc' : hasK D (k + 1) (rk x) = true := by rw [hsucc, decide_eq_true hke]; rfl
                    replace hd := Lib.hid hd
                    replace hbl2 := Lib.hid hbl2
                    replace c2 := Lib.hid c2
                    replace hp2 := Lib.hid hp2
                    replace hsucc := Lib.hid hsucc
                    replace hsucc' := Lib.hid hsucc'
                    replace hke := Lib.hid hke
                    go_upto_region 28 with fail
                    go_quiet (fail)
                    go_wp2
                    go_roundg (D.length - (k + 1) + 1)
                    case rel => exact ⟨k + 1, rfl, hkt, by first | rw [hwk1.out] | go_num, by rw [hsucc'.out], Lib.hid (below_drewN hbk.out _)⟩
                    case measure => exact nn_downS hkt
                  · have hsucc' : hasK D (k + 1) (rk x) = false := by rw [hsucc, decide_eq_false hke]; rfl
                    by_cases hq1 : x.kind = d.kind
                    · have hq2 : ¬ x.name = d.name := fun q => hke (Prod.ext hq1.symm q.symm)
                      have hq3 : (x.kind == d.kind) = true := beq_iff_eq.2 hq1
                      have hq4 : (x.name.toList == d.name.toList) = false := seq_false hq2
                      replace hd := Lib.hid hd
                      replace hbl2 := Lib.hid hbl2
                      replace c2 := Lib.hid c2
                      replace hp2 := Lib.hid hp2
                      replace hsucc := Lib.hid hsucc
                      replace hsucc' := Lib.hid hsucc'
                      replace hke := Lib.hid hke
                      replace hq1 := Lib.hid hq1
                      replace hq2 := Lib.hid hq2
                      go_upto_region 28 with fail
                      go_quiet (fail)
                      go_wp2
                      go_roundg (D.length - (k + 1) + 1)
                      case rel => exact ⟨k + 1, rfl, hkt, by first | rw [hwk1.out] | go_num, by rw [hsucc'.out], Lib.hid (below_drewN hbk.out _)⟩
                      case measure => exact nn_downS hkt
                    · have hq3 : (x.kind == d.kind) = false := beq_eq_false_iff_ne.2 hq1
                      replace hd := Lib.hid hd
                      replace hbl2 := Lib.hid hbl2
                      replace c2 := Lib.hid c2
                      replace hp2 := Lib.hid hp2
                      replace hsucc := Lib.hid hsucc
                      replace hsucc' := Lib.hid hsucc'
                      replace hke := Lib.hid hke
                      replace hq1 := Lib.hid hq1
                      go_upto_region 28 with fail
                      go_quiet (fail)
                      go_wp2
                      go_roundg (D.length - (k + 1) + 1)
                      case rel => exact ⟨k + 1, rfl, hkt, by first | rw [hwk1.out] | go_num, by rw [hsucc'.out], Lib.hid (below_drewN hbk.out _)⟩
                      case measure => exact nn_downS hkt
              · have hk1 : decide ((k : Int) < (D.length : Int)) = false := decide_eq_false (by omega)
                have hke : k = D.length := by omega
                subst hke
                clear hkt
                obtain ⟨nm, hnm⟩ : ∃ nm, nm = hasK D D.length (rk x) := ⟨_, rfl⟩
                rw [← hnm]
                rw [← hnm] at hfinal
                replace hnm := Lib.hid hnm
                obtain ⟨wp, hwp⟩ : ∃ wp, wp = wr := ⟨_, rfl⟩
                rw [← hwp] at hbk ⊢
                clear hwp
                go_upto_region 30 with fail
                go_loopg [13, 15] (L.length + 1) (fun gg fv kc wx => ∃ k : Nat, gg = L.length - k + 1 ∧ k ≤ L.length ∧ kc = .int .i64 k ∧ fv = .bool (hasS L k x) ∧ Hid (Below w4.heap.size w4 wx))
                case atStart => exact ⟨0, rfl, Nat.zero_le _, rfl, by rw [hF1.out], hbk⟩
                case round =>
                  clear hbk hk1 hkl
                  obtain ⟨k, rfl, hkl, rfl, rfl, hbk⟩ := hrel
                  by_cases hkt : k < L.length
                  · obtain ⟨y, hy⟩ : ∃ y, L[k]? = some y := ⟨_, List.getElem?_eq_getElem hkt⟩
                    obtain ⟨b2, off2, eo2, ec2, ta2, tc2, ra2, rc2, rfl, hbl2, c2, hp2⟩ := res_at2 hr4.out hy
                    have hk1 : (k : Int) < (L.length : Int) := nn_lt hkt
                    have hwk1 := Lib.hid (nn_succ2 hkt (by have := hl64.out; omega))
                    have hsucc := hasS_succ hy x
                    obtain ⟨fs, hfs⟩ : ∃ fs, fs = hasS L k x := ⟨_, rfl⟩
                    rw [← hfs]
                    rw [← hfs] at hsucc
                    replace hfs := Lib.hid hfs
                    cases fs with
                    | true =>
                      have hsucc' : hasS L (k + 1) x = true := by rw [hsucc]; rfl
                      replace hy := Lib.hid hy
                      replace hbl2 := Lib.hid hbl2
                      replace c2 := Lib.hid c2
                      replace hp2 := Lib.hid hp2
                      replace hsucc := Lib.hid hsucc
                      replace hsucc' := Lib.hid hsucc'
                      go_upto_region 32 with fail
                      go_quiet (fail)
                      go_wp2
                      go_roundg (L.length - (k + 1) + 1)
                      case rel => exact ⟨k + 1, rfl, hkt, by first | rw [hwk1.out] | go_num, by rw [hsucc'.out], Lib.hid (below_drewN hbk.out _)⟩
                      case measure => exact nn_downS hkt
                    | false =>
                      obtain ⟨sm, hsm⟩ : ∃ s, sameR y x = s := ⟨_, rfl⟩
                      have hsucc' : hasS L (k + 1) x = sm := by rw [hsucc, hsm]; rfl
                      have hSS : Hid (∀ w', Below wr.heap.size wr w' → w'.cell? ⟨b, off + i * 8, none⟩ = some (.int .i64 x.kind) ∧ w'.cell? ⟨b, off + i * 8 + 1, none⟩ = some (.string x.name) ∧ w'.cell? ⟨b, off + i * 8 + 2, none⟩ = some (.slice eo x.eps.length ec) ∧ w'.cell? ⟨b, off + i * 8 + 3, none⟩ = some (.slice ta x.tgts.length tc) ∧ w'.cell? ⟨b, off + i * 8 + 4, none⟩ = some (.string x.host) ∧ w'.cell? ⟨b, off + i * 8 + 5, none⟩ = some (.slice ra x.rules.length rc) ∧ w'.cell? ⟨b, off + i * 8 + 6, none⟩ = some (.string x.route) ∧ w'.cell? ⟨b, off + i * 8 + 7, none⟩ = some (.bool x.del) ∧ w'.cell? ⟨b2, off2 + k * 8, none⟩ = some (.int .i64 y.kind) ∧ w'.cell? ⟨b2, off2 + k * 8 + 1, none⟩ = some (.string y.name) ∧ w'.cell? ⟨b2, off2 + k * 8 + 2, none⟩ = some (.slice eo2 y.eps.length ec2) ∧ w'.cell? ⟨b2, off2 + k * 8 + 3, none⟩ = some (.slice ta2 y.tgts.length tc2) ∧ w'.cell? ⟨b2, off2 + k * 8 + 4, none⟩ = some (.string y.host) ∧ w'.cell? ⟨b2, off2 + k * 8 + 5, none⟩ = some (.slice ra2 y.rules.length rc2) ∧ w'.cell? ⟨b2, off2 + k * 8 + 6, none⟩ = some (.string y.route) ∧ w'.cell? ⟨b2, off2 + k * 8 + 7, none⟩ = some (.bool y.del)) := Lib.hid (fun w' h => by
                        obtain ⟨x0, x1, x2, x3, x4, x5, x6, x7⟩ := hCX.out w' (seq_below hbk.out h)
                        obtain ⟨z0, z1, z2, z3, z4, z5, z6, z7⟩ := c2.below hbl2 (seq_below hbk.out h)
                        exact ⟨x0, x1, x2, x3, x4, x5, x6, x7, z0, z1, z2, z3, z4, z5, z6, z7⟩)
                      have hK30 : Hid (∀ w', Below wr.heap.size wr w' → Calls Try.prog 30 #[.agg #[.int .i64 y.kind, .string y.name, .slice eo2 y.eps.length ec2, .slice ta2 y.tgts.length tc2, .string y.host, .slice ra2 y.rules.length rc2, .string y.route, .bool y.del], .agg #[.int .i64 x.kind, .string x.name, .slice eo x.eps.length ec, .slice ta x.tgts.length tc, .string x.host, .slice ra x.rules.length rc, .string x.route, .bool x.del]] w' fun e w2 => e = .returned (.bool sm) ∧ Below w'.heap.size w' w2) := Lib.hid (fun w' h => by
                        rw [← hsm]
                        exact same30 y x _ _ _ _ _ _ w' (hp2.below (seq_below hbk.out h)) (hp.out.below (seq_below hbk.out h)))
                      have hcur : Hid (Below wr.heap.size wr wr.drew) := Lib.hid (drew_below wr 1)
                      replace hy := Lib.hid hy
                      replace hbl2 := Lib.hid hbl2
                      replace c2 := Lib.hid c2
                      replace hp2 := Lib.hid hp2
                      replace hsucc := Lib.hid hsucc
                      replace hsm := Lib.hid hsm
                      replace hsucc' := Lib.hid hsucc'
                      obtain ⟨e0, e1, e2, e3, e4, e5, e6, e7, j0, j1, j2, j3, j4, j5, j6, j7⟩ := hSS.out wr (Below.refl _ _)
                      go_upto_region 32 with fail
                      go_region_held3 (fun w' => w'.cell? ⟨b, off + i * 8, none⟩ = some (.int .i64 x.kind) ∧ w'.cell? ⟨b, off + i * 8 + 1, none⟩ = some (.string x.name) ∧ w'.cell? ⟨b, off + i * 8 + 2, none⟩ = some (.slice eo x.eps.length ec) ∧ w'.cell? ⟨b, off + i * 8 + 3, none⟩ = some (.slice ta x.tgts.length tc) ∧ w'.cell? ⟨b, off + i * 8 + 4, none⟩ = some (.string x.host) ∧ w'.cell? ⟨b, off + i * 8 + 5, none⟩ = some (.slice ra x.rules.length rc) ∧ w'.cell? ⟨b, off + i * 8 + 6, none⟩ = some (.string x.route) ∧ w'.cell? ⟨b, off + i * 8 + 7, none⟩ = some (.bool x.del) ∧ w'.cell? ⟨b2, off2 + k * 8, none⟩ = some (.int .i64 y.kind) ∧ w'.cell? ⟨b2, off2 + k * 8 + 1, none⟩ = some (.string y.name) ∧ w'.cell? ⟨b2, off2 + k * 8 + 2, none⟩ = some (.slice eo2 y.eps.length ec2) ∧ w'.cell? ⟨b2, off2 + k * 8 + 3, none⟩ = some (.slice ta2 y.tgts.length tc2) ∧ w'.cell? ⟨b2, off2 + k * 8 + 4, none⟩ = some (.string y.host) ∧ w'.cell? ⟨b2, off2 + k * 8 + 5, none⟩ = some (.slice ra2 y.rules.length rc2) ∧ w'.cell? ⟨b2, off2 + k * 8 + 6, none⟩ = some (.string y.route) ∧ w'.cell? ⟨b2, off2 + k * 8 + 7, none⟩ = some (.bool y.del))
                        (first | exact hSS.out _ hcur.out | fail)
                        (first
                          | (go_at_call 30; (with_reducible refine (hK30.out _ hcur.out).mono ?_); rintro e wS ⟨rfl, hbS⟩; replace hcur := Lib.hid (seq_below hcur.out hbS); clear hbS)
                          | fail)
                      all_goals
                        go_wp2
                        go_roundg (L.length - (k + 1) + 1)
                        case rel => exact ⟨k + 1, rfl, hkt, by first | rw [hwk1.out] | go_num, by rw [hsucc'.out], Lib.hid (seq_below hbk.out hcur.out)⟩
                        case measure => exact nn_downS hkt
                  · have hk1 : decide ((k : Int) < (L.length : Int)) = false := decide_eq_false (by omega)
                    have hke : k = L.length := by omega
                    subst hke
                    clear hkt
                    obtain ⟨fs, hfs⟩ : ∃ fs, fs = hasS L L.length x := ⟨_, rfl⟩
                    rw [← hfs]
                    rw [← hfs] at hfinal
                    replace hfs := Lib.hid hfs
                    cases nm with
                    | true =>
                      go_wp2
                      all_goals
                        go_roundg (C.length - (i + 1) + 1)
                        case rel => exact ⟨i + 1, rfl, hlt, by first | rw [hwk.out] | go_num, hbk⟩
                        case measure => exact nn_downS hlt
                    | false =>
                      have hft : fs = true := hfinal.out rfl
                      subst hft
                      go_wp2
                      go_roundg (C.length - (i + 1) + 1)
                      case rel => exact ⟨i + 1, rfl, hlt, by first | rw [hwk.out] | go_num, hbk⟩
                      case measure => exact nn_downS hlt
          · have hk0 : decide ((i : Int) < (C.length : Int)) = false := decide_eq_false (by omega)
            have hie : i = C.length := by omega
            subst hie
            clear hlt
            go_wp2
            go_ret
            exact ⟨rfl, seq_below hB4.out hbw.out⟩
  · obtain ⟨hL, hi0, hi1⟩ := mge_err hE3.out hf
    subst hL
    have hf0 : (f3 == 0) = false := beq_eq_false_iff_ne.2 hf
    have hf1 : (f3 != 0) = true := bne_iff_ne.2 hf
    have hq0 : decide ((0 : Int) ≤ i3) = true := decide_eq_true hi0
    have hq1 : (([] : List Res).length : Int) = 0 := rfl
    by_cases hid : i3 < (D.length : Int)
    · have hq2 : decide (i3 < (D.length : Int)) = true := decide_eq_true hid
      replace hf := Lib.hid hf
      replace hi1 := Lib.hid hi1
      go_wp2
      go_ret
      exact ⟨rfl, hB3.out⟩
    · have hz := hi1.resolve_left hid
      subst hz
      have hq2 : decide ((0 : Int) < (D.length : Int)) = false := decide_eq_false hid
      have hq3 : decide (0 < D.length) = false := decide_eq_false (by omega)
      replace hf := Lib.hid hf
      replace hi1 := Lib.hid hi1
      go_wp2
      go_ret
      exact ⟨rfl, hB3.out⟩
end Go.Proofs.Ytjepgpocmnijiaa
end
