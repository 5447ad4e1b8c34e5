/- The walk of the law CheckStands. -/
import Derived.Test.YtjepgpocmnijiaaTf
import Derived.Test.YtjepgpocmnijiaaMs
namespace Go.Proofs.Ytjepgpocmnijiaa
open Go.RowKit Go.Mp Go.Ck
set_option linter.unusedVariables false
set_option maxRecDepth 100000
set_option maxHeartbeats 8000000
theorem int_at {w wr : World} {ao : Option Addr} {n cap : Nat} {xs : List Int} (h : Rd.SliceOf Rd.int w (.slice ao n cap) xs) (hb : Below w.heap.size w wr) {i : Nat} {x : Int} (hx : xs[i]? = some x) :
    ∃ b off, ao = some ⟨b, off, none⟩ ∧ b < w.heap.size ∧ wr.cell? ⟨b, off + i, none⟩ = some (.int .i64 x) ∧ -9223372036854775808 ≤ x ∧ x ≤ 9223372036854775807 := by
  obtain ⟨b, off, e, hbw, c0, h1, h2⟩ := at_i h hb hx
  refine ⟨b, off, e, hbw, ?_, h1, h2⟩
  have h3 : wr.cell? ⟨b, off + i * 1 + 0, none⟩ = some (.int .i64 x) := c0
  rwa [Nat.mul_one, Nat.add_zero] at h3
theorem neg_in {k : Int} {n : Nat} (h : -(n : Int) < k) (h0 : k < 0) (hn : n ≤ 4611686018427387904) : wrap64 (-k) = ((-k).toNat : Int) ∧ (-k).toNat < n ∧ IntKind.i64.wrap (-k) = ((-k).toNat : Int) := ⟨by unfold wrap64; omega, by omega, by rw [IntKind.wrap_i64]; omega⟩
theorem stands7 (l : List Res) (P : List Int) (v1 v2 : Value) (w : World) (h1 : ResS w v1 l) (h2 : Rd.SliceOf Rd.int w v2 P) (hM : listM l ≤ 1048576) : Calls Try.prog 7 #[v1, v2] w fun e w' => e = .returned (.bool true) ∧ Below w.heap.size w w' := by
  obtain ⟨ao, cap, rfl⟩ := slice_shape h1
  obtain ⟨po, pc, rfl⟩ := slice_shape h2
  have hlen := h1.1
  have hPl := h2.1
  have hK18 : ∀ (v' : Value) (w' : World), ResS w' v' l → Calls Try.prog 18 #[v'] w' fun e w2 => ∃ o2 c2, e = .returned (.slice o2 l.length c2) ∧ ResS w2 (.slice o2 l.length c2) l ∧ Below w'.heap.size w' w2 := fun v' w' h => own18r h hM
  have hK19 : ∀ (v' : Value) (w' : World), ResS w' v' l → Calls Try.prog 19 #[v'] w' fun e w2 => ∃ wv fa fb fc ws, e = .returned (.tuple #[wv, .agg #[.int .i64 fa, .int .i64 fb, .int .i64 fc]]) ∧ Chk l (fa, fb, fc) ws ∧ Below w'.heap.size w' w2 := fun v' w' h => by
    refine (check19 l v' w' h hM).mono ?_
    rintro e w2 ⟨wv, ⟨fa, fb, fc⟩, ws, hc, rfl, hr, hb⟩
    exact ⟨wv, fa, fb, fc, ws, rfl, hc, hb⟩
  replace h1 := Lib.hid h1
  replace h2 := Lib.hid h2
  replace hM := Lib.hid hM
  replace hK18 := Lib.hid hK18
  replace hK19 := Lib.hid hK19
  go_enter Try.func7, Try.ntmps7
  go_upto_region 4 with (first
    | (go_at_call 31; (with_reducible refine (awake31 _).mono ?_); rintro e w0 ⟨rfl, hb0⟩; have h10 := Lib.hid (h1.out.below hb0); replace hb0 := Lib.hid hb0)
    | (go_at_call 18; (with_reducible refine (hK18.out _ _ h10.out).mono ?_); rintro e w1 ⟨p1, q1, rfl, ha, hb1⟩; replace ha := Lib.hid ha; replace hb1 := Lib.hid hb1)
    | (go_at_call 19; (with_reducible refine (hK19.out _ _ ha.out).mono ?_); rintro e w2 ⟨wv, fa, fb, fc, ws, rfl, hch, hb2⟩; have hB2 := Lib.hid (seq_below hb0.out (seq_below hb1.out hb2)); replace hch := Lib.hid hch; replace hb2 := Lib.hid hb2)
    | fail)
  obtain ⟨we, hwe⟩ : ∃ we, we = w2.alloc (.cells #[.int .i64 fa, .int .i64 fb, .int .i64 fc] 27) := ⟨_, rfl⟩
  obtain ⟨z, hz⟩ : ∃ z, z = w2.heap.size := ⟨_, rfl⟩
  have hxz : we.heap[z]? = some (.cells #[.int .i64 fa, .int .i64 fb, .int .i64 fc] 27 (0, 0)) := by rw [hwe, hz]; exact heap_alloc_new w2 _
  have hbe : Below w2.heap.size w2 we := by rw [hwe]; exact alloc_below _ _
  have hBe := Lib.hid (seq_below hB2.out hbe)
  rw [← hz, ← hwe]
  have f0 : we.cell? ⟨z, 0, none⟩ = some (.int .i64 fa) := box_at hxz rfl
  have f1 : we.cell? ⟨z, 1, none⟩ = some (.int .i64 fb) := box_at hxz rfl
  have f2 : we.cell? ⟨z, 2, none⟩ = some (.int .i64 fc) := box_at hxz rfl
  replace hwe := Lib.hid hwe
  replace hz := Lib.hid hz
  replace hxz := Lib.hid hxz
  replace hbe := Lib.hid hbe
  by_cases hf : fc = 0
  · have hSt := chk_ok hch.out hf
    subst hf
    have hl4 := Lib.hid (h1.out.below hBe.out)
    have hP4 := Lib.hid (h2.out.below hBe.out)
    replace hSt := Lib.hid hSt
    go_upto_region 8 with fail
    clear f0 f1 f2
    go_loopg [7, 8] (l.length + 1) (fun gg nv ic wx => ∃ i n : Nat, gg = l.length - i + 1 ∧ i ≤ l.length ∧ ic = .int .i64 i ∧ nv = .int .i64 n ∧ Hid (Below we.heap.size we wx))
    case atStart => exact ⟨0, 0, rfl, Nat.zero_le _, rfl, rfl, Lib.hid (Below.refl _ _)⟩
    case round =>
      obtain ⟨i, n, rfl, hi, rfl, rfl, hbw⟩ := hrel
      by_cases hlt : i < l.length
      · obtain ⟨r, hr⟩ : ∃ r, l[i]? = some r := ⟨_, List.getElem?_eq_getElem hlt⟩
        obtain ⟨b, off, eo, ec, ta, tc, ra, rc, rfl, hbl, c, hp⟩ := res_at2 hl4.out hr
        have hk0 : (i : Int) < (l.length : Int) := nn_lt hlt
        have hwk := Lib.hid (nn_succ2 hlt hlen)
        obtain ⟨e0, e1, e2, e3, e4, e5, e6, e7⟩ := c.below hbl hbw.out
        clear e1 e2 e4 e5 e6 e7
        by_cases hk : r.kind = 2
        · have hq1 : (r.kind == 2) = true := beq_iff_eq.2 hk
          have hq2 : (r.kind != 2) = false := by rw [bne, hq1]; rfl
          by_cases hn0 : r.tgts.length = 0
          · have hq3 : ((r.tgts.length : Int) == 0) = true := beq_iff_eq.2 (by omega)
            replace hr := Lib.hid hr
            replace hbl := Lib.hid hbl
            replace c := Lib.hid c
            replace hp := Lib.hid hp
            replace hk := Lib.hid hk
            replace hn0 := Lib.hid hn0
            go_wp2
            go_roundg (l.length - (i + 1) + 1)
            case rel => exact ⟨i + 1, n, rfl, hlt, by first | rw [hwk.out] | go_num, rfl, hbw⟩
            case measure => exact nn_downS hlt
          · have hq3 : ((r.tgts.length : Int) == 0) = false := beq_eq_false_iff_ne.2 (by omega)
            have hA0 : AtS l 0 i r := ⟨hr, hk, by omega, hSt.out.known hr hk⟩
            obtain ⟨wo, hwo⟩ : ∃ wo, wo = wr := ⟨_, rfl⟩
            rw [← hwo] at hbw e0 e3 ⊢
            clear hwo
            replace hr := Lib.hid hr
            replace hbl := Lib.hid hbl
            replace c := Lib.hid c
            replace hp := Lib.hid hp
            replace hk := Lib.hid hk
            replace hn0 := Lib.hid hn0
            replace hA0 := Lib.hid hA0
            go_upto_region 14 with fail
            clear e0 e3 hq1 hq2 hq3
            go_loopg [7, 9, 10] 9 (fun gg nv av sv wx => ∃ (step a n : Nat) (r : Res), gg = 9 - step ∧ sv = .int .i64 step ∧ av = .int .i64 a ∧ nv = .int .i64 n ∧ Hid (AtS l step a r) ∧ Hid (Below we.heap.size we wx))
            case atStart => exact ⟨0, i, n, r, rfl, rfl, rfl, rfl, hA0, hbw⟩
            case round =>
              clear hbw hA0 hp hbl c hr hk hn0 n
              obtain ⟨step, a, n, r, rfl, rfl, rfl, rfl, hA, hbw⟩ := hrel
              have hst := hA.out.step
              have hrl := hA.out.ne
              obtain ⟨b3, off3, eo, ec, ta, tc, ra, rc, e3, hbl, c, hp⟩ := res_at2 hl4.out hA.out.at'
              cases e3
              have hk8 : decide ((8 : Int) ≤ (step : Int)) = false := decide_eq_false (by omega)
              have hk9 : decide (8 ≤ step) = false := decide_eq_false (by omega)
              have hwst := Lib.hid (nn_succ2 (show step < 8 from hst) (by decide))
              have ha0 : (0 : Int) ≤ (a : Int) := by omega
              have hal : (a : Int) < (l.length : Int) := by have := (List.getElem?_eq_some_iff.1 hA.out.at').1; omega
              have hrl2 : r.tgts.length ≤ 140737488351232 := hp.t.1
              replace hst := Lib.hid hst
              replace hrl := Lib.hid hrl
              replace hbl := Lib.hid hbl
              replace c := Lib.hid c
              replace hp := Lib.hid hp
              replace hrl2 := Lib.hid hrl2
              go_upto_if 75 with fail
              clear hk8 hk9
              go_cut [7, 11] (fun nv kv wx => ∃ n' k : Nat, nv = .int .i64 n' ∧ kv = .int .i64 k ∧ k < r.tgts.length ∧ Hid (Below we.heap.size we wx))
              case first =>
                by_cases hnP : n < P.length
                · obtain ⟨pv, hpv⟩ : ∃ pv, P[n]? = some pv := ⟨_, List.getElem?_eq_getElem hnP⟩
                  obtain ⟨bp, op, rfl, _, cp, _, _⟩ := int_at hP4.out hbw.out hpv
                  obtain ⟨_, _, _, e3, _, _, _, _⟩ := c.out.below hbl.out hbw.out
                  have hz1 : ¬ r.tgts.length = 0 := by have := hrl.out; omega
                  have hz2 : ¬ (r.tgts.length : Int) = 0 := by omega
                  have hnn : (n : Int) < (P.length : Int) := nn_lt hnP
                  have hn1 : decide (n < P.length) = true := decide_eq_true hnP
                  have hwn := Lib.hid (nn_succ2 hnP hPl)
                  obtain ⟨t1, t2⟩ := tmod_in pv (n := r.tgts.length) (by omega)
                  by_cases hkn : pv.tmod (r.tgts.length : Int) < 0
                  · obtain ⟨n1, n2, n3⟩ := neg_in t1 hkn (by have := hrl2.out; omega)
                    obtain ⟨kq, hkq⟩ : ∃ kq, kq = (-(pv.tmod (r.tgts.length : Int))).toNat := ⟨_, rfl⟩
                    rw [← hkq] at n1 n2 n3
                    have hq := decide_eq_true hkn
                    replace hpv := Lib.hid hpv
                    replace t1 := Lib.hid t1
                    replace t2 := Lib.hid t2
                    replace hkq := Lib.hid hkq
                    replace n2 := Lib.hid n2
                    replace hnP := Lib.hid hnP
                    go_upto_region 18 with fail
                    go_quiet (fail)
                    go_wp2
                    go_meet
                    exact ⟨n + 1, kq, by first | rw [hwn.out] | go_num, by first | rfl | rw [n1], n2.out, Lib.hid (below_drewN hbw.out _)⟩
                  · have hq : decide (pv.tmod (r.tgts.length : Int) < 0) = false := decide_eq_false hkn
                    obtain ⟨kq, hkq⟩ : ∃ kq : Nat, pv.tmod (r.tgts.length : Int) = kq := ⟨(pv.tmod (r.tgts.length : Int)).toNat, by omega⟩
                    have hkl : kq < r.tgts.length := by omega
                    replace hpv := Lib.hid hpv
                    replace t1 := Lib.hid t1
                    replace t2 := Lib.hid t2
                    replace hkl := Lib.hid hkl
                    replace hnP := Lib.hid hnP
                    replace hkq := Lib.hid hkq
                    go_upto_region 18 with fail
                    go_quiet (fail)
                    go_wp2
                    go_meet
                    exact ⟨n + 1, kq, by first | rw [hwn.out] | go_num, by rw [hkq.out], hkl.out, Lib.hid (below_drewN hbw.out _)⟩
                · have hnn : decide ((n : Int) < (P.length : Int)) = false := decide_eq_false (by omega)
                  have hn1 : decide (n < P.length) = false := decide_eq_false hnP
                  go_wp2
                  go_meet
                  exact ⟨n, 0, rfl, rfl, hrl.out, hbw⟩
              case rest =>
                clear hbw
                obtain ⟨n', k, rfl, rfl, hkl, hbc⟩ := hcut
                obtain ⟨t, ht⟩ : ∃ t, r.tgts[k]? = some t := ⟨_, List.getElem?_eq_getElem hkl⟩
                have htm := List.mem_of_getElem? ht
                obtain ⟨bt, ot, rfl, _, t0, t1, t2, _⟩ := tgt_at hp.out.t hbc.out ht
                obtain ⟨_, _, _, e3, _, _, _, _⟩ := c.out.below hbl.out hbc.out
                have hk0 : (0 : Int) ≤ (k : Int) := by omega
                have hk1 : (k : Int) < (r.tgts.length : Int) := by omega
                have hfn := dang_t hA.out.at' (hSt.out.dang a (List.getElem?_eq_some_iff.1 hA.out.at').1) hA.out.kind htm
                obtain ⟨wT, hwT⟩ : ∃ wT, wT = wc.alloc (.cells #[.string t.service, .string t.split, .float .f64 t.weight] 57) := ⟨_, rfl⟩
                obtain ⟨tb, htb⟩ : ∃ tb, tb = wc.heap.size := ⟨_, rfl⟩
                have hxT : wT.heap[tb]? = some (.cells #[.string t.service, .string t.split, .float .f64 t.weight] 57 (0, 0)) := by rw [hwT, htb]; exact heap_alloc_new wc _
                have hbT := seq_below hbc.out (show Below wc.heap.size wc wT by rw [hwT]; exact alloc_below _ _)
                have hTX : Hid (∀ w', Below wT.heap.size wT w' → w'.cell? ⟨tb, 0, none⟩ = some (.string t.service) ∧ w'.cell? ⟨tb, 1, none⟩ = some (.string t.split)) := Lib.hid (fun w' h => by
                  have y := (h.block tb (Array.getElem?_eq_some_iff.1 hxT).1).trans hxT
                  exact ⟨box_at y rfl, box_at y rfl⟩)
                have hL0 := LastT.zero l t
                replace ht := Lib.hid ht
                replace htm := Lib.hid htm
                replace hwT := Lib.hid hwT
                replace htb := Lib.hid htb
                replace hxT := Lib.hid hxT
                replace hbT := Lib.hid hbT
                replace hfn := Lib.hid hfn
                replace hL0 := Lib.hid hL0
                go_upto_region 23 with fail
                rw [← htb.out, ← hwT.out]
                clear t0 t1 t2 e3 hk0 hk1
                go_upto_region 25 with fail
                go_loopg [13, 14] (l.length + 1) (fun gg vv mv wx => ∃ (m : Nat) (v : Int), gg = l.length - m + 1 ∧ m ≤ l.length ∧ mv = .int .i64 m ∧ vv = .int .i64 v ∧ Hid (LastT l t m v) ∧ Hid (Below wT.heap.size wT wx))
                case atStart => exact ⟨0, -1, rfl, Nat.zero_le _, rfl, rfl, hL0, Lib.hid (Below.refl _ _)⟩
                case round =>
                  obtain ⟨m, v, rfl, hml, rfl, rfl, hLT, hbm⟩ := hrel
                  by_cases hmt : m < l.length
                  · obtain ⟨y, hy⟩ : ∃ y, l[m]? = some y := ⟨_, List.getElem?_eq_getElem hmt⟩
                    obtain ⟨b2, off2, eo2, ec2, ta2, tc2, ra2, rc2, e2, hbl2, c2, hp2⟩ := res_at2 hl4.out hy
                    cases e2
                    obtain ⟨j0, j1, _, _, _, _, _, _⟩ := c2.below hbl2 (seq_below hbT.out hbm.out)
                    obtain ⟨x0, x1⟩ := hTX.out wr hbm.out
                    have hm1 : (m : Int) < (l.length : Int) := nn_lt hmt
                    have hm0 : (0 : Int) ≤ (m : Int) := by omega
                    have hwm := Lib.hid (nn_succ2 hmt hlen)
                    cases hs : t.service.toList.isEmpty with
                    | true =>
                      have hs2 : (!t.service.toList.isEmpty) = false := by rw [hs]; rfl
                      have htk : toKey t = (2, t.split) := by unfold toKey noS; rw [if_pos hs]
                      by_cases hke : rk y = toKey t
                      · have hLn := Lib.hid (hLT.out.yes hy hke)
                        rw [htk] at hke
                        have hq1 : (y.kind == 2) = true := beq_iff_eq.2 (congrArg Prod.fst hke)
                        have hq2 : (y.name.toList == t.split.toList) = true := seq_iff.2 (congrArg Prod.snd hke)
                        replace hy := Lib.hid hy
                        replace hbl2 := Lib.hid hbl2
                        replace c2 := Lib.hid c2
                        replace hp2 := Lib.hid hp2
                        replace htk := Lib.hid htk
                        replace hke := Lib.hid hke
                        go_upto_region 27 with fail
                        go_quiet (fail)
                        go_wp2
                        go_roundg (l.length - (m + 1) + 1)
                        case rel => exact ⟨m + 1, (m : Int), rfl, hmt, by first | rw [hwm.out] | go_num, rfl, hLn, Lib.hid (below_drewN hbm.out _)⟩
                        case measure => exact nn_downS hmt
                      · have hLn := Lib.hid (hLT.out.no hy hke)
                        rw [htk] at hke
                        by_cases hk2 : y.kind = 2
                        · have hq1 : (y.kind == 2) = true := beq_iff_eq.2 hk2
                          have hq2 : (y.name.toList == t.split.toList) = false := seq_not.2 (fun q => hke (Prod.ext hk2 q))
                          replace hy := Lib.hid hy
                          replace hbl2 := Lib.hid hbl2
                          replace c2 := Lib.hid c2
                          replace hp2 := Lib.hid hp2
                          replace htk := Lib.hid htk
                          replace hke := Lib.hid hke
                          replace hk2 := Lib.hid hk2
                          go_upto_region 27 with fail
                          go_quiet (fail)
                          go_wp2
                          go_roundg (l.length - (m + 1) + 1)
                          case rel => exact ⟨m + 1, v, rfl, hmt, by first | rw [hwm.out] | go_num, rfl, hLn, Lib.hid (below_drewN hbm.out _)⟩
                          case measure => exact nn_downS hmt
                        · have hq1 : (y.kind == 2) = false := beq_eq_false_iff_ne.2 hk2
                          replace hy := Lib.hid hy
                          replace hbl2 := Lib.hid hbl2
                          replace c2 := Lib.hid c2
                          replace hp2 := Lib.hid hp2
                          replace htk := Lib.hid htk
                          replace hke := Lib.hid hke
                          replace hk2 := Lib.hid hk2
                          go_upto_region 27 with fail
                          go_quiet (fail)
                          go_wp2
                          go_roundg (l.length - (m + 1) + 1)
                          case rel => exact ⟨m + 1, v, rfl, hmt, by first | rw [hwm.out] | go_num, rfl, hLn, Lib.hid (below_drewN hbm.out _)⟩
                          case measure => exact nn_downS hmt
                    | false =>
                      have hs2 : (!t.service.toList.isEmpty) = true := by rw [hs]; rfl
                      have htk : toKey t = (1, t.service) := by unfold toKey noS; rw [if_neg (by rw [hs]; simp)]
                      by_cases hke : rk y = toKey t
                      · have hLn := Lib.hid (hLT.out.yes hy hke)
                        rw [htk] at hke
                        have hq1 : (y.kind == 1) = true := beq_iff_eq.2 (congrArg Prod.fst hke)
                        have hq2 : (y.name.toList == t.service.toList) = true := seq_iff.2 (congrArg Prod.snd hke)
                        replace hy := Lib.hid hy
                        replace hbl2 := Lib.hid hbl2
                        replace c2 := Lib.hid c2
                        replace hp2 := Lib.hid hp2
                        replace htk := Lib.hid htk
                        replace hke := Lib.hid hke
                        go_upto_region 27 with fail
                        go_quiet (fail)
                        go_wp2
                        go_roundg (l.length - (m + 1) + 1)
                        case rel => exact ⟨m + 1, (m : Int), rfl, hmt, by first | rw [hwm.out] | go_num, rfl, hLn, Lib.hid (below_drewN hbm.out _)⟩
                        case measure => exact nn_downS hmt
                      · have hLn := Lib.hid (hLT.out.no hy hke)
                        rw [htk] at hke
                        by_cases hk2 : y.kind = 1
                        · have hq1 : (y.kind == 1) = true := beq_iff_eq.2 hk2
                          have hq2 : (y.name.toList == t.service.toList) = false := seq_not.2 (fun q => hke (Prod.ext hk2 q))
                          replace hy := Lib.hid hy
                          replace hbl2 := Lib.hid hbl2
                          replace c2 := Lib.hid c2
                          replace hp2 := Lib.hid hp2
                          replace htk := Lib.hid htk
                          replace hke := Lib.hid hke
                          replace hk2 := Lib.hid hk2
                          go_upto_region 27 with fail
                          go_quiet (fail)
                          go_wp2
                          go_roundg (l.length - (m + 1) + 1)
                          case rel => exact ⟨m + 1, v, rfl, hmt, by first | rw [hwm.out] | go_num, rfl, hLn, Lib.hid (below_drewN hbm.out _)⟩
                          case measure => exact nn_downS hmt
                        · have hq1 : (y.kind == 1) = false := beq_eq_false_iff_ne.2 hk2
                          replace hy := Lib.hid hy
                          replace hbl2 := Lib.hid hbl2
                          replace c2 := Lib.hid c2
                          replace hp2 := Lib.hid hp2
                          replace htk := Lib.hid htk
                          replace hke := Lib.hid hke
                          replace hk2 := Lib.hid hk2
                          go_upto_region 27 with fail
                          go_quiet (fail)
                          go_wp2
                          go_roundg (l.length - (m + 1) + 1)
                          case rel => exact ⟨m + 1, v, rfl, hmt, by first | rw [hwm.out] | go_num, rfl, hLn, Lib.hid (below_drewN hbm.out _)⟩
                          case measure => exact nn_downS hmt
                  · have hm1 : decide ((m : Int) < (l.length : Int)) = false := decide_eq_false (by omega)
                    have hme : m = l.length := by omega
                    subst hme
                    clear hmt
                    obtain ⟨q, x, rfl, hq, hxk⟩ := hLT.out.fin hfn.out
                    obtain ⟨b2, off2, eo2, ec2, ta2, tc2, ra2, rc2, e2, hbl2, c2, hp2⟩ := res_at2 hl4.out hq
                    cases e2
                    obtain ⟨j0, _, _, j3, _, _, _, _⟩ := c2.below hbl2 (seq_below hbT.out hbm.out)
                    have hql := (List.getElem?_eq_some_iff.1 hq).1
                    have hq0 : (0 : Int) ≤ (q : Int) := by omega
                    have hq1 : (q : Int) < (l.length : Int) := by omega
                    have hq2 : decide ((q : Int) < 0) = false := decide_eq_false (by omega)
                    have hbfin := Lib.hid (seq_below hbT.out hbm.out)
                    by_cases hx1 : x.kind = 1
                    · have hz1 : (x.kind == 1) = true := beq_iff_eq.2 hx1
                      replace hq := Lib.hid hq
                      replace hxk := Lib.hid hxk
                      replace hbl2 := Lib.hid hbl2
                      replace c2 := Lib.hid c2
                      replace hp2 := Lib.hid hp2
                      replace hql := Lib.hid hql
                      replace hx1 := Lib.hid hx1
                      go_wp2
                      go_roundg (l.length - (i + 1) + 1)
                      case rel => exact ⟨i + 1, n', rfl, hlt, by first | rw [hwk.out] | go_num, rfl, hbfin⟩
                      case measure => exact nn_downS hlt
                    · have hz1 : (x.kind == 1) = false := beq_eq_false_iff_ne.2 hx1
                      by_cases hxl : x.tgts.length = 0
                      · have hz2 : ((x.tgts.length : Int) == 0) = true := beq_iff_eq.2 (by omega)
                        replace hq := Lib.hid hq
                        replace hxk := Lib.hid hxk
                        replace hbl2 := Lib.hid hbl2
                        replace c2 := Lib.hid c2
                        replace hp2 := Lib.hid hp2
                        replace hql := Lib.hid hql
                        replace hx1 := Lib.hid hx1
                        replace hxl := Lib.hid hxl
                        go_wp2
                        go_roundg (l.length - (i + 1) + 1)
                        case rel => exact ⟨i + 1, n', rfl, hlt, by first | rw [hwk.out] | go_num, rfl, hbfin⟩
                        case measure => exact nn_downS hlt
                      · have hz2 : ((x.tgts.length : Int) == 0) = false := beq_eq_false_iff_ne.2 (by omega)
                        have hAn := Lib.hid (hA.out.next hSt.out htm.out hq hxk hx1 (by omega))
                        replace hq := Lib.hid hq
                        replace hxk := Lib.hid hxk
                        replace hbl2 := Lib.hid hbl2
                        replace c2 := Lib.hid c2
                        replace hp2 := Lib.hid hp2
                        replace hql := Lib.hid hql
                        replace hx1 := Lib.hid hx1
                        replace hxl := Lib.hid hxl
                        go_wp2
                        go_roundg (9 - (step + 1))
                        case rel => exact ⟨step + 1, q, n', x, rfl, by first | rw [hwst.out] | go_num, rfl, rfl, hAn, hbfin⟩
                        case measure => have := hst.out; omega
        · have hq1 : (r.kind == 2) = false := beq_eq_false_iff_ne.2 hk
          have hq2 : (r.kind != 2) = true := by rw [bne, hq1]; rfl
          replace hr := Lib.hid hr
          replace hbl := Lib.hid hbl
          replace c := Lib.hid c
          replace hp := Lib.hid hp
          replace hk := Lib.hid hk
          go_wp2
          go_roundg (l.length - (i + 1) + 1)
          case rel => exact ⟨i + 1, n, rfl, hlt, by first | rw [hwk.out] | go_num, rfl, hbw⟩
          case measure => exact nn_downS hlt
      · have hk0 : decide ((i : Int) < (l.length : Int)) = false := decide_eq_false (by omega)
        have hie : i = l.length := by omega
        subst hie
        clear hlt
        go_wp2
        go_ret
        exact ⟨rfl, seq_below hBe.out hbw.out⟩
  · obtain ⟨hi0, hi1, hi2⟩ := chk_err hch.out hf
    replace hi0 : 0 ≤ fa := hi0
    replace hi1 : fa < (l.length : Int) ∨ fa = 0 := hi1
    replace hi2 : 0 ≤ fb := hi2
    have hf0 : (fc == 0) = false := beq_eq_false_iff_ne.2 hf
    have hf1 : (fc != 0) = true := bne_iff_ne.2 hf
    have hq0 : decide ((0 : Int) ≤ fa) = true := decide_eq_true hi0
    have hq4 : decide ((0 : Int) ≤ fb) = true := decide_eq_true hi2
    by_cases hid : fa < (l.length : Int)
    · have hq2 : decide (fa < (l.length : Int)) = true := decide_eq_true hid
      replace hf := Lib.hid hf
      replace hi1 := Lib.hid hi1
      go_wp2
      go_ret
      exact ⟨rfl, hBe.out⟩
    · have hzz := hi1.resolve_left hid
      subst hzz
      have hq2 : decide ((0 : Int) < (l.length : Int)) = false := decide_eq_false hid
      have hq3 : decide (0 < l.length) = false := decide_eq_false (by omega)
      replace hf := Lib.hid hf
      replace hi1 := Lib.hid hi1
      go_wp2
      go_ret
      exact ⟨rfl, hBe.out⟩
end Go.Proofs.Ytjepgpocmnijiaa
