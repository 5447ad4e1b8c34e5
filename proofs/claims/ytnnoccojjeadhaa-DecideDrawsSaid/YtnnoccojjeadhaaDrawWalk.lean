/- The walk of the law on D's draws. -/
import Derived.Test.YtnnoccojjeadhaaDenWalk
import Derived.Test.YtnnoccojjeadhaaDrawLaw
namespace Go.Proofs.Ytnnoccojjeadhaa.decideDraws
open Go.ChangeShapes Go.WideShapes Go.ChangeAt Go.RowKit
open Go.Pa Go.Dec
open decideSteps (tblk qblk)
open decideDenied (dblk)
set_option linter.unusedVariables false
set_option maxHeartbeats 40000000 in
set_option maxRecDepth 100000 in
theorem draws (ver : Int) (v1 v2 vh : Value) (ts : List Host) (hl : List Healthy) (m h p : ByteArray) (u v : Nat) (n a b : Int) (w : World)
    (hm : m.size ≤ maxLen) (hh : h.size ≤ maxLen) (hp : p.size ≤ maxLen)
    (hrd : Rd.SliceOf hostE w v1 ts) (hrh : Rd.SliceOf healthyE w vh hl) :
    Calls Try.prog 5 #[.agg #[.int .i64 ver, v1, v2], vh, .agg #[.string m, .string h, .string p, .float .f64 u, .int .i64 n, .int .u64 a, .int .u64 b], .float .f64 v] w fun e w' => e = .returned (.bool true) ∧ Below w.heap.size w w' := by
  obtain ⟨ao, cap, hv⟩ : ∃ ao cap, v1 = .slice ao ts.length cap := by obtain ⟨_, ao, cap, rfl, _⟩ := hrd; exact ⟨_, _, rfl⟩
  subst hv
  obtain ⟨bo, bcap, hv⟩ : ∃ ao cap, vh = .slice ao hl.length cap := by obtain ⟨_, ao, cap, rfl, _⟩ := hrh; exact ⟨_, _, rfl⟩
  subst hv
  have hb0 := Tp.Below_seq (Tp.Below_alloc w (tblk ver (.slice ao ts.length cap) v2)) (Tp.Below_alloc _ (qblk m h p u n a b))
  have hx : ((w.alloc (tblk ver (.slice ao ts.length cap) v2)).alloc (qblk m h p u n a b)).heap[w.heap.size]? = some (tblk ver (.slice ao ts.length cap) v2) ∧
      ((w.alloc (tblk ver (.slice ao ts.length cap) v2)).alloc (qblk m h p u n a b)).heap[w.heap.size + 1]? = some (qblk m h p u n a b) := by
    refine ⟨?_, ?_⟩
    all_goals
      simp only [alloc_heap, alloc_size]
      repeat first
        | rw [if_pos trivial]
        | rw [if_pos rfl]
        | rw [if_neg (by omega)]
  obtain ⟨wb, hwb⟩ : ∃ wb, wb = (w.alloc (tblk ver (.slice ao ts.length cap) v2)).alloc (qblk m h p u n a b) := ⟨_, rfl⟩
  rw [← hwb] at hb0 hx
  obtain ⟨hxa, hxb⟩ := hx
  have la := (Array.getElem?_eq_some_iff.1 hxa).1
  have lb := (Array.getElem?_eq_some_iff.1 hxb).1
  have hS : ∀ w', Below wb.heap.size wb w' → (w'.cell? ⟨w.heap.size, 0, none⟩ = some (.int .i64 ver) ∧ w'.cell? ⟨w.heap.size, 1, none⟩ = some (.slice ao ts.length cap) ∧ w'.cell? ⟨w.heap.size, 2, none⟩ = some v2) ∧
      (w'.cell? ⟨w.heap.size + 1, 0, none⟩ = some (.string m) ∧ w'.cell? ⟨w.heap.size + 1, 1, none⟩ = some (.string h) ∧ w'.cell? ⟨w.heap.size + 1, 2, none⟩ = some (.string p) ∧ w'.cell? ⟨w.heap.size + 1, 3, none⟩ = some (.float .f64 u)) := by
    intro w' hb
    have ha := (hb.block _ la).trans hxa
    have hb2 := (hb.block _ lb).trans hxb
    exact ⟨⟨(cell_of_row _ _ 0 _ _ _ ha).trans rfl, (cell_of_row _ _ 1 _ _ _ ha).trans rfl, (cell_of_row _ _ 2 _ _ _ ha).trans rfl⟩,
      ⟨(cell_of_row _ _ 0 _ _ _ hb2).trans rfl, (cell_of_row _ _ 1 _ _ _ hb2).trans rfl, (cell_of_row _ _ 2 _ _ _ hb2).trans rfl, (cell_of_row _ _ 3 _ _ _ hb2).trans rfl⟩⟩
  have c14 : ∀ w', Calls Try.prog 14 #[] w' fun e w'' => e = .returned (.bool true) ∧ Below w'.heap.size w' w'' := awake14
  have c15 : ∀ (n' : Int) w', (-9223372036854775808 ≤ n' ∧ n' ≤ 9223372036854775807) → Below wb.heap.size wb w' → Calls Try.prog 15 #[.agg #[.int .i64 ver, .slice ao ts.length cap, v2], .slice bo hl.length bcap, .string m, .string h, .string p, .float .f64 u, .int .i64 n'] w' fun e w'' => e = .returned (decOf ts hl m h p u n').v ∧ Below w'.heap.size w' w'' := fun n' w' hn hb => decide15 ver _ v2 _ ts hl m h p u n' w' hm hh hp hn (hrd.below (Tp.Below_seq hb0 hb)) (hrh.below (Tp.Below_seq hb0 hb))
  replace hrd := Lib.hid hrd
  replace hrh := Lib.hid hrh
  replace hS := Lib.hid hS
  replace c14 := Lib.hid c14
  replace c15 := Lib.hid c15
  replace hb0 := Lib.hid hb0
  clear hxa hxb
  go_enter Try.func5, Try.ntmps5
  go_upto_region 1 with fail
  change Code.wp _ _ _ _ ((w.alloc (tblk ver (.slice ao ts.length cap) v2)).alloc (qblk m h p u n a b))
  rw [← hwb]
  replace hwb := Lib.hid hwb
  go_wp2_with fail
  refine (c14.out _).mono ?_
  rintro e w1 ⟨rfl, hb1⟩
  clear c14
  obtain ⟨⟨t0, t1, t2⟩, ⟨q0, q1, q2, q3⟩⟩ := hS.out w1 hb1
  replace hb1 := Lib.hid hb1
  go_wp2_with fail
  refine (c15.out 0 _ (by decide) hb1.out).mono ?_
  rintro e w2 ⟨rfl, hb2⟩
  obtain ⟨d, hd⟩ : ∃ d, d = decOf ts hl m h p u 0 := ⟨_, rfl⟩
  rw [← hd]
  replace hd := Lib.hid hd
  unfold Dc.v
  go_upto_region 4 with fail
  have hbd := heap_alloc_new w2 (dblk d)
  have hb3 := Tp.Below_seq (Tp.Below_seq hb1.out hb2) (Tp.Below_alloc w2 (dblk d))
  change Code.wp _ _ _ _ (w2.alloc (dblk d))
  have hld : wb.heap.size ≤ w2.heap.size := (Tp.Below_seq hb1.out hb2).size
  generalize w2.alloc (dblk d) = w3 at *
  generalize w2.heap.size = bd at *
  clear hb2 hb1 t0 t1 t2 q0 q1 q2 q3
  have d0 : w3.cell? ⟨bd, 0, none⟩ = some (.int .i64 d.kind) := cell_of_row _ _ 0 _ _ _ hbd
  replace hb3 := Lib.hid hb3
  replace hbd := Lib.hid hbd
  go_upto_if 35 with fail
  go_cut [] (fun wx => Below wb.heap.size wb wx)
  case first =>
    by_cases hk : d.kind = 1
    · have hk2 := hk
      rw [hd.out] at hk2
      obtain ⟨route, i0, svc, k, x, hsvc, hf, hx, hne, hfw⟩ := dec_fwd hk2
      rw [← hd.out] at hsvc
      have hxl := List.length_pos_iff.2 hne
      obtain ⟨hno, hyes⟩ := first_spec hf
      have hpx := hyes _ hx
      have hkl := (List.getElem?_eq_some_iff.1 hx).1
      obtain ⟨hbk, hoff, hcap', hv, hhbw, hxx⟩ := hrh.out.at (by intro h; rw [h] at hkl; simp at hkl)
      cases hv
      have hk0 : (d.kind == 1) = true := by simp [hk]
      rw [hk0]
      clear hyes hk2
      have hlenh : hl.length ≤ 140737488351232 := hrh.out.1
      have d4 : w3.cell? ⟨bd, 4, none⟩ = some (.string svc) := by rw [← hsvc]; exact cell_of_row _ _ 4 _ _ _ hbd.out
      have lbd := (Array.getElem?_eq_some_iff.1 hbd.out).1
      replace hfw := Lib.hid hfw
      replace hno := Lib.hid hno
      replace hx := Lib.hid hx
      replace hf := Lib.hid hf
      replace hk := Lib.hid hk
      replace hsvc := Lib.hid hsvc
      replace hxx := Lib.hid hxx
      go_wp2_with fail
      go_loopg [10, 11] hl.length (fun g sa ic wr => ∃ i : Nat, i ≤ k ∧ g = hl.length - i ∧ sa = .slice none 0 0 ∧ ic = .int .i64 i ∧ Below w3.heap.size w3 wr)
      case atStart => exact ⟨0, by omega, rfl, rfl, rfl, Below.refl _ _⟩
      case round =>
        obtain ⟨i, hi, rfl, rfl, rfl, hbel⟩ := hrel
        have hlt : i < hl.length := by omega
        have hi1 : (i : Int) < (hl.length : Int) := by omega
        have hyi := List.getElem?_eq_getElem hlt
        have hbw := Tp.Below_seq (Tp.Below_seq hb0.out hb3.out) hbel
        have hr := Rd.Elem.up healthyE (hxx.out i _ hyi) hbw (fun j _ => hbw.cell (by exact hhbw))
        generalize hl[i] = y at *
        obtain ⟨⟨q0, s0⟩, ⟨ve, q1, r1⟩, _⟩ := hr
        have c0 : wr.cell? ⟨hbk, hoff + i * 2, none⟩ = some (.string y.1) := q0
        have c1 : wr.cell? ⟨hbk, hoff + i * 2 + 1, none⟩ = some ve := q1
        have e4 : wr.cell? ⟨bd, 4, none⟩ = some (.string svc) := (hbel.cell (by exact lbd)).trans d4
        obtain ⟨eo, ecap, hv⟩ : ∃ ao cap, ve = .slice ao y.2.1.length cap := by obtain ⟨_, ao, cap, rfl, _⟩ := r1; exact ⟨_, _, rfl⟩
        subst hv
        have el := eq_lists y.1 svc
        have hpy : isSvc svc y = (y.1.data.toList == svc.data.toList) := rfl
        by_cases hik : i = k
        · subst hik
          have hyx : y = x := by have := hx.out; rw [hyi] at this; exact Option.some.inj this
          subst hyx
          have hb : (y.1.data.toList == svc.data.toList) = true := hpx
          rw [hb] at el
          replace hbel := Lib.hid hbel
          replace hbw := Lib.hid hbw
          replace r1 := Lib.hid r1
          clear hpx hb hpy q0 q1 d4
          go_upto_region 9 with fail
          go_region
          have hbel2 := Lib.hid (below_drewN hbel.out 1)
          clear c0 e4
          have c1' : wr.drew.cell? ⟨hbk, hoff + i * 2 + 1, none⟩ = some (.slice eo y.2.1.length ecap) := c1
          have hbw2 := below_drewN hbw.out 1
          have hlen : y.2.1.length ≤ 140737488351232 := r1.out.1
          have hbr : Below w3.heap.size w3 (wr.drewN 1) := hbel2.out
          obtain ⟨eb, eoff, ecap', hv, hebw, hex⟩ := r1.out.at hne
          cases hv
          have hwr : wr.drew = wr.drewN 1 := rfl
          have hbdr := below_drewN (Below.refl wr.heap.size wr) 1
          have hexd : ∀ (q : Nat) z, y.2.1[q]? = some z → (wr.drewN 1).cell? ⟨eb, eoff + q, none⟩ = some (.string z) := fun q z hz => (hbdr.cell (by exact hebw)).trans (by simpa [Rd.cellsAt, Rd.str] using (hex q z hz).1)
          have lwd : eb < (wr.drewN 1).heap.size := Nat.lt_of_lt_of_le hebw hbdr.size
          clear hbdr hex
          rw [hwr] at c1' ⊢
          generalize wr.drewN 1 = wd at *
          replace hbw2 := Lib.hid hbw2
          go_wp2_with fail
          clear c1' c1
          replace hexd := Lib.hid hexd
          go_loopg [12] y.2.1.length (fun g ic wx => ∃ q : Nat, q ≤ y.2.1.length ∧ g = y.2.1.length - q ∧ ic = .int .i64 q ∧ Below wd.heap.size wd wx)
          case atStart => exact ⟨0, by omega, rfl, rfl, Below.refl _ _⟩
          case round =>
            obtain ⟨q, hq, rfl, rfl, hbq⟩ := hrel
            by_cases hql : q < y.2.1.length
            · have hq1 : (q : Int) < (y.2.1.length : Int) := by omega
              have hbx := Tp.Below_seq hb3.out (hbr.trans (hbq.mono hbr.size))
              have hqe := List.getElem?_eq_getElem hql
              have hm1 : ((q : Nat) : Int) = max (q : Int) 0 % (y.2.1.length : Int) := by rw [Int.max_eq_left (by omega), Int.emod_eq_of_lt (by omega) hq1]
              have hm2 : ((q : Nat) : Int) = max ((q : Int) + (y.2.1.length : Int)) 0 % (y.2.1.length : Int) := by rw [Int.max_eq_left (by omega), Int.add_emod_right, Int.emod_eq_of_lt (by omega) hq1]
              have hdq1 := hfw.out q q _ hm1 hqe
              have hdq2 := hfw.out ((q : Int) + (y.2.1.length : Int)) q _ hm2 hqe
              have hce2 := hexd.out q _ hqe
              generalize y.2.1[q] = ep at *
              have hk15 := c15.out q wr (by omega) hbx
              have hk15b := fun wz (hz : Below wb.heap.size wb wz) => c15.out ((q : Int) + (y.2.1.length : Int)) wz (by omega) hz
              rw [hdq1] at hk15
              rw [hdq2] at hk15b
              have hw64 : wrap64 ((q : Int) + (y.2.1.length : Int)) = (q : Int) + (y.2.1.length : Int) := by simp only [wrap64]; omega
              obtain ⟨⟨t0, t1, t2⟩, ⟨q0, q1, q2, q3⟩⟩ := hS.out wr hbx
              replace hk15 := Lib.hid hk15
              replace hk15b := Lib.hid hk15b
              replace hw64 := Lib.hid hw64
              clear hdq1 hdq2 hm1 hm2 hqe
              replace hbq := Lib.hid hbq
              replace hbx := Lib.hid hbx
              replace hce2 := Lib.hid hce2
              go_wp2_with fail
              refine hk15.out.mono ?_
              rintro e w4 ⟨rfl, hb4⟩
              unfold Dc.v
              dsimp only
              go_upto_region 15 with fail
              have hbx4 := heap_alloc_new w4 (dblk ⟨1, 0, route, i0, svc, ep⟩)
              have hb5 := Tp.Below_seq (Tp.Below_seq hbx.out hb4) (Tp.Below_alloc w4 (dblk ⟨1, 0, route, i0, svc, ep⟩))
              have hq5 := Tp.Below_seq (Tp.Below_seq hbq.out hb4) (Tp.Below_alloc w4 (dblk ⟨1, 0, route, i0, svc, ep⟩))
              change Code.wp _ _ _ _ (w4.alloc (dblk ⟨1, 0, route, i0, svc, ep⟩))
              generalize w4.alloc (dblk ⟨1, 0, route, i0, svc, ep⟩) = w5 at *
              generalize w4.heap.size = b13 at *
              clear t0 t1 t2 q0 q1 q2 q3 hb4 hk15
              obtain ⟨⟨t0, t1, t2⟩, ⟨q0, q1, q2, q3⟩⟩ := hS.out w5 hb5
              replace hb5 := Lib.hid hb5
              replace hq5 := Lib.hid hq5
              replace hbx4 := Lib.hid hbx4
              go_wp2_with fail
              refine (hk15b.out _ hb5.out).mono ?_
              rintro e w6 ⟨rfl, hb6⟩
              unfold Dc.v
              dsimp only
              go_upto_region 16 with fail
              have hbx6 := heap_alloc_new w6 (dblk ⟨1, 0, route, i0, svc, ep⟩)
              have hb7 := Tp.Below_seq hb6 (Tp.Below_alloc w6 (dblk ⟨1, 0, route, i0, svc, ep⟩))
              change Code.wp _ _ _ _ (w6.alloc (dblk ⟨1, 0, route, i0, svc, ep⟩))
              generalize w6.alloc (dblk ⟨1, 0, route, i0, svc, ep⟩) = w7 at *
              generalize w6.heap.size = b14 at *
              have hbx5 := (hb7.block _ (Array.getElem?_eq_some_iff.1 hbx4.out).1).trans hbx4.out
              have hq7 := Tp.Below_seq hq5.out hb7
              have hce7 : w7.cell? ⟨eb, eoff + q, none⟩ = some (.string ep) := (hq7.cell (by exact lwd)).trans hce2.out
              clear t0 t1 t2 q0 q1 q2 q3 hb6 hb7
              have s0 : w7.cell? ⟨b13, 0, none⟩ = some (.int .i64 1) := cell_of_row _ _ 0 _ _ _ hbx5
              have s1 : w7.cell? ⟨b13, 1, none⟩ = some (.int .i64 0) := cell_of_row _ _ 1 _ _ _ hbx5
              have s2 : w7.cell? ⟨b13, 2, none⟩ = some (.string route) := cell_of_row _ _ 2 _ _ _ hbx5
              have s3 : w7.cell? ⟨b13, 3, none⟩ = some (.int .i64 i0) := cell_of_row _ _ 3 _ _ _ hbx5
              have s4 : w7.cell? ⟨b13, 4, none⟩ = some (.string svc) := cell_of_row _ _ 4 _ _ _ hbx5
              have s5 : w7.cell? ⟨b13, 5, none⟩ = some (.string ep) := cell_of_row _ _ 5 _ _ _ hbx5
              have z0 : w7.cell? ⟨b14, 0, none⟩ = some (.int .i64 1) := cell_of_row _ _ 0 _ _ _ hbx6
              have z1 : w7.cell? ⟨b14, 1, none⟩ = some (.int .i64 0) := cell_of_row _ _ 1 _ _ _ hbx6
              have z2 : w7.cell? ⟨b14, 2, none⟩ = some (.string route) := cell_of_row _ _ 2 _ _ _ hbx6
              have z3 : w7.cell? ⟨b14, 3, none⟩ = some (.int .i64 i0) := cell_of_row _ _ 3 _ _ _ hbx6
              have z4 : w7.cell? ⟨b14, 4, none⟩ = some (.string svc) := cell_of_row _ _ 4 _ _ _ hbx6
              have z5 : w7.cell? ⟨b14, 5, none⟩ = some (.string ep) := cell_of_row _ _ 5 _ _ _ hbx6
              replace hbx5 := Lib.hid hbx5
              replace hbx6 := Lib.hid hbx6
              replace hq7 := Lib.hid hq7
              have een : (ep.toList != ep.toList) = false := by simp
              go_quiet (fail)
              go_wp2
              go_roundg (y.2.1.length - (q + 1))
              case measure => omega
              case rel => exact ⟨q + 1, by omega, rfl, by go_num, below_drewN hq7.out _⟩
            · have hq1 : (y.2.1.length : Int) ≤ (q : Int) := by omega
              have hfin := Tp.Below_seq hb3.out (hbr.trans (hbq.mono hbr.size))
              replace hbq := Lib.hid hbq
              go_wp2
              go_meet
              exact hfin
        · have hb : (y.1.data.toList == svc.data.toList) = false := by rw [← hpy]; exact hno.out i y (by omega) hyi
          rw [hb] at el
          have hbel2 := Lib.hid (below_drewN hbel 1)
          replace hbw := Lib.hid hbw
          replace r1 := Lib.hid r1
          clear hpx hb hpy q0 q1 d4 hbel
          go_upto_region 9 with fail
          go_region
          go_wp2
          go_roundg (hl.length - (i + 1))
          case measure => omega
          case rel => exact ⟨i + 1, by omega, rfl, rfl, by go_num, hbel2.out⟩
    · have hk0 : (d.kind == 1) = false := by simpa using hk
      replace hk := Lib.hid hk
      go_wp2_with fail
      go_meet
      exact hb3.out
  case rest =>
    replace hcut := Lib.hid hcut
    have c12 : ∀ (y : Entry) (vs : Value) (z : Nat) w', Rd.SliceOf shareE w' vs y.2.2.1 → Calls Try.prog 12 #[.agg #[.string y.1, .string y.2.1, vs], .float .f64 z] w' fun e w'' => e = .returned (.string (shareOf z y.2.2.1)) ∧ Below w'.heap.size w' w'' := fun y vs z w' hr => share12 _ _ _ _ z w' hr
    have c16 : ∀ (y : Entry) (vs : Value) (z : Nat) w', Rd.SliceOf shareE w' vs y.2.2.1 → Calls Try.prog 16 #[.agg #[.string y.1, .string y.2.1, vs], .float .f64 z] w' fun e w'' => e = .returned (.int .i64 (placeOf z y.2.2.1)) ∧ Below w'.heap.size w' w'' := fun y vs z w' hr => place16 _ _ _ _ z w' hr
    replace c12 := Lib.hid c12
    replace c16 := Lib.hid c16
    clear d0
    go_wp2_with fail
    go_loopg [15] ts.length (fun g ic wr => ∃ i : Nat, i ≤ ts.length ∧ g = ts.length - i ∧ ic = .int .i64 i ∧ Below wb.heap.size wb wr)
    case atStart => exact ⟨0, by omega, rfl, rfl, hcut.out⟩
    case round =>
      obtain ⟨i, hi, rfl, rfl, hbr⟩ := hrel
      clear hcut
      obtain ⟨⟨t0, t1, t2⟩, ⟨q0, q1, q2, q3⟩⟩ := hS.out wr hbr
      by_cases hlt : i < ts.length
      · obtain ⟨bh, off, cap1, hv, hbh, hx⟩ := hrd.out.at (by intro h; rw [h] at hlt; simp at hlt)
        cases hv
        have hxi := List.getElem?_eq_getElem hlt
        have hr := hx i _ hxi
        generalize ts[i] = x at *
        obtain ⟨_, _, ⟨ve, y2, r2⟩, _⟩ := hr
        obtain ⟨eo, ecap, hv⟩ : ∃ ao cap, ve = .slice ao x.2.2.1.length cap := by obtain ⟨_, ao, cap, rfl, _⟩ := r2; exact ⟨_, _, rfl⟩
        subst hv
        have hi1 : (i : Int) < (ts.length : Int) := by omega
        have hlen0 : ts.length ≤ 140737488351232 := hrd.out.1
        have hlen1 : x.2.2.1.length ≤ 140737488351232 := r2.1
        have hH : ∀ w', Below wb.heap.size wb w' → w'.cell? ⟨bh, off + i * 4 + 2, none⟩ = some (.slice eo x.2.2.1.length ecap) := fun w' hb => ((Tp.Below_seq hb0.out hb).cell (by exact hbh)).trans y2
        replace hH := Lib.hid hH
        replace r2 := Lib.hid r2
        replace hbr := Lib.hid hbr
        clear hx hxi y2 q0 q1 q2 t0 t2 q3
        go_wp2_with fail
        clear t1
        go_loopg [16] x.2.2.1.length (fun g ic wx => ∃ k : Nat, k ≤ x.2.2.1.length ∧ g = x.2.2.1.length - k ∧ ic = .int .i64 k ∧ Below wb.heap.size wb wx)
        case atStart => exact ⟨0, by omega, rfl, rfl, hbr.out⟩
        case round =>
          obtain ⟨k, hk, rfl, rfl, hbx⟩ := hrel
          clear hbr
          obtain ⟨⟨t0, t1, t2⟩, ⟨q0, q1, q2, q3⟩⟩ := hS.out wr hbx
          have h2 := hH.out wr hbx
          by_cases hlk : k < x.2.2.1.length
          · obtain ⟨be, offe, cap2, hv, hbe, hxx⟩ := r2.out.at (by intro h; rw [h] at hlk; simp at hlk)
            cases hv
            have hxk := List.getElem?_eq_getElem hlk
            have hr := Rd.Elem.up entryE (hxx k _ hxk) (Tp.Below_seq hb0.out hbx) (fun j _ => (Tp.Below_seq hb0.out hbx).cell (by exact hbe))
            generalize x.2.2.1[k] = y at *
            obtain ⟨⟨z0, _⟩, ⟨z1, _⟩, ⟨vs, z2, r4⟩, _⟩ := hr
            obtain ⟨so, scap, hv⟩ : ∃ ao cap, vs = .slice ao y.2.2.1.length cap := by obtain ⟨_, ao, cap, rfl, _⟩ := r4; exact ⟨_, _, rfl⟩
            subst hv
            have x0 : wr.cell? ⟨be, offe + k * 3, none⟩ = some (.string y.1) := z0
            have x1 : wr.cell? ⟨be, offe + k * 3 + 1, none⟩ = some (.string y.2.1) := z1
            have x2 : wr.cell? ⟨be, offe + k * 3 + 2, none⟩ = some (.slice so y.2.2.1.length scap) := z2
            have hk1 : (k : Int) < (x.2.2.1.length : Int) := by omega
            clear hxx hxk z0 z1 z2
            replace r4 := Lib.hid r4
            replace hbx := Lib.hid hbx
            go_upto_region 25 with fail
            have hnb := heap_alloc_new wr (.cells #[.string y.1, .string y.2.1, .slice so y.2.2.1.length scap] 41)
            have hb6 := Tp.Below_seq hbx.out (Tp.Below_alloc wr (.cells #[.string y.1, .string y.2.1, .slice so y.2.2.1.length scap] 41))
            change Code.wp _ _ _ _ (wr.alloc (.cells #[.string y.1, .string y.2.1, .slice so y.2.2.1.length scap] 41))
            have r5 := r4.out.below (Tp.Below_alloc wr (.cells #[.string y.1, .string y.2.1, .slice so y.2.2.1.length scap] 41))
            clear r4 hbx t0 t1 t2 q0 q1 q2 q3 x0 x1 x2
            generalize wr.alloc (.cells #[.string y.1, .string y.2.1, .slice so y.2.2.1.length scap] 41) = w6 at *
            generalize wr.heap.size = be17 at *
            obtain ⟨⟨t0, t1, t2⟩, ⟨q0, q1, q2, q3⟩⟩ := hS.out w6 hb6
            clear t0 t1 t2 q0 q1 q2
            replace hb6 := Lib.hid hb6
            replace r5 := Lib.hid r5
            have lb17 := (Array.getElem?_eq_some_iff.1 hnb).1
            by_cases hle : FloatKind.f64.format.order u v = some .lt ∨ FloatKind.f64.format.order u v = some .eq
            · have hpm := place_mono y.2.2.1 hle
              have hcu := place_cases u y.2.2.1
              have hcv := place_cases v y.2.2.1
              have p16u := fun wz (hz : Below w6.heap.size w6 wz) => (c16.out y (.slice so y.2.2.1.length scap) u wz (r5.below hz)).mono (fun e w' h => (⟨h.1, Tp.Below_seq hz h.2⟩ : _ ∧ Below w6.heap.size w6 w'))
              have p16v := fun wz (hz : Below w6.heap.size w6 wz) => (c16.out y (.slice so y.2.2.1.length scap) v wz (r5.below hz)).mono (fun e w' h => (⟨h.1, Tp.Below_seq hz h.2⟩ : _ ∧ Below w6.heap.size w6 w'))
              have p12u := fun wz (hz : Below w6.heap.size w6 wz) => (c12.out y (.slice so y.2.2.1.length scap) u wz (r5.below hz)).mono (fun e w' h => (⟨h.1, Tp.Below_seq hz h.2⟩ : _ ∧ Below w6.heap.size w6 w'))
              have p12v := fun wz (hz : Below w6.heap.size w6 wz) => (c12.out y (.slice so y.2.2.1.length scap) v wz (r5.below hz)).mono (fun e w' h => (⟨h.1, Tp.Below_seq hz h.2⟩ : _ ∧ Below w6.heap.size w6 w'))
              have hS6 : ∀ wz, Below w6.heap.size w6 wz → wz.cell? ⟨w.heap.size + 1, 3, none⟩ = some (.float .f64 u) ∧ wz.cell? ⟨be17, 0, none⟩ = some (.string y.1) ∧ wz.cell? ⟨be17, 1, none⟩ = some (.string y.2.1) ∧ wz.cell? ⟨be17, 2, none⟩ = some (.slice so y.2.2.1.length scap) := fun wz hz => by
                have hb2 := (hz.block _ lb17).trans hnb
                exact ⟨(hS.out wz (Tp.Below_seq hb6 hz)).2.2.2.2, (cell_of_row _ _ 0 _ _ _ hb2).trans rfl, (cell_of_row _ _ 1 _ _ _ hb2).trans rfl, (cell_of_row _ _ 2 _ _ _ hb2).trans rfl⟩
              generalize placeOf u y.2.2.1 = pu at *
              generalize placeOf v y.2.2.1 = pv at *
              generalize shareOf u y.2.2.1 = su at *
              generalize shareOf v y.2.2.1 = sv at *
              replace hcu := Lib.hid hcu
              replace hcv := Lib.hid hcv
              replace hpm := Lib.hid hpm
              replace p16u := Lib.hid p16u
              replace p16v := Lib.hid p16v
              replace p12u := Lib.hid p12u
              replace p12v := Lib.hid p12v
              replace hS6 := Lib.hid hS6
              replace hnb := Lib.hid hnb
              replace hb6 := Lib.hid hb6
              replace r5 := Lib.hid r5
              go_cut [131] (fun sv wx => sv = .bool false ∧ w6 = wx)
              case first =>
                rcases hle with hle | hle
                · have e1 : (FloatKind.f64.format.order u v == some Ordering.lt) = true := by rw [hle]; rfl
                  clear hle
                  go_wp2_with fail
                  go_meet
                  exact ⟨rfl, rfl⟩
                · have e1 : (FloatKind.f64.format.order u v == some Ordering.lt) = false := by rw [hle]; rfl
                  have e2 : (FloatKind.f64.format.order u v == some Ordering.eq) = true := by rw [hle]; rfl
                  clear hle
                  go_wp2_with fail
                  go_meet
                  exact ⟨rfl, rfl⟩
              case rest =>
                obtain ⟨rfl, rfl⟩ := hcut
                clear q3 hle
                go_upto_region 26 with fail
                have hbd0 : Below w6.heap.size w6 w6.drew := below_drewN (Below.refl _ _) 1
                replace hbd0 := Lib.hid hbd0
                go_region_held3 (fun w' => Below w6.heap.size w6 w' ∧ w'.cell? ⟨w.heap.size + 1, 3, none⟩ = some (.float .f64 u) ∧ w'.cell? ⟨be17, 0, none⟩ = some (.string y.1) ∧ w'.cell? ⟨be17, 1, none⟩ = some (.string y.2.1) ∧ w'.cell? ⟨be17, 2, none⟩ = some (.slice so y.2.2.1.length scap))
                  (first | exact ⟨hbd0.out, hS6.out _ hbd0.out⟩ | exact ⟨hb'', hS6.out _ hb''⟩ | exact ⟨hb', hS6.out _ hb'⟩ | fail)
                  (first | (go_at_call 16; with_reducible refine (p16u.out _ hbd0.out).mono ?_; rintro e w' ⟨rfl, hb'⟩) | (go_at_call 16; with_reducible refine (p16v.out _ hb').mono ?_; rintro e w'' ⟨rfl, hb''⟩) | fail)
                go_wp2_with fail
                have hlens : y.2.2.1.length ≤ 140737488351232 := r5.out.1
                have hap2 : decide (pv < pu) = false := by have := hpm.out; rw [decide_eq_false_iff_not]; omega
                have hap3 : decide ((pv : Int) < (pu : Int)) = false := by have := hpm.out; rw [decide_eq_false_iff_not]; omega
                clear hb' p16u p16v hbd0
                generalize w'' = w7 at *
                replace hb'' := Lib.hid hb''
                go_cut [180] (fun sz wx => sz = .bool false ∧ Below w6.heap.size w6 wx)
                case first =>
                  have hshare : ∀ (q : Nat) (z : Share), y.2.2.1[q]? = some z → ∃ bs os sc, so = some ⟨bs, os, none⟩ ∧ scap = sc ∧ ∀ wz, Below w6.heap.size w6 wz → wz.cell? ⟨bs, os + q * 2, none⟩ = some (.string z.1) := fun q z hz => by
                    obtain ⟨bs, os, sc, hv, hbs, hxs⟩ := r5.out.at (by intro h; rw [h] at hz; simp at hz)
                    cases hv
                    refine ⟨bs, os, _, rfl, rfl, fun wz hw => ?_⟩
                    exact (hw.cell (by exact hbs)).trans (hxs q _ hz).1.1
                  replace hshare := Lib.hid hshare
                  rcases hcu.out with ⟨h1, -⟩ | ⟨k1, x1, h1, hk1, -, -, hs1⟩
                  · rcases hcv.out with ⟨h2, -⟩ | ⟨k2, x2, h2, hk2, -, -, hs2⟩
                    · subst h1 h2
                      have hq := (hS6.out _ hb''.out).2.2.2
                      have hll : decide ((y.2.2.1.length : Int) < (y.2.2.1.length : Int)) = false := by rw [decide_eq_false_iff_not]; omega
                      go_quiet (fail)
                      go_wp2
                      go_meet
                      exact ⟨rfl, below_drewN hb''.out _⟩
                    · exact absurd (List.getElem?_eq_some_iff.1 hk2).1 (by have := hpm.out; omega)
                  · rcases hcv.out with ⟨h2, -⟩ | ⟨k2, x2, h2, hk2, -, -, hs2⟩
                    · subst h1 h2 hs1
                      have hl1 := (List.getElem?_eq_some_iff.1 hk1).1
                      obtain ⟨bs, os, sc, rfl, rfl, hc1⟩ := hshare.out _ _ hk1
                      replace hc1 := Lib.hid hc1
                      have hlu : (pu : Int) < (y.2.2.1.length : Int) := by omega
                      have hlu2 : decide ((pu : Int) < (y.2.2.1.length : Int)) = true := by rw [decide_eq_true_iff]; omega
                      have hlv2 : decide ((y.2.2.1.length : Int) < (y.2.2.1.length : Int)) = false := by rw [decide_eq_false_iff_not]; omega
                      have e1 : (x1.1.toList != x1.1.toList) = false := by simp
                      have hbd : Below w6.heap.size w6 w7.drew := below_drewN hb''.out 1
                      replace hbd := Lib.hid hbd
                      clear hk1
                      refine wp_region_noPanic ?_
                      refine wp_region_held_drew (S := (fun w' => Below w6.heap.size w6 w' ∧ w'.cell? ⟨w.heap.size + 1, 3, none⟩ = some (.float .f64 u) ∧ (w'.cell? ⟨be17, 0, none⟩ = some (.string y.1) ∧ w'.cell? ⟨be17, 1, none⟩ = some (.string y.2.1) ∧ w'.cell? ⟨be17, 2, none⟩ = some (.slice (some ⟨bs, os, none⟩) y.2.2.1.length scap)) ∧ w'.cell? ⟨bs, os + pu * 2, none⟩ = some (.string x1.1))) (by kernel_rfl) ⟨hbd.out, (hS6.out _ hbd.out).1, (hS6.out _ hbd.out).2, hc1.out _ hbd.out⟩ (fun hHeld => ?_)
                      refine wpAnyH_take (i := 0) (oi := _) (v := ?_) rfl (by kernel_rfl) (by kernel_rfl) (by kernel_rfl) (fun _ _ _ h => h) (Or.inl ⟨by rfl, ?_⟩) (by assumption) ?_
                      rotate_left
                      · intro w hSw; (try dsimp only at hSw); go_simp; try with_reducible rfl
                      try simp only [Act.put, List.getElem_toArray, List.getElem_cons_succ, List.getElem_cons_zero, List.setIfInBounds_toArray, List.set_cons_zero, List.set_cons_succ]
                      refine wpAnyH_take (i := 1) (oi := _) (v := ?_) rfl (by kernel_rfl) (by kernel_rfl) (by kernel_rfl) (fun _ _ _ h => h) (Or.inl ⟨by rfl, ?_⟩) (by assumption) ?_
                      rotate_left
                      · intro w hSw; (try dsimp only at hSw); go_simp; try with_reducible rfl
                      try simp only [Act.put, List.getElem_toArray, List.getElem_cons_succ, List.getElem_cons_zero, List.setIfInBounds_toArray, List.set_cons_zero, List.set_cons_succ]
                      refine wpAnyH_take (i := 2) (oi := _) (v := ?_) rfl (by kernel_rfl) (by kernel_rfl) (by kernel_rfl) (fun _ _ _ h => h) (Or.inl ⟨by rfl, ?_⟩) (by assumption) ?_
                      rotate_left
                      · intro w hSw; (try dsimp only at hSw); go_simp; try with_reducible rfl
                      try simp only [Act.put, List.getElem_toArray, List.getElem_cons_succ, List.getElem_cons_zero, List.setIfInBounds_toArray, List.set_cons_zero, List.set_cons_succ]
                      refine wpAnyH_take (i := 3) (oi := _) (v := ?_) rfl (by kernel_rfl) (by kernel_rfl) (by kernel_rfl) (fun _ _ _ h => h) (Or.inl ⟨by rfl, ?_⟩) (by assumption) ?_
                      rotate_left
                      · intro w hSw; (try dsimp only at hSw); go_simp; try with_reducible rfl
                      try simp only [Act.put, List.getElem_toArray, List.getElem_cons_succ, List.getElem_cons_zero, List.setIfInBounds_toArray, List.set_cons_zero, List.set_cons_succ]
                      refine wpAnyH_take (i := 4) (oi := _) (v := ?_) rfl (by kernel_rfl) (by kernel_rfl) (by kernel_rfl) (fun _ _ _ h => h) (Or.inl ⟨by rfl, ?_⟩) (by assumption) ?_
                      rotate_left
                      · intro w hSw; (try dsimp only at hSw); go_simp; try with_reducible rfl
                      try simp only [Act.put, List.getElem_toArray, List.getElem_cons_succ, List.getElem_cons_zero, List.setIfInBounds_toArray, List.set_cons_zero, List.set_cons_succ]
                      refine wpAnyH_take (i := 5) (oi := _) (v := ?_) rfl (by kernel_rfl) (by kernel_rfl) (by kernel_rfl) (fun _ _ _ h => h) (Or.inl ⟨by rfl, ?_⟩) (by assumption) ?_
                      rotate_left
                      · intro w hSw; (try dsimp only at hSw); go_simp; try with_reducible rfl
                      try simp only [Act.put, List.getElem_toArray, List.getElem_cons_succ, List.getElem_cons_zero, List.setIfInBounds_toArray, List.set_cons_zero, List.set_cons_succ]
                      refine wpAnyH_take (i := 6) (oi := _) (v := ?_) rfl (by kernel_rfl) (by kernel_rfl) (by kernel_rfl) (fun _ _ _ h => h) (Or.inl ⟨by rfl, ?_⟩) (by assumption) ?_
                      rotate_left
                      · intro w hSw; (try dsimp only at hSw); go_simp; try with_reducible rfl
                      try simp only [Act.put, List.getElem_toArray, List.getElem_cons_succ, List.getElem_cons_zero, List.setIfInBounds_toArray, List.set_cons_zero, List.set_cons_succ]
                      refine wpAnyH_take (i := 7) (oi := _) (v := ?_) rfl (by kernel_rfl) (by kernel_rfl) (by kernel_rfl) (fun _ _ _ h => h) (Or.inl ⟨by rfl, ?_⟩) (by assumption) ?_
                      rotate_left
                      · intro w hSw; (try dsimp only at hSw); go_simp; try with_reducible rfl
                      try simp only [Act.put, List.getElem_toArray, List.getElem_cons_succ, List.getElem_cons_zero, List.setIfInBounds_toArray, List.set_cons_zero, List.set_cons_succ]
                      refine wpAnyH_take (i := 8) (oi := _) (v := ?_) rfl (by kernel_rfl) (by kernel_rfl) (by kernel_rfl) (fun _ _ _ h => h) (Or.inl ⟨by rfl, ?_⟩) (by assumption) ?_
                      rotate_left
                      · intro w hSw; (try dsimp only at hSw); go_simp; try with_reducible rfl
                      try simp only [Act.put, List.getElem_toArray, List.getElem_cons_succ, List.getElem_cons_zero, List.setIfInBounds_toArray, List.set_cons_zero, List.set_cons_succ]
                      refine wpAnyH_take (i := 9) (oi := _) (v := ?_) rfl (by kernel_rfl) (by kernel_rfl) (by kernel_rfl) (fun _ _ _ h => h) (Or.inl ⟨by rfl, ?_⟩) (by assumption) ?_
                      rotate_left
                      · intro w hSw; (try dsimp only at hSw); go_simp; try with_reducible rfl
                      try simp only [Act.put, List.getElem_toArray, List.getElem_cons_succ, List.getElem_cons_zero, List.setIfInBounds_toArray, List.set_cons_zero, List.set_cons_succ]
                      refine wpAnyH_take (i := 10) (oi := _) (v := ?_) rfl (by kernel_rfl) (by kernel_rfl) (by kernel_rfl) (fun _ _ _ h => h) (Or.inl ⟨by rfl, ?_⟩) (by assumption) ?_
                      rotate_left
                      · intro w hSw; (try dsimp only at hSw); go_simp; try with_reducible rfl
                      try simp only [Act.put, List.getElem_toArray, List.getElem_cons_succ, List.getElem_cons_zero, List.setIfInBounds_toArray, List.set_cons_zero, List.set_cons_succ]
                      refine wpAnyH_take (i := 11) (oi := _) (v := ?_) rfl (by kernel_rfl) (by kernel_rfl) (by kernel_rfl) (fun _ _ _ h => h) (Or.inl ⟨by rfl, ?_⟩) (by assumption) ?_
                      rotate_left
                      · intro w hSw; (try dsimp only at hSw); go_simp; try with_reducible rfl
                      try simp only [Act.put, List.getElem_toArray, List.getElem_cons_succ, List.getElem_cons_zero, List.setIfInBounds_toArray, List.set_cons_zero, List.set_cons_succ]
                      refine wpAnyH_take (i := 12) (oi := _) (v := ?_) rfl (by kernel_rfl) (by kernel_rfl) (by kernel_rfl) (fun _ _ _ h => h) (Or.inl ⟨by rfl, ?_⟩) (by assumption) ?_
                      rotate_left
                      · intro w hSw; (try dsimp only at hSw); go_simp; try with_reducible rfl
                      try simp only [Act.put, List.getElem_toArray, List.getElem_cons_succ, List.getElem_cons_zero, List.setIfInBounds_toArray, List.set_cons_zero, List.set_cons_succ]
                      refine wpAnyH_take (i := 14) (oi := _) (v := ?_) rfl (by kernel_rfl) (by kernel_rfl) (by kernel_rfl) (fun _ _ _ h => h) (Or.inl ⟨by rfl, ?_⟩) (by assumption) ?_
                      rotate_left
                      · intro w hSw; (try dsimp only at hSw); go_simp; try with_reducible rfl
                      try simp only [Act.put, List.getElem_toArray, List.getElem_cons_succ, List.getElem_cons_zero, List.setIfInBounds_toArray, List.set_cons_zero, List.set_cons_succ]
                      refine wpAnyH_take (i := 15) (oi := _) (v := ?_) rfl (by kernel_rfl) (by kernel_rfl) (by kernel_rfl) (fun _ _ _ h => h) (Or.inl ⟨by rfl, ?_⟩) (by assumption) ?_
                      rotate_left
                      · intro w hSw; (try dsimp only at hSw); go_simp; try with_reducible rfl
                      try simp only [Act.put, List.getElem_toArray, List.getElem_cons_succ, List.getElem_cons_zero, List.setIfInBounds_toArray, List.set_cons_zero, List.set_cons_succ]
                      refine wpAnyH_take (i := 16) (oi := _) (v := ?_) rfl (by kernel_rfl) (by kernel_rfl) (by kernel_rfl) (fun _ _ _ h => h) (Or.inl ⟨by rfl, ?_⟩) (by assumption) ?_
                      rotate_left
                      · intro w hSw; (try dsimp only at hSw); go_simp; try with_reducible rfl
                      try simp only [Act.put, List.getElem_toArray, List.getElem_cons_succ, List.getElem_cons_zero, List.setIfInBounds_toArray, List.set_cons_zero, List.set_cons_succ]
                      refine wpAnyH_take (i := 17) (oi := _) (v := ?_) rfl (by kernel_rfl) (by kernel_rfl) (by kernel_rfl) (fun _ _ _ h => h) (Or.inl ⟨by rfl, ?_⟩) (by assumption) ?_
                      rotate_left
                      · intro w hSw; (try dsimp only at hSw); go_simp; try with_reducible rfl
                      try simp only [Act.put, List.getElem_toArray, List.getElem_cons_succ, List.getElem_cons_zero, List.setIfInBounds_toArray, List.set_cons_zero, List.set_cons_succ]
                      refine wpAnyH_take (i := 18) (oi := _) (v := ?_) rfl (by kernel_rfl) (by kernel_rfl) (by kernel_rfl) (fun _ _ _ h => h) (Or.inl ⟨by rfl, ?_⟩) (by assumption) ?_
                      rotate_left
                      · intro w hSw; (try dsimp only at hSw); go_simp; try with_reducible rfl
                      try simp only [Act.put, List.getElem_toArray, List.getElem_cons_succ, List.getElem_cons_zero, List.setIfInBounds_toArray, List.set_cons_zero, List.set_cons_succ]
                      refine wpAnyH_take (i := 19) (oi := _) (v := ?_) rfl (by kernel_rfl) (by kernel_rfl) (by kernel_rfl) (fun _ _ _ h => h) (Or.inl ⟨by rfl, ?_⟩) (by assumption) ?_
                      rotate_left
                      · intro w hSw; (try dsimp only at hSw); go_simp; try with_reducible rfl
                      try simp only [Act.put, List.getElem_toArray, List.getElem_cons_succ, List.getElem_cons_zero, List.setIfInBounds_toArray, List.set_cons_zero, List.set_cons_succ]
                      refine wpAnyH_ready (rs := [13]) (by kernel_rfl) (by simp) ?_
                      refine AllReadyH.cons (o := _) rfl (fun K hK => ?_) AllReadyH.nil
                      go_simp
                      go_at_call 12
                      with_reducible refine (p12u.out _ hbd.out).mono ?_
                      rintro e w' ⟨rfl, hc'⟩
                      refine hK.out _ _ ⟨hc', (hS6.out _ hc').1, (hS6.out _ hc').2, hc1.out _ hc'⟩ (fun hHeld => ?_)
                      clear hK K
                      try simp only [Act.put, List.getElem_toArray, List.getElem_cons_succ, List.getElem_cons_zero, List.setIfInBounds_toArray, List.set_cons_zero, List.set_cons_succ]
                      refine wpAnyH_take (i := 20) (oi := _) (v := ?_) rfl (by kernel_rfl) (by kernel_rfl) (by kernel_rfl) (fun _ _ _ h => h) (Or.inl ⟨by rfl, ?_⟩) (by assumption) ?_
                      rotate_left
                      · intro w hSw; (try dsimp only at hSw); go_simp; try with_reducible rfl
                      try simp only [Act.put, List.getElem_toArray, List.getElem_cons_succ, List.getElem_cons_zero, List.setIfInBounds_toArray, List.set_cons_zero, List.set_cons_succ]
                      refine wpAnyH_take (i := 21) (oi := _) (v := ?_) rfl (by kernel_rfl) (by kernel_rfl) (by kernel_rfl) (fun _ _ _ h => h) (Or.inl ⟨by rfl, ?_⟩) (by assumption) ?_
                      rotate_left
                      · intro w hSw; (try dsimp only at hSw); go_simp; try with_reducible rfl
                      try simp only [Act.put, List.getElem_toArray, List.getElem_cons_succ, List.getElem_cons_zero, List.setIfInBounds_toArray, List.set_cons_zero, List.set_cons_succ]
                      refine wpAnyH_take (i := 22) (oi := _) (v := ?_) rfl (by kernel_rfl) (by kernel_rfl) (by kernel_rfl) (fun _ _ _ h => h) (Or.inl ⟨by rfl, ?_⟩) (by assumption) ?_
                      rotate_left
                      · intro w hSw; (try dsimp only at hSw); go_simp; try with_reducible rfl
                      try simp only [Act.put, List.getElem_toArray, List.getElem_cons_succ, List.getElem_cons_zero, List.setIfInBounds_toArray, List.set_cons_zero, List.set_cons_succ]
                      refine wpAnyH_take (i := 23) (oi := _) (v := ?_) rfl (by kernel_rfl) (by kernel_rfl) (by kernel_rfl) (fun _ _ _ h => h) (Or.inl ⟨by rfl, ?_⟩) (by assumption) ?_
                      rotate_left
                      · intro w hSw; (try dsimp only at hSw); go_simp; try with_reducible rfl
                      try simp only [Act.put, List.getElem_toArray, List.getElem_cons_succ, List.getElem_cons_zero, List.setIfInBounds_toArray, List.set_cons_zero, List.set_cons_succ]
                      refine wpAnyH_take (i := 24) (oi := _) (v := ?_) rfl (by kernel_rfl) (by kernel_rfl) (by kernel_rfl) (fun _ _ _ h => h) (Or.inl ⟨by rfl, ?_⟩) (by assumption) ?_
                      rotate_left
                      · intro w hSw; (try dsimp only at hSw); go_simp; try with_reducible rfl
                      try simp only [Act.put, List.getElem_toArray, List.getElem_cons_succ, List.getElem_cons_zero, List.setIfInBounds_toArray, List.set_cons_zero, List.set_cons_succ]
                      refine wpAnyH_take (i := 25) (oi := _) (v := ?_) rfl (by kernel_rfl) (by kernel_rfl) (by kernel_rfl) (fun _ _ _ h => h) (Or.inl ⟨by rfl, ?_⟩) (by assumption) ?_
                      rotate_left
                      · intro w hSw; (try dsimp only at hSw); go_simp; try with_reducible rfl
                      try simp only [Act.put, List.getElem_toArray, List.getElem_cons_succ, List.getElem_cons_zero, List.setIfInBounds_toArray, List.set_cons_zero, List.set_cons_succ]
                      refine wpAnyH_take (i := 26) (oi := _) (v := ?_) rfl (by kernel_rfl) (by kernel_rfl) (by kernel_rfl) (fun _ _ _ h => h) (Or.inl ⟨by rfl, ?_⟩) (by assumption) ?_
                      rotate_left
                      · intro w hSw; (try dsimp only at hSw); go_simp; try with_reducible rfl
                      try simp only [Act.put, List.getElem_toArray, List.getElem_cons_succ, List.getElem_cons_zero, List.setIfInBounds_toArray, List.set_cons_zero, List.set_cons_succ]
                      refine wpAnyH_take (i := 27) (oi := _) (v := ?_) rfl (by kernel_rfl) (by kernel_rfl) (by kernel_rfl) (fun _ _ _ h => h) (Or.inl ⟨by rfl, ?_⟩) (by assumption) ?_
                      rotate_left
                      · intro w hSw; (try dsimp only at hSw); go_simp; try with_reducible rfl
                      try simp only [Act.put, List.getElem_toArray, List.getElem_cons_succ, List.getElem_cons_zero, List.setIfInBounds_toArray, List.set_cons_zero, List.set_cons_succ]
                      refine wpAnyH_take (i := 28) (oi := _) (v := ?_) rfl (by kernel_rfl) (by kernel_rfl) (by kernel_rfl) (fun _ _ _ h => h) (Or.inl ⟨by rfl, ?_⟩) (by assumption) ?_
                      rotate_left
                      · intro w hSw; (try dsimp only at hSw); go_simp; try with_reducible rfl
                      try simp only [Act.put, List.getElem_toArray, List.getElem_cons_succ, List.getElem_cons_zero, List.setIfInBounds_toArray, List.set_cons_zero, List.set_cons_succ]
                      refine wpAnyH_take (i := 29) (oi := _) (v := ?_) rfl (by kernel_rfl) (by kernel_rfl) (by kernel_rfl) (fun _ _ _ h => h) (Or.inl ⟨by rfl, ?_⟩) (by assumption) ?_
                      rotate_left
                      · intro w hSw; (try dsimp only at hSw); go_simp; try with_reducible rfl
                      try simp only [Act.put, List.getElem_toArray, List.getElem_cons_succ, List.getElem_cons_zero, List.setIfInBounds_toArray, List.set_cons_zero, List.set_cons_succ]
                      refine wpAnyH_take (i := 30) (oi := _) (v := undef) rfl (by kernel_rfl) (by kernel_rfl) (by kernel_rfl) (fun _ _ _ h => h) (Or.inr ⟨by rfl, rfl⟩) (by assumption) ?_
                      try simp only [Act.put, List.getElem_toArray, List.getElem_cons_succ, List.getElem_cons_zero, List.setIfInBounds_toArray, List.set_cons_zero, List.set_cons_succ]
                      refine wpAnyH_take (i := 31) (oi := _) (v := undef) rfl (by kernel_rfl) (by kernel_rfl) (by kernel_rfl) (fun _ _ _ h => h) (Or.inr ⟨by rfl, rfl⟩) (by assumption) ?_
                      try simp only [Act.put, List.getElem_toArray, List.getElem_cons_succ, List.getElem_cons_zero, List.setIfInBounds_toArray, List.set_cons_zero, List.set_cons_succ]
                      refine wpAnyH_take (i := 33) (oi := _) (v := undef) rfl (by kernel_rfl) (by kernel_rfl) (by kernel_rfl) (fun _ _ _ h => h) (Or.inr ⟨by rfl, rfl⟩) (by assumption) ?_
                      try simp only [Act.put, List.getElem_toArray, List.getElem_cons_succ, List.getElem_cons_zero, List.setIfInBounds_toArray, List.set_cons_zero, List.set_cons_succ]
                      refine wpAnyH_take (i := 34) (oi := _) (v := undef) rfl (by kernel_rfl) (by kernel_rfl) (by kernel_rfl) (fun _ _ _ h => h) (Or.inr ⟨by rfl, rfl⟩) (by assumption) ?_
                      try simp only [Act.put, List.getElem_toArray, List.getElem_cons_succ, List.getElem_cons_zero, List.setIfInBounds_toArray, List.set_cons_zero, List.set_cons_succ]
                      refine wpAnyH_take (i := 35) (oi := _) (v := undef) rfl (by kernel_rfl) (by kernel_rfl) (by kernel_rfl) (fun _ _ _ h => h) (Or.inr ⟨by rfl, rfl⟩) (by assumption) ?_
                      try simp only [Act.put, List.getElem_toArray, List.getElem_cons_succ, List.getElem_cons_zero, List.setIfInBounds_toArray, List.set_cons_zero, List.set_cons_succ]
                      refine wpAnyH_take (i := 36) (oi := _) (v := undef) rfl (by kernel_rfl) (by kernel_rfl) (by kernel_rfl) (fun _ _ _ h => h) (Or.inr ⟨by rfl, rfl⟩) (by assumption) ?_
                      try simp only [Act.put, List.getElem_toArray, List.getElem_cons_succ, List.getElem_cons_zero, List.setIfInBounds_toArray, List.set_cons_zero, List.set_cons_succ]
                      refine wpAnyH_take (i := 37) (oi := _) (v := undef) rfl (by kernel_rfl) (by kernel_rfl) (by kernel_rfl) (fun _ _ _ h => h) (Or.inr ⟨by rfl, rfl⟩) (by assumption) ?_
                      try simp only [Act.put, List.getElem_toArray, List.getElem_cons_succ, List.getElem_cons_zero, List.setIfInBounds_toArray, List.set_cons_zero, List.set_cons_succ]
                      refine wpAnyH_take (i := 38) (oi := _) (v := undef) rfl (by kernel_rfl) (by kernel_rfl) (by kernel_rfl) (fun _ _ _ h => h) (Or.inr ⟨by rfl, rfl⟩) (by assumption) ?_
                      try simp only [Act.put, List.getElem_toArray, List.getElem_cons_succ, List.getElem_cons_zero, List.setIfInBounds_toArray, List.set_cons_zero, List.set_cons_succ]
                      refine wpAnyH_ready (rs := [32]) (by kernel_rfl) (by simp) ?_
                      refine AllReadyH.cons (o := _) rfl (fun K hK => ?_) AllReadyH.nil
                      go_simp
                      refine hK.out _ _ hHeld (fun hHeld => ?_)
                      clear hK K
                      try simp only [Act.put, List.getElem_toArray, List.getElem_cons_succ, List.getElem_cons_zero, List.setIfInBounds_toArray, List.set_cons_zero, List.set_cons_succ]
                      refine wpAnyH_take (i := 39) (oi := _) (v := undef) rfl (by kernel_rfl) (by kernel_rfl) (by kernel_rfl) (fun _ _ _ h => h) (Or.inr ⟨by rfl, rfl⟩) (by assumption) ?_
                      try simp only [Act.put, List.getElem_toArray, List.getElem_cons_succ, List.getElem_cons_zero, List.setIfInBounds_toArray, List.set_cons_zero, List.set_cons_succ]
                      refine wpAnyH_take (i := 40) (oi := _) (v := ?_) rfl (by kernel_rfl) (by kernel_rfl) (by kernel_rfl) (fun _ _ _ h => h) (Or.inl ⟨by rfl, ?_⟩) (by assumption) ?_
                      rotate_left
                      · intro w hSw; (try dsimp only at hSw); go_simp; try with_reducible rfl
                      try simp only [Act.put, List.getElem_toArray, List.getElem_cons_succ, List.getElem_cons_zero, List.setIfInBounds_toArray, List.set_cons_zero, List.set_cons_succ]
                      refine wpAnyH_take (i := 41) (oi := _) (v := ?_) rfl (by kernel_rfl) (by kernel_rfl) (by kernel_rfl) (fun _ _ _ h => h) (Or.inl ⟨by rfl, ?_⟩) (by assumption) ?_
                      rotate_left
                      · intro w hSw; (try dsimp only at hSw); go_simp; try with_reducible rfl
                      try simp only [Act.put, List.getElem_toArray, List.getElem_cons_succ, List.getElem_cons_zero, List.setIfInBounds_toArray, List.set_cons_zero, List.set_cons_succ]
                      refine wpAnyH_done (by kernel_rfl) ?_ _
                      refine NoPanic.normal ?_
                      go_wp2
                      go_meet
                      exact ⟨rfl, hc'⟩
                    · subst h1 h2 hs1 hs2
                      have hl1 := (List.getElem?_eq_some_iff.1 hk1).1
                      have hl2 := (List.getElem?_eq_some_iff.1 hk2).1
                      obtain ⟨bs, os, sc, rfl, rfl, hc1⟩ := hshare.out _ _ hk1
                      obtain ⟨_, _, _, hh1, -, hc2⟩ := hshare.out _ _ hk2
                      cases hh1
                      replace hc1 := Lib.hid hc1
                      replace hc2 := Lib.hid hc2
                      have hlu : (pu : Int) < (y.2.2.1.length : Int) := by omega
                      have hlv : (pv : Int) < (y.2.2.1.length : Int) := by omega
                      have hlu2 : decide ((pu : Int) < (y.2.2.1.length : Int)) = true := by rw [decide_eq_true_iff]; omega
                      have hlv2 : decide ((pv : Int) < (y.2.2.1.length : Int)) = true := by rw [decide_eq_true_iff]; omega
                      have e1 : (x1.1.toList != x1.1.toList) = false := by simp
                      have e2 : (x2.1.toList != x2.1.toList) = false := by simp
                      have hbd : Below w6.heap.size w6 w7.drew := below_drewN hb''.out 1
                      replace hbd := Lib.hid hbd
                      clear hk1 hk2
                      go_region_held3 (fun w' => Below w6.heap.size w6 w' ∧ w'.cell? ⟨w.heap.size + 1, 3, none⟩ = some (.float .f64 u) ∧ (w'.cell? ⟨be17, 0, none⟩ = some (.string y.1) ∧ w'.cell? ⟨be17, 1, none⟩ = some (.string y.2.1) ∧ w'.cell? ⟨be17, 2, none⟩ = some (.slice (some ⟨bs, os, none⟩) y.2.2.1.length scap)) ∧ w'.cell? ⟨bs, os + pu * 2, none⟩ = some (.string x1.1) ∧ w'.cell? ⟨bs, os + pv * 2, none⟩ = some (.string x2.1))
                        (first | exact ⟨hbd.out, (hS6.out _ hbd.out).1, (hS6.out _ hbd.out).2, hc1.out _ hbd.out, hc2.out _ hbd.out⟩ | exact ⟨hc'', (hS6.out _ hc'').1, (hS6.out _ hc'').2, hc1.out _ hc'', hc2.out _ hc''⟩ | exact ⟨hc', (hS6.out _ hc').1, (hS6.out _ hc').2, hc1.out _ hc', hc2.out _ hc'⟩ | fail)
                        (first | (go_at_call 12; with_reducible refine (p12u.out _ hbd.out).mono ?_; rintro e w' ⟨rfl, hc'⟩) | (go_at_call 12; with_reducible refine (p12v.out _ hc').mono ?_; rintro e w'' ⟨rfl, hc''⟩) | fail)
                      go_wp2
                      go_meet
                      exact ⟨rfl, hc''⟩
                case rest =>
                  obtain ⟨rfl, hb9⟩ := hcut
                  replace hb9 := Lib.hid hb9
                  go_wp2
                  go_roundg (x.2.2.1.length - (k + 1))
                  case measure => omega
                  case rel => exact ⟨k + 1, by omega, rfl, by go_num, Tp.Below_seq hb6.out hb9.out⟩
            · have e1 : (FloatKind.f64.format.order u v == some Ordering.lt) = false := by
                rw [beq_eq_false_iff_ne]; exact fun h => hle (.inl h)
              have e2 : (FloatKind.f64.format.order u v == some Ordering.eq) = false := by
                rw [beq_eq_false_iff_ne]; exact fun h => hle (.inr h)
              clear hle
              replace hb6 := Lib.hid hb6
              replace r5 := Lib.hid r5
              replace hnb := Lib.hid hnb
              go_wp2_with fail
              go_roundg (x.2.2.1.length - (k + 1))
              case measure => omega
              case rel => exact ⟨k + 1, by omega, rfl, by go_num, hb6.out⟩
          · have hk1 : (x.2.2.1.length : Int) ≤ (k : Int) := by omega
            replace hbx := Lib.hid hbx
            clear t0 q0
            go_wp2
            go_roundg (ts.length - (i + 1))
            case measure => omega
            case rel => exact ⟨i + 1, by omega, rfl, by go_num, hbx.out⟩
      · have hi1 : (ts.length : Int) ≤ (i : Int) := by omega
        have hfin := Lib.hid (Tp.Below_seq hb0.out hbr)
        clear hbr t0 q0
        go_wp2
        go_ret
        exact ⟨rfl, hfin.out⟩
end Go.Proofs.Ytnnoccojjeadhaa.decideDraws
