/- The law of CheckFaults walked. -/
import Derived.Test.YtjepgpocmnijiaaRq
namespace Go.Proofs.Ytjepgpocmnijiaa
open Go.RowKit Go.Mp Go.Ck
set_option linter.unusedVariables false
set_option maxRecDepth 100000
set_option maxHeartbeats 8000000
theorem num21 (c : Int) (w : World) : Calls Try.prog 21 #[.int .i64 c] w fun e w' => e = .returned (.int .i64 c) ∧ w = w' := by
  go_enter Try.func21, Try.ntmps21
  go_wp2
  go_ret
  exact ⟨rfl, rfl⟩
theorem warnP_len (l : List Res) : (warnP l).length ≤ listM l := by
  unfold warnP
  split
  · have := shadowL_len l l.length
    rw [List.take_length] at this
    unfold listM; omega
  · simp
theorem warn_row {w : World} {base e : Nat} {oo : Option Addr} {oc n : Nat} {ws : List Warn} (h : w.ownsRow base e 3 (.slice oo n oc) ws.length (wcs ws)) {i : Nat} {x : Warn} (hx : ws[i]? = some x) :
    ∃ g, oo = some ⟨g, 0, none⟩ ∧ ws.length ≤ oc ∧ w.cell? ⟨g, i * 3, none⟩ = some (.int .i64 x.1) ∧ w.cell? ⟨g, i * 3 + 1, none⟩ = some (.int .i64 x.2.1) ∧ w.cell? ⟨g, i * 3 + 2, none⟩ = some (.int .i64 x.2.2) := by
  obtain ⟨g, e0, _, e1, c0, _⟩ := ownsRow_cell h (j := i * 3) (u := .int .i64 x.1) (wcs_at hx 0 (by decide))
  obtain ⟨g1, f0, _, _, c1, _⟩ := ownsRow_cell h (j := i * 3 + 1) (u := .int .i64 x.2.1) (wcs_at hx 1 (by decide))
  obtain ⟨g2, f1, _, _, c2, _⟩ := ownsRow_cell h (j := i * 3 + 2) (u := .int .i64 x.2.2) (wcs_at hx 2 (by decide))
  rw [e0] at f0 f1
  cases f0; cases f1
  exact ⟨g, e0, e1, c0, c1, c2⟩
theorem own_reads {w w' : World} {l : List Res} {v : Value} {L : List RV} (h : OwnM w' w.heap.size v L) (hL : L.map RV.r = l) (hlen : l.length ≤ 140737488351232) : ResS w' v l := by
  rw [← hL]
  exact h.reads (by rw [← hL, List.length_map] at hlen; exact hlen)
theorem faults3 (l : List Res) (v : Value) (w : World) (hl : ResS w v l) (hM : listM l ≤ 1048576) : Calls Try.prog 3 #[v] w fun e w' => e = .returned (.bool true) ∧ Below w.heap.size w w' := by
  obtain ⟨ao, cap, rfl⟩ := slice_shape hl
  have hlen := hl.1
  have hC18 := own18 l _ w hl hM
  have hfl := lists_refl l
  obtain ⟨⟨fa, fb, fc⟩, hfp⟩ : ∃ f, f = faultP l := ⟨_, rfl⟩
  obtain ⟨ws, hws⟩ : ∃ ws, ws = warnP l := ⟨_, rfl⟩
  obtain ⟨oi, hoi⟩ : ∃ oi, oi = outI l := ⟨_, rfl⟩
  obtain ⟨bo, hbo⟩ : ∃ b, b = decide (oi < 0) := ⟨_, rfl⟩
  have hK19 : ∀ (v' : Value) (w' : World), ResS w' v' l → Calls Try.prog 19 #[v'] w' fun e w2 => ∃ oo oc, e = .returned (.tuple #[.slice oo ws.length oc, .agg #[.int .i64 fa, .int .i64 fb, .int .i64 fc]]) ∧ w2.ownsRow w'.heap.size 40 3 (.slice oo ws.length oc) ws.length (wcs ws) ∧ Below w'.heap.size w' w2 := fun v' w' h => by
    refine (check19 l v' w' h hM).mono ?_
    rintro e w2 ⟨wv, f, ws', hc, rfl, hr, hb⟩
    obtain ⟨rfl, rfl⟩ := hc.eq
    rw [← hfp]
    rw [← hws] at hr
    obtain ⟨oo, oc, rfl⟩ := ownsRow_shape hr
    exact ⟨oo, oc, rfl, hr, hb⟩
  have hK20 : ∀ (v' : Value) (w' : World), ResS w' v' l → Calls Try.prog 20 #[v'] w' fun e w2 => ∃ oo oc, e = .returned (.tuple #[.slice oo ws.length oc, .agg #[.int .i64 fa, .int .i64 fb, .int .i64 fc]]) ∧ w2.ownsRow w'.heap.size 41 3 (.slice oo ws.length oc) ws.length (wcs ws) ∧ Below w'.heap.size w' w2 := fun v' w' h => by
    refine (check20 l v' w' h hM).mono ?_
    rintro e w2 ⟨wv, f, ws', hc, rfl, hr, hb⟩
    obtain ⟨rfl, rfl⟩ := hc.eq
    rw [← hfp]
    rw [← hws] at hr
    obtain ⟨oo, oc, rfl⟩ := ownsRow_shape hr
    exact ⟨oo, oc, rfl, hr, hb⟩
  have hK23 : ∀ (v' : Value) (w' : World), ResS w' v' l → Calls Try.prog 23 #[v'] w' fun e w2 => e = .returned (.bool bo) ∧ Below w'.heap.size w' w2 := fun v' w' h => by
    rw [hbo, hoi]; exact ordered23 l v' w' h
  have hK24 : ∀ (v' : Value) (w' : World), ResS w' v' l → Calls Try.prog 24 #[v'] w' fun e w2 => e = .returned (.int .i64 oi) ∧ Below w'.heap.size w' w2 := fun v' w' h => by
    rw [hoi]; exact Out24 l v' w' h
  have hK22 : ∀ (v1 v2 : Value) (w' : World), ResS w' v1 l → ResS w' v2 l → Calls Try.prog 22 #[v1, v2] w' fun e w2 => e = .returned (.bool true) ∧ Below w'.heap.size w' w2 := fun v1 v2 w' h1 h2 => by
    rw [← hfl]; exact lists22 l l v1 v2 w' h1 h2
  have hK18 : ∀ (v' : Value) (w' : World), ResS w' v' l → Calls Try.prog 18 #[v'] w' fun e w2 => ∃ o2 c2, e = .returned (.slice o2 l.length c2) ∧ ResS w2 (.slice o2 l.length c2) l ∧ Below w'.heap.size w' w2 := fun v' w' h => by
    refine (own18 l v' w' h hM).mono ?_
    rintro e w2 ⟨v2, L2, rfl, hL2, hO2, hb⟩
    have hr := own_reads hO2 hL2 hlen
    obtain ⟨o2, c2, rfl⟩ := slice_shape hr
    exact ⟨o2, c2, rfl, hr, hb⟩
  have hbo' := hbo.symm
  replace hl := Lib.hid hl
  replace hM := Lib.hid hM
  replace hC18 := Lib.hid hC18
  replace hfl := Lib.hid hfl
  replace hfp := Lib.hid hfp
  replace hws := Lib.hid hws
  replace hoi := Lib.hid hoi
  replace hbo := Lib.hid hbo
  replace hK18 := Lib.hid hK18
  replace hK19 := Lib.hid hK19
  replace hK20 := Lib.hid hK20
  replace hK22 := Lib.hid hK22
  replace hK23 := Lib.hid hK23
  replace hK24 := Lib.hid hK24
  go_enter Try.func3, Try.ntmps3
  go_upto_region 2 with (first
    | (go_at_call 18; (with_reducible refine (hK18.out _ _ hl.out).mono ?_); rintro e w1 ⟨o1, c1, rfl, hv1, hb1⟩; replace hv1 := Lib.hid hv1; replace hb1 := Lib.hid hb1)
    | fail)
  go_upto_region 3 with (first
    | (go_at_call 19; (with_reducible refine (hK19.out _ _ hv1.out).mono ?_); rintro e w2 ⟨p2, q2, rfl, hr2, hb2⟩; replace hr2 := Lib.hid hr2; replace hb2 := Lib.hid hb2)
    | fail)
  obtain ⟨w3, hw3⟩ : ∃ w3, w3 = w2.alloc (.cells #[.int .i64 fa, .int .i64 fb, .int .i64 fc] 27) := ⟨_, rfl⟩
  obtain ⟨ga, hga⟩ : ∃ g, g = w2.heap.size := ⟨_, rfl⟩
  have hx3 : w3.heap[ga]? = some (.cells #[.int .i64 fa, .int .i64 fb, .int .i64 fc] 27 (0, 0)) := by rw [hw3, hga]; exact heap_alloc_new w2 _
  have hb3 : Below w2.heap.size w2 w3 := by rw [hw3]; exact alloc_below _ _
  have hl3 := hl.out.below (seq_below hb1.out (seq_below hb2.out hb3))
  rw [← hw3, ← hga]
  replace hw3 := Lib.hid hw3
  replace hga := Lib.hid hga
  replace hx3 := Lib.hid hx3
  replace hb3 := Lib.hid hb3
  replace hl3 := Lib.hid hl3
  go_upto_region 4 with (first
    | (go_at_call 20; (with_reducible refine (hK20.out _ _ hl3.out).mono ?_); rintro e w4 ⟨p4, q4, rfl, hr4, hb4⟩; replace hr4 := Lib.hid hr4; replace hb4 := Lib.hid hb4)
    | fail)
  obtain ⟨w5, hw5⟩ : ∃ w5, w5 = w4.alloc (.cells #[.int .i64 fa, .int .i64 fb, .int .i64 fc] 32) := ⟨_, rfl⟩
  obtain ⟨gb, hgb⟩ : ∃ g, g = w4.heap.size := ⟨_, rfl⟩
  have hx5 : w5.heap[gb]? = some (.cells #[.int .i64 fa, .int .i64 fb, .int .i64 fc] 32 (0, 0)) := by rw [hw5, hgb]; exact heap_alloc_new w4 _
  have hb5 : Below w4.heap.size w4 w5 := by rw [hw5]; exact alloc_below _ _
  have hb35 := seq_below hb4.out hb5
  have hb25 := seq_below hb3.out hb35
  have hb15 := seq_below hb2.out hb25
  have hl5 := hl.out.below (seq_below hb1.out hb15)
  have hv5 := hv1.out.below hb15
  have hx3' := (hb35.block ga (Array.getElem?_eq_some_iff.1 hx3.out).1).trans hx3.out
  rw [← hw5, ← hgb]
  replace hw5 := Lib.hid hw5
  replace hgb := Lib.hid hgb
  replace hx5 := Lib.hid hx5
  replace hb5 := Lib.hid hb5
  replace hb35 := Lib.hid hb35
  replace hb25 := Lib.hid hb25
  replace hb15 := Lib.hid hb15
  replace hl5 := Lib.hid hl5
  replace hv5 := Lib.hid hv5
  replace hx3' := Lib.hid hx3'
  have hS : Hid (∀ w', Below w5.heap.size w5 w' → Below w5.heap.size w5 w' ∧ w'.cell? ⟨ga, 0, none⟩ = some (.int .i64 fa) ∧ w'.cell? ⟨ga, 1, none⟩ = some (.int .i64 fb) ∧ w'.cell? ⟨ga, 2, none⟩ = some (.int .i64 fc) ∧ w'.cell? ⟨gb, 0, none⟩ = some (.int .i64 fa) ∧ w'.cell? ⟨gb, 1, none⟩ = some (.int .i64 fb) ∧ w'.cell? ⟨gb, 2, none⟩ = some (.int .i64 fc)) := Lib.hid (fun w' h => by
    obtain ⟨⟨x0, x1, x2⟩, _⟩ := three_cells ((h.block ga (Array.getElem?_eq_some_iff.1 hx3'.out).1).trans hx3'.out)
    obtain ⟨⟨y0, y1, y2⟩, _⟩ := three_cells ((h.block gb (Array.getElem?_eq_some_iff.1 hx5.out).1).trans hx5.out)
    exact ⟨h, x0, x1, x2, y0, y1, y2⟩)
  have hcur : Hid (Below w5.heap.size w5 w5.drew) := Lib.hid ⟨rfl, rfl, rfl, Nat.le_refl _, fun _ _ => rfl⟩
  go_cut [62] (fun b wx => b = .bool false ∧ Hid (Below w5.heap.size w5 wx))
  case first =>
    obtain ⟨_, a0, a1, a2, d0, d1, d2⟩ := hS.out w5 (Below.refl _ _)
    go_region_held3 (fun w' => Below w5.heap.size w5 w' ∧ w'.cell? ⟨ga, 0, none⟩ = some (.int .i64 fa) ∧ w'.cell? ⟨ga, 1, none⟩ = some (.int .i64 fb) ∧ w'.cell? ⟨ga, 2, none⟩ = some (.int .i64 fc) ∧ w'.cell? ⟨gb, 0, none⟩ = some (.int .i64 fa) ∧ w'.cell? ⟨gb, 1, none⟩ = some (.int .i64 fb) ∧ w'.cell? ⟨gb, 2, none⟩ = some (.int .i64 fc))
      (first | exact hS.out _ hcur.out | fail)
      (first
        | (go_at_call 21; (with_reducible refine (num21 fc _).mono ?_); rintro e wC ⟨rfl, rfl⟩)
        | (go_at_call 18; (with_reducible refine (hK18.out _ _ (hl5.out.below hcur.out)).mono ?_); rintro e wC ⟨o2, c2, rfl, hv2, hbC⟩; replace hcur := Lib.hid (seq_below hcur.out hbC); replace hv2 := Lib.hid hv2; clear hbC)
        | (go_at_call 22; (with_reducible refine (hK22.out _ _ _ (hv5.out.below hcur.out) hv2.out).mono ?_); rintro e wC ⟨rfl, hbC⟩; replace hcur := Lib.hid (seq_below hcur.out hbC); replace hv2 := Lib.hid (hv2.out.below hbC); clear hbC)
        | (go_at_call 23; (with_reducible refine (hK23.out _ _ (hv5.out.below hcur.out)).mono ?_); rintro e wC ⟨rfl, hbC⟩; replace hcur := Lib.hid (seq_below hcur.out hbC); (try (replace hv2 := Lib.hid (hv2.out.below hbC))); clear hbC)
        | (go_at_call 24; (with_reducible refine (hK24.out _ _ (hl5.out.below hcur.out)).mono ?_); rintro e wC ⟨rfl, hbC⟩; replace hcur := Lib.hid (seq_below hcur.out hbC); (try (replace hv2 := Lib.hid (hv2.out.below hbC))); clear hbC)
        | fail)
    all_goals (first | (go_wp2; go_meet; exact ⟨rfl, hcur⟩) | (go_meet; exact ⟨rfl, hcur⟩))
  case rest =>
    obtain ⟨rfl, hbz⟩ := hcut
    have hrA := ownsRow_tch hr2.out (Tch.of_below (S := No) (seq_below hb25.out hbz.out)) (fun _ _ q => q)
    have hrB := ownsRow_tch hr4.out (Tch.of_below (S := No) (seq_below hb5.out hbz.out)) (fun _ _ q => q)
    have hwl : ws.length ≤ 140737488351232 := by rw [hws.out]; exact Nat.le_trans (warnP_len l) (Nat.le_trans hM.out (by decide))
    replace hrA := Lib.hid hrA
    replace hrB := Lib.hid hrB
    replace hwl := Lib.hid hwl
    go_wp2
    go_loopg [8] (ws.length + 1) (fun gg ic wx => ∃ i : Nat, gg = ws.length - i + 1 ∧ i ≤ ws.length ∧ ic = .int .i64 i ∧ Hid (Below wc.heap.size wc wx))
    case atStart => exact ⟨0, rfl, Nat.zero_le _, rfl, Lib.hid (Below.refl _ _)⟩
    case round =>
      obtain ⟨i, rfl, hi, rfl, hbw⟩ := hrel
      by_cases hlt : i < ws.length
      · obtain ⟨x, hx⟩ : ∃ x, ws[i]? = some x := ⟨_, List.getElem?_eq_getElem hlt⟩
        obtain ⟨gx, rfl, _, c0, c1, c2⟩ := warn_row (ownsRow_tch hrA.out (Tch.of_below (S := No) hbw.out) (fun _ _ q => q)) hx
        obtain ⟨gy, rfl, _, d0, d1, d2⟩ := warn_row (ownsRow_tch hrB.out (Tch.of_below (S := No) hbw.out) (fun _ _ q => q)) hx
        have hk0 : (i : Int) < (ws.length : Int) := nn_lt hlt
        have hk1 : (0 : Int) ≤ (i : Int) := by omega
        have hwk := Lib.hid (nn_succ2 hlt hwl.out)
        replace hx := Lib.hid hx
        go_upto_region 9 with fail
        go_quiet (fail)
        all_goals
          go_wp2
          go_roundg (ws.length - (i + 1) + 1)
          case rel => exact ⟨i + 1, rfl, hlt, by first | rw [hwk.out] | go_num, Lib.hid (below_drewN hbw.out _)⟩
          case measure => exact nn_downS hlt
      · have hk0 : decide ((i : Int) < (ws.length : Int)) = false := decide_eq_false (by omega)
        go_wp2
        go_ret
        exact ⟨rfl, seq_below hb1.out (seq_below hb15.out (seq_below hbz.out hbw.out))⟩
end Go.Proofs.Ytjepgpocmnijiaa
