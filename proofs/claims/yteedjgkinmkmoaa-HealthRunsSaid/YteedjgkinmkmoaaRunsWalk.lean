/- The walk of the law on runs. -/
import Derived.Test.YteedjgkinmkmoaaRunsMid
import Derived.Test.YteedjgkinmkmoaaOpen2
import Derived.Deep.RegionHeld3
namespace Go.Proofs.Yteedjgkinmkmoaa.healthRuns
open Go.ChangeShapes Go.WideShapes Go.ChangeAt Go.RowKit
open Go.Tp
set_option linter.unusedVariables false

set_option maxHeartbeats 40000000 in
set_option maxRecDepth 100000 in
theorem runs_ok (rise fall cp : Int) (none : Bool) (hv : validT rise fall) (ps : List (Bool × Nat)) (hps : ∀ p ∈ ps, p.2 < 18446744073709551616) (v : Value) (w : World) (hrd : RdP w v ps) (hlen : ps.length ≤ 100000000000000) :
    Calls Try.prog 7 #[.agg #[.int .i64 rise, .int .i64 fall, v, .int .i64 cp, .bool none]] w fun e w' => e = .returned (.bool true) ∧ Below w.heap.size w w' := by
  obtain ⟨ao, cap, rfl, hvr⟩ := hrd
  have hb0 := Tp.Below_alloc w (xblk rise fall (.slice ao ps.length cap) cp none)
  have hx0 : (w.alloc (xblk rise fall (.slice ao ps.length cap) cp none)).heap[w.heap.size]? = some (xblk rise fall (.slice ao ps.length cap) cp none) := heap_alloc_new w _
  obtain ⟨Wx, hWx⟩ : ∃ Wx, Wx = w.alloc (xblk rise fall (.slice ao ps.length cap) cp none) := ⟨_, rfl⟩
  rw [← hWx] at hb0 hx0
  have hlx := (Array.getElem?_eq_some_iff.1 hx0).1
  have hX : ∀ w', Below Wx.heap.size Wx w' → w'.cell? ⟨w.heap.size, 0, Option.none⟩ = some (.int .i64 rise) ∧ w'.cell? ⟨w.heap.size, 1, Option.none⟩ = some (.int .i64 fall) ∧ w'.cell? ⟨w.heap.size, 2, Option.none⟩ = some (.slice ao ps.length cap) ∧ w'.cell? ⟨w.heap.size, 3, Option.none⟩ = some (.int .i64 cp) ∧ w'.cell? ⟨w.heap.size, 4, Option.none⟩ = some (.bool none) := fun w' hb => by
    have h := (hb.block _ hlx).trans hx0
    exact ⟨(cell_of_row _ _ 0 _ _ _ h).trans rfl, (cell_of_row _ _ 1 _ _ _ h).trans rfl, (cell_of_row _ _ 2 _ _ _ h).trans rfl, (cell_of_row _ _ 3 _ _ _ h).trans rfl, (cell_of_row _ _ 4 _ _ _ h).trans rfl⟩
  replace hX := Lib.hid hX
  replace hb0 := Lib.hid hb0
  replace hvr := Lib.hid hvr
  replace hps := Lib.hid hps
  clear hx0
  go_enter Try.func7, Try.ntmps7
  go_upto_region 1 with fail
  change Code.wp _ _ _ _ (w.alloc (xblk rise fall (.slice ao ps.length cap) cp none))
  rw [← hWx]
  replace hWx := Lib.hid hWx
  obtain ⟨x0, x1, x2, x3, x4⟩ := hX.out Wx (Below.refl _ _)
  have n10 := Lib.hid (new_ok rise fall Wx hv.1 hv.2)
  have n21 := Lib.hid (refnew_ok rise fall (Wx.alloc (blk (newS rise fall))) hv.1 hv.2)
  have hsz1 : (Wx.alloc (blk (newS rise fall))).heap.size = Wx.heap.size + 1 := by simp
  have hb2 := Tp.Below_alloc Wx (blk (newS rise fall))
  have hs2 := heap_alloc_new Wx (blk (newS rise fall))
  have hb3 := Tp.Below_seq hb2 (Tp.Below_alloc (Wx.alloc (blk (newS rise fall))) (rblk rise fall (.slice Option.none 0 0)))
  have hI : Core Wx rise fall ps (Wx.heap.size + 2) Wx.heap.size (Wx.heap.size + 1) (.pointer Option.none) (.pointer Option.none) 0 0 (.slice Option.none 0 0) ((Wx.alloc (blk (newS rise fall))).alloc (rblk rise fall (.slice Option.none 0 0))) := by
    refine ⟨hb3, Nat.le_refl _, by omega, by omega, by simp, (Below.heap_alloc _ _ _ (by simp)).trans hs2, newS_ok hv.1 hv.2, ⟨?_, World.ownsRow_nil _ _ _ _⟩, .inl ⟨rfl, rfl⟩⟩
    have h := heap_alloc_new (Wx.alloc (blk (newS rise fall))) (rblk rise fall (.slice Option.none 0 0))
    rw [hsz1] at h
    exact h
  have hy : ∀ w', Below Wx.heap.size Wx w' → w'.cell? ⟨w.heap.size, 0, Option.none⟩ = some (.int .i64 rise) ∧ w'.cell? ⟨w.heap.size, 1, Option.none⟩ = some (.int .i64 fall) ∧ w'.cell? ⟨w.heap.size, 4, Option.none⟩ = some (.bool none) := fun w' hb => ⟨(hX.out w' hb).1, (hX.out w' hb).2.1, (hX.out w' hb).2.2.2.2⟩
  have y0 := (hy _ hb2).1
  have y1 := (hy _ hb2).2.1
  have z4 := (hy _ hb3).2.2
  have hh := Lib.hid (show ∃ er, Head Wx rise fall ps (.pointer (some ⟨Wx.heap.size, 0, Option.none⟩)) (.pointer (some ⟨Wx.heap.size + 1, 0, Option.none⟩)) (.pointer Option.none) (.pointer Option.none) er 0 ((Wx.alloc (blk (newS rise fall))).alloc (rblk rise fall (.slice Option.none 0 0))) ∧ (er = 0 → validT rise fall) from ⟨0, ⟨hb3, .inr ⟨rfl, _, _, _, _, rfl, rfl, hI⟩⟩, fun _ => hv⟩)
  have hb4 := Lib.hid hb3
  clear hI hb2 hb3 hs2 hy
  go_wp2_with fail
  refine n10.out.mono ?_
  rintro e w' ⟨rfl, rfl⟩
  go_wp2_with fail
  refine n21.out.mono ?_
  rintro e w' ⟨rfl, rfl⟩
  rw [hsz1]
  generalize (Wx.alloc (blk (newS rise fall))).alloc (rblk rise fall (.slice Option.none 0 0)) = w3 at *
  clear n10 n21 y0 y1 hsz1
  go_upto_if 39 with fail
  go_cut [3, 5] (fun sv dv wx => ∃ er, Head Wx rise fall ps sv dv (.pointer Option.none) (.pointer Option.none) er 0 wx ∧ (er = 0 → validT rise fall))
  case first =>
    cases none
    · go_wp2_with fail
      go_meet
      exact hh.out
    · go_wp2_with fail
      go_meet
      exact ⟨1, ⟨hb4.out, .inl ⟨rfl, rfl, rfl, rfl, rfl⟩⟩, by intro h; cases h⟩
  case rest =>
    obtain ⟨er, hH, hev⟩ := hcut
    replace hev := Lib.hid hev
    clear x0 x1 x2 x3 x4 hh hb4
    go_wp2_with fail
    go_loopg [3, 7, 8, 9] 400 (fun g sa lv tv ic wr => ∃ i : Nat, i ≤ ps.length ∧ i ≤ 400 ∧ g = 400 - i ∧ ic = .int .i64 i ∧ Head Wx rise fall ps sa u5 lv tv er i wr)
    case atStart => exact ⟨0, by omega, by omega, rfl, rfl, hH⟩
    case round =>
      obtain ⟨i, hi, hi4, rfl, rfl, hH2⟩ := hrel
      clear hH
      obtain ⟨x0, x1, x2, x3, x4⟩ := hX.out wr hH2.1
      clear x0 x1 x4
      by_cases hl : i < ps.length ∧ i < 400
      · obtain ⟨hl1, hl2⟩ := hl
        obtain ⟨b, off, rfl, hbw, hpr⟩ := hvr.out.resolve_left (by rintro rfl; simp at hl1)
        have hpr := hpr.below hbw (Tp.Below_seq hb0.out hH2.1)
        have hok := hpr.ok i hl1
        have htk := hpr.took i hl1
        obtain ⟨p, hp⟩ : ∃ p, ps[i]? = some p := ⟨_, List.getElem?_eq_getElem hl1⟩
        have hpe : ps.getD i (false, 0) = p := by simp [List.getD, hp]
        rw [hpe] at hok htk
        have hp2 : p.2 < 18446744073709551616 := hps.out _ (List.mem_of_getElem? hp)
        obtain ⟨ok, t⟩ := p
        dsimp only at hok htk
        have hi0 : (0 : Int) ≤ (i : Int) := by omega
        have hi1 : (i : Int) < (ps.length : Int) := by omega
        have hi2 : (i : Int) < 400 := by omega
        have hn1 : i ≤ 1000 := by omega
        have hn2 : i + 1 ≤ 1000 := by omega
        have hM := mid_of hH2 (.cells #[.bool ok, .float .f64 t] 32)
        replace hM := Lib.hid hM
        replace hH2 := Lib.hid hH2
        replace hp := Lib.hid hp
        replace hp2 := Lib.hid hp2
        clear hpe hpr
        go_upto_region 14 with fail
        change Code.wp _ _ _ _ (wr.alloc (.cells #[.bool ok, .float .f64 t] 32))
        generalize wr.alloc (.cells #[.bool ok, .float .f64 t] 32) = w5 at *
        generalize wr.heap.size = b10 at *
        have hC : ∀ (nS nD : Nat) w', Mid Wx rise fall ps u3 u5 u7 u8 er b10 (.cells #[.bool ok, .float .f64 t] 32) nS nD w' → w'.cell? ⟨b10, 0, Option.none⟩ = some (.bool ok) ∧ w'.cell? ⟨b10, 1, Option.none⟩ = some (.float .f64 t) := fun nS nD w' h => ⟨(cell_of_row _ _ 0 _ _ _ h.1).trans rfl, (cell_of_row _ _ 1 _ _ _ h.1).trans rfl⟩
        have c13 : ∀ w', Mid Wx rise fall ps u3 u5 u7 u8 er b10 (.cells #[.bool ok, .float .f64 t] 32) i i w' → Calls Try.prog 13 #[u3, .bool ok, .float .f64 t] w' fun e w'' => e = .returned (.int .i64 er) ∧ Mid Wx rise fall ps u3 u5 u7 u8 er b10 (.cells #[.bool ok, .float .f64 t] 32) (i + 1) i w'' := fun w' h => mid_S (p := (ok, t)) h hp.out hp2.out hn1
        have c22 : ∀ w', Mid Wx rise fall ps u3 u5 u7 u8 er b10 (.cells #[.bool ok, .float .f64 t] 32) (i + 1) i w' → Calls Try.prog 22 #[u5, .bool ok, .float .f64 t] w' fun e w'' => e = .returned (.int .i64 er) ∧ Mid Wx rise fall ps u3 u5 u7 u8 er b10 (.cells #[.bool ok, .float .f64 t] 32) (i + 1) (i + 1) w'' := fun w' h => mid_D (p := (ok, t)) h hp.out hn1
        have c20 : ∀ w', Mid Wx rise fall ps u3 u5 u7 u8 er b10 (.cells #[.bool ok, .float .f64 t] 32) (i + 1) (i + 1) w' → Calls Try.prog 20 #[u3, u5] w' fun e w'' => e = .returned (.bool true) ∧ Mid Wx rise fall ps u3 u5 u7 u8 er b10 (.cells #[.bool ok, .float .f64 t] 32) (i + 1) (i + 1) w'' := fun w' h => mid_is hev.out hps.out hn2 h
        have hM1 := mid_below hM.out (below_drewN (Below.refl w5.heap.size w5) 1)
        replace hM1 : Mid Wx rise fall ps u3 u5 u7 u8 er b10 (.cells #[.bool ok, .float .f64 t] 32) i i w5.drew := hM1
        clear hn1 hn2
        have een : (er != er) = false := by simp
        replace hM1 := Lib.hid hM1
        replace hC := Lib.hid hC
        replace c13 := Lib.hid c13
        replace c22 := Lib.hid c22
        replace c20 := Lib.hid c20
        clear x2 x3 hok htk
        go_cut [74] (fun sb wx => sb = .bool false ∧ Head Wx rise fall ps u3 u5 u7 u8 er (i + 1) wx)
        case first =>
          go_region_held3 (fun w' => w'.cell? ⟨b10, 0, Option.none⟩ = some (.bool ok) ∧ w'.cell? ⟨b10, 1, Option.none⟩ = some (.float .f64 t))
            (first | exact hC.out _ _ _ hM1.out | exact hC.out _ _ _ hM4 | exact hC.out _ _ _ hM3 | exact hC.out _ _ _ hM2 | fail)
            (first | (go_at_call 13; with_reducible refine (c13.out _ hM1.out).mono ?_; rintro e w' ⟨rfl, hM2⟩) | (go_at_call 22; with_reducible refine (c22.out _ hM2).mono ?_; rintro e w' ⟨rfl, hM3⟩) | (go_at_call 20; with_reducible refine (c20.out _ hM3).mono ?_; rintro e w' ⟨rfl, hM4⟩) | fail)
          go_wp2
          go_meet
          exact ⟨rfl, head_of hM4⟩
        case rest =>
          obtain ⟨rfl, hH3⟩ := hcut
          clear hM hM1 hC c13 c22 c20 een
          obtain ⟨x0, x1, x2, x3, x4⟩ := hX.out _ hH3.1
          clear x0 x1 x2 x4
          by_cases hic : (i : Int) = cp
          · have hic2 : ((i : Int) == cp) = true := by simp [hic]
            obtain ⟨hB3, hor⟩ := hH3
            rcases hor with ⟨rfl, rfl, rfl, rfl, rfl⟩ | ⟨rfl, bs, bd, pv, base, rfl, rfl, hc⟩
            · have hfin := Lib.hid hB3
              clear hB3
              go_wp2_with (first | (go_at_call 23; refine (copy_nil _).mono ?_; rintro e w' ⟨rfl, rfl⟩) | (go_at_call 24; refine (refcopy_nil _).mono ?_; rintro e w' ⟨rfl, rfl⟩))
              go_roundg (400 - (i + 1))
              case measure => omega
              case rel => exact ⟨i + 1, by omega, by omega, rfl, by go_num, hfin.out, .inl ⟨rfl, rfl, rfl, rfl, rfl⟩⟩
            · have hvt := Lib.hid (hev.out rfl)
              replace hc := Lib.hid hc
              replace hB3 := Lib.hid hB3
              go_wp2_with fail
              refine (copy_any bs _ _ hc.out.s).mono ?_
              rintro e w' ⟨rfl, rfl⟩
              have hc1 := core_below hc.out (Tp.Below_alloc _ (blk (runS (newS rise fall) (ps.take (i + 1)))))
              have c24 := refcopy_any bd rise fall (ps.take (i + 1)) pv _ hc1.rst.blk (rst_rdp hc1.rst) (by rw [List.length_take]; omega)
              have hcc := fun b pv' w' => core_copy (w' := w') hc.out hvt.out hps.out (by omega) (b := b) (pv' := pv')
              replace c24 := Lib.hid c24
              replace hcc := Lib.hid hcc
              clear hc1 x3
              go_wp2_with fail
              refine c24.out.mono ?_
              rintro e w6 ⟨b6, pv6, rfl, hb6, hr6, hbel6⟩
              have hc6 := Lib.hid (hcc.out b6 pv6 w6 hb6 hr6 hbel6)
              clear c24 hcc hb6 hr6 hbel6
              go_wp2_with fail
              go_roundg (400 - (i + 1))
              case measure => omega
              case rel => exact ⟨i + 1, by omega, by omega, rfl, by go_num, hc6.out.below, .inr ⟨rfl, _, _, _, _, rfl, rfl, hc6.out⟩⟩
          · have hic2 : ((i : Int) == cp) = false := by simp [hic]
            replace hH3 := Lib.hid hH3
            clear hic
            go_wp2_with fail
            go_roundg (400 - (i + 1))
            case measure => omega
            case rel => exact ⟨i + 1, by omega, by omega, rfl, by go_num, hH3.out⟩
      · have hd := Lib.hid (head_is hev.out hps.out (by omega) hH2)
        have hfin := Lib.hid (Tp.Below_seq hb0.out hH2.1)
        have hcase : (ps.length : Int) ≤ (i : Int) ∨ ((i : Int) < (ps.length : Int) ∧ (400 : Int) ≤ (i : Int)) := by omega
        rcases head_left hH2 with rfl | ⟨bl, rfl, hleft⟩
        · clear hH2 hl x3
          rcases hcase with h5 | ⟨h5, h6⟩
          all_goals
            go_wp2_with (first | (go_at_call 20; refine hd.out.mono ?_; rintro e w5 ⟨rfl, hb5⟩) | fail)
            go_ret
            exact ⟨rfl, Tp.Below_seq hfin.out hb5⟩
        · replace hleft := Lib.hid hleft
          clear hH2 hl x3
          rcases hcase with h5 | ⟨h5, h6⟩
          all_goals
            go_wp2_with fail
            refine hd.out.mono ?_
            rintro e w5 ⟨rfl, hb5⟩
            go_wp2_with fail
            refine (hleft.out w5 hb5).mono ?_
            rintro e w6 ⟨rfl, hb6⟩
            go_wp2_with fail
            go_ret
            exact ⟨rfl, Tp.Below_seq hfin.out (Tp.Below_seq hb5 hb6)⟩

set_option maxHeartbeats 40000000 in
set_option maxRecDepth 100000 in
theorem runs_bad (rise fall cp : Int) (none : Bool) (hv : ¬ validT rise fall) (ps : List (Bool × Nat)) (hps : ∀ p ∈ ps, p.2 < 18446744073709551616) (v : Value) (w : World) (hrd : RdP w v ps) (hlen : ps.length ≤ 100000000000000) :
    Calls Try.prog 7 #[.agg #[.int .i64 rise, .int .i64 fall, v, .int .i64 cp, .bool none]] w fun e w' => e = .returned (.bool true) ∧ Below w.heap.size w w' := by
  obtain ⟨ao, cap, rfl, hvr⟩ := hrd
  have hb0 := Tp.Below_alloc w (xblk rise fall (.slice ao ps.length cap) cp none)
  have hx0 : (w.alloc (xblk rise fall (.slice ao ps.length cap) cp none)).heap[w.heap.size]? = some (xblk rise fall (.slice ao ps.length cap) cp none) := heap_alloc_new w _
  obtain ⟨Wx, hWx⟩ : ∃ Wx, Wx = w.alloc (xblk rise fall (.slice ao ps.length cap) cp none) := ⟨_, rfl⟩
  rw [← hWx] at hb0 hx0
  have hlx := (Array.getElem?_eq_some_iff.1 hx0).1
  have hX : ∀ w', Below Wx.heap.size Wx w' → w'.cell? ⟨w.heap.size, 0, Option.none⟩ = some (.int .i64 rise) ∧ w'.cell? ⟨w.heap.size, 1, Option.none⟩ = some (.int .i64 fall) ∧ w'.cell? ⟨w.heap.size, 2, Option.none⟩ = some (.slice ao ps.length cap) ∧ w'.cell? ⟨w.heap.size, 3, Option.none⟩ = some (.int .i64 cp) ∧ w'.cell? ⟨w.heap.size, 4, Option.none⟩ = some (.bool none) := fun w' hb => by
    have h := (hb.block _ hlx).trans hx0
    exact ⟨(cell_of_row _ _ 0 _ _ _ h).trans rfl, (cell_of_row _ _ 1 _ _ _ h).trans rfl, (cell_of_row _ _ 2 _ _ _ h).trans rfl, (cell_of_row _ _ 3 _ _ _ h).trans rfl, (cell_of_row _ _ 4 _ _ _ h).trans rfl⟩
  replace hX := Lib.hid hX
  replace hb0 := Lib.hid hb0
  replace hvr := Lib.hid hvr
  replace hps := Lib.hid hps
  clear hx0
  go_enter Try.func7, Try.ntmps7
  go_upto_region 1 with fail
  change Code.wp _ _ _ _ (w.alloc (xblk rise fall (.slice ao ps.length cap) cp none))
  rw [← hWx]
  replace hWx := Lib.hid hWx
  obtain ⟨x0, x1, x2, x3, x4⟩ := hX.out Wx (Below.refl _ _)
  have hv' : ¬ (1 ≤ rise ∧ rise ≤ 100) ∨ ¬ (1 ≤ fall ∧ fall ≤ 100) := by unfold validT at hv; omega
  have n10 := Lib.hid (new_bad rise fall Wx hv')
  have n21 := Lib.hid (fun wz => refnew_bad rise fall wz hv')
  clear hv hv'
  go_wp2_with fail
  refine n10.out.mono ?_
  rintro e w1 ⟨rfl, hb1⟩
  clear x0 x1 x2 x3 x4 n10
  obtain ⟨x0, x1, x2, x3, x4⟩ := hX.out w1 hb1
  have hh := Lib.hid (show ∃ er, Head Wx rise fall ps (.pointer Option.none) (.pointer Option.none) (.pointer Option.none) (.pointer Option.none) er 0 w1 ∧ (er = 0 → validT rise fall) from ⟨1, ⟨hb1, .inl ⟨rfl, rfl, rfl, rfl, rfl⟩⟩, by intro h; cases h⟩)
  have hb4 := Lib.hid hb1
  clear hb1
  go_wp2_with fail
  refine (n21.out _).mono ?_
  rintro e w2 ⟨rfl, rfl⟩
  clear n21
  go_upto_if 39 with fail
  go_cut [3, 5] (fun sv dv wx => ∃ er, Head Wx rise fall ps sv dv (.pointer Option.none) (.pointer Option.none) er 0 wx ∧ (er = 0 → validT rise fall))
  case first =>
    cases none
    · go_wp2_with fail
      go_meet
      exact hh.out
    · go_wp2_with fail
      go_meet
      exact ⟨1, ⟨hb4.out, .inl ⟨rfl, rfl, rfl, rfl, rfl⟩⟩, by intro h; cases h⟩
  case rest =>
    obtain ⟨er, hH, hev⟩ := hcut
    replace hev := Lib.hid hev
    clear x0 x1 x2 x3 x4 hh hb4
    go_wp2_with fail
    go_loopg [3, 7, 8, 9] 400 (fun g sa lv tv ic wr => ∃ i : Nat, i ≤ ps.length ∧ i ≤ 400 ∧ g = 400 - i ∧ ic = .int .i64 i ∧ Head Wx rise fall ps sa u5 lv tv er i wr)
    case atStart => exact ⟨0, by omega, by omega, rfl, rfl, hH⟩
    case round =>
      obtain ⟨i, hi, hi4, rfl, rfl, hH2⟩ := hrel
      clear hH
      obtain ⟨x0, x1, x2, x3, x4⟩ := hX.out wr hH2.1
      clear x0 x1 x4
      by_cases hl : i < ps.length ∧ i < 400
      · obtain ⟨hl1, hl2⟩ := hl
        obtain ⟨b, off, rfl, hbw, hpr⟩ := hvr.out.resolve_left (by rintro rfl; simp at hl1)
        have hpr := hpr.below hbw (Tp.Below_seq hb0.out hH2.1)
        have hok := hpr.ok i hl1
        have htk := hpr.took i hl1
        obtain ⟨p, hp⟩ : ∃ p, ps[i]? = some p := ⟨_, List.getElem?_eq_getElem hl1⟩
        have hpe : ps.getD i (false, 0) = p := by simp [List.getD, hp]
        rw [hpe] at hok htk
        have hp2 : p.2 < 18446744073709551616 := hps.out _ (List.mem_of_getElem? hp)
        obtain ⟨ok, t⟩ := p
        dsimp only at hok htk
        have hi0 : (0 : Int) ≤ (i : Int) := by omega
        have hi1 : (i : Int) < (ps.length : Int) := by omega
        have hi2 : (i : Int) < 400 := by omega
        have hn1 : i ≤ 1000 := by omega
        have hn2 : i + 1 ≤ 1000 := by omega
        have hM := mid_of hH2 (.cells #[.bool ok, .float .f64 t] 32)
        replace hM := Lib.hid hM
        replace hH2 := Lib.hid hH2
        replace hp := Lib.hid hp
        replace hp2 := Lib.hid hp2
        clear hpe hpr
        go_upto_region 14 with fail
        change Code.wp _ _ _ _ (wr.alloc (.cells #[.bool ok, .float .f64 t] 32))
        generalize wr.alloc (.cells #[.bool ok, .float .f64 t] 32) = w5 at *
        generalize wr.heap.size = b10 at *
        have hC : ∀ (nS nD : Nat) w', Mid Wx rise fall ps u3 u5 u7 u8 er b10 (.cells #[.bool ok, .float .f64 t] 32) nS nD w' → w'.cell? ⟨b10, 0, Option.none⟩ = some (.bool ok) ∧ w'.cell? ⟨b10, 1, Option.none⟩ = some (.float .f64 t) := fun nS nD w' h => ⟨(cell_of_row _ _ 0 _ _ _ h.1).trans rfl, (cell_of_row _ _ 1 _ _ _ h.1).trans rfl⟩
        have c13 : ∀ w', Mid Wx rise fall ps u3 u5 u7 u8 er b10 (.cells #[.bool ok, .float .f64 t] 32) i i w' → Calls Try.prog 13 #[u3, .bool ok, .float .f64 t] w' fun e w'' => e = .returned (.int .i64 er) ∧ Mid Wx rise fall ps u3 u5 u7 u8 er b10 (.cells #[.bool ok, .float .f64 t] 32) (i + 1) i w'' := fun w' h => mid_S (p := (ok, t)) h hp.out hp2.out hn1
        have c22 : ∀ w', Mid Wx rise fall ps u3 u5 u7 u8 er b10 (.cells #[.bool ok, .float .f64 t] 32) (i + 1) i w' → Calls Try.prog 22 #[u5, .bool ok, .float .f64 t] w' fun e w'' => e = .returned (.int .i64 er) ∧ Mid Wx rise fall ps u3 u5 u7 u8 er b10 (.cells #[.bool ok, .float .f64 t] 32) (i + 1) (i + 1) w'' := fun w' h => mid_D (p := (ok, t)) h hp.out hn1
        have c20 : ∀ w', Mid Wx rise fall ps u3 u5 u7 u8 er b10 (.cells #[.bool ok, .float .f64 t] 32) (i + 1) (i + 1) w' → Calls Try.prog 20 #[u3, u5] w' fun e w'' => e = .returned (.bool true) ∧ Mid Wx rise fall ps u3 u5 u7 u8 er b10 (.cells #[.bool ok, .float .f64 t] 32) (i + 1) (i + 1) w'' := fun w' h => mid_is hev.out hps.out hn2 h
        have hM1 := mid_below hM.out (below_drewN (Below.refl w5.heap.size w5) 1)
        replace hM1 : Mid Wx rise fall ps u3 u5 u7 u8 er b10 (.cells #[.bool ok, .float .f64 t] 32) i i w5.drew := hM1
        clear hn1 hn2
        have een : (er != er) = false := by simp
        replace hM1 := Lib.hid hM1
        replace hC := Lib.hid hC
        replace c13 := Lib.hid c13
        replace c22 := Lib.hid c22
        replace c20 := Lib.hid c20
        clear x2 x3 hok htk
        go_cut [74] (fun sb wx => sb = .bool false ∧ Head Wx rise fall ps u3 u5 u7 u8 er (i + 1) wx)
        case first =>
          go_region_held3 (fun w' => w'.cell? ⟨b10, 0, Option.none⟩ = some (.bool ok) ∧ w'.cell? ⟨b10, 1, Option.none⟩ = some (.float .f64 t))
            (first | exact hC.out _ _ _ hM1.out | exact hC.out _ _ _ hM4 | exact hC.out _ _ _ hM3 | exact hC.out _ _ _ hM2 | fail)
            (first | (go_at_call 13; with_reducible refine (c13.out _ hM1.out).mono ?_; rintro e w' ⟨rfl, hM2⟩) | (go_at_call 22; with_reducible refine (c22.out _ hM2).mono ?_; rintro e w' ⟨rfl, hM3⟩) | (go_at_call 20; with_reducible refine (c20.out _ hM3).mono ?_; rintro e w' ⟨rfl, hM4⟩) | fail)
          go_wp2
          go_meet
          exact ⟨rfl, head_of hM4⟩
        case rest =>
          obtain ⟨rfl, hH3⟩ := hcut
          clear hM hM1 hC c13 c22 c20 een
          obtain ⟨x0, x1, x2, x3, x4⟩ := hX.out _ hH3.1
          clear x0 x1 x2 x4
          by_cases hic : (i : Int) = cp
          · have hic2 : ((i : Int) == cp) = true := by simp [hic]
            obtain ⟨hB3, hor⟩ := hH3
            rcases hor with ⟨rfl, rfl, rfl, rfl, rfl⟩ | ⟨rfl, bs, bd, pv, base, rfl, rfl, hc⟩
            · have hfin := Lib.hid hB3
              clear hB3
              go_wp2_with (first | (go_at_call 23; refine (copy_nil _).mono ?_; rintro e w' ⟨rfl, rfl⟩) | (go_at_call 24; refine (refcopy_nil _).mono ?_; rintro e w' ⟨rfl, rfl⟩))
              go_roundg (400 - (i + 1))
              case measure => omega
              case rel => exact ⟨i + 1, by omega, by omega, rfl, by go_num, hfin.out, .inl ⟨rfl, rfl, rfl, rfl, rfl⟩⟩
            · have hvt := Lib.hid (hev.out rfl)
              replace hc := Lib.hid hc
              replace hB3 := Lib.hid hB3
              go_wp2_with fail
              refine (copy_any bs _ _ hc.out.s).mono ?_
              rintro e w' ⟨rfl, rfl⟩
              have hc1 := core_below hc.out (Tp.Below_alloc _ (blk (runS (newS rise fall) (ps.take (i + 1)))))
              have c24 := refcopy_any bd rise fall (ps.take (i + 1)) pv _ hc1.rst.blk (rst_rdp hc1.rst) (by rw [List.length_take]; omega)
              have hcc := fun b pv' w' => core_copy (w' := w') hc.out hvt.out hps.out (by omega) (b := b) (pv' := pv')
              replace c24 := Lib.hid c24
              replace hcc := Lib.hid hcc
              clear hc1 x3
              go_wp2_with fail
              refine c24.out.mono ?_
              rintro e w6 ⟨b6, pv6, rfl, hb6, hr6, hbel6⟩
              have hc6 := Lib.hid (hcc.out b6 pv6 w6 hb6 hr6 hbel6)
              clear c24 hcc hb6 hr6 hbel6
              go_wp2_with fail
              go_roundg (400 - (i + 1))
              case measure => omega
              case rel => exact ⟨i + 1, by omega, by omega, rfl, by go_num, hc6.out.below, .inr ⟨rfl, _, _, _, _, rfl, rfl, hc6.out⟩⟩
          · have hic2 : ((i : Int) == cp) = false := by simp [hic]
            replace hH3 := Lib.hid hH3
            clear hic
            go_wp2_with fail
            go_roundg (400 - (i + 1))
            case measure => omega
            case rel => exact ⟨i + 1, by omega, by omega, rfl, by go_num, hH3.out⟩
      · have hd := Lib.hid (head_is hev.out hps.out (by omega) hH2)
        have hfin := Lib.hid (Tp.Below_seq hb0.out hH2.1)
        have hcase : (ps.length : Int) ≤ (i : Int) ∨ ((i : Int) < (ps.length : Int) ∧ (400 : Int) ≤ (i : Int)) := by omega
        rcases head_left hH2 with rfl | ⟨bl, rfl, hleft⟩
        · clear hH2 hl x3
          rcases hcase with h5 | ⟨h5, h6⟩
          all_goals
            go_wp2_with (first | (go_at_call 20; refine hd.out.mono ?_; rintro e w5 ⟨rfl, hb5⟩) | fail)
            go_ret
            exact ⟨rfl, Tp.Below_seq hfin.out hb5⟩
        · replace hleft := Lib.hid hleft
          clear hH2 hl x3
          rcases hcase with h5 | ⟨h5, h6⟩
          all_goals
            go_wp2_with fail
            refine hd.out.mono ?_
            rintro e w5 ⟨rfl, hb5⟩
            go_wp2_with fail
            refine (hleft.out w5 hb5).mono ?_
            rintro e w6 ⟨rfl, hb6⟩
            go_wp2_with fail
            go_ret
            exact ⟨rfl, Tp.Below_seq hfin.out (Tp.Below_seq hb5 hb6)⟩

theorem runs (rise fall cp : Int) (none : Bool) (ps : List (Bool × Nat)) (hps : ∀ p ∈ ps, p.2 < 18446744073709551616) (v : Value) (w : World) (hrd : RdP w v ps) (hlen : ps.length ≤ 100000000000000) :
    Calls Try.prog 7 #[.agg #[.int .i64 rise, .int .i64 fall, v, .int .i64 cp, .bool none]] w fun e w' => e = .returned (.bool true) ∧ Below w.heap.size w w' := by
  by_cases hv : validT rise fall
  · exact runs_ok rise fall cp none hv ps hps v w hrd hlen
  · exact runs_bad rise fall cp none hv ps hps v w hrd hlen
theorem walk {H : Type} (enc : TypeId × Value → H) (W : World) (base : Nat) (args : Array Value) (ds : List (DataW H)) (p : List MemPlace)
    (hval0 : ∀ (j : Nat) t v, Try.f7.params[j]? = some t → args[j]? = some v → Value.okWide Try.prog W .any base t v)
    (hA : DataW.TrodAll enc Try.prog W 0 (fun _ => true) true Try.f7.params.toList args.toList ds p)
    (hsz : (DataW.weightsEach Try.prog Try.f7.params.toList ds).all (· ≤ reachBytes) = true) :
    Calls Try.prog 7 args W fun e w' => e = .returned (.bool true) ∧ Below W.heap.size W w' := by
  have hval : ∀ (j : Nat) t v, Try.f7.params[j]? = some t → args[j]? = some v → Value.okWide Try.prog W .any base t v := hval0
  rw [Try.params7] at hA hval hsz
  obtain ⟨v0, d0, rfl, rfl, h0⟩ := trodAll_one hA
  obtain ⟨ra, fa, ca, na, va, psa, rfl, ha1, ha2, ha3, _⟩ := open_run (hval 0 37 v0 rfl rfl) h0 hsz (j := 0) rfl rfl
  exact runs ra fa ca na psa ha2 va W ha1 (by omega)
end Go.Proofs.Yteedjgkinmkmoaa.healthRuns
