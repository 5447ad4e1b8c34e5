/- The walk of the law on D's steps: any tables, any request. -/
import Derived.Test.YtnnoccojjeadhaaShare
import Derived.Test.YtnnoccojjeadhaaOpen
import Derived.Test.YtnnoccojjeadhaaFrame
import Derived.Deep.RegionHeld3
import Derived.StillTailTactics
namespace Go.Proofs.Ytnnoccojjeadhaa.decideSteps
open Go.ChangeShapes Go.WideShapes Go.ChangeAt Go.RowKit
open Go.Pa Go.Dec
set_option linter.unusedVariables false

def tblk (ver : Int) (v1 v2 : Value) : Obj := .cells #[.int .i64 ver, v1, v2] 25
def qblk (m h p : ByteArray) (u : Nat) (n a b : Int) : Obj := .cells #[.string m, .string h, .string p, .float .f64 u, .int .i64 n, .int .u64 a, .int .u64 b] 29
set_option maxHeartbeats 4000000 in
set_option maxRecDepth 100000 in
theorem steps (ver : Int) (v1 v2 : Value) (hs : List Host) (m h p : ByteArray) (u : Nat) (n a b : Int) (w : World) (hm : m.size ≤ maxLen) (hh : h.size ≤ maxLen) (hp : p.size ≤ maxLen) (hrd : Rd.SliceOf hostE w v1 hs) :
    Calls Try.prog 3 #[.agg #[.int .i64 ver, v1, v2], .agg #[.string m, .string h, .string p, .float .f64 u, .int .i64 n, .int .u64 a, .int .u64 b]] w fun e w' => e = .returned (.bool true) ∧ Below w.heap.size w w' := by
  have hlen := hrd.1
  obtain ⟨ao, cap, hv⟩ : ∃ ao cap, v1 = .slice ao hs.length cap := by obtain ⟨_, ao, cap, rfl, _⟩ := hrd; exact ⟨_, _, rfl⟩
  replace hv := Lib.hid hv
  have hb0 := Tp.Below_seq (Tp.Below_alloc w (tblk ver v1 v2)) (Tp.Below_alloc _ (qblk m h p u n a b))
  have hxa : ((w.alloc (tblk ver v1 v2)).alloc (qblk m h p u n a b)).heap[w.heap.size]? = some (tblk ver v1 v2) := (Below.heap_alloc _ _ _ (by simp)).trans (heap_alloc_new w _)
  have hxb : ((w.alloc (tblk ver v1 v2)).alloc (qblk m h p u n a b)).heap[w.heap.size + 1]? = some (qblk m h p u n a b) := by
    have h := heap_alloc_new (w.alloc (tblk ver v1 v2)) (qblk m h p u n a b)
    simpa using h
  obtain ⟨wb, hwb⟩ : ∃ wb, wb = (w.alloc (tblk ver v1 v2)).alloc (qblk m h p u n a b) := ⟨_, rfl⟩
  rw [← hwb] at hb0 hxa hxb
  have la := (Array.getElem?_eq_some_iff.1 hxa).1
  have lb := (Array.getElem?_eq_some_iff.1 hxb).1
  have hS : ∀ w', Below wb.heap.size wb w' → Below wb.heap.size wb w' ∧ w'.cell? ⟨w.heap.size, 0, none⟩ = some (.int .i64 ver) ∧ w'.cell? ⟨w.heap.size, 1, none⟩ = some v1 ∧ w'.cell? ⟨w.heap.size, 2, none⟩ = some v2 ∧
      w'.cell? ⟨w.heap.size + 1, 0, none⟩ = some (.string m) ∧ w'.cell? ⟨w.heap.size + 1, 1, none⟩ = some (.string h) ∧ w'.cell? ⟨w.heap.size + 1, 2, none⟩ = some (.string p) ∧ w'.cell? ⟨w.heap.size + 1, 3, none⟩ = some (.float .f64 u) := by
    intro w' hb
    have ha := (hb.block _ la).trans hxa
    have hb2 := (hb.block _ lb).trans hxb
    exact ⟨hb, (cell_of_row _ _ 0 _ _ _ ha).trans rfl, (cell_of_row _ _ 1 _ _ _ ha).trans rfl, (cell_of_row _ _ 2 _ _ _ ha).trans rfl, (cell_of_row _ _ 0 _ _ _ hb2).trans rfl, (cell_of_row _ _ 1 _ _ _ hb2).trans rfl, (cell_of_row _ _ 2 _ _ _ hb2).trans rfl, (cell_of_row _ _ 3 _ _ _ hb2).trans rfl⟩
  have c6 : ∀ w', Below wb.heap.size wb w' → Calls Try.prog 6 #[.agg #[.int .i64 ver, v1, v2], .string h] w' fun e w'' => e = .returned (.int .i64 (firstI (takesH h.data.toList) hs)) ∧ Below w'.heap.size w' w'' := fun w' hb => find6 ver v1 v2 hs h w' hh (hrd.below (Tp.Below_seq hb0 hb))
  have c7 : ∀ w', Below wb.heap.size wb w' → Calls Try.prog 7 #[.agg #[.int .i64 ver, v1, v2], .string h] w' fun e w'' => e = .returned (.int .i64 (firstI (takesH h.data.toList) hs)) ∧ Below w'.heap.size w' w'' := fun w' hb => find7 ver v1 v2 hs h w' hh (hrd.below (Tp.Below_seq hb0 hb))
  generalize firstI (takesH h.data.toList) hs = fi at *
  have hS1 : ∀ w', Below wb.heap.size wb w' → Below wb.heap.size wb w' ∧ w'.cell? ⟨w.heap.size, 0, none⟩ = some (.int .i64 ver) ∧ w'.cell? ⟨w.heap.size, 1, none⟩ = some v1 ∧ w'.cell? ⟨w.heap.size, 2, none⟩ = some v2 ∧ w'.cell? ⟨w.heap.size + 1, 1, none⟩ = some (.string h) := fun w' hb => by
    obtain ⟨x1, x2, x3, x4, x5, x6, x7, x8⟩ := hS w' hb
    exact ⟨x1, x2, x3, x4, x6⟩
  replace hS1 := Lib.hid hS1
  replace hS := Lib.hid hS
  replace c6 := Lib.hid c6
  replace c7 := Lib.hid c7
  clear hxa hxb
  go_enter Try.func3, Try.ntmps3
  go_upto_region 1 with fail
  change Code.wp _ _ _ _ ((w.alloc (tblk ver v1 v2)).alloc (qblk m h p u n a b))
  rw [← hwb]
  replace hwb := Lib.hid hwb
  go_cut [19] (fun sv wx => sv = .bool false ∧ Below wb.heap.size wb wx)
  case first =>
    go_region_held3 (fun w' => Below wb.heap.size wb w' ∧ w'.cell? ⟨w.heap.size, 0, none⟩ = some (.int .i64 ver) ∧ w'.cell? ⟨w.heap.size, 1, none⟩ = some v1 ∧ w'.cell? ⟨w.heap.size, 2, none⟩ = some v2 ∧ w'.cell? ⟨w.heap.size + 1, 1, none⟩ = some (.string h))
      (first | exact hS1.out _ (below_drewN (Below.refl _ _) 1) | exact hS1.out _ (by assumption) | exact hS1.out _ (Tp.Below_seq (Tp.Below_seq (below_drewN (Below.refl _ _) 1) hb') hb'') | exact hS1.out _ (Tp.Below_seq (below_drewN (Below.refl _ _) 1) hb'))
      (first
        | (go_at_call 6; (refine (c6.out _ ?_).mono ?_); (first | assumption | exact below_drewN (Below.refl _ _) 1); rintro e w' ⟨rfl, hb'⟩)
        | (go_at_call 7; (refine (c7.out _ (Tp.Below_seq (below_drewN (Below.refl _ _) 1) hb')).mono ?_); rintro e w' ⟨rfl, hb''⟩))
    go_wp2_with fail
    go_meet
    exact ⟨rfl, Tp.Below_seq (Tp.Below_seq (below_drewN (Below.refl _ _) 1) hb') hb''⟩
  case rest =>
    obtain ⟨rfl, hb1⟩ := hcut
    clear c6 c7 hS1
    replace hrd := Lib.hid hrd
    replace hb0 := Lib.hid hb0
    obtain rfl := hv.out
    clear hv
    go_wp2_with fail
    go_loopg [5] hs.length (fun g ic wr => ∃ i : Nat, i ≤ hs.length ∧ g = hs.length - i ∧ ic = .int .i64 i ∧ Below wb.heap.size wb wr)
    case atStart => exact ⟨0, by omega, rfl, rfl, hb1⟩
    case round =>
      obtain ⟨i, hi, rfl, rfl, hbr⟩ := hrel
      clear hb1
      obtain ⟨y0, y1, y2, y3, y4, y5, y6, y7⟩ := hS.out wr hbr
      by_cases hlt : i < hs.length
      · obtain ⟨bh, off, cap', hv, hbw, hx⟩ := hrd.out.at (by rintro rfl; simp at hlt)
        cases hv
        have hxi := List.getElem?_eq_getElem hlt
        have hr := Rd.Elem.up hostE (hx i _ hxi) hb0.out (fun j _ => hb0.out.cell (by exact hbw))
        generalize hs[i] = x at *
        obtain ⟨⟨q0, s0⟩, ⟨q1, s1⟩, ⟨ve, q2, r2⟩, ⟨vp, q3, r3⟩, _⟩ := hr
        have hbw2 : bh < wb.heap.size := Nat.lt_of_lt_of_le hbw hb0.out.size
        have hH : ∀ w', Below wb.heap.size wb w' → w'.cell? ⟨bh, off + i * 4, none⟩ = some (.string x.1) ∧ w'.cell? ⟨bh, off + i * 4 + 1, none⟩ = some (.string x.2.1) ∧ w'.cell? ⟨bh, off + i * 4 + 2, none⟩ = some ve ∧ w'.cell? ⟨bh, off + i * 4 + 3, none⟩ = some vp := fun w' hb =>
          ⟨(hb.cell (by exact hbw2)).trans q0, (hb.cell (by exact hbw2)).trans q1, (hb.cell (by exact hbw2)).trans q2, (hb.cell (by exact hbw2)).trans q3⟩
        have hi1 : (i : Int) < (hs.length : Int) := by omega
        have c8 : ∀ w', Below wb.heap.size wb w' → Calls Try.prog 8 #[.agg #[.string x.1, .string x.2.1, ve, vp], .string m, .string p] w' fun e w'' => e = .returned (.tuple #[.bool (allowB (takesP m.data.toList p.data.toList) x.2.2.2.1), .int .i64 (firstI (takesP m.data.toList p.data.toList) x.2.2.2.1)]) ∧ Below w'.heap.size w' w'' := fun w' hb => allowed8 _ _ _ _ _ m p w' hm hp (r3.below hb)
        have c9 : ∀ w', Below wb.heap.size wb w' → Calls Try.prog 9 #[.agg #[.string x.1, .string x.2.1, ve, vp], .string m, .string p] w' fun e w'' => e = .returned (.tuple #[.bool (allowB (takesP m.data.toList p.data.toList) x.2.2.2.1), .int .i64 (firstI (takesP m.data.toList p.data.toList) x.2.2.2.1)]) ∧ Below w'.heap.size w' w'' := fun w' hb => allowed9 _ _ _ _ _ m p w' hm hp (r3.below hb)
        have c10 : ∀ w', Below wb.heap.size wb w' → Calls Try.prog 10 #[.agg #[.string x.1, .string x.2.1, ve, vp], .string m, .string p] w' fun e w'' => e = .returned (.int .i64 (firstI (takesE m.data.toList p.data.toList) x.2.2.1)) ∧ Below w'.heap.size w' w'' := fun w' hb => rule10 _ _ _ _ _ m p w' hm hp (r2.below hb)
        have c11 : ∀ w', Below wb.heap.size wb w' → Calls Try.prog 11 #[.agg #[.string x.1, .string x.2.1, ve, vp], .string m, .string p] w' fun e w'' => e = .returned (.int .i64 (firstI (takesE m.data.toList p.data.toList) x.2.2.1)) ∧ Below w'.heap.size w' w'' := fun w' hb => rule11 _ _ _ _ _ m p w' hm hp (r2.below hb)
        generalize allowB (takesP m.data.toList p.data.toList) x.2.2.2.1 = al at *
        generalize firstI (takesP m.data.toList p.data.toList) x.2.2.2.1 = ai at *
        generalize firstI (takesE m.data.toList p.data.toList) x.2.2.1 = ri at *
        obtain ⟨ae, cape, hve⟩ : ∃ ao cap, ve = .slice ao x.2.2.1.length cap := by obtain ⟨_, ao, cap, rfl, _⟩ := r2; exact ⟨_, _, rfl⟩
        have hle := r2.1
        have hSH : ∀ w', Below wb.heap.size wb w' → Below wb.heap.size wb w' ∧ w'.cell? ⟨w.heap.size, 1, none⟩ = some (.slice (some ⟨bh, off, none⟩) hs.length cap) ∧ w'.cell? ⟨bh, off + i * 4, none⟩ = some (.string x.1) ∧ w'.cell? ⟨bh, off + i * 4 + 1, none⟩ = some (.string x.2.1) ∧ w'.cell? ⟨bh, off + i * 4 + 2, none⟩ = some ve ∧ w'.cell? ⟨bh, off + i * 4 + 3, none⟩ = some vp ∧ w'.cell? ⟨w.heap.size + 1, 0, none⟩ = some (.string m) ∧ w'.cell? ⟨w.heap.size + 1, 2, none⟩ = some (.string p) := fun w' hb => by
          obtain ⟨y0, y1, y2, y3, y4, y5, y6, y7⟩ := hS.out w' hb
          obtain ⟨h0, h1, h2, h3⟩ := hH w' hb
          exact ⟨hb, y2, h0, h1, h2, h3, y4, y6⟩
        replace hH := Lib.hid hH
        replace hSH := Lib.hid hSH
        replace r2 := Lib.hid r2
        replace r3 := Lib.hid r3
        replace c8 := Lib.hid c8
        replace c9 := Lib.hid c9
        replace c10 := Lib.hid c10
        replace c11 := Lib.hid c11
        replace hve := Lib.hid hve
        replace hbr := Lib.hid hbr
        clear hx hxi q0 q1 q2 q3 y0
        go_upto_region 6 with fail
        go_cut [6, 7] (fun sa sb wx => sa = .bool al ∧ sb = .int .i64 ai ∧ Below wb.heap.size wb wx)
        case first =>
          go_region_held3 (fun w' => Below wb.heap.size wb w' ∧ w'.cell? ⟨w.heap.size, 1, none⟩ = some (.slice (some ⟨bh, off, none⟩) hs.length cap) ∧ w'.cell? ⟨bh, off + i * 4, none⟩ = some (.string x.1) ∧ w'.cell? ⟨bh, off + i * 4 + 1, none⟩ = some (.string x.2.1) ∧ w'.cell? ⟨bh, off + i * 4 + 2, none⟩ = some ve ∧ w'.cell? ⟨bh, off + i * 4 + 3, none⟩ = some vp ∧ w'.cell? ⟨w.heap.size + 1, 0, none⟩ = some (.string m) ∧ w'.cell? ⟨w.heap.size + 1, 2, none⟩ = some (.string p))
            (first | exact hSH.out _ (below_drewN hbr.out 1) | exact hSH.out _ (Tp.Below_seq (below_drewN hbr.out 1) hb'))
            (first | (go_at_call 8; (refine (c8.out _ (below_drewN hbr.out 1)).mono ?_); rintro e w' ⟨rfl, hb'⟩))
          go_wp2_with fail
          go_meet
          exact ⟨rfl, rfl, Tp.Below_seq (below_drewN hbr.out 1) hb'⟩
        case rest =>
          obtain ⟨rfl, rfl, hb2⟩ := hcut
          replace hb2 := Lib.hid hb2
          clear hbr y1 y2 y3 y4 y5 y6 y7 c8
          go_upto_region 7 with fail
          go_cut [8, 9] (fun sa sb wx => sa = .bool al ∧ sb = .int .i64 ai ∧ Below wb.heap.size wb wx)
          case first =>
            go_region_held3 (fun w' => Below wb.heap.size wb w' ∧ w'.cell? ⟨w.heap.size, 1, none⟩ = some (.slice (some ⟨bh, off, none⟩) hs.length cap) ∧ w'.cell? ⟨bh, off + i * 4, none⟩ = some (.string x.1) ∧ w'.cell? ⟨bh, off + i * 4 + 1, none⟩ = some (.string x.2.1) ∧ w'.cell? ⟨bh, off + i * 4 + 2, none⟩ = some ve ∧ w'.cell? ⟨bh, off + i * 4 + 3, none⟩ = some vp ∧ w'.cell? ⟨w.heap.size + 1, 0, none⟩ = some (.string m) ∧ w'.cell? ⟨w.heap.size + 1, 2, none⟩ = some (.string p))
              (first | exact hSH.out _ (below_drewN hb2.out 1) | exact hSH.out _ (Tp.Below_seq (below_drewN hb2.out 1) hb'))
              (first | (go_at_call 9; (refine (c9.out _ (below_drewN hb2.out 1)).mono ?_); rintro e w' ⟨rfl, hb'⟩))
            go_wp2_with fail
            go_meet
            exact ⟨rfl, rfl, Tp.Below_seq (below_drewN hb2.out 1) hb'⟩
          case rest =>
            obtain ⟨rfl, rfl, hb3⟩ := hcut
            replace hb3 := Lib.hid hb3
            clear hb2 c9
            go_upto_region 8 with fail
            go_cut [83] (fun sa wx => sa = .bool false ∧ Below wb.heap.size wb wx)
            case first =>
              have eal : (al != al) = false := by simp
              have eai : (ai != ai) = false := by simp
              have eri : (ri != ri) = false := by simp
              go_region_held3 (fun w' => Below wb.heap.size wb w' ∧ w'.cell? ⟨w.heap.size, 1, none⟩ = some (.slice (some ⟨bh, off, none⟩) hs.length cap) ∧ w'.cell? ⟨bh, off + i * 4, none⟩ = some (.string x.1) ∧ w'.cell? ⟨bh, off + i * 4 + 1, none⟩ = some (.string x.2.1) ∧ w'.cell? ⟨bh, off + i * 4 + 2, none⟩ = some ve ∧ w'.cell? ⟨bh, off + i * 4 + 3, none⟩ = some vp ∧ w'.cell? ⟨w.heap.size + 1, 0, none⟩ = some (.string m) ∧ w'.cell? ⟨w.heap.size + 1, 2, none⟩ = some (.string p))
                (first | exact hSH.out _ (below_drewN hb3.out 1) | exact hSH.out _ (Tp.Below_seq (Tp.Below_seq (below_drewN hb3.out 1) hb') hb'') | exact hSH.out _ (Tp.Below_seq (below_drewN hb3.out 1) hb'))
                (first | (go_at_call 10; (refine (c10.out _ (below_drewN hb3.out 1)).mono ?_); rintro e w' ⟨rfl, hb'⟩) | (go_at_call 11; (refine (c11.out _ (Tp.Below_seq (below_drewN hb3.out 1) hb')).mono ?_); rintro e w' ⟨rfl, hb''⟩))
              go_wp2_with fail
              go_meet
              exact ⟨rfl, Tp.Below_seq (Tp.Below_seq (below_drewN hb3.out 1) hb') hb''⟩
            case rest =>
              obtain ⟨rfl, hb4⟩ := hcut
              clear hb3 c10 c11 hSH
              obtain rfl := hve.out
              go_wp2_with fail
              go_loopg [10] x.2.2.1.length (fun g kc wx => ∃ k : Nat, k ≤ x.2.2.1.length ∧ g = x.2.2.1.length - k ∧ kc = .int .i64 k ∧ Below wb.heap.size wb wx)
              case atStart => exact ⟨0, by omega, rfl, rfl, hb4⟩
              case round =>
                obtain ⟨k, hk, rfl, rfl, hbx⟩ := hrel
                clear hb4
                obtain ⟨y0, y1, y2, y3, y4, y5, y6, y7⟩ := hS.out wr hbx
                obtain ⟨h0, h1, h2, h3⟩ := hH.out wr hbx
                by_cases hlk : k < x.2.2.1.length
                · obtain ⟨be, offe, cap'', hv, hbe, hxx⟩ := r2.out.at (by intro h; rw [h] at hlk; simp at hlk)
                  cases hv
                  have hxk := List.getElem?_eq_getElem hlk
                  have hr := hxx k _ hxk
                  generalize x.2.2.1[k] = y at *
                  obtain ⟨⟨q0, s0⟩, ⟨q1, s1⟩, ⟨vs, q2, r4⟩, _⟩ := hr
                  have hk1 : (k : Int) < (x.2.2.1.length : Int) := by omega
                  have c12 : ∀ w', Below wb.heap.size wb w' → Calls Try.prog 12 #[.agg #[.string y.1, .string y.2.1, vs], .float .f64 u] w' fun e w'' => e = .returned (.string (shareOf u y.2.2.1)) ∧ Below w'.heap.size w' w'' := fun w' hb => share12 _ _ _ _ u w' (r4.below hb)
                  have c13 : ∀ w', Below wb.heap.size wb w' → Calls Try.prog 13 #[.agg #[.string y.1, .string y.2.1, vs], .float .f64 u] w' fun e w'' => e = .returned (.string (shareOf u y.2.2.1)) ∧ Below w'.heap.size w' w'' := fun w' hb => share13 _ _ _ _ u w' (r4.below hb)
                  generalize shareOf u y.2.2.1 = sh at *
                  have esh : (sh.toList != sh.toList) = false := by simp
                  have esh2 : (sh.toList == sh.toList) = true := by simp
                  have hSE : ∀ w', Below wb.heap.size wb w' → Below wb.heap.size wb w' ∧ w'.cell? ⟨w.heap.size, 1, none⟩ = some (.slice (some ⟨bh, off, none⟩) hs.length cap) ∧ w'.cell? ⟨bh, off + i * 4 + 2, none⟩ = some (.slice (some ⟨be, offe, none⟩) x.2.2.1.length cape) ∧ w'.cell? ⟨be, offe + k * 3, none⟩ = some (.string y.1) ∧ w'.cell? ⟨be, offe + k * 3 + 1, none⟩ = some (.string y.2.1) ∧ w'.cell? ⟨be, offe + k * 3 + 2, none⟩ = some vs ∧ w'.cell? ⟨w.heap.size + 1, 3, none⟩ = some (.float .f64 u) := fun w' hb => by
                    obtain ⟨y0, y1, y2, y3, y4, y5, y6, y7⟩ := hS.out w' hb
                    obtain ⟨h0, h1, h2, h3⟩ := hH.out w' hb
                    exact ⟨hb, y2, h2, (hb.cell (by exact hbe)).trans q0, (hb.cell (by exact hbe)).trans q1, (hb.cell (by exact hbe)).trans q2, y7⟩
                  replace hSE := Lib.hid hSE
                  replace c12 := Lib.hid c12
                  replace c13 := Lib.hid c13
                  replace hbx := Lib.hid hbx
                  clear hxx hxk q0 q1 q2 y0
                  go_upto_region 13 with fail
                  go_cut [119] (fun sa wx => sa = .bool false ∧ Below wb.heap.size wb wx)
                  case first =>
                    go_region_held3 (fun w' => Below wb.heap.size wb w' ∧ w'.cell? ⟨w.heap.size, 1, none⟩ = some (.slice (some ⟨bh, off, none⟩) hs.length cap) ∧ w'.cell? ⟨bh, off + i * 4 + 2, none⟩ = some (.slice (some ⟨be, offe, none⟩) x.2.2.1.length cape) ∧ w'.cell? ⟨be, offe + k * 3, none⟩ = some (.string y.1) ∧ w'.cell? ⟨be, offe + k * 3 + 1, none⟩ = some (.string y.2.1) ∧ w'.cell? ⟨be, offe + k * 3 + 2, none⟩ = some vs ∧ w'.cell? ⟨w.heap.size + 1, 3, none⟩ = some (.float .f64 u))
                      (first | exact hSE.out _ (below_drewN hbx.out 1) | exact hSE.out _ (Tp.Below_seq (Tp.Below_seq (below_drewN hbx.out 1) hb') hb'') | exact hSE.out _ (Tp.Below_seq (below_drewN hbx.out 1) hb'))
                      (first | (go_at_call 12; (refine (c12.out _ (below_drewN hbx.out 1)).mono ?_); rintro e w' ⟨rfl, hb'⟩) | (go_at_call 13; (refine (c13.out _ (Tp.Below_seq (below_drewN hbx.out 1) hb')).mono ?_); rintro e w' ⟨rfl, hb''⟩))
                    go_wp2_with fail
                    go_meet
                    exact ⟨rfl, Tp.Below_seq (Tp.Below_seq (below_drewN hbx.out 1) hb') hb''⟩
                  case rest =>
                    obtain ⟨rfl, hb5⟩ := hcut
                    replace hb5 := Lib.hid hb5
                    clear c12 c13 hSE hbx y1 y2 y3 y4 y5 y6 y7 h0 h1 h2 h3
                    go_wp2
                    go_roundg (x.2.2.1.length - (k + 1))
                    case measure => omega
                    case rel => exact ⟨k + 1, by omega, rfl, by go_num, hb5.out⟩
                · have hk1 : (x.2.2.1.length : Int) ≤ (k : Int) := by omega
                  replace hbx := Lib.hid hbx
                  clear y0
                  go_wp2
                  go_roundg (hs.length - (i + 1))
                  case measure => omega
                  case rel => exact ⟨i + 1, by omega, rfl, by go_num, hbx.out⟩
      · have hi1 : (hs.length : Int) ≤ (i : Int) := by omega
        have hfin := Lib.hid (Tp.Below_seq hb0.out hbr)
        clear hbr y0
        go_wp2
        go_ret
        exact ⟨rfl, hfin.out⟩

theorem walk {H : Type} (enc : TypeId × Value → H) (W : World) (base : Nat) (args : Array Value) (ds : List (DataW H)) (p : List MemPlace)
    (hval0 : ∀ (j : Nat) t v, Try.f3.params[j]? = some t → args[j]? = some v → Value.okWide Try.prog W .any base t v)
    (hA : DataW.TrodAll enc Try.prog W 0 (fun _ => true) true Try.f3.params.toList args.toList ds p)
    (hsz : (DataW.weightsEach Try.prog Try.f3.params.toList ds).all (· ≤ reachBytes) = true) :
    Calls Try.prog 3 args W fun e w' => e = .returned (.bool true) ∧ Below W.heap.size W w' := by
  have hval : ∀ (j : Nat) t v, Try.f3.params[j]? = some t → args[j]? = some v → Value.okWide Try.prog W .any base t v := hval0
  rw [Try.params3] at hA hval hsz
  obtain ⟨v0, v1, d0, d1, p0, p1, rfl, rfl, rfl, h0, h1⟩ := trodAll_two hA
  obtain ⟨t, u1, u2, rfl, _, r1, _⟩ := open_tables (hval 0 25 v0 rfl rfl) h0 hsz (j := 0) rfl rfl
  obtain ⟨m, h, pa, u, n, a, b, rfl, hm, hh, hp, _⟩ := open_req (hval 1 29 v1 rfl rfl) h1 hsz (j := 1) rfl rfl
  exact steps t.1 u1 u2 t.2.1 m h pa u n a b W hm hh hp r1
end Go.Proofs.Ytnnoccojjeadhaa.decideSteps
