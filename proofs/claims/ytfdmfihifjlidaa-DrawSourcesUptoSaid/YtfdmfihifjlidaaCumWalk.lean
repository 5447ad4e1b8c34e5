/- The walk of draw.Cumulate: any weights. -/
import Derived.Test.YtfdmfihifjlidaaBase
import Derived.Test.YtfdmfihifjlidaaCum
import Derived.Test.YtfdmfihifjlidaaMem
namespace Go.Proofs.Ytfdmfihifjlidaa
open Go.ChangeShapes Go.WideShapes Go.ChangeAt Go.RowKit
open Cum (sumTo sums lastTo outs good)

theorem isinf_any (x : Nat) (hx : x ≤ Fl.INF) (w : World) :
    Calls Try.prog 35 #[.float .f64 x, .int .i64 1] w fun e w' => e = .returned (.bool (decide (x = Fl.INF))) ∧ w = w' := by
  have e : (FloatKind.f64.format.order x 9218868437227405311 == some .gt) = decide (x = Fl.INF) := by
    show (Fl.dbl.order x 9218868437227405311 == some .gt) = _
    rcases Nat.lt_or_ge x Fl.INF with h | h
    · rw [Fl.order_eq x _ h (by decide)]
      have h1 : decide (x = Fl.INF) = false := by rw [decide_eq_false_iff_not]; omega
      rw [h1]
      have h2 : x ≤ 9218868437227405311 := by unfold Fl.INF at h; omega
      simp only [compare, compareOfLessAndEq]
      split
      · rfl
      · rw [if_pos (by omega)]; rfl
    · obtain rfl : x = Fl.INF := Nat.le_antisymm hx h
      decide +kernel
  replace e := Lib.hid e
  go_enter Try.func35, Try.ntmps35
  go_wp2
  go_ret
  exact ⟨by rw [← e.out]; rfl, rfl⟩

theorem Try.info29 : (Try.prog.info? 29).map (fun i => (i.zero, i.size, i.bytes)) = some (some (.float .f64 0), 1, 8) := by kernel_rfl

/-- What Cumulate hands back. -/
def CumPost (ws : List Nat) (W : World) (e : Ending) (w' : World) : Prop :=
  (good ws = false ∧ e = .returned (.tuple #[.slice none 0 0, .int .i64 2]) ∨
   good ws = true ∧ ∃ v, e = .returned (.tuple #[v, .int .i64 0]) ∧ w'.ownsRow W.heap.size 29 1 v ws.length ((outs ws).map (Value.float .f64))) ∧ Below W.heap.size W w'

set_option maxHeartbeats 1000000 in
theorem cum_some (ws : List Nat) (hw : ∀ x ∈ ws, x < 18446744073709551616) (b off cap : Nat) (w : World) (hb : b < w.heap.size) (hc : ∀ i, i < ws.length → w.cell? ⟨b, off + i, none⟩ = some (.float .f64 (ws.getD i 0)))
    (hn : 0 < ws.length) (hlen : ws.length * 8 ≤ 140737488351232) :
    Calls Try.prog 23 #[.slice (some ⟨b, off, none⟩) ws.length cap] w (CumPost ws w) := by
  obtain ⟨i0, hi, hz0, hz1, hz2⟩ := info_parts Try.info29
  go_enter Try.func23, Try.ntmps23
  go_wp2
  go_loopw [4, 5, 6, 12] (fun v s l i wr => ∃ k : Nat, k ≤ ws.length ∧ i = .int .i64 k ∧ s = .float .f64 (sumTo ws k) ∧ l = .int .i64 (lastTo ws k) ∧
      wr.ownsRow w.heap.size 29 1 v k ((sums ws k).map (Value.float .f64)) ∧ Below w.heap.size w wr ∧ (ws.take k).all Fl.ge = true)
    (fun _ _ _ i _ => ws.length - (intOf i).toNat)
  case atStart => exact ⟨0, by omega, rfl, rfl, rfl, World.ownsRow_nil _ _ _ _, Below.refl _ _, rfl⟩
  case round =>
    obtain ⟨k, hk, rfl, rfl, rfl, hown, hbel, hall⟩ := hrel
    have hbd := Cum.lastTo_bd ws k
    by_cases hlt : k < ws.length
    · have hcx := (hbel.cell (by exact hb)).trans (hc k hlt)
      have hs := hbel.size
      obtain ⟨x, hx⟩ : ∃ x, x = ws.getD k 0 := ⟨_, rfl⟩
      rw [← hx] at hcx
      have hx64 : x < 18446744073709551616 := by rw [hx]; exact Cum.getD_lt hw k
      have hgd : Fl.ge x = (FloatKind.f64.format.order x 0 == some Ordering.gt || FloatKind.f64.format.order x 0 == some Ordering.eq) := rfl
      have hpd : Fl.pos x = (FloatKind.f64.format.order x 0 == some Ordering.gt) := rfl
      by_cases hge : Fl.ge x = true
      · have hall' := Cum.all_take hlt hall (by rw [← hx]; exact hge)
        have hadd : ∀ w, (binOp .add 29 (.float .f64 (sumTo ws k)) (.float .f64 x)).run Try.prog w = .ok (.float .f64 (sumTo ws (k + 1))) w := fun w => run_float_arith w _ _ _ _ _ _ (by
          have := Cum.add_step ws hw k hlt hall (by rw [← hx]; exact hge)
          rw [hx]; exact this)
        have hl1 : lastTo ws (k + 1) = if Fl.pos x then (k : Int) else lastTo ws k := by rw [hx]; rfl
        replace hl1 := Lib.hid hl1
        have hss := Lib.hid (Cum.sums_succ ws k)
        have hall'' := Lib.hid hall'
        clear hall hall' hx hx64 hc hgd
        by_cases hpos : Fl.pos x = true
        · have hA : (FloatKind.f64.format.order x 0 == some Ordering.gt) = true := hpos
          have hl2 : lastTo ws (k + 1) = (k : Int) := by rw [hl1.out, if_pos hpos]
          replace hl2 := Lib.hid hl2
          clear hpos hge hpd hl1
          go_wp2_with (at_builtin; refine Tp.wpList_append_one rfl _ _ 47 rfl w.heap.size 29 i0 (.float .f64 0) 8 Try.underlying47 hi hz0 hz1 hz2 rfl _ _ _ rfl hown 1 rfl rfl (by unfold maxLen; omega) (by omega) hs ?_; intro v' w1 hown' hg' hbel' _)
          have hbel2 := hbel' _ _ hbel (Nat.le_refl _)
          clear hbel' hbel hown hg'
          go_roundw
          case rel => exact ⟨k + 1, by omega, by go_num, rfl, by rw [hl2.out], by rw [hss.out, List.map_append]; exact hown', hbel2, hall''.out⟩
          case measure => simp [intOf]; omega
        · have hge3 := hge
          rw [show Fl.ge x = (Fl.pos x || FloatKind.f64.format.order x 0 == some Ordering.eq) from rfl, Bool.or_eq_true] at hge3
          have hB : (FloatKind.f64.format.order x 0 == some Ordering.eq) = true := hge3.resolve_left hpos
          have hA : (FloatKind.f64.format.order x 0 == some Ordering.gt) = false := by rw [← hpd]; simpa using hpos
          have hl2 : lastTo ws (k + 1) = lastTo ws k := by rw [hl1.out, if_neg hpos]
          replace hl2 := Lib.hid hl2
          clear hpos hge hpd hl1 hge3
          go_wp2_with (at_builtin; refine Tp.wpList_append_one rfl _ _ 47 rfl w.heap.size 29 i0 (.float .f64 0) 8 Try.underlying47 hi hz0 hz1 hz2 rfl _ _ _ rfl hown 1 rfl rfl (by unfold maxLen; omega) (by omega) hs ?_; intro v' w1 hown' hg' hbel' _)
          have hbel2 := hbel' _ _ hbel (Nat.le_refl _)
          clear hbel' hbel hown hg'
          go_roundw
          case rel => exact ⟨k + 1, by omega, by go_num, rfl, by rw [hl2.out], by rw [hss.out, List.map_append]; exact hown', hbel2, hall''.out⟩
          case measure => simp [intOf]; omega
      · have hbad := Cum.not_all hlt (by rw [← hx]; simpa using hge)
        have hge2 : Fl.ge x = false := by simpa using hge
        rw [hgd, Bool.or_eq_false_iff] at hge2
        obtain ⟨hA, hB⟩ := hge2
        clear hge hx hgd hpd hc
        go_wp2
        go_ret2
        exact ⟨.inl ⟨by unfold good; rw [hbad]; rfl, rfl⟩, hbel⟩
    · obtain rfl : k = ws.length := by omega
      rw [List.take_length] at hall
      have hsum := Cum.sumTo_le ws hw ws.length (Nat.le_refl _) (by rw [List.take_length]; exact hall)
      clear hc hlt
      by_cases hl0 : lastTo ws ws.length < 0
      · have hbad : good ws = false := by unfold good; rw [show decide (0 ≤ lastTo ws ws.length) = false from by rw [decide_eq_false_iff_not]; omega]; simp
        go_wp2_with (go_at_call 35; refine (isinf_any _ hsum _).mono ?_; rintro e w' ⟨rfl, rfl⟩)
        go_ret2
        exact ⟨.inl ⟨hbad, rfl⟩, hbel⟩
      · by_cases hinf : sumTo ws ws.length = Fl.INF
        · have hbad : good ws = false := by unfold good; rw [show decide (sumTo ws ws.length < Fl.INF) = false from by rw [decide_eq_false_iff_not]; omega]; simp
          have hd : decide (sumTo ws ws.length = Fl.INF) = true := by simpa using hinf
          clear hinf
          go_wp2_with (go_at_call 35; refine (isinf_any _ hsum _).mono ?_; rintro e w' ⟨rfl, rfl⟩)
          go_ret2
          exact ⟨.inl ⟨hbad, rfl⟩, hbel⟩
        · have hok : good ws = true := by
            unfold good; rw [hall, show decide (0 ≤ lastTo ws ws.length) = true from by rw [decide_eq_true_iff]; omega, show decide (sumTo ws ws.length < Fl.INF) = true from by rw [decide_eq_true_iff]; omega]; rfl
          have hd : decide (sumTo ws ws.length = Fl.INF) = false := by simpa using hinf
          clear hinf
          go_wp2_with (go_at_call 35; refine (isinf_any _ hsum _).mono ?_; rintro e w' ⟨rfl, rfl⟩)
          obtain ⟨g, capg, rfl⟩ : ∃ g cap, u4 = .slice (some ⟨g, 0, none⟩) ws.length cap := by
            rcases hown.2 with ⟨_, h0⟩ | ⟨g, cap, cur, h0, _⟩
            · omega
            · exact ⟨g, cap, h0⟩
          obtain ⟨lst, hlst⟩ := Int.eq_ofNat_of_zero_le (show 0 ≤ lastTo ws ws.length by omega)
          have hst := Cum.mid_start ws lst hlst.symm
          rw [← hst] at hown
          have hlst2 : lastTo ws ws.length ≤ (lst : Int) := by omega
          have hlst3 : lst ≤ ws.length := by omega
          have hbg : w.heap.size ≤ g := (hown.lt g rfl).1
          rw [hlst]
          clear hlst hst hbd hl0
          replace hok := Lib.hid hok
          replace hlst2 := Lib.hid hlst2
          go_loopw [9] (fun i wq => ∃ j : Nat, lst ≤ j ∧ j ≤ ws.length ∧ i = .int .i64 j ∧ wq.ownsRow w.heap.size 29 1 (.slice (some ⟨g, 0, none⟩) ws.length capg) ws.length ((Cum.mid ws j).map (Value.float .f64)) ∧ Below w.heap.size w wq)
            (fun i _ => ws.length - (intOf i).toNat)
          case atStart => exact ⟨lst, Nat.le_refl _, hlst3, rfl, hown, hbel⟩
          case round =>
            obtain ⟨j, hj1, hj2, rfl, hownj, hbelj⟩ := hrel
            by_cases hjl : j < ws.length
            · have hcell : wr.cell? ⟨g, j, none⟩ = some (.float .f64 ((Cum.mid ws j).getD j 0)) := by
                rw [hownj.cellAt j (by omega)]
                simp [List.getD, Cum.mid_length, hjl]
              have hfr := hownj.frozenAt j
              have hstored := hownj.stored j (.float .f64 4607182418800017408)
              have hmap : ((Cum.mid ws j).map (Value.float .f64)).set j (.float .f64 4607182418800017408) = (Cum.mid ws (j + 1)).map (Value.float .f64) := by
                rw [← Cum.mid_set ws j (by have := hlst2.out; omega) hjl, List.map_set]
              rw [hmap] at hstored
              replace hstored := Lib.hid hstored
              clear hmap hown hbel
              have hsf := @Tp.run_store_float Try.prog
              go_wp2
              go_roundw
              case rel => exact ⟨j + 1, by omega, by omega, by go_num, hstored.out.1, hbelj.setCell hbg _⟩
              case measure => simp [intOf]; omega
            · obtain rfl : j = ws.length := by omega
              rw [Cum.mid_end] at hownj
              go_wp2
              go_ret2
              exact ⟨.inr ⟨hok.out, _, rfl, hownj⟩, hbelj⟩

theorem cum_zero (ao : Option Addr) (cap : Nat) (w : World) : Calls Try.prog 23 #[.slice ao 0 cap] w (CumPost [] w) := by
  go_enter Try.func23, Try.ntmps23
  go_wp2
  refine wp_loop_rounds 1 ?_
  rw [rounds_succ]
  go_wp2
  go_ret2
  exact ⟨.inl ⟨rfl, rfl⟩, Below.refl _ _⟩

theorem cum_any (ws : List Nat) (hw : ∀ x ∈ ws, x < 18446744073709551616) (v : Value) (w : World) (hv : Tp.RdF w v ws) (hlen : ws.length * 8 ≤ 140737488351232) :
    Calls Try.prog 23 #[v] w (CumPost ws w) := by
  obtain ⟨ao, cap, rfl, h⟩ := hv
  rcases h with rfl | ⟨b, off, rfl, hb, hc⟩
  · exact cum_zero ao cap w
  · by_cases h0 : ws = []
    · subst h0; exact cum_zero _ cap w
    · exact cum_some ws hw b off cap w hb hc (List.length_pos_iff.2 h0) hlen
end Go.Proofs.Ytfdmfihifjlidaa
