/- The walk of the law on sources, where both are nil. -/
import Derived.Test.YtfdmfihifjlidaaPool
import Derived.Test.YtfdmfihifjlidaaRd
import Derived.Deep.QuietTactic
import Derived.BigQuiet
namespace Go.Tp
open Go.RowKit
/-- A call: its words, how many are asked for, a copy or not, on or not. -/
abbrev OpT := List Int × (Int × (Bool × (Bool × Unit)))
def opE : Rd.Elem OpT := Rd.pair (Rd.slice Rd.u64) (Rd.pair Rd.int (Rd.pair Rd.bool (Rd.pair Rd.bool Rd.none)))
theorem op_at {w w' : World} {ao : Option Addr} {n cap : Nat} {l : List OpT} (h : Rd.SliceOf opE w (.slice ao n cap) l) (hb : Below w.heap.size w w') {i : Nat} {x : OpT} (hx : l[i]? = some x) :
    ∃ b off wo wc, ao = some ⟨b, off, none⟩ ∧ b < w.heap.size ∧ w'.cell? ⟨b, off + i * 4, none⟩ = some (.slice wo x.1.length wc) ∧ w'.cell? ⟨b, off + i * 4 + 1, none⟩ = some (.int .i64 x.2.1) ∧ w'.cell? ⟨b, off + i * 4 + 2, none⟩ = some (.bool x.2.2.1) ∧ w'.cell? ⟨b, off + i * 4 + 3, none⟩ = some (.bool x.2.2.2.1) ∧ Rd.SliceOf Rd.u64 w (.slice wo x.1.length wc) x.1 ∧ (-9223372036854775808 ≤ x.2.1 ∧ x.2.1 ≤ 9223372036854775807) := by
  obtain ⟨b, off, cap', hv, hbb, hxx⟩ := h.at (by rintro rfl; simp at hx)
  cases hv
  obtain ⟨⟨v, q0, r⟩, ⟨q1, bd⟩, q2, q3, _⟩ := hxx i x hx
  obtain ⟨wo, wc, rfl⟩ : ∃ ao cap, v = .slice ao x.1.length cap := by obtain ⟨_, ao, cap, rfl, _⟩ := r; exact ⟨_, _, rfl⟩
  exact ⟨b, off, wo, wc, rfl, hbb, (hb.cell (by exact hbb)).trans q0, (hb.cell (by exact hbb)).trans q1, (hb.cell (by exact hbb)).trans q2, (hb.cell (by exact hbb)).trans q3, r, bd⟩
theorem u64_src {w w' : World} {ao : Option Addr} {n cap : Nat} {ws : List Int} (h : Rd.SliceOf Rd.u64 w (.slice ao n cap) ws) (hb : Below w.heap.size w w') : ∀ j u, (ucells ws)[j]? = some u → ∃ ad, ao = some ad ∧ w'.cell? (ad.add j) = some u := fun j u hj => by
  simp only [ucells, List.getElem?_map] at hj
  obtain ⟨x, hx, rfl⟩ := Option.map_eq_some_iff.1 hj
  obtain ⟨b, off, cap', hv, hbb, hxx⟩ := h.at (by rintro rfl; simp at hx)
  cases hv
  refine ⟨_, rfl, ?_⟩
  rw [show ((⟨b, off, none⟩ : Addr).add j) = ⟨b, off + j, none⟩ from by unfold Addr.add; split <;> simp_all]
  exact (hb.cell (by exact hbb)).trans (by simpa [Rd.cellsAt, Rd.u64] using (hxx j x hx).1)
theorem u64_at {w w' : World} {ao : Option Addr} {n cap : Nat} {ws : List Int} (h : Rd.SliceOf Rd.u64 w (.slice ao n cap) ws) (hb : Below w.heap.size w w') {k : Nat} {x : Int} (hx : ws[k]? = some x) : ∃ b off, ao = some ⟨b, off, none⟩ ∧ w'.cell? ⟨b, off + k, none⟩ = some (.int .u64 x) := by
  obtain ⟨b, off, cap', hv, hbb, hxx⟩ := h.at (by rintro rfl; simp at hx)
  cases hv
  exact ⟨b, off, rfl, (hb.cell (by exact hbb)).trans (by simpa [Rd.cellsAt, Rd.u64] using (hxx k x hx).1)⟩
theorem row_set {w : World} {B g off n cap k : Nat} {e : TypeId} {zs : List Value} {u : Value} (h : viewRow w B e (.slice (some ⟨g, off, none⟩) n cap) n zs) (hk : k < n) : viewRow (w.setCell ⟨g, off + k, none⟩ u) B e (.slice (some ⟨g, off, none⟩) n cap) n (zs.set k u) := by
  refine ⟨by rw [List.length_set]; exact h.1, .inr ?_⟩
  rcases h.2 with ⟨h0, h1⟩ | ⟨g', off', cap', cur, h0, hB', hcur, h1, h2, h3, h4⟩
  · omega
  · cases h0
    have hl := h.1
    refine ⟨g, off, cap, cur.setIfInBounds (off + k) u, rfl, hB', by simp [World.setCell, Array.getElem?_modify, hcur], h1, h2, by simpa using h3, fun q x hq => ?_⟩
    by_cases hqk : q = k
    · subst hqk
      rw [List.getElem?_set_self (by omega)] at hq
      rw [Array.getElem?_setIfInBounds_self_of_lt (by omega)]
      exact hq
    · rw [List.getElem?_set_ne (Ne.symm hqk)] at hq
      rw [Array.getElem?_setIfInBounds_ne (by omega)]
      exact h4 q x hq
theorem row_cell {w : World} {B n : Nat} {e : TypeId} {v : Value} {zs : List Value} (h : viewRow w B e v n zs) {q : Nat} {u : Value} (hq : zs[q]? = some u) : ∃ g off cap, v = .slice (some ⟨g, off, none⟩) n cap ∧ B ≤ g ∧ w.cell? ⟨g, off + q, none⟩ = some u ∧ w.frozen? ⟨g, off + q, none⟩ = false := by
  rcases h.2 with ⟨h0, h1⟩ | ⟨g, off, cap, cur, h0, hB, hc, _, _, _, h4⟩
  · have := (List.getElem?_eq_some_iff.1 hq).1
    have := h.1
    omega
  · exact ⟨g, off, cap, h0, hB, by rw [cell_of_row _ _ _ _ _ _ hc]; exact h4 q u hq, frozen_of_row _ _ _ _ _ hc⟩
end Go.Tp
namespace Go.Proofs.Ytfdmfihifjlidaa.drawSources
open Go.RowKit Go.Tp
set_option linter.unusedVariables false
set_option maxHeartbeats 40000000 in
set_option maxRecDepth 100000 in
theorem run_nil (st : Int) (script : List OpT) (vs : Value) (w : World) (hrd : Rd.SliceOf opE w vs script) (hw : ∀ o ∈ script, o.1.length ≤ 1048576) :
    Calls Try.prog 4 #[.int .u64 st, vs, .bool true] w fun e w' => e = .returned (.bool true) ∧ Below w.heap.size w w' := by
  obtain ⟨i0, hi, hz0, hz1, hz2⟩ := info_parts info22
  have hls := hrd.1
  obtain ⟨ao, cap, hv⟩ : ∃ ao cap, vs = .slice ao script.length cap := by obtain ⟨_, ao, cap, rfl, _⟩ := hrd; exact ⟨_, _, rfl⟩
  subst hv
  have hb1 := Below_alloc w (.cells #[.slice none 0 0, .int .u64 st] 67)
  have hb2 := Below_seq hb1 (Below_alloc (w.alloc (.cells #[.slice none 0 0, .int .u64 st] 67)) (.cells #[.slice none 0 0, .int .u64 st] 38))
  have hn := Lib.hid (new_any st w)
  replace hrd := Lib.hid hrd
  replace hw := Lib.hid hw
  replace hb2 := Lib.hid hb2
  clear hb1
  go_enter Try.func4, Try.ntmps4
  go_wp2_with fail
  refine hn.out.mono ?_
  rintro e w1 ⟨rfl, rfl⟩
  clear hn
  go_upto_region 3 with fail
  change Code.wp _ _ _ _ ((w.alloc (.cells #[.slice none 0 0, .int .u64 st] 67)).alloc (.cells #[.slice none 0 0, .int .u64 st] 38))
  generalize (w.alloc (.cells #[.slice none 0 0, .int .u64 st] 67)).alloc (.cells #[.slice none 0 0, .int .u64 st] 38) = w2 at *
  go_wp2_with fail
  go_loopg [7, 9, 10, 11] 100 (fun g sa lv tv ic wr => ∃ i : Nat, i ≤ script.length ∧ i ≤ 100 ∧ g = 100 - i ∧ sa = .pointer none ∧ lv = .pointer none ∧ tv = .pointer none ∧ ic = .int .i64 i ∧ Below w.heap.size w wr)
  case atStart => exact ⟨0, by omega, by omega, rfl, rfl, rfl, rfl, rfl, hb2.out⟩
  case round =>
    obtain ⟨i, hi1, hi2, rfl, rfl, rfl, rfl, rfl, hbr⟩ := hrel
    by_cases hl : i < script.length ∧ i < 100
    · obtain ⟨hl1, hl2⟩ := hl
      have hx := List.getElem?_eq_getElem hl1
      obtain ⟨b, off, wo, wc, rfl, hbb, c0, c1, c2, c3, hws, hnb⟩ := op_at hrd.out hbr hx
      have hwl := hw.out _ (List.mem_of_getElem? hx)
      generalize script[i] = x at *
      obtain ⟨ws, nx, cp, on, _⟩ := x
      dsimp only at c0 c1 c2 c3 hws hwl hnb
      have k1 : (i : Int) < (script.length : Int) := by omega
      have k2 : (i : Int) < 100 := by omega
      replace hx := Lib.hid hx
      replace hbr := Lib.hid hbr
      replace hws := Lib.hid hws
      go_upto_region 14 with fail
      have hnb4 := heap_alloc_new wr (.cells #[.slice wo ws.length wc, .int .i64 nx, .bool cp, .bool on] 40)
      have hb4 := Below_seq hbr.out (Below_alloc wr (.cells #[.slice wo ws.length wc, .int .i64 nx, .bool cp, .bool on] 40))
      change Code.wp _ _ _ _ (wr.alloc (.cells #[.slice wo ws.length wc, .int .i64 nx, .bool cp, .bool on] 40))
      clear c0 c1 c2 c3
      generalize wr.alloc (.cells #[.slice wo ws.length wc, .int .i64 nx, .bool cp, .bool on] 40) = w4 at *
      generalize wr.heap.size = b12 at *
      have hlb := (Array.getElem?_eq_some_iff.1 hnb4).1
      have hB : ∀ w', Below w4.heap.size w4 w' → w'.cell? ⟨b12, 0, none⟩ = some (.slice wo ws.length wc) ∧ w'.cell? ⟨b12, 1, none⟩ = some (.int .i64 nx) ∧ w'.cell? ⟨b12, 2, none⟩ = some (.bool cp) ∧ w'.cell? ⟨b12, 3, none⟩ = some (.bool on) := fun w' hb => by
        have h := (hb.block _ hlb).trans hnb4
        exact ⟨(cell_of_row _ _ 0 _ _ _ h).trans rfl, (cell_of_row _ _ 1 _ _ _ h).trans rfl, (cell_of_row _ _ 2 _ _ _ h).trans rfl, (cell_of_row _ _ 3 _ _ _ h).trans rfl⟩
      have hba := Below_alloc w4 (.cells #[] 22)
      obtain ⟨d0, _, _, _⟩ := hB _ (Below.refl _ _)
      have hown0 : viewRow (w4.alloc (.cells #[] 22)) w4.heap.size 22 (.slice (some ⟨w4.heap.size, 0, none⟩) 0 0) 0 [] :=
        ⟨rfl, .inr ⟨w4.heap.size, 0, 0, #[], rfl, Nat.le_refl _, heap_alloc_new w4 _, Nat.le_refl _, by unfold maxLen; omega, Nat.le_refl _, fun j u hj => by simp at hj⟩⟩
      have hsrc := u64_src hws.out (Below_seq hb4 hba)
      have hg2 : ∀ v' w1, Grew (w4.alloc (.cells #[] 22)) w1 (.slice (some ⟨w4.heap.size, 0, none⟩) 0 0) v' 0 ws.length → Below w4.heap.size w4 w1 := fun v' w1 hg => hba.trans (by
        refine ⟨hg.os, hg.tape, hg.output, hg.size, fun k hk => ?_⟩
        rcases hg.block k (Nat.lt_of_lt_of_le hk hba.size) with h3 | ⟨_, _, _, _, _, h3, _⟩
        · exact h3
        · cases h3)
      replace hB := Lib.hid hB
      replace hg2 := Lib.hid hg2
      replace hb4 := Lib.hid hb4
      clear hnb4 hba
      go_wp2_with (at_builtin; (refine wpList_append_view rfl _ _ 36 rfl w4.heap.size 22 i0 (.int .u64 0) 8 Try.underlying36 hi hz0 hz1 hz2 rfl _ 0 [] (by rfl) hown0 _ ws.length _ (ucells ws) (by rfl) (by simp [ucells]) hsrc (ucells_one ws) (by unfold maxLen; omega) (by omega) (by simp) ?_))
      intro v13 w5 hr5 hg5
      have hb5 := Lib.hid (hg2.out _ _ (by simpa using hg5))
      have hr5' : viewRow w5 w4.heap.size 22 v13 ws.length (ucells ws) := by simpa using hr5
      obtain ⟨vo, vc, rfl⟩ := row_shape hr5'
      replace hr5' := Lib.hid hr5'
      clear hr5 hg5 hown0 hsrc hg2 d0
      go_wp2_with fail
      refine (push_nil _ _).mono ?_
      rintro e w6 ⟨rfl, rfl⟩
      go_wp2_with fail
      go_loopg [14] ws.length (fun g kc wx => ∃ (k : Nat) (zs : List Value), k ≤ ws.length ∧ g = ws.length - k ∧ kc = .int .i64 k ∧ viewRow wx w4.heap.size 22 (.slice vo ws.length vc) ws.length zs ∧ (∀ j, k ≤ j → zs[j]? = (ucells ws)[j]?) ∧ Below w4.heap.size w4 wx)
      case atStart => exact ⟨0, _, by omega, rfl, rfl, hr5'.out, fun j _ => rfl, hb5.out⟩
      case round =>
        obtain ⟨k, zs, hk, rfl, rfl, hrow, hz, hbk⟩ := hrel
        clear hb5 hr5'
        obtain ⟨d0, d1, d2, d3⟩ := hB.out wr hbk
        by_cases hkl : k < ws.length
        · have hk1 : (k : Int) < (ws.length : Int) := by omega
          have hwx := List.getElem?_eq_getElem hkl
          generalize ws[k] = x at *
          have hux : (ucells ws)[k]? = some (.int .u64 x) := by simp [ucells, hwx]
          obtain ⟨g, go, gc, hv, hBg, e0, f0⟩ := row_cell hrow ((hz k (Nat.le_refl _)).trans hux)
          cases hv
          obtain ⟨wb, woff, rfl, e1⟩ := u64_at hws.out (Below_seq hb4.out hbk) hwx
          have hne : (x != x) = false := by simp
          have hset := fun m u => row_set (w := wr.drewN m) (u := u) (viewRow_below hrow (below_drewN (Below.refl _ _) m)) hkl
          have hbs : ∀ m u, Below w4.heap.size w4 ((wr.drewN m).setCell ⟨g, go + k, none⟩ u) := fun m u => (below_drewN hbk m).setCell hBg _
          replace hset := Lib.hid hset
          replace hbs := Lib.hid hbs
          replace hz := Lib.hid hz
          replace hrow := Lib.hid hrow
          replace hbk := Lib.hid hbk
          replace hwx := Lib.hid hwx
          replace hux := Lib.hid hux
          clear d1 d2 d3
          go_upto_region 21 with fail
          go_quiet (fail)
          go_wp2_with fail
          go_roundg (ws.length - (k + 1))
          case measure => omega
          case rel =>
            refine ⟨k + 1, _, by omega, rfl, by go_num, hset.out _ _, fun j hj => ?_, hbs.out _ _⟩
            rw [List.getElem?_set_ne (by omega)]
            exact hz.out j (by omega)
        · have hk1 : (ws.length : Int) ≤ (k : Int) := by omega
          replace hbk := Lib.hid hbk
          clear hrow hz d0
          have hN : Below w.heap.size w wr := Below_seq hb4.out hbk.out
          replace hN := Lib.hid hN
          cases cp
          all_goals
            try cases on
          all_goals
            go_upto_region 33 with (first | (go_at_call 17; refine (copy_nil _).mono ?_; rintro e w8 ⟨rfl, rfl⟩) | (go_at_call 18; refine (refcopy_nil _).mono ?_; rintro e w8 ⟨rfl, rfl⟩))
            go_wp2_with fail
            go_loopg [16] 100 (fun g kc wx => ∃ q : Nat, q ≤ 100 ∧ g = 100 - q ∧ kc = .int .i64 q ∧ wr = wx)
            case atStart => exact ⟨0, by omega, rfl, rfl, rfl⟩
            case round =>
              obtain ⟨q, hq, rfl, rfl, rfl⟩ := hrel
              by_cases hqn : (q : Int) < nx ∧ q < 100
              · obtain ⟨hq1, hq2⟩ := hqn
                have hq3 : (q : Int) < 100 := by omega
                go_wp2_with (first | (go_at_call 19; refine (next_nil _).mono ?_; rintro e w8 ⟨rfl, rfl⟩) | (go_at_call 20; refine (refnext_nil _).mono ?_; rintro e w8 ⟨rfl, rfl⟩))
                go_roundg (100 - (q + 1))
                case measure => omega
                case rel => exact ⟨q + 1, by omega, rfl, by go_num, rfl⟩
              · have hqc : nx ≤ (q : Int) ∨ ((q : Int) < nx ∧ (100 : Int) ≤ (q : Int)) := by omega
                rcases hqc with h5 | ⟨h5, h6⟩
                all_goals
                  go_wp2_with (first | (go_at_call 21; refine (left_nil _).mono ?_; rintro e w8 ⟨rfl, rfl⟩))
                  go_roundg (100 - (i + 1))
                  case measure => omega
                  case rel => exact ⟨i + 1, by omega, by omega, rfl, rfl, rfl, rfl, by go_num, hN.out⟩
    · have hcase : (script.length : Int) ≤ (i : Int) ∨ ((i : Int) < (script.length : Int) ∧ (100 : Int) ≤ (i : Int)) := by omega
      replace hbr := Lib.hid hbr
      clear hl
      rcases hcase with h5 | ⟨h5, h6⟩
      all_goals
        go_wp2_with fail
        go_ret
        exact ⟨rfl, hbr.out⟩
end Go.Proofs.Ytfdmfihifjlidaa.drawSources
