/- The law PoolYoungest, walked. -/
import Derived.Test.YtpebcamnmeppaaaAwake
namespace Go.Proofs.Ytpebcamnmeppaaa
open Go.RowKit Go.Mp Go.Po
set_option linter.unusedVariables false
set_option maxHeartbeats 4000000
set_option maxRecDepth 100000
theorem slice_len {w : World} {v : Value} {l : List Int} (h : Rd.SliceOf Rd.int w v l) : ∃ ao cap, v = .slice ao l.length cap := by
  obtain ⟨_, ao, cap, rfl, _⟩ := h
  exact ⟨ao, cap, rfl⟩
theorem arg_at {w w' : World} {ao : Option Addr} {n cap : Nat} {l : List Int} (h : Rd.SliceOf Rd.int w (.slice ao n cap) l) (hb : Below w.heap.size w w') {i : Nat} {x : Int} (hx : l[i]? = some x) : ∃ b off, ao = some ⟨b, off, none⟩ ∧ w'.cell? ⟨b, off + i, none⟩ = some (.int .i64 x) := by
  obtain ⟨ao', cap', h1, h2⟩ := ri_arg h hb
  cases h1
  exact h2 i x hx
theorem take_mem_of {l : List Int} {i : Nat} {x : Int} (hn : l.Nodup) (hx : l[i]? = some x) : x ∉ l.take i := by
  intro h
  obtain ⟨j, hj⟩ := List.mem_iff_getElem?.1 h
  have hji : j < i := by
    have := (List.getElem?_eq_some_iff.1 hj).1
    rw [List.length_take] at this; omega
  rw [List.getElem?_take_of_lt hji] at hj
  obtain ⟨a1, a2⟩ := List.getElem?_eq_some_iff.1 hj
  obtain ⟨b1, b2⟩ := List.getElem?_eq_some_iff.1 hx
  have := (List.getElem_inj (h₀ := a1) (h₁ := b1) hn).1 (a2.trans b2.symm)
  omega
theorem young (order : List Int) (v : Value) (wait now : Int) (w : World) (hrd : Rd.SliceOf Rd.int w v order) :
    Calls Try.prog 3 #[v, .int .i64 wait, .int .i64 now] w fun e w' => e = .returned (.bool true) ∧ Below w.heap.size w w' := by
  obtain ⟨oo, oc, rfl⟩ := slice_len hrd
  have hlen : order.length ≤ 140737488351232 := hrd.1
  have hnum : ∀ x ∈ order, -9223372036854775808 ≤ x ∧ x ≤ 9223372036854775807 := by
    intro x hx
    obtain ⟨i, hi⟩ := List.mem_iff_getElem?.1 hx
    obtain ⟨_, ao, cap, _, h⟩ := hrd
    rcases h with rfl | ⟨b, off, rfl, hlt, h⟩
    · cases hx
    · exact (h i x hi).2
  replace hrd := Lib.hid hrd
  replace hnum := Lib.hid hnum
  go_enter Try.func3, Try.ntmps3
  go_upto_region 3 with (go_at_call 6; refine (awake_any w).mono ?_; rintro _ w1 ⟨rfl, hb1⟩)
  by_cases c1 : 64 < order.length
  · have k1 : decide ((64 : Int) < (order.length : Int)) = true := decide_eq_true (by omega)
    go_wp2
    go_ret
    exact ⟨rfl, hb1⟩
  have k1 : decide ((64 : Int) < (order.length : Int)) = false := decide_eq_false (by omega)
  by_cases c2 : wait < 0
  · have k2 : decide (wait < 0) = true := decide_eq_true c2
    go_wp2
    go_ret
    exact ⟨rfl, hb1⟩
  have k2 : decide (wait < 0) = false := decide_eq_false c2
  by_cases c3 : 1099511627776 < wait
  · have k3 : decide (1099511627776 < wait) = true := decide_eq_true c3
    go_wp2
    go_ret
    exact ⟨rfl, hb1⟩
  have k3 : decide (1099511627776 < wait) = false := decide_eq_false c3
  by_cases c4 : now < 0
  · have k4 : decide (now < 0) = true := decide_eq_true c4
    go_wp2
    go_ret
    exact ⟨rfl, hb1⟩
  have k4 : decide (now < 0) = false := decide_eq_false c4
  by_cases c5 : 1099511627776 < now
  · have k5 : decide (1099511627776 < now) = true := decide_eq_true c5
    go_wp2
    go_ret
    exact ⟨rfl, hb1⟩
  have k5 : decide (1099511627776 < now) = false := decide_eq_false c5
  have h0 := new_any (w := w1) 64 wait ⟨by omega, by omega, by omega, by omega⟩
  go_wp2_with (go_at_call 7; refine h0.mono ?_; clear h0; rintro _ w2 ⟨p, F, rfl, hP, hB⟩; have hL := Lib.hid (show Live w w2 F p _ 0 from ⟨by exact (show PoolM w2 w.heap.size F p _ 0 from hP.base hb1.size), hb1.trans (hB.mono hb1.size)⟩); clear hP hB)
  go_loopg [9] order.length (fun gg ic wr => ∃ (i : Nat) (F : Nat → Prop), i ≤ order.length ∧ gg = order.length - i ∧ ic = .int .i64 i ∧ Live w wr F p ⟨64, wait, mk ea (order.take i), [], []⟩ 0 ∧ (order.take i).Nodup ∧ ∀ x ∈ order.take i, 0 ≤ x)
  case atStart => exact ⟨0, F, by omega, by omega, rfl, hL.out, by simp, by simp⟩
  case round =>
    clear hL F
    obtain ⟨i, F, hi, rfl, rfl, hL, hnd, hpos⟩ := hrel
    by_cases hil : i < order.length
    · have ki : (i : Int) < (order.length : Int) := by omega
      have hx := List.getElem?_eq_getElem hil
      have hmem : order[i] ∈ order := List.getElem_mem hil
      have hstep : order.take (i + 1) = order.take i ++ [order[i]] := by rw [List.take_add_one, hx]; rfl
      obtain ⟨ob, oof, rfl, _⟩ := arg_at hrd.out hL.2 hx
      generalize order[i] = x at *
      replace hx := Lib.hid hx
      replace hmem := Lib.hid hmem
      replace hstep := Lib.hid hstep
      replace hnd := Lib.hid hnd
      replace hpos := Lib.hid hpos
      replace hL := Lib.hid hL
      go_wp2_with fail
      go_loopg [10] i (fun gg kc wr => ∃ k : Nat, k ≤ i ∧ gg = i - k ∧ kc = .int .i64 k ∧ Live w wr F p ⟨64, wait, mk ea (order.take i), [], []⟩ 0 ∧ x ∉ order.take k)
      case atStart => exact ⟨0, by omega, by omega, rfl, hL.out, by simp⟩
      case round =>
        clear hL
        obtain ⟨k, hk, rfl, rfl, hL, hnot⟩ := hrel
        obtain ⟨_, _, e1, d1⟩ := arg_at hrd.out hL.2 hx.out
        cases e1
        by_cases hki : k < i
        · have kk : (k : Int) < (i : Int) := by omega
          have kl : (k : Int) < (order.length : Int) := by omega
          have hy := List.getElem?_eq_getElem (show k < order.length by omega)
          have hstep2 : order.take (k + 1) = order.take k ++ [order[k]] := by rw [List.take_add_one, hy]; rfl
          obtain ⟨_, _, e1, d2⟩ := arg_at hrd.out hL.2 hy
          cases e1
          generalize order[k] = y at *
          have hwk : wrap64 ((k : Int) + 1) = ((k + 1 : Nat) : Int) := by unfold wrap64; omega
          by_cases hxy : x = y
          · have q1 : (x == y) = true := by rw [beq_iff_eq]; exact hxy
            have hb := hL.2
            replace hL := Lib.hid hL
            replace hy := Lib.hid hy
            replace hstep2 := Lib.hid hstep2
            replace hxy := Lib.hid hxy
            go_upto_region 14 with fail
            go_quiet (fail)
            go_wp2_with fail
            go_ret
            exact ⟨rfl, hb.trans ⟨rfl, rfl, rfl, Nat.le_refl _, fun _ _ => rfl⟩⟩
          · have q1 : (x == y) = false := by rw [beq_eq_false_iff_ne]; exact hxy
            have hnot' := Lib.hid (show x ∉ order.take (k + 1) by rw [hstep2, List.mem_append, List.mem_singleton]; exact fun h => h.elim hnot hxy)
            replace hL := Lib.hid hL
            replace hy := Lib.hid hy
            replace hstep2 := Lib.hid hstep2
            replace hxy := Lib.hid hxy
            go_upto_region 14 with fail
            go_quiet (fail)
            go_wp2_with fail
            go_roundg (i - (k + 1))
            case rel => exact ⟨k + 1, by omega, rfl, rfl, hL.out.same (Tch.drewN _ _ _), hnot'.out⟩
            case measure => omega
        · have hke : k = i := by omega
          subst hke
          have kk : decide ((k : Int) < (k : Int)) = false := decide_eq_false (by omega)
          have hwk : wrap64 ((k : Int) + 1) = ((k + 1 : Nat) : Int) := by unfold wrap64; omega
          by_cases hneg : x < 0
          · have q1 : decide (x < 0) = true := decide_eq_true hneg
            have hb := hL.2
            replace hL := Lib.hid hL
            go_wp2_with fail
            go_ret
            exact ⟨rfl, hb⟩
          · have q1 : decide (x < 0) = false := decide_eq_false hneg
            have hlt : (order.take k).length = k := by rw [List.length_take]; omega
            have hA := take_any hL.1 ea
            rw [y_take wait ea (order.take k) (by omega)] at hA
            dsimp only at hA
            replace hL := Lib.hid hL
            replace hlt := Lib.hid hlt
            go_wp2_with (first
              | (go_at_call 8; have _t := hA; refine hA.mono ?_; clear hA _t; rintro _ w4 ⟨rfl, hP⟩; obtain ⟨F4, hL4, _⟩ := live_post hL.out hP; have hD := dial_any hL4.1 ea x (hnum.out x hmem.out).2 hL4.2.size; rw [y_dial wait ea (order.take k) x (by omega) hnot, ← hstep.out] at hD; dsimp only at hD; obtain ⟨_, _, e1, d1⟩ := arg_at hrd.out hL4.2 hx.out; cases e1; replace hL4 := Lib.hid hL4; clear hP)
              | (go_at_call 9; refine hD.mono ?_; clear hD; rintro _ w5 ⟨rfl, hP⟩; obtain ⟨F5, hL5, _⟩ := live_post hL4.out hP; replace hL5 := Lib.hid hL5; clear hP)
              | fail)
            go_roundg (order.length - (k + 1))
            case rel => exact ⟨k + 1, F5, by omega, rfl, rfl, hL5.out, by
              rw [hstep.out]
              exact List.nodup_append.2 ⟨hnd.out, by simp, fun a ha b hb => by simp at hb; subst hb; rintro rfl; exact hnot ha⟩, fun z hz => by
              rw [hstep.out, List.mem_append, List.mem_singleton] at hz
              rcases hz with hz | rfl
              · exact hpos.out z hz
              · omega⟩
            case measure => omega
    · have hke : i = order.length := by omega
      subst hke
      have kk : decide ((order.length : Int) < (order.length : Int)) = false := decide_eq_false (by omega)
      rw [List.take_length] at hnd hL hpos
      replace hnd := Lib.hid hnd
      replace hpos := Lib.hid hpos
      replace hL := Lib.hid hL
      go_wp2_with fail
      go_loopg [11] order.length (fun gg ic wr => ∃ (i : Nat) (F : Nat → Prop), i ≤ order.length ∧ gg = order.length - i ∧ ic = .int .i64 i ∧ Live w wr F p ⟨64, wait, mk ea (order.drop i), mf ea now 0 (order.take i), []⟩ i)
      case atStart => exact ⟨0, F, by omega, by omega, rfl, by simpa [mf] using hL.out⟩
      case round =>
        clear hL F
        obtain ⟨i, F, hi, rfl, rfl, hL⟩ := hrel
        by_cases hil : i < order.length
        · have ki : (i : Int) < (order.length : Int) := by omega
          have hx := List.getElem?_eq_getElem hil
          have hstep : order.take (i + 1) = order.take i ++ [order[i]] := by rw [List.take_add_one, hx]; rfl
          have hdrop : order.drop i = order[i] :: order.drop (i + 1) := List.drop_eq_getElem_cons hil
          have hnx : order[i] ∉ order.drop (i + 1) := by
            have h1 := hnd.out
            rw [← List.take_append_drop i order, hdrop] at h1
            exact (List.nodup_cons.1 (List.nodup_append.1 h1).2.1).1
          obtain ⟨_, _, rfl, d1⟩ := arg_at hrd.out hL.2 hx
          generalize order[i] = x at *
          have hlt : (order.take i).length = i := by rw [List.length_take]; omega
          have hwn : wrap64 (now + (i : Int)) = now + (i : Int) := by unfold wrap64; omega
          have hwk : wrap64 ((i : Int) + 1) = ((i + 1 : Nat) : Int) := by unfold wrap64; omega
          have hA := put_any hL.1 x (now + (i : Int)) (by omega) (by omega)
          have hyp := y_put wait now ea (order.take i) (order.drop (i + 1)) x hnx
          rw [hlt, ← hstep] at hyp
          rw [hdrop, hyp] at hA
          dsimp only at hA
          replace hL := Lib.hid hL
          replace hlt := Lib.hid hlt
          replace hx := Lib.hid hx
          replace hstep := Lib.hid hstep
          replace hdrop := Lib.hid hdrop
          replace hyp := Lib.hid hyp
          replace hnx := Lib.hid hnx
          go_wp2_with (first | (go_at_call 10; refine hA.mono ?_; clear hA; rintro _ w4 ⟨rfl, hP⟩; obtain ⟨F4, hL4, _⟩ := live_post hL.out hP; replace hL4 := Lib.hid hL4; clear hP) | fail)
          go_roundg (order.length - (i + 1))
          case rel => exact ⟨i + 1, F4, by omega, rfl, rfl, hL4.out⟩
          case measure => omega
        · have hke : i = order.length := by omega
          subst hke
          rw [List.take_length, List.drop_length] at hL
          replace hL := Lib.hid hL
          go_upto_region 27 with fail
          obtain ⟨q, hq⟩ : ∃ q : Nat, q = order.length / 2 := ⟨_, rfl⟩
          have hqi : (order.length : Int) / 2 = (q : Int) := by omega
          rw [hqi]
          have hql : q ≤ order.length := by omega
          have hl1 : (order.take q).length = q := by rw [List.length_take]; omega
          have hl2 : (order.take q).length + (order.drop q).length ≤ 64 := by rw [hl1, List.length_drop]; omega
          have hw1 : wrap64 (now + (q : Int)) = now + (q : Int) := by unfold wrap64; omega
          have hw2 : wrap64 (now + (q : Int) - 1) = now + (q : Int) - 1 := by unfold wrap64; omega
          have hw3 : wrap64 (now + (q : Int) - 1 + wait) = now + (q : Int) - 1 + wait := by unfold wrap64; omega
          have hA := expire_any hL.out.1 (now + (q : Int) - 1 + wait) (by
            show (mf ea now 0 order).length ≤ _
            have : ((mf ea now 0 order).map C.id).length = order.length := by rw [mf_ids]
            rw [List.length_map] at this
            omega)
          have hye := y_expire wait now ea (order.take q) (order.drop q) ⟨by omega, by omega⟩ ⟨by omega, by omega⟩ hl2
          rw [List.take_append_drop, hl1] at hye
          have e0 : (St.mk 64 wait (mk ea []) (mf ea now 0 order) []) = ⟨64, wait, [], mf ea now 0 order, []⟩ := rfl
          rw [e0, hye] at hA
          dsimp only at hA
          have hML : ((order.take q).mergeSort fun x y => decide (x ≤ y)).length = q := by rw [List.length_mergeSort, hl1]
          have hmm : ∀ x, x ∈ ((order.take q).mergeSort fun x y => decide (x ≤ y)) ↔ x ∈ order.take q := fun x => List.mem_mergeSort
          generalize ((order.take q).mergeSort fun x y => decide (x ≤ y)) = M at *
          rw [hML] at hA
          replace hye := Lib.hid hye
          replace e0 := Lib.hid e0
          replace hl1 := Lib.hid hl1
          replace hl2 := Lib.hid hl2
          replace hq := Lib.hid hq
          replace hmm := Lib.hid hmm
          replace hML := Lib.hid hML
          clear hqi
          go_wp2_with (first | (go_at_call 11; refine hA.mono ?_; clear hA; rintro _ w5 ⟨gv, rfl, hrow, hP, hT⟩; obtain ⟨go, gc, rfl⟩ := ownsRow_shape hrow; have hL5 := Lib.hid (show Live w w5 F p _ _ from ⟨hP, tch_below hL.out hT⟩); have hri := ri_own (l := M) (by rw [hML.out]; exact hrow); replace hrow := Lib.hid hrow; clear hP hT) | fail)
          have hMlt : M.length < 4611686018427387904 := by rw [hML.out]; omega
          replace hL := Lib.hid hL
          go_loopg [14] q (fun gg ic wr => ∃ i : Nat, i ≤ q ∧ gg = q - i ∧ ic = .int .i64 i ∧ w5 = wr)
          case atStart => exact ⟨0, by omega, by omega, rfl, rfl⟩
          case round =>
            obtain ⟨i, hi, rfl, rfl, rfl⟩ := hrel
            by_cases hiq : i < q
            · have ki : (i : Int) < (q : Int) := by omega
              have kil : (i : Int) < (order.length : Int) := by omega
              have hx := List.getElem?_eq_getElem (show i < order.length by omega)
              have hxm : order[i] ∈ order.take q := List.mem_iff_getElem?.2 ⟨i, by rw [List.getElem?_take_of_lt hiq]; exact hx⟩
              obtain ⟨_, _, rfl, d1⟩ := arg_at hrd.out hL5.out.2 hx
              generalize order[i] = x at *
              have hA := in_any hri hMlt x
              rw [show decide (x ∈ M) = true from decide_eq_true ((hmm.out x).2 hxm)] at hA
              have hwk : wrap64 ((i : Int) + 1) = ((i + 1 : Nat) : Int) := by unfold wrap64; omega
              replace hx := Lib.hid hx
              replace hxm := Lib.hid hxm
              replace hri := Lib.hid hri
              go_wp2_with (first | (go_at_call 12; refine hA.mono ?_; clear hA; rintro _ w6 ⟨rfl, hw6⟩; cases hw6) | fail)
              go_roundg (q - (i + 1))
              case rel => exact ⟨i + 1, by omega, rfl, rfl, rfl⟩
              case measure => omega
            · have kk : decide ((i : Int) < (q : Int)) = false := decide_eq_false (by omega)
              have hwl : wrap64 ((order.length : Int) - 1) = (order.length : Int) - 1 := by unfold wrap64; omega
              replace hri := Lib.hid hri
              go_wp2_with fail
              go_loopg [15] (order.length - q) (fun gg ic wr => ∃ (m : Nat) (b : List C) (F : Nat → Prop), q ≤ m ∧ m ≤ order.length ∧ gg = m - q ∧ ic = .int .i64 ((m : Int) - 1) ∧ Live w wr F p ⟨64, wait, b, mf ea now q ((order.take m).drop q), []⟩ order.length)
              case atStart => exact ⟨order.length, [], F, by omega, by omega, rfl, rfl, by rw [List.take_length]; exact hL5.out⟩
              case round =>
                clear hL5 hL F
                obtain ⟨m, b, F, hqm, hml, rfl, rfl, hL⟩ := hrel
                by_cases hlt : q < m
                · have km : (q : Int) ≤ (m : Int) - 1 := by omega
                  have hx := List.getElem?_eq_getElem (show m - 1 < order.length by omega)
                  have hstep : order.take m = order.take (m - 1) ++ [order[m - 1]] := by
                    have : order.take ((m - 1) + 1) = order.take (m - 1) ++ [order[m - 1]] := by rw [List.take_add_one, hx]; rfl
                    rwa [show m - 1 + 1 = m by omega] at this
                  have hdr : (order.take m).drop q = (order.take (m - 1)).drop q ++ [order[m - 1]] := by
                    rw [hstep, List.drop_append_of_le_length (by rw [List.length_take]; omega)]
                  have hnx : order[m - 1] ∉ (order.take (m - 1)).drop q := fun h => take_mem_of hnd.out hx (List.mem_of_mem_drop h)
                  obtain ⟨_, _, rfl, d1⟩ := arg_at hrd.out hL.2 hx
                  generalize order[m - 1] = x at *
                  have hmi : (((m - 1 : Nat) : Int)) = (m : Int) - 1 := by omega
                  have hA := take_any hL.1 ea
                  rw [hdr, y_last wait now ea b q _ x hnx] at hA
                  dsimp only at hA
                  have kl : (m : Int) - 1 < (order.length : Int) := by omega
                  have kn : ((m : Int) - 1).toNat = m - 1 := by omega
                  have k0 : (0 : Int) ≤ (m : Int) - 1 := by omega
                  have hwk : wrap64 ((m : Int) - 1 - 1) = ((m : Int) - 1) - 1 := by unfold wrap64; omega
                  replace hL := Lib.hid hL
                  replace hx := Lib.hid hx
                  replace hstep := Lib.hid hstep
                  replace hdr := Lib.hid hdr
                  replace hnx := Lib.hid hnx
                  replace hmi := Lib.hid hmi
                  go_wp2_with (first | (go_at_call 8; refine hA.mono ?_; clear hA; rintro _ w6 ⟨rfl, hP⟩; obtain ⟨F6, hL6, _⟩ := live_post hL.out hP; obtain ⟨_, _, e1, d2⟩ := arg_at hrd.out hL6.2 hx.out; cases e1; replace hL6 := Lib.hid hL6; clear hP d1) | fail)
                  go_roundg (m - 1 - q)
                  case rel => exact ⟨m - 1, _, F6, by omega, by omega, rfl, by rw [hmi.out], hL6.out⟩
                  case measure => omega
                · have hme : m = q := by omega
                  subst hme
                  have kk : decide ((m : Int) ≤ (m : Int) - 1) = false := decide_eq_false (by omega)
                  have hdr : (order.take m).drop m = [] := List.drop_eq_nil_of_le (by rw [List.length_take]; omega)
                  rw [hdr] at hL
                  have hA := counts_any hL.1 ea
                  have hz : of (mf ea now m []) ea = 0 := rfl
                  dsimp only at hA
                  rw [hz] at hA
                  replace hL := Lib.hid hL
                  replace hdr := Lib.hid hdr
                  go_wp2_with (first | (go_at_call 13; refine hA.mono ?_; clear hA; rintro _ w6 ⟨rfl, hT⟩) | fail)
                  go_ret
                  exact ⟨rfl, (hL.out.same hT).2⟩
end Go.Proofs.Ytpebcamnmeppaaa
