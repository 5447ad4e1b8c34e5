/- One host merged into those behind it. -/
import Derived.Test.YtjepgpocmnijiaaZy16
section

namespace Go.Proofs.Ytjepgpocmnijiaa
open Go.RowKit Go.Mp Go.Ck Go.Stab
set_option linter.unusedVariables false
set_option maxRecDepth 100000
set_option maxHeartbeats 8000000
theorem sym_left {c : HV → HV → Int} {S : HV → Prop} (hK : CmpK c S) {w : World} {B g cap : Nat} {P C Q : List (HV × Nat)} {x : HV × Nat} {a m b N : Nat} (ha : a = P.length) (hm : m = a + 1) (hb : b = m + C.length) (hN : N = P.length + (C.length + 1) + Q.length) (hN2 : N ≤ 4194304) (hx : S x.1) (hS : ∀ t ∈ C, S t.1) (hC : So (leC c) C) (hl : ∀ t ∈ C, x.2 ≤ t.2)
    (h : HR w B g cap (lay P (x :: C) Q)) : Calls Try.prog 156 #[.slice (some ⟨g, 0, none⟩) N cap, .int .i64 a, .int .i64 m, .int .i64 b, cmpF] w (MgO c w B g cap P (x :: C) Q) := by
  unfold MgO
  have hbN : b ≤ 4194304 := by omega
  have e1 : IntKind.i64.wrap ((m : Int) - (a : Int)) = 1 := by rw [IntKind.wrap_i64]; omega
  have hT0 := Lib.hid (Tch.refl (fun k => k = g) w)
  replace h := Lib.hid h
  replace hK := Lib.hid hK
  replace ha := Lib.hid ha
  replace hm := Lib.hid hm
  replace hb := Lib.hid hb
  replace hN := Lib.hid hN
  replace hS := Lib.hid hS
  replace hx := Lib.hid hx
  replace hC := Lib.hid hC
  replace hl := Lib.hid hl
  replace hbN := Lib.hid hbN
  go_enter Try.func156, Try.ntmps156
  go_wp2
  go_loopg [10, 11] (b - m + 1) (fun gg ic jc wx => ∃ (i j : Nat), gg = j - i + 1 ∧ ic = .int .i64 i ∧ jc = .int .i64 j ∧ Hid (m ≤ i ∧ i ≤ j ∧ j ≤ b) ∧ Hid (i = m ∨ ∀ y, C[i - m - 1]? = some y → leC c x.1 y.1 = false) ∧ Hid (j = b ∨ ∀ y, C[j - m]? = some y → leC c x.1 y.1 = true) ∧ Hid (HR wx B g cap (lay P (x :: C) Q)) ∧ Hid (Tch (fun k => k = g) w wx))
  case atStart => exact ⟨m, b, rfl, rfl, rfl, Lib.hid ⟨Nat.le_refl _, by have := hb.out; omega, Nat.le_refl _⟩, Lib.hid (.inl rfl), Lib.hid (.inl rfl), h, hT0⟩
  case round =>
    clear h hT0
    obtain ⟨i, j, rfl, rfl, rfl, hij, q1, q2, hR, hT⟩ := hrel
    by_cases hlt : i < j
    · have hk0 : (i : Int) < (j : Int) := nn_lt hlt
      have hm' := hm.out
      have hb' := hb.out
      have ha' := ha.out
      have hij' := hij.out
      have hbN' := hbN.out
      obtain ⟨s, r, hr, f1, f2, f3, f4⟩ := half i j (by omega)
      have hri : i ≤ r := by omega
      have hrj : r < j := by omega
      obtain ⟨y, hy⟩ : ∃ y, C[r - m]? = some y := ⟨_, List.getElem?_eq_getElem (by omega)⟩
      have m1 : (lay P (x :: C) Q)[r]? = some y.1 := by
        have := lay_at (P := P) (Q := Q) (C := x :: C) (k := r - m + 1) (y := y) (by rw [List.getElem?_cons_succ]; exact hy)
        rw [show P.length + (r - m + 1) = r by omega] at this; exact this
      have m2 : (lay P (x :: C) Q)[a]? = some x.1 := by
        have := lay_at (P := P) (Q := Q) (C := x :: C) (k := 0) (y := x) rfl
        rw [show P.length + 0 = a by omega] at this; exact this
      have hN' := hN.out
      have hm0 : So (leC c) C := hC.out
      have hSy : S y.1 := hS.out y (List.mem_of_getElem? hy)
      have hcall := Lib.hid (hK.out.call y.1 x.1 hSy hx.out)
      have i2 : (0 : Int) ≤ (r : Int) := by omega
      have i3 : (r : Int) < (N : Int) := by omega
      have i4 : (0 : Int) ≤ (a : Int) := by omega
      have i5 : (a : Int) < (N : Int) := by omega
      have hwr := Lib.hid (nn_succ2 hrj (by omega))
      replace hm' := Lib.hid hm'
      replace hb' := Lib.hid hb'
      replace ha' := Lib.hid ha'
      replace hij' := Lib.hid hij'
      replace hbN' := Lib.hid hbN'
      replace hr := Lib.hid hr
      replace hri := Lib.hid hri
      replace hrj := Lib.hid hrj
      replace hy := Lib.hid hy
      replace m1 := Lib.hid m1
      replace m2 := Lib.hid m2
      replace hm0 := Lib.hid hm0
      replace hSy := Lib.hid hSy
      replace hN' := Lib.hid hN'
      go_upto_region 5 with fail
      have hS8 : Hid (∀ w', Below wr.heap.size wr w' → w'.cell? ⟨g, r * 4, none⟩ = some (.string y.1.host) ∧ w'.cell? ⟨g, r * 4 + 1, none⟩ = some (.string y.1.route) ∧ w'.cell? ⟨g, r * 4 + 2, none⟩ = some (.slice y.1.eo y.1.en y.1.ec) ∧ w'.cell? ⟨g, r * 4 + 3, none⟩ = some (.slice y.1.po y.1.pn y.1.pc) ∧ w'.cell? ⟨g, a * 4, none⟩ = some (.string x.1.host) ∧ w'.cell? ⟨g, a * 4 + 1, none⟩ = some (.string x.1.route) ∧ w'.cell? ⟨g, a * 4 + 2, none⟩ = some (.slice x.1.eo x.1.en x.1.ec) ∧ w'.cell? ⟨g, a * 4 + 3, none⟩ = some (.slice x.1.po x.1.pn x.1.pc)) := Lib.hid (fun w' h => by
        obtain ⟨⟨a0, a1, a2, a3⟩, _⟩ := (hR.out.below h).cells m1.out
        obtain ⟨⟨b0, b1, b2, b3⟩, _⟩ := (hR.out.below h).cells m2.out
        exact ⟨a0, a1, a2, a3, b0, b1, b2, b3⟩)
      have hcur2 : Hid (Below wr.heap.size wr wr.drew) := Lib.hid (drew_below wr 1)
      go_cut [50] (fun b wx => ∃ t : Bool, b = .bool t ∧ Hid (t = (decide (c y.1 x.1 < 0))) ∧ Hid (Below wr.heap.size wr wx))
      case first =>
        go_region_held3 (fun w' => w'.cell? ⟨g, r * 4, none⟩ = some (.string y.1.host) ∧ w'.cell? ⟨g, r * 4 + 1, none⟩ = some (.string y.1.route) ∧ w'.cell? ⟨g, r * 4 + 2, none⟩ = some (.slice y.1.eo y.1.en y.1.ec) ∧ w'.cell? ⟨g, r * 4 + 3, none⟩ = some (.slice y.1.po y.1.pn y.1.pc) ∧ w'.cell? ⟨g, a * 4, none⟩ = some (.string x.1.host) ∧ w'.cell? ⟨g, a * 4 + 1, none⟩ = some (.string x.1.route) ∧ w'.cell? ⟨g, a * 4 + 2, none⟩ = some (.slice x.1.eo x.1.en x.1.ec) ∧ w'.cell? ⟨g, a * 4 + 3, none⟩ = some (.slice x.1.po x.1.pn x.1.pc))
          (first | exact hS8.out _ hcur2.out | fail)
          (first
            | (go_at_call 102; (with_reducible refine (hcall.out _).mono ?_); rintro e w2 ⟨rfl, hb2⟩; replace hcur2 := Lib.hid (seq_below hcur2.out hb2); clear hb2)
            | fail)
        all_goals (first | (go_wp2; go_meet; exact ⟨_, rfl, Lib.hid rfl, hcur2⟩) | (go_meet; exact ⟨_, rfl, Lib.hid rfl, hcur2⟩))
      case rest =>
        obtain ⟨t, rfl, ht, hbz⟩ := hcut
        have hRc := Lib.hid (hR.out.below hbz.out)
        have hTc := Lib.hid (hT.out.trans (Tch.of_below (S := fun k => k = g) hbz.out) (fun k h => .inl h))
        clear hS8
        cases t
        · have hc : Hid (0 ≤ c y.1 x.1) := Lib.hid (by have := ht.out; revert this; simp)
          clear ht
          go_wp2
          go_roundg (r - i + 1)
          case rel => exact ⟨i, r, rfl, rfl, rfl, Lib.hid (by have := hij'.out; have := hri.out; have := hrj.out; omega), q1, Lib.hid (.inr fun z hz => by rw [hy.out] at hz; cases hz; exact leC_true.2 (Int.not_lt.2 hc.out)), hRc, hTc⟩
          case measure => have := hrj.out; omega
        · have hc : Hid (c y.1 x.1 < 0) := Lib.hid (by have := ht.out; revert this; simp)
          clear ht
          go_wp2
          go_roundg (j - (r + 1) + 1)
          case rel => exact ⟨r + 1, j, rfl, by first | rw [hwr.out] | go_num, rfl, Lib.hid (by have := hij'.out; have := hri.out; have := hrj.out; omega), Lib.hid (.inr fun z hz => by rw [show r + 1 - m - 1 = r - m by omega, hy.out] at hz; cases hz; exact leC_false.2 hc.out), q2, hRc, hTc⟩
          case measure => have := hri.out; have := hrj.out; omega
    · have hk0 : decide ((i : Int) < (j : Int)) = false := decide_eq_false (by omega)
      have hk1 : ¬ (i : Int) < (j : Int) := by omega
      have he : i = j := by have := hij.out; omega
      subst he
      have hm' := hm.out
      have hb' := hb.out
      have ha' := ha.out
      have hij' := hij.out
      have hbN' := hbN.out
      have hfin : So (leC c) (C.take (i - m) ++ x :: C.drop (i - m)) := ins0 hK.out.tot hC.out hl.out (by omega) (q1.out.elim (fun h => .inl (by omega)) .inr) (q2.out.elim (fun h => .inl (by omega)) .inr)
      have hper : (C.take (i - m) ++ x :: C.drop (i - m)).Perm (x :: C) := perm_mid0 (i - m)
      obtain ⟨l, hl'⟩ : ∃ l, l + 1 = i := ⟨i - 1, by omega⟩
      have hwl := wrap_pred hl' (by omega)
      have hR0 : Hid (HR wr B g cap (lay P (C.take 0 ++ x :: C.drop 0) Q)) := Lib.hid (by rw [List.take_zero, List.drop_zero, List.nil_append]; exact hR.out)
      replace hm' := Lib.hid hm'
      replace hb' := Lib.hid hb'
      replace ha' := Lib.hid ha'
      replace hij' := Lib.hid hij'
      replace hbN' := Lib.hid hbN'
      replace hfin := Lib.hid hfin
      replace hper := Lib.hid hper
      replace hl' := Lib.hid hl'
      clear hR q1 q2
      go_upto_region 9 with fail
      go_loopg [13] (l - a + 1) (fun gg kc wx => ∃ (k n : Nat), gg = l - k + 1 ∧ kc = .int .i64 k ∧ Hid (k = a + n) ∧ Hid (k ≤ l) ∧ Hid (HR wx B g cap (lay P (C.take n ++ x :: C.drop n) Q)) ∧ Hid (Tch (fun k => k = g) w wx))
      case atStart => exact ⟨a, 0, rfl, rfl, Lib.hid rfl, Lib.hid (by have := hm'.out; have := hl'.out; have := hij'.out; omega), hR0, hT⟩
      case round =>
        clear hR0 hT
        obtain ⟨k, n, rfl, rfl, hk, hkl, hR, hT⟩ := hrel
        by_cases hlt2 : k < l
        · have hk2 : (k : Int) < (l : Int) := nn_lt hlt2
          have hm2 := hm'.out
          have hk' := hk.out
          have hl2 := hl'.out
          have hij2 := hij'.out
          have hb2 := hb'.out
          have ha2 := ha'.out
          have hN2' := hN.out
          have hbN2 := hbN'.out
          obtain ⟨z, hz⟩ : ∃ z, C[n]? = some z := ⟨_, List.getElem?_eq_getElem (by omega)⟩
          have m1 := map_mid (P := P) (C := C) (R := Q) (y := x) n (by omega)
          have m2 := map_next (P := P) (R := Q) (y := x) hz
          have m3 := map_sw_up (P := P) (R := Q) (y := x) hz
          rw [show P.length + n = k by omega] at m1 m2 m3
          obtain ⟨k1, hk1⟩ : ∃ k1, k1 = k + 1 := ⟨_, rfl⟩
          rw [← hk1] at m2 m3
          have hlen : (lay P (C.take n ++ x :: C.drop n) Q).length = N := by
            rw [lay_len, List.length_append, List.length_take, List.length_cons, List.length_drop]; omega
          obtain ⟨⟨y0, y1, y2, y3⟩, fy0, fy1, fy2, fy3⟩ := hR.out.cells m1
          obtain ⟨⟨x0, x1, x2, x3⟩, fx0, fx1, fx2, fx3⟩ := hR.out.cells m2
          obtain ⟨⟨z0, z1, z2, z3⟩, fz0, fz1, fz2, fz3⟩ := hR.out.between (i := k) (j := k1) (y := z.1) (z := z.1) (by omega) (by omega) m2
          have hsw := Lib.hid (hR.out.sw (i := k) (j := k1) (x := x.1) (y := z.1) (by omega) (by omega))
          rw [m3] at hsw
          have wk : IntKind.i64.wrap ((k : Int) + 1) = (k1 : Int) := by rw [IntKind.wrap_i64]; omega
          have i1 : (0 : Int) ≤ (k : Int) := by omega
          have i2 : (k : Int) < (N : Int) := by omega
          have i3 : (0 : Int) ≤ (k1 : Int) := by omega
          have i4 : (k1 : Int) < (N : Int) := by omega
          clear hm2 hk' hl2 hij2 hb2 ha2 hN2' hbN2
          replace hz := Lib.hid hz
          replace m1 := Lib.hid m1
          replace m2 := Lib.hid m2
          replace m3 := Lib.hid m3
          replace hk1 := Lib.hid hk1
          replace hlen := Lib.hid hlen
          go_wp2
          go_region
          go_wp2
          go_roundg (l - k1 + 1)
          case rel => exact ⟨k1, n + 1, rfl, by first | rfl | rw [wk] | go_num, Lib.hid (by have := hk.out; have := hk1.out; omega), Lib.hid (by have := hk1.out; omega), Lib.hid hsw.out.1.drew, Lib.hid ((hT.out.trans hsw.out.2 (fun k h => .inl h)).drew')⟩
          case measure => have := hk1.out; omega
        · have hk2 : decide ((k : Int) < (l : Int)) = false := decide_eq_false (by omega)
          have hk3 : ¬ (k : Int) < (l : Int) := by omega
          have hn : n = i - m := by have := hk.out; have := hkl.out; have := hl'.out; have := hm'.out; omega
          rw [hn] at hR
          go_wp2
          refine bodyPost_ret (results_none rfl _ _ _) rfl ?_
          exact ⟨rfl, _, hper.out, hfin.out, hR.out, hT.out⟩
end Go.Proofs.Ytjepgpocmnijiaa
end
