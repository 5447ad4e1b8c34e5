/- One host merged into those ahead of it. -/
import Derived.Test.YtjepgpocmnijiaaZy16
section

namespace Go.Proofs.Ytjepgpocmnijiaa
open Go.RowKit Go.Mp Go.Ck Go.Stab
set_option linter.unusedVariables false
set_option maxRecDepth 100000
set_option maxHeartbeats 8000000
theorem sym_right {c : HV → HV → Int} {S : HV → Prop} (hK : CmpK c S) {w : World} {B g cap : Nat} {P A Q : List (HV × Nat)} {y : HV × Nat} {a m b N : Nat} (ha : a = P.length) (hm : m = a + A.length) (hb : b = m + 1) (hA2 : A.length ≠ 1) (hN : N = P.length + (A.length + 1) + Q.length) (hN2 : N ≤ 4194304) (hy : S y.1) (hS : ∀ t ∈ A, S t.1) (hA : So (leC c) A) (hl : ∀ t ∈ A, t.2 ≤ y.2)
    (h : HR w B g cap (lay P (A ++ [y]) Q)) : Calls Try.prog 156 #[.slice (some ⟨g, 0, none⟩) N cap, .int .i64 a, .int .i64 m, .int .i64 b, cmpF] w (MgO c w B g cap P (A ++ [y]) Q) := by
  have hbN : b ≤ 4194304 := by omega
  have e0 : IntKind.i64.wrap ((m : Int) - (a : Int)) = ((m - a : Nat) : Int) := by rw [IntKind.wrap_i64]; omega
  have e0' : ¬ ((m - a : Nat) : Int) = 1 := by omega
  have e0b : (((m - a : Nat) : Int) == 1) = false := by simp [e0']
  have e1 : IntKind.i64.wrap ((b : Int) - (m : Int)) = 1 := by rw [IntKind.wrap_i64]; omega
  have hT0 := Lib.hid (Tch.refl (fun k => k = g) w)
  replace h := Lib.hid h
  replace hK := Lib.hid hK
  replace ha := Lib.hid ha
  replace hm := Lib.hid hm
  replace hb := Lib.hid hb
  replace hN := Lib.hid hN
  replace hy := Lib.hid hy
  replace hS := Lib.hid hS
  replace hA := Lib.hid hA
  replace hl := Lib.hid hl
  replace hbN := Lib.hid hbN
  replace hA2 := Lib.hid hA2
  go_enter Try.func156, Try.ntmps156
  go_wp2
  go_loopg [14, 15] (m - a + 1) (fun gg ic jc wx => ∃ (i j : Nat), gg = j - i + 1 ∧ ic = .int .i64 i ∧ jc = .int .i64 j ∧ Hid (a ≤ i ∧ i ≤ j ∧ j ≤ m) ∧ Hid (i = a ∨ ∀ x, A[i - a - 1]? = some x → leC c x.1 y.1 = true) ∧ Hid (j = m ∨ ∀ x, A[j - a]? = some x → leC c x.1 y.1 = false) ∧ Hid (HR wx B g cap (lay P (A ++ [y]) Q)) ∧ Hid (Tch (fun k => k = g) w wx))
  case atStart => exact ⟨a, m, rfl, rfl, rfl, Lib.hid ⟨Nat.le_refl _, by have := hm.out; omega, Nat.le_refl _⟩, Lib.hid (.inl rfl), Lib.hid (.inl rfl), h, hT0⟩
  case round =>
    clear h hT0
    obtain ⟨i, j, rfl, rfl, rfl, hij, q1, q2, hR, hT⟩ := hrel
    by_cases hlt : i < j
    · have hk0 : (i : Int) < (j : Int) := nn_lt hlt
      have hm' := hm.out
      have hb' := hb.out
      have ha' := ha.out
      have hij' := hij.out
      have hbN' := hbN.out
      obtain ⟨s, r, hr, f1, f2, f3, f4⟩ := half i j (by omega)
      have hri : i ≤ r := by omega
      have hrj : r < j := by omega
      obtain ⟨x, hx⟩ : ∃ x, A[r - a]? = some x := ⟨_, List.getElem?_eq_getElem (by omega)⟩
      have m1 : (lay P (A ++ [y]) Q)[m]? = some y.1 := by
        have := lay_at (P := P) (Q := Q) (C := A ++ [y]) (k := A.length) (y := y) (by rw [List.getElem?_append_right (Nat.le_refl _), Nat.sub_self]; rfl)
        rw [show P.length + A.length = m by omega] at this; exact this
      have m2 : (lay P (A ++ [y]) Q)[r]? = some x.1 := by
        have := lay_at (P := P) (Q := Q) (C := A ++ [y]) (k := r - a) (y := x) (by rw [List.getElem?_append_left (by omega)]; exact hx)
        rw [show P.length + (r - a) = r by omega] at this; exact this
      have hN' := hN.out
      have hm0 : So (leC c) A := hA.out
      have hSx : S x.1 := hS.out x (List.mem_of_getElem? hx)
      have hcall := Lib.hid (hK.out.call y.1 x.1 hy.out hSx)
      have i2 : (0 : Int) ≤ (r : Int) := by omega
      have i3 : (r : Int) < (N : Int) := by omega
      have i4 : (0 : Int) ≤ (m : Int) := by omega
      have i5 : (m : Int) < (N : Int) := by omega
      have hwr := Lib.hid (nn_succ2 hrj (by omega))
      replace hm' := Lib.hid hm'
      replace hb' := Lib.hid hb'
      replace ha' := Lib.hid ha'
      replace hij' := Lib.hid hij'
      replace hbN' := Lib.hid hbN'
      replace hr := Lib.hid hr
      replace hri := Lib.hid hri
      replace hrj := Lib.hid hrj
      replace hx := Lib.hid hx
      replace m1 := Lib.hid m1
      replace m2 := Lib.hid m2
      replace hm0 := Lib.hid hm0
      replace hSx := Lib.hid hSx
      replace hN' := Lib.hid hN'
      go_upto_region 17 with fail
      have hS8 : Hid (∀ w', Below wr.heap.size wr w' → w'.cell? ⟨g, m * 4, none⟩ = some (.string y.1.host) ∧ w'.cell? ⟨g, m * 4 + 1, none⟩ = some (.string y.1.route) ∧ w'.cell? ⟨g, m * 4 + 2, none⟩ = some (.slice y.1.eo y.1.en y.1.ec) ∧ w'.cell? ⟨g, m * 4 + 3, none⟩ = some (.slice y.1.po y.1.pn y.1.pc) ∧ w'.cell? ⟨g, r * 4, none⟩ = some (.string x.1.host) ∧ w'.cell? ⟨g, r * 4 + 1, none⟩ = some (.string x.1.route) ∧ w'.cell? ⟨g, r * 4 + 2, none⟩ = some (.slice x.1.eo x.1.en x.1.ec) ∧ w'.cell? ⟨g, r * 4 + 3, none⟩ = some (.slice x.1.po x.1.pn x.1.pc)) := Lib.hid (fun w' h => by
        obtain ⟨⟨a0, a1, a2, a3⟩, _⟩ := (hR.out.below h).cells m1.out
        obtain ⟨⟨b0, b1, b2, b3⟩, _⟩ := (hR.out.below h).cells m2.out
        exact ⟨a0, a1, a2, a3, b0, b1, b2, b3⟩)
      have hcur2 : Hid (Below wr.heap.size wr wr.drew) := Lib.hid (drew_below wr 1)
      go_cut [103] (fun b wx => ∃ t : Bool, b = .bool t ∧ Hid (t = (!decide (c y.1 x.1 < 0))) ∧ Hid (Below wr.heap.size wr wx))
      case first =>
        go_region_held3 (fun w' => w'.cell? ⟨g, m * 4, none⟩ = some (.string y.1.host) ∧ w'.cell? ⟨g, m * 4 + 1, none⟩ = some (.string y.1.route) ∧ w'.cell? ⟨g, m * 4 + 2, none⟩ = some (.slice y.1.eo y.1.en y.1.ec) ∧ w'.cell? ⟨g, m * 4 + 3, none⟩ = some (.slice y.1.po y.1.pn y.1.pc) ∧ w'.cell? ⟨g, r * 4, none⟩ = some (.string x.1.host) ∧ w'.cell? ⟨g, r * 4 + 1, none⟩ = some (.string x.1.route) ∧ w'.cell? ⟨g, r * 4 + 2, none⟩ = some (.slice x.1.eo x.1.en x.1.ec) ∧ w'.cell? ⟨g, r * 4 + 3, none⟩ = some (.slice x.1.po x.1.pn x.1.pc))
          (first | exact hS8.out _ hcur2.out | fail)
          (first
            | (go_at_call 102; (with_reducible refine (hcall.out _).mono ?_); rintro e w2 ⟨rfl, hb2⟩; replace hcur2 := Lib.hid (seq_below hcur2.out hb2); clear hb2)
            | fail)
        all_goals (first | (go_wp2; go_meet; exact ⟨_, rfl, Lib.hid rfl, hcur2⟩) | (go_meet; exact ⟨_, rfl, Lib.hid rfl, hcur2⟩))
      case rest =>
        obtain ⟨t, rfl, ht, hbz⟩ := hcut
        have hRc := Lib.hid (hR.out.below hbz.out)
        have hTc := Lib.hid (hT.out.trans (Tch.of_below (S := fun k => k = g) hbz.out) (fun k h => .inl h))
        clear hS8
        cases t
        · have hc : Hid (c y.1 x.1 < 0) := Lib.hid (by have := ht.out; revert this; simp)
          clear ht
          go_wp2
          go_roundg (r - i + 1)
          case rel => exact ⟨i, r, rfl, rfl, rfl, Lib.hid (by have := hij'.out; have := hri.out; have := hrj.out; omega), q1, Lib.hid (.inr fun z hz => by rw [hx.out] at hz; cases hz; exact leC_false.2 hc.out), hRc, hTc⟩
          case measure => have := hrj.out; omega
        · have hc : Hid (0 ≤ c y.1 x.1) := Lib.hid (by have := ht.out; revert this; simp)
          clear ht
          go_wp2
          go_roundg (j - (r + 1) + 1)
          case rel => exact ⟨r + 1, j, rfl, by first | rw [hwr.out] | go_num, rfl, Lib.hid (by have := hij'.out; have := hri.out; have := hrj.out; omega), Lib.hid (.inr fun z hz => by rw [show r + 1 - a - 1 = r - a by omega, hx.out] at hz; cases hz; exact leC_true.2 (Int.not_lt.2 hc.out)), q2, hRc, hTc⟩
          case measure => have := hri.out; have := hrj.out; omega
    · have hk0 : decide ((i : Int) < (j : Int)) = false := decide_eq_false (by omega)
      have hk1 : ¬ (i : Int) < (j : Int) := by omega
      have he : i = j := by have := hij.out; omega
      subst he
      have hm' := hm.out
      have hb' := hb.out
      have ha' := ha.out
      have hij' := hij.out
      have hbN' := hbN.out
      have hfin : So (leC c) (A.take (i - a) ++ y :: A.drop (i - a)) := ins hK.out.tot hA.out hl.out (by omega) (q1.out.elim (fun h => .inl (by omega)) .inr) (q2.out.elim (fun h => .inl (by omega)) .inr)
      have hper : (A.take (i - a) ++ y :: A.drop (i - a)).Perm (A ++ [y]) := perm_mid (i - a)
      have hR0 : Hid (HR wr B g cap (lay P (A.take A.length ++ y :: A.drop A.length) Q)) := Lib.hid (by rw [List.take_length, List.drop_length]; exact hR.out)
      replace hm' := Lib.hid hm'
      replace hb' := Lib.hid hb'
      replace ha' := Lib.hid ha'
      replace hij' := Lib.hid hij'
      replace hbN' := Lib.hid hbN'
      replace hfin := Lib.hid hfin
      replace hper := Lib.hid hper
      clear hR q1 q2
      go_upto_region 21 with fail
      go_loopg [17] (m - i + 1) (fun gg kc wx => ∃ (k n : Nat), gg = k - i + 1 ∧ kc = .int .i64 k ∧ Hid (k = a + n) ∧ Hid (i ≤ k) ∧ Hid (k ≤ m) ∧ Hid (HR wx B g cap (lay P (A.take n ++ y :: A.drop n) Q)) ∧ Hid (Tch (fun k => k = g) w wx))
      case atStart => exact ⟨m, A.length, rfl, rfl, hm', Lib.hid (by have := hij'.out; omega), Lib.hid (Nat.le_refl _), hR0, hT⟩
      case round =>
        clear hR0 hT
        obtain ⟨k, n, rfl, rfl, hk, hik, hkm, hR, hT⟩ := hrel
        by_cases hlt2 : i < k
        · have hk2 : (i : Int) < (k : Int) := nn_lt hlt2
          have hm2 := hm'.out
          have hk' := hk.out
          have hij2 := hij'.out
          have hkm2 := hkm.out
          have hb2 := hb'.out
          have ha2 := ha'.out
          have hN2' := hN.out
          have hbN2 := hbN'.out
          obtain ⟨n', rfl⟩ : ∃ n', n = n' + 1 := ⟨n - 1, by omega⟩
          obtain ⟨z, hz⟩ : ∃ z, A[n']? = some z := ⟨_, List.getElem?_eq_getElem (by omega)⟩
          have m1 := map_mid (P := P) (C := A) (R := Q) (y := y) (n' + 1) (by omega)
          have m2 := map_pred (P := P) (R := Q) (y := y) hz
          have m3 := map_sw (P := P) (R := Q) (y := y) hz
          obtain ⟨k1, hk1⟩ : ∃ k1, k1 + 1 = k := ⟨k - 1, by omega⟩
          rw [show P.length + (n' + 1) = k by omega] at m1
          rw [show P.length + n' = k1 by omega] at m2 m3
          rw [hk1] at m3
          have hlen : (lay P (A.take (n' + 1) ++ y :: A.drop (n' + 1)) Q).length = N := by
            rw [lay_len, List.length_append, List.length_take, List.length_cons, List.length_drop]; omega
          obtain ⟨⟨y0, y1, y2, y3⟩, fy0, fy1, fy2, fy3⟩ := hR.out.cells m1
          obtain ⟨⟨x0, x1, x2, x3⟩, fx0, fx1, fx2, fx3⟩ := hR.out.cells m2
          obtain ⟨⟨z0, z1, z2, z3⟩, fz0, fz1, fz2, fz3⟩ := hR.out.between (i := k) (j := k1) (y := z.1) (z := z.1) (by omega) (by omega) m2
          have hsw := Lib.hid (hR.out.sw (i := k) (j := k1) (x := y.1) (y := z.1) (by omega) (by omega))
          rw [m3] at hsw
          have wk := wrap_pred hk1 (by omega)
          have i1 : (0 : Int) ≤ (k : Int) := by omega
          have i2 : (k : Int) < (N : Int) := by omega
          have i3 : (0 : Int) ≤ (k1 : Int) := by omega
          have i4 : (k1 : Int) < (N : Int) := by omega
          clear hm2 hk' hij2 hkm2 hb2 ha2 hN2' hbN2
          replace hz := Lib.hid hz
          replace m1 := Lib.hid m1
          replace m2 := Lib.hid m2
          replace m3 := Lib.hid m3
          replace hk1 := Lib.hid hk1
          replace hlen := Lib.hid hlen
          go_wp2
          go_region
          go_wp2
          go_roundg (k1 - i + 1)
          case rel => exact ⟨k1, n', rfl, by first | rfl | rw [wk] | go_num, Lib.hid (by have := hk.out; have := hk1.out; omega), Lib.hid (by have := hk1.out; omega), Lib.hid (by have := hk1.out; have := hkm.out; omega), Lib.hid hsw.out.1.drew, Lib.hid ((hT.out.trans hsw.out.2 (fun k h => .inl h)).drew')⟩
          case measure => have := hk1.out; omega
        · have hk2 : decide ((i : Int) < (k : Int)) = false := decide_eq_false (by omega)
          have hk3 : ¬ (i : Int) < (k : Int) := by omega
          have hn : n = i - a := by have := hk.out; have := hik.out; omega
          rw [hn] at hR
          go_wp2
          refine bodyPost_ret (results_none rfl _ _ _) rfl ?_
          unfold MgO
          exact ⟨rfl, _, hper.out, hfin.out, hR.out, hT.out⟩
end Go.Proofs.Ytjepgpocmnijiaa
end
