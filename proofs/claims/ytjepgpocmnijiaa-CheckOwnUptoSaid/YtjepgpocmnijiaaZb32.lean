/- The law CheckDiffs: its first part. -/
import Derived.Test.YtjepgpocmnijiaaZb30
import Derived.Test.YtjepgpocmnijiaaZb31
section

namespace Go.Proofs.Ytjepgpocmnijiaa
open Go.RowKit Go.Mp Go.Ck Go.Shelf
attribute [local go_sem] Oper.semAt_some
set_option linter.unusedVariables false
set_option maxRecDepth 100000
set_option maxHeartbeats 8000000
theorem diff_some {A B : List Res} {k : Key} {r : Res} (h : diffK A B k = some r) : (∃ a, fnd A k = some a) ∨ ∃ b, fnd B k = some b := by
  unfold diffK goneK at h
  cases hB : fnd B k with
  | some b => exact .inr ⟨b, rfl⟩
  | none =>
    rw [hB] at h
    cases hA : fnd A k with
    | some a => exact .inl ⟨a, rfl⟩
    | none => rw [hA] at h; cases h
theorem diff_len {A B l : List Res} (h : IsDiff A B l) : l.length ≤ A.length + B.length := by
  have hnd : (l.map rk).Nodup := List.pairwise_map.2 (h.1.imp fun h => lessK_ne h)
  have := nodup_len (L := l.map rk) (M := A.map rk ++ B.map rk) hnd (fun k hk => by
    obtain ⟨r, hr, rfl⟩ := List.mem_map.1 hk
    have h1 : fnd l (rk r) = some r := (fnd_nodup hnd).2 ⟨hr, rfl⟩
    rw [h.2] at h1
    rcases diff_some h1 with ⟨a, ha⟩ | ⟨b, hb⟩
    · obtain ⟨e1, e2⟩ := fnd_some ha
      exact List.mem_append_left _ (List.mem_map.2 ⟨a, e2, e1⟩)
    · obtain ⟨e1, e2⟩ := fnd_some hb
      exact List.mem_append_right _ (List.mem_map.2 ⟨b, e2, e1⟩))
  simpa using this
theorem diff27r {A B : List Res} {u1 u2 : Value} {w' : World} (h1 : ResS w' u1 A) (h2 : ResS w' u2 B) (hA : SzL A) (hB : SzL B) (hN : A.length + B.length ≤ 4194304) : Calls Try.prog 27 #[u1, u2] w' fun e w2 => ∃ o2 c2 L, e = .returned (.slice o2 L.length c2) ∧ IsDiff A B L ∧ ResS w2 (.slice o2 L.length c2) L ∧ Below w'.heap.size w' w2 := by
  refine (diff27 A B u1 u2 w' h1 h2 hA hB hN).mono ?_
  rintro e w2 ⟨v2, L, rfl, hE, hO, hb⟩
  have hl := diff_len hE
  rw [List.length_map] at hl
  have hO' : OwnM w2 w'.heap.size v2 (L.map Rw.rv) := hO
  have hr := own_reads2 hO' (by omega)
  obtain ⟨o2, c2, rfl⟩ := slice_shape hr
  exact ⟨o2, c2, _, rfl, hE, hr, hb⟩
theorem diffs5 (C D : List Res) (v1 v2 : Value) (w : World) (h1 : ResS w v1 C) (h2 : ResS w v2 D) (hC : listM C ≤ 1048576) (hD : listM D ≤ 1048576) : Calls Try.prog 5 #[v1, v2] w fun e w' => e = .returned (.bool true) ∧ Below w.heap.size w w' := by
  obtain ⟨ao, cap, rfl⟩ := slice_shape h1
  obtain ⟨bo, bcp, rfl⟩ := slice_shape h2
  have hC2 := Nat.le_trans (len_le C) hC
  have hD2 := Nat.le_trans (len_le D) hD
  have hK18 : ∀ (v' : Value) (w' : World) (l : List Res), ResS w' v' l → SzL l → Calls Try.prog 18 #[v'] w' fun e w2 => ∃ o2 c2, e = .returned (.slice o2 l.length c2) ∧ ResS w2 (.slice o2 l.length c2) l ∧ Below w'.heap.size w' w2 := fun v' w' l h hm => own18r h hm
  have hK22 : ∀ (v1 v2 : Value) (w' : World) (l : List Res), ResS w' v1 l → ResS w' v2 l → Calls Try.prog 22 #[v1, v2] w' fun e w2 => e = .returned (.bool true) ∧ Below w'.heap.size w' w2 := fun v1 v2 w' l h1 h2 => lists22r h1 h2
  have hK27 : ∀ (u1 u2 : Value) (w' : World), ResS w' u1 C → ResS w' u2 D → Calls Try.prog 27 #[u1, u2] w' fun e w2 => ∃ o2 c2 L, e = .returned (.slice o2 L.length c2) ∧ IsDiff C D L ∧ ResS w2 (.slice o2 L.length c2) L ∧ Below w'.heap.size w' w2 := fun u1 u2 w' h1 h2 => diff27r h1 h2 (sz_of hC) (sz_of hD) (by omega)
  have hK28 : ∀ (u1 u2 : Value) (w' : World), ResS w' u1 C → ResS w' u2 D → Calls Try.prog 28 #[u1, u2] w' fun e w2 => ∃ o2 c2 L, e = .returned (.slice o2 L.length c2) ∧ IsDiff C D L ∧ ResS w2 (.slice o2 L.length c2) L ∧ Below w'.heap.size w' w2 := fun u1 u2 w' h1 h2 => by
    refine (diff28 C D u1 u2 w' h1 h2 hC2 hD2).mono ?_
    rintro e w2 ⟨v2, L, rfl, hE, hr, _, hb⟩
    obtain ⟨o2, c2, rfl⟩ := slice_shape hr
    exact ⟨o2, c2, _, rfl, hE, hr, hb⟩
  replace h1 := Lib.hid h1
  replace h2 := Lib.hid h2
  replace hC := Lib.hid hC
  replace hD := Lib.hid hD
  replace hK18 := Lib.hid hK18
  replace hK22 := Lib.hid hK22
  replace hK27 := Lib.hid hK27
  replace hK28 := Lib.hid hK28
  clear hC2 hD2
  go_enter Try.func5, Try.ntmps5
  go_upto_region 2 with (first
    | (go_at_call 18; (with_reducible refine (hK18.out _ _ C h1.out (sz_of hC.out)).mono ?_); rintro e w1 ⟨p1, q1, rfl, ha, hb1⟩; have h21 := Lib.hid (h2.out.below hb1); replace ha := Lib.hid ha; replace hb1 := Lib.hid hb1)
    | (go_at_call 18; (with_reducible refine (hK18.out _ _ D h21.out (sz_of hD.out)).mono ?_); rintro e w2 ⟨p2, q2, rfl, hb, hb2⟩; have ha2 := Lib.hid (ha.out.below hb2); have hB2 := Lib.hid (seq_below hb1.out hb2); replace hb := Lib.hid hb; replace hb2 := Lib.hid hb2)
    | fail)
  go_upto_region 3 with (first
    | (go_at_call 27; (with_reducible refine (hK27.out _ _ _ ha2.out hb.out).mono ?_); rintro e w3 ⟨p3, q3, L3, rfl, hE3, hr3, hb3⟩; have hB3 := Lib.hid (seq_below hB2.out hb3); have ha3 := Lib.hid (ha2.out.below hb3); have hb3' := Lib.hid (hb.out.below hb3); replace hE3 := Lib.hid hE3; replace hr3 := Lib.hid hr3; replace hb3 := Lib.hid hb3)
    | fail)
  have hcur : Hid (Below w3.heap.size w3 w3) := Lib.hid (Below.refl _ _)
  go_wp2_with (first
    | (go_at_call 28; (with_reducible refine (hK28.out _ _ _ (h1.out.below (seq_below hB3.out hcur.out)) (h2.out.below (seq_below hB3.out hcur.out))).mono ?_); rintro e wC ⟨p4, q4, L4, rfl, hE4, hr4, hbC⟩; (obtain rfl := hE4.one hE3.out); replace hcur := Lib.hid (seq_below hcur.out hbC); replace hr4 := Lib.hid hr4; clear hbC hE4)
    | (go_at_call 22; (with_reducible refine (hK22.out _ _ _ _ (hr3.out.below hcur.out) hr4.out).mono ?_); rintro e wC ⟨rfl, hbC⟩; replace hcur := Lib.hid (seq_below hcur.out hbC); clear hbC)
    | (go_at_call 18; (with_reducible refine (hK18.out _ _ C (h1.out.below (seq_below hB3.out hcur.out)) (sz_of hC.out)).mono ?_); rintro e wC ⟨o2, c2, rfl, hv2, hbC⟩; replace hcur := Lib.hid (seq_below hcur.out hbC); replace hv2 := Lib.hid hv2; clear hbC)
    | (go_at_call 18; (with_reducible refine (hK18.out _ _ D (h2.out.below (seq_below hB3.out hcur.out)) (sz_of hD.out)).mono ?_); rintro e wC ⟨o2, c2, rfl, hv2, hbC⟩; replace hcur := Lib.hid (seq_below hcur.out hbC); replace hv2 := Lib.hid hv2; clear hbC)
    | (go_at_call 22; (with_reducible refine (hK22.out _ _ _ C (ha3.out.below hcur.out) hv2.out).mono ?_); rintro e wC ⟨rfl, hbC⟩; replace hcur := Lib.hid (seq_below hcur.out hbC); clear hbC)
    | (go_at_call 22; (with_reducible refine (hK22.out _ _ _ D (hb3'.out.below hcur.out) hv2.out).mono ?_); rintro e wC ⟨rfl, hbC⟩; replace hcur := Lib.hid (seq_below hcur.out hbC); clear hbC)
    | fail)
  have h1C := Lib.hid (h1.out.below (seq_below hB3.out hcur.out))
  have h2C := Lib.hid (h2.out.below (seq_below hB3.out hcur.out))
  have hBC := Lib.hid (seq_below hB3.out hcur.out)
  have hlC := h1.out.1
  have hlD := h2.out.1
  obtain ⟨w7, hw7⟩ : ∃ w7, w7 = wC := ⟨_, rfl⟩
  rw [← hw7]
  rw [← hw7] at h1C h2C hBC
  replace hlC := Lib.hid hlC
  replace hlD := Lib.hid hlD
  clear hw7
  go_loopg [8] (C.length + 1) (fun gg ic wx => ∃ i : Nat, gg = C.length - i + 1 ∧ i ≤ C.length ∧ ic = .int .i64 i ∧ Hid (Below w7.heap.size w7 wx))
  case atStart => exact ⟨0, rfl, Nat.zero_le _, rfl, Lib.hid (Below.refl _ _)⟩
  case round =>
    obtain ⟨i, rfl, hi, rfl, hbw⟩ := hrel
    by_cases hlt : i < C.length
    · by_cases hlt2 : i < D.length
      · obtain ⟨x, hx⟩ : ∃ x, C[i]? = some x := ⟨_, List.getElem?_eq_getElem hlt⟩
        obtain ⟨y, hy⟩ : ∃ y, D[i]? = some y := ⟨_, List.getElem?_eq_getElem hlt2⟩
        obtain ⟨b1, f1, e1, k1, t1, m1, r1, n1, rfl, hbl1, c1, hp1⟩ := res_at2 h1C.out hx
        obtain ⟨b2, f2, e2, k2, t2, m2, r2, n2, rfl, hbl2, c2, hp2⟩ := res_at2 h2C.out hy
        have hk0 : (i : Int) < (C.length : Int) := nn_lt hlt
        have hk1 : (i : Int) < (D.length : Int) := nn_lt hlt2
        have hk2 : (0 : Int) ≤ (i : Int) := by omega
        have hwk := Lib.hid (nn_succ2 hlt hlC.out)
        obtain ⟨sm, hsm⟩ : ∃ s, sameR x y = s := ⟨_, rfl⟩
        have hS : Hid (∀ w', Below w7.heap.size w7 w' → w'.cell? ⟨b1, f1 + i * 8, none⟩ = some (.int .i64 x.kind) ∧ w'.cell? ⟨b1, f1 + i * 8 + 1, none⟩ = some (.string x.name) ∧ w'.cell? ⟨b1, f1 + i * 8 + 2, none⟩ = some (.slice e1 x.eps.length k1) ∧ w'.cell? ⟨b1, f1 + i * 8 + 3, none⟩ = some (.slice t1 x.tgts.length m1) ∧ w'.cell? ⟨b1, f1 + i * 8 + 4, none⟩ = some (.string x.host) ∧ w'.cell? ⟨b1, f1 + i * 8 + 5, none⟩ = some (.slice r1 x.rules.length n1) ∧ w'.cell? ⟨b1, f1 + i * 8 + 6, none⟩ = some (.string x.route) ∧ w'.cell? ⟨b1, f1 + i * 8 + 7, none⟩ = some (.bool x.del) ∧ w'.cell? ⟨b2, f2 + i * 8, none⟩ = some (.int .i64 y.kind) ∧ w'.cell? ⟨b2, f2 + i * 8 + 1, none⟩ = some (.string y.name) ∧ w'.cell? ⟨b2, f2 + i * 8 + 2, none⟩ = some (.slice e2 y.eps.length k2) ∧ w'.cell? ⟨b2, f2 + i * 8 + 3, none⟩ = some (.slice t2 y.tgts.length m2) ∧ w'.cell? ⟨b2, f2 + i * 8 + 4, none⟩ = some (.string y.host) ∧ w'.cell? ⟨b2, f2 + i * 8 + 5, none⟩ = some (.slice r2 y.rules.length n2) ∧ w'.cell? ⟨b2, f2 + i * 8 + 6, none⟩ = some (.string y.route) ∧ w'.cell? ⟨b2, f2 + i * 8 + 7, none⟩ = some (.bool y.del)) := Lib.hid (fun w' h => by
          have a := c1.below hbl1 h
          have b := c2.below hbl2 h
          exact ⟨a.c0, a.c1, a.c2, a.c3, a.c4, a.c5, a.c6, a.c7, b.c0, b.c1, b.c2, b.c3, b.c4, b.c5, b.c6, b.c7⟩)
        have k29 : Hid (∀ w', Below w7.heap.size w7 w' → Calls Try.prog 29 _ w' _) := Lib.hid (fun w' h => same29 x y _ _ _ _ _ _ w' (hp1.below h) (hp2.below h))
        have k29x : Hid (∀ w', Below w7.heap.size w7 w' → Calls Try.prog 29 _ w' _) := Lib.hid (fun w' h => same29 x x _ _ _ _ _ _ w' (hp1.below h) (hp1.below h))
        have k30 : Hid (∀ w', Below w7.heap.size w7 w' → Calls Try.prog 30 _ w' _) := Lib.hid (fun w' h => same30 x y _ _ _ _ _ _ w' (hp1.below h) (hp2.below h))
        have hn : (sm != sm) = false := by cases sm <;> rfl
        rw [hsm] at k29 k30
        rw [sameR_refl] at k29x
        replace hx := Lib.hid hx
        replace hy := Lib.hid hy
        replace hsm := Lib.hid hsm
        replace hp1 := Lib.hid hp1
        replace hp2 := Lib.hid hp2
        replace hbl1 := Lib.hid hbl1
        replace hbl2 := Lib.hid hbl2
        clear c1 c2
        go_upto_region 8 with fail
        have hcur2 : Hid (Below w7.heap.size w7 wr.drew) := Lib.hid (seq_below hbw.out (drew_below wr 1))
        go_cut [78] (fun b wx => b = .bool false ∧ Hid (Below w7.heap.size w7 wx))
        case first =>
          obtain ⟨x0, x1, x2, x3, x4, x5, x6, x7, y0, y1, y2, y3, y4, y5, y6, y7⟩ := hS.out wr hbw.out
          go_region_held3 (fun w' => w'.cell? ⟨b1, f1 + i * 8, none⟩ = some (.int .i64 x.kind) ∧ w'.cell? ⟨b1, f1 + i * 8 + 1, none⟩ = some (.string x.name) ∧ w'.cell? ⟨b1, f1 + i * 8 + 2, none⟩ = some (.slice e1 x.eps.length k1) ∧ w'.cell? ⟨b1, f1 + i * 8 + 3, none⟩ = some (.slice t1 x.tgts.length m1) ∧ w'.cell? ⟨b1, f1 + i * 8 + 4, none⟩ = some (.string x.host) ∧ w'.cell? ⟨b1, f1 + i * 8 + 5, none⟩ = some (.slice r1 x.rules.length n1) ∧ w'.cell? ⟨b1, f1 + i * 8 + 6, none⟩ = some (.string x.route) ∧ w'.cell? ⟨b1, f1 + i * 8 + 7, none⟩ = some (.bool x.del) ∧ w'.cell? ⟨b2, f2 + i * 8, none⟩ = some (.int .i64 y.kind) ∧ w'.cell? ⟨b2, f2 + i * 8 + 1, none⟩ = some (.string y.name) ∧ w'.cell? ⟨b2, f2 + i * 8 + 2, none⟩ = some (.slice e2 y.eps.length k2) ∧ w'.cell? ⟨b2, f2 + i * 8 + 3, none⟩ = some (.slice t2 y.tgts.length m2) ∧ w'.cell? ⟨b2, f2 + i * 8 + 4, none⟩ = some (.string y.host) ∧ w'.cell? ⟨b2, f2 + i * 8 + 5, none⟩ = some (.slice r2 y.rules.length n2) ∧ w'.cell? ⟨b2, f2 + i * 8 + 6, none⟩ = some (.string y.route) ∧ w'.cell? ⟨b2, f2 + i * 8 + 7, none⟩ = some (.bool y.del))
            (first | exact hS.out _ hcur2.out | fail)
            (first
              | (go_at_call 30; (with_reducible refine (k30.out _ hcur2.out).mono ?_); rintro e wC ⟨rfl, hbC⟩; replace hcur2 := Lib.hid (seq_below hcur2.out hbC); clear hbC)
              | (go_at_call 29; (with_reducible refine (k29.out _ hcur2.out).mono ?_); rintro e wC ⟨rfl, hbC⟩; replace hcur2 := Lib.hid (seq_below hcur2.out hbC); clear hbC)
              | (go_at_call 29; (with_reducible refine (k29x.out _ hcur2.out).mono ?_); rintro e wC ⟨rfl, hbC⟩; replace hcur2 := Lib.hid (seq_below hcur2.out hbC); clear hbC)
              | fail)
          all_goals (first | (go_wp2; go_meet; exact ⟨rfl, hcur2⟩) | (go_meet; exact ⟨rfl, hcur2⟩))
        case rest =>
          obtain ⟨rfl, hbz⟩ := hcut
          go_wp2
          go_roundg (C.length - (i + 1) + 1)
          case rel => exact ⟨i + 1, rfl, hlt, by first | rw [hwk.out] | go_num, hbz⟩
          case measure => exact nn_downS hlt
      · have hk0 : (i : Int) < (C.length : Int) := nn_lt hlt
        have hk1 : decide ((i : Int) < (D.length : Int)) = false := decide_eq_false (by omega)
        have hk2 : ¬ (i : Int) < (D.length : Int) := by omega
        go_wp2
        go_ret
        exact ⟨rfl, seq_below hBC.out hbw.out⟩
    · have hk0 : decide ((i : Int) < (C.length : Int)) = false := decide_eq_false (by omega)
      have hk2 : ¬ (i : Int) < (C.length : Int) := by omega
      go_wp2
      go_ret
      exact ⟨rfl, seq_below hBC.out hbw.out⟩
end Go.Proofs.Ytjepgpocmnijiaa
end
