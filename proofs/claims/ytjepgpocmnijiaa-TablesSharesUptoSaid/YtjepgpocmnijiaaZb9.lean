/- The walks of the document's Out and of Ordered. -/
import Derived.Test.YtjepgpocmnijiaaZb8
section

namespace Go.Proofs.Ytjepgpocmnijiaa
open Go.RowKit Go.Mp Go.Ck
set_option linter.unusedVariables false
set_option maxRecDepth 100000
set_option maxHeartbeats 4000000
theorem Out24 (l : List Res) (v : Value) (w : World) (hl : ResS w v l) : Calls Try.prog 24 #[v] w fun e w' => e = .returned (.int .i64 (outI l)) ∧ Below w.heap.size w w' := by
  obtain ⟨ao, cap, rfl⟩ := slice_shape hl
  have hlen := hl.1
  unfold outI
  replace hl := Lib.hid hl
  go_enter Try.func24, Try.ntmps24
  go_wp2
  go_loopg [3] (l.length + 1) (fun gg ic wr => ∃ i : Nat, gg = l.length - i + 1 ∧ i ≤ l.length ∧ ic = .int .i64 i ∧ Hid (∀ j, j < i → badIx l j = false) ∧ Hid (Below w.heap.size w wr))
  case atStart => exact ⟨0, rfl, Nat.zero_le _, rfl, Lib.hid (fun j hj => absurd hj (Nat.not_lt_zero j)), Lib.hid (Below.refl _ _)⟩
  case round =>
    obtain ⟨i, rfl, hi, rfl, hno, hbw⟩ := hrel
    by_cases hlt : i < l.length
    · obtain ⟨r, hr⟩ : ∃ r, l[i]? = some r := ⟨_, List.getElem?_eq_getElem hlt⟩
      obtain ⟨b, off, eo, ec, ta, tc, ra, rc, rfl, hbl, c, _⟩ := res_at hl.out hbw.out hr
      obtain ⟨c0, c1, c2, c3, c4, c5, c6, c7⟩ := id c
      have hix := badIx_at hr
      have hk0 : (i : Int) < (l.length : Int) := nn_lt hlt
      have hwk := Lib.hid (nn_succ2 hlt hlen)
      by_cases h1 : r.kind < 1
      · skip
        have hf := firstN_at hno.out hlt (hix.trans (bad_early (.inl h1)))
        replace hix := Lib.hid hix
        replace hf := Lib.hid hf
        replace hno := Lib.hid hno
        replace c := Lib.hid c
        go_upto_region 4 with fail
        go_quiet (fail)
        all_goals
          go_wp2
          go_ret
          exact ⟨ret_i hf.out.symm, below_drewN hbw.out _⟩
      · have d1 : decide (r.kind < 1) = false := decide_eq_false h1
        by_cases h2 : 4 < r.kind
        · skip
          have hf := firstN_at hno.out hlt (hix.trans (bad_early (.inr (.inl h2))))
          replace hix := Lib.hid hix
          replace hf := Lib.hid hf
          replace hno := Lib.hid hno
          replace c := Lib.hid c
          go_upto_region 4 with fail
          go_quiet (fail)
          all_goals
            go_wp2
            go_ret
            exact ⟨ret_i hf.out.symm, below_drewN hbw.out _⟩
        · have d2 : decide (4 < r.kind) = false := decide_eq_false h2
          cases h3 : r.del with
          | true =>
            rw [h3] at c7
            have hf := firstN_at hno.out hlt (hix.trans (bad_early (.inr (.inr h3))))
            replace hix := Lib.hid hix
            replace hf := Lib.hid hf
            replace hno := Lib.hid hno
            replace c := Lib.hid c
            go_upto_region 4 with fail
            go_quiet (fail)
            all_goals
              go_wp2
              go_ret
              exact ⟨ret_i hf.out.symm, below_drewN hbw.out _⟩
          | false =>
            rw [h3] at c7
            by_cases h4 : 0 < i
            · obtain ⟨j, hj⟩ : ∃ j, j + 1 = i := ⟨i - 1, by omega⟩
              have hjl : j < l.length := by omega
              obtain ⟨p, hp⟩ : ∃ p, l[j]? = some p := ⟨_, List.getElem?_eq_getElem hjl⟩
              obtain ⟨b', off', eo', ec', ta', tc', ra', rc', e', _, c', _⟩ := res_at hl.out hbw.out hp
              simp only [Option.some.injEq, Addr.mk.injEq, and_true] at e'
              obtain ⟨rfl, rfl⟩ := e'
              have hn := bad_next d1 d2 h3 hj hp
              have hwp := wrap_pred hj (by omega)
              have g4 : (0 : Int) < (i : Int) := by omega
              have g5 : (0 : Int) ≤ (j : Int) := by omega
              have g6 : (j : Int) < (l.length : Int) := nn_lt hjl
              have hbl2 : b < wr.heap.size := Nat.lt_of_lt_of_le hbl hbw.out.size
              have hS : Hid (∀ w', Below wr.heap.size wr w' → Below wr.heap.size wr w' ∧ w'.cell? ⟨b, off + i * 8, none⟩ = some (.int .i64 r.kind) ∧ w'.cell? ⟨b, off + i * 8 + 1, none⟩ = some (.string r.name) ∧ w'.cell? ⟨b, off + i * 8 + 2, none⟩ = some (.slice eo r.eps.length ec) ∧ w'.cell? ⟨b, off + i * 8 + 3, none⟩ = some (.slice ta r.tgts.length tc) ∧ w'.cell? ⟨b, off + i * 8 + 4, none⟩ = some (.string r.host) ∧ w'.cell? ⟨b, off + i * 8 + 5, none⟩ = some (.slice ra r.rules.length rc) ∧ w'.cell? ⟨b, off + i * 8 + 6, none⟩ = some (.string r.route) ∧ w'.cell? ⟨b, off + i * 8 + 7, none⟩ = some (.bool false) ∧ w'.cell? ⟨b, off + j * 8, none⟩ = some (.int .i64 p.kind) ∧ w'.cell? ⟨b, off + j * 8 + 1, none⟩ = some (.string p.name) ∧ w'.cell? ⟨b, off + j * 8 + 2, none⟩ = some (Value.slice eo' p.eps.length ec') ∧ w'.cell? ⟨b, off + j * 8 + 3, none⟩ = some (Value.slice ta' p.tgts.length tc') ∧ w'.cell? ⟨b, off + j * 8 + 4, none⟩ = some (.string p.host) ∧ w'.cell? ⟨b, off + j * 8 + 5, none⟩ = some (Value.slice ra' p.rules.length rc') ∧ w'.cell? ⟨b, off + j * 8 + 6, none⟩ = some (.string p.route) ∧ w'.cell? ⟨b, off + j * 8 + 7, none⟩ = some (.bool p.del)) := Lib.hid (fun w' hw => by
                obtain ⟨q0, q1, q2, q3, q4, q5, q6, q7⟩ := c.below hbl2 hw
                obtain ⟨z0, z1, z2, z3, z4, z5, z6, z7⟩ := c'.below hbl2 hw
                rw [h3] at q7
                exact ⟨hw, q0, q1, q2, q3, q4, q5, q6, q7, z0, z1, z2, z3, z4, z5, z6, z7⟩)
              have hrefl : Hid (Below wr.heap.size wr wr.drew) := Lib.hid ⟨rfl, rfl, rfl, Nat.le_refl _, fun _ _ => rfl⟩
              obtain ⟨bb, hbb⟩ : ∃ bb, bb = less p r := ⟨_, rfl⟩
              have hO : Hid (∀ w', Below wr.heap.size wr w' → Calls Try.prog 32 #[.agg #[.int .i64 p.kind, .string p.name, .slice eo' p.eps.length ec', .slice ta' p.tgts.length tc', .string p.host, .slice ra' p.rules.length rc', .string p.route, .bool p.del], .agg #[.int .i64 r.kind, .string r.name, .slice eo r.eps.length ec, .slice ta r.tgts.length tc, .string r.host, .slice ra r.rules.length rc, .string r.route, .bool false]] w' fun e w2 => e = .returned (.bool bb) ∧ Below wr.heap.size wr w2) := Lib.hid (fun w' h => by rw [hbb, ← h3]; exact (less32 p r _ _ _ _ _ _ w').mono fun _ _ ⟨he, hb⟩ => ⟨he, seq_below h hb⟩)
              rw [← hbb] at hn
              replace hbl2 := Lib.hid hbl2
              clear c c' c0 c1 c2 c3 c4 c5 c6 c7
              cases bb with
              | true =>
                have hnb : badIx l i = false := by rw [hix, hn]; rfl
                have hno2 : ∀ j, j < i + 1 → badIx l j = false := fun j hj => by
                  rcases Nat.lt_succ_iff_lt_or_eq.1 hj with h | h
                  · exact hno.out j h
                  · rw [h]; exact hnb
                replace hix := Lib.hid hix
                replace hn := Lib.hid hn
                replace hno := Lib.hid hno
                replace hbb := Lib.hid hbb
                replace hnb := Lib.hid hnb
                replace hno2 := Lib.hid hno2
                go_upto_region 4 with fail
                go_region_held3 (fun w' => Below wr.heap.size wr w' ∧ w'.cell? ⟨b, off + i * 8, none⟩ = some (.int .i64 r.kind) ∧ w'.cell? ⟨b, off + i * 8 + 1, none⟩ = some (.string r.name) ∧ w'.cell? ⟨b, off + i * 8 + 2, none⟩ = some (.slice eo r.eps.length ec) ∧ w'.cell? ⟨b, off + i * 8 + 3, none⟩ = some (.slice ta r.tgts.length tc) ∧ w'.cell? ⟨b, off + i * 8 + 4, none⟩ = some (.string r.host) ∧ w'.cell? ⟨b, off + i * 8 + 5, none⟩ = some (.slice ra r.rules.length rc) ∧ w'.cell? ⟨b, off + i * 8 + 6, none⟩ = some (.string r.route) ∧ w'.cell? ⟨b, off + i * 8 + 7, none⟩ = some (.bool false) ∧ w'.cell? ⟨b, off + j * 8, none⟩ = some (.int .i64 p.kind) ∧ w'.cell? ⟨b, off + j * 8 + 1, none⟩ = some (.string p.name) ∧ w'.cell? ⟨b, off + j * 8 + 2, none⟩ = some (Value.slice eo' p.eps.length ec') ∧ w'.cell? ⟨b, off + j * 8 + 3, none⟩ = some (Value.slice ta' p.tgts.length tc') ∧ w'.cell? ⟨b, off + j * 8 + 4, none⟩ = some (.string p.host) ∧ w'.cell? ⟨b, off + j * 8 + 5, none⟩ = some (Value.slice ra' p.rules.length rc') ∧ w'.cell? ⟨b, off + j * 8 + 6, none⟩ = some (.string p.route) ∧ w'.cell? ⟨b, off + j * 8 + 7, none⟩ = some (.bool p.del))
                  (first | exact hS.out _ hrefl.out | exact hS.out _ tC.out | fail)
                  (first
                    | (go_at_call 32; (with_reducible refine (hO.out _ (by exact hrefl.out)).mono ?_); rintro e wC ⟨rfl, tC⟩; replace tC := Lib.hid tC)
                    | fail)
                all_goals
                  go_wp2
                  go_roundg (l.length - (i + 1) + 1)
                  case rel => exact ⟨i + 1, rfl, hlt, by first | rw [hwk.out] | go_num, hno2, Lib.hid (seq_below hbw.out tC.out)⟩
                  case measure => exact nn_downS hlt
              | false =>
                have hnb : badIx l i = true := by rw [hix, hn]; rfl
                have hf := firstN_at hno.out hlt hnb
                replace hix := Lib.hid hix
                replace hn := Lib.hid hn
                replace hno := Lib.hid hno
                replace hbb := Lib.hid hbb
                replace hnb := Lib.hid hnb
                replace hf := Lib.hid hf
                go_upto_region 4 with fail
                go_region_held3 (fun w' => Below wr.heap.size wr w' ∧ w'.cell? ⟨b, off + i * 8, none⟩ = some (.int .i64 r.kind) ∧ w'.cell? ⟨b, off + i * 8 + 1, none⟩ = some (.string r.name) ∧ w'.cell? ⟨b, off + i * 8 + 2, none⟩ = some (.slice eo r.eps.length ec) ∧ w'.cell? ⟨b, off + i * 8 + 3, none⟩ = some (.slice ta r.tgts.length tc) ∧ w'.cell? ⟨b, off + i * 8 + 4, none⟩ = some (.string r.host) ∧ w'.cell? ⟨b, off + i * 8 + 5, none⟩ = some (.slice ra r.rules.length rc) ∧ w'.cell? ⟨b, off + i * 8 + 6, none⟩ = some (.string r.route) ∧ w'.cell? ⟨b, off + i * 8 + 7, none⟩ = some (.bool false) ∧ w'.cell? ⟨b, off + j * 8, none⟩ = some (.int .i64 p.kind) ∧ w'.cell? ⟨b, off + j * 8 + 1, none⟩ = some (.string p.name) ∧ w'.cell? ⟨b, off + j * 8 + 2, none⟩ = some (Value.slice eo' p.eps.length ec') ∧ w'.cell? ⟨b, off + j * 8 + 3, none⟩ = some (Value.slice ta' p.tgts.length tc') ∧ w'.cell? ⟨b, off + j * 8 + 4, none⟩ = some (.string p.host) ∧ w'.cell? ⟨b, off + j * 8 + 5, none⟩ = some (Value.slice ra' p.rules.length rc') ∧ w'.cell? ⟨b, off + j * 8 + 6, none⟩ = some (.string p.route) ∧ w'.cell? ⟨b, off + j * 8 + 7, none⟩ = some (.bool p.del))
                  (first | exact hS.out _ hrefl.out | exact hS.out _ tC.out | fail)
                  (first
                    | (go_at_call 32; (with_reducible refine (hO.out _ (by exact hrefl.out)).mono ?_); rintro e wC ⟨rfl, tC⟩; replace tC := Lib.hid tC)
                    | fail)
                all_goals
                  go_wp2
                  go_ret
                  exact ⟨ret_i hf.out.symm, seq_below hbw.out tC.out⟩
            · have d4 : decide ((0 : Int) < (i : Int)) = false := decide_eq_false (by omega)
              have hi0 : i = 0 := by omega
              have hnb : badIx l i = false := by rw [hix, hi0]; rw [hi0] at hix; exact bad_first d1 d2 h3
              have hno2 : ∀ j, j < i + 1 → badIx l j = false := fun j hj => by
                rcases Nat.lt_succ_iff_lt_or_eq.1 hj with h | h
                · exact hno.out j h
                · rw [h]; exact hnb
              replace hix := Lib.hid hix
              replace hno := Lib.hid hno
              replace hi0 := Lib.hid hi0
              replace hnb := Lib.hid hnb
              replace hno2 := Lib.hid hno2
              replace c := Lib.hid c
              go_upto_region 4 with fail
              go_quiet (fail)
              all_goals
                go_wp2
                go_roundg (l.length - (i + 1) + 1)
                case rel => exact ⟨i + 1, rfl, hlt, by first | rw [hwk.out] | go_num, hno2, Lib.hid (below_drewN hbw.out _)⟩
                case measure => exact nn_downS hlt
    · have hk0 : decide ((i : Int) < (l.length : Int)) = false := decide_eq_false (by omega)
      have hf := firstN_none (n := l.length) (fun j hj => hno.out j (by omega))
      replace hf := Lib.hid hf
      go_wp2
      go_ret
      exact ⟨ret_i hf.out.symm, hbw.out⟩
theorem ordered23 (l : List Res) (v : Value) (w : World) (hl : ResS w v l) : Calls Try.prog 23 #[v] w fun e w' => e = .returned (.bool (decide (outI l < 0))) ∧ Below w.heap.size w w' := by
  have h := out60 l v w hl
  generalize outI l = o at *
  replace h := Lib.hid h
  go_enter Try.func23, Try.ntmps23
  go_wp2_with (first | (go_at_call 60; (with_reducible refine h.out.mono ?_); rintro e w1 ⟨rfl, hb⟩; replace hb := Lib.hid hb) | fail)
  go_ret
  exact ⟨rfl, hb.out⟩
end Go.Proofs.Ytjepgpocmnijiaa
end
