/- The walks of out and Out: the first resource out of order. -/
import Derived.Test.YtjepgpocmnijiaaZy7
section

namespace Go.Proofs.Ytjepgpocmnijiaa
open Go.RowKit Go.Mp Go.Ck
set_option linter.unusedVariables false
set_option maxRecDepth 100000
set_option maxHeartbeats 4000000
theorem below_drewN {B : Nat} {a w : World} (h : Below B a w) (n : Nat) : Below B a (w.drewN n) := h.trans ⟨rfl, rfl, rfl, Nat.le_refl _, fun _ _ => rfl⟩
theorem nn_succ2 {k m : Nat} (hk : k < m) (hm : m ≤ 140737488351232) : wrap64 ((k : Int) + 1) = ((k + 1 : Nat) : Int) := by unfold wrap64; omega
theorem nn_downS {r m : Nat} (h : r < m) : m - (r + 1) + 1 < m - r + 1 := by omega
theorem wrap_pred {i j : Nat} (h : j + 1 = i) (hi : i ≤ 140737488351232) : IntKind.i64.wrap ((i : Int) - 1) = (j : Int) := by rw [IntKind.wrap_i64]; omega
theorem box_cells8 (w : World) (v0 v1 v2 v3 v4 v5 v6 v7 : Value) (T : TypeId) : ∀ (j : Nat) u, #[v0, v1, v2, v3, v4, v5, v6, v7][j]? = some u → (w.alloc (.cells #[v0, v1, v2, v3, v4, v5, v6, v7] T)).cell? ⟨w.heap.size, j, none⟩ = some u := fun j u h => (cell_of_row _ _ j _ _ _ (heap_alloc_new w _)).trans h
theorem bad_early {l : List Res} {i : Nat} {r : Res} (h : r.kind < 1 ∨ 4 < r.kind ∨ r.del = true) : badAt l i r = true := by
  unfold badAt
  rcases h with h | h | h <;> simp [h]
theorem bad_first {l : List Res} {r : Res} (h1 : decide (r.kind < 1) = false) (h2 : decide (4 < r.kind) = false) (h3 : r.del = false) : badAt l 0 r = false := by
  unfold badAt; simp [h1, h2, h3]
theorem bad_next {l : List Res} {i j : Nat} {r p : Res} (h1 : decide (r.kind < 1) = false) (h2 : decide (4 < r.kind) = false) (h3 : r.del = false) (hj : j + 1 = i) (hp : l[j]? = some p) : badAt l i r = !less p r := by
  subst hj
  unfold badAt; simp [h1, h2, h3, hp]
theorem out60 (l : List Res) (v : Value) (w : World) (hl : ResS w v l) : Calls Try.prog 60 #[v] w fun e w' => e = .returned (.int .i64 (outI l)) ∧ Below w.heap.size w w' := by
  obtain ⟨ao, cap, rfl⟩ := slice_shape hl
  have hlen := hl.1
  unfold outI
  replace hl := Lib.hid hl
  go_enter Try.func60, Try.ntmps60
  go_wp2
  go_loopg [7] (l.length + 1) (fun gg ic wr => ∃ i : Nat, gg = l.length - i + 1 ∧ i ≤ l.length ∧ ic = .int .i64 i ∧ Hid (∀ j, j < i → badIx l j = false) ∧ Hid (Below w.heap.size w wr))
  case atStart => exact ⟨0, rfl, Nat.zero_le _, rfl, Lib.hid (fun j hj => absurd hj (Nat.not_lt_zero j)), Lib.hid (Below.refl _ _)⟩
  case round =>
    obtain ⟨i, rfl, hi, rfl, hno, hbw⟩ := hrel
    by_cases hlt : i < l.length
    · obtain ⟨r, hr⟩ : ∃ r, l[i]? = some r := ⟨_, List.getElem?_eq_getElem hlt⟩
      obtain ⟨b, off, eo, ec, ta, tc, ra, rc, rfl, hbl, c, _⟩ := res_at hl.out hbw.out hr
      obtain ⟨c0, c1, c2, c3, c4, c5, c6, c7⟩ := c
      have hix := badIx_at hr
      have hk0 : (i : Int) < (l.length : Int) := nn_lt hlt
      have hwk := Lib.hid (nn_succ2 hlt hlen)
      have hbox := box_cells8 wr (.int .i64 r.kind) (.string r.name) (.slice eo r.eps.length ec) (.slice ta r.tgts.length tc) (.string r.host) (.slice ra r.rules.length rc) (.string r.route) (.bool r.del) 52
      have hbw2 := Lib.hid (seq_below hbw.out (alloc_below wr (.cells #[.int .i64 r.kind, .string r.name, .slice eo r.eps.length ec, .slice ta r.tgts.length tc, .string r.host, .slice ra r.rules.length rc, .string r.route, .bool r.del] 52)))
      by_cases h1 : r.kind < 1
      · skip
        have hf := firstN_at hno.out hlt (hix.trans (bad_early (.inl h1)))
        replace hix := Lib.hid hix
        replace hf := Lib.hid hf
        replace hno := Lib.hid hno
        replace hbox := Lib.hid hbox
        replace hbw2 := Lib.hid hbw2
        go_upto_region 4 with fail
        go_quiet (fail)
        all_goals
          go_wp2
          go_ret
          exact ⟨ret_i hf.out.symm, below_drewN hbw2.out _⟩
      · have d1 : decide (r.kind < 1) = false := decide_eq_false h1
        by_cases h2 : 4 < r.kind
        · skip
          have hf := firstN_at hno.out hlt (hix.trans (bad_early (.inr (.inl h2))))
          replace hix := Lib.hid hix
          replace hf := Lib.hid hf
          replace hno := Lib.hid hno
          replace hbox := Lib.hid hbox
          replace hbw2 := Lib.hid hbw2
          go_upto_region 4 with fail
          go_quiet (fail)
          all_goals
            go_wp2
            go_ret
            exact ⟨ret_i hf.out.symm, below_drewN hbw2.out _⟩
        · have d2 : decide (4 < r.kind) = false := decide_eq_false h2
          cases h3 : r.del with
          | true =>
            rw [h3] at hbw2
            have hf := firstN_at hno.out hlt (hix.trans (bad_early (.inr (.inr h3))))
            replace hix := Lib.hid hix
            replace hf := Lib.hid hf
            replace hno := Lib.hid hno
            replace hbox := Lib.hid hbox
            replace hbw2 := Lib.hid hbw2
            go_upto_region 4 with fail
            go_quiet (fail)
            all_goals
              go_wp2
              go_ret
              exact ⟨ret_i hf.out.symm, below_drewN hbw2.out _⟩
          | false =>
            rw [h3] at hbw2
            by_cases h4 : 0 < i
            · obtain ⟨j, hj⟩ : ∃ j, j + 1 = i := ⟨i - 1, by omega⟩
              have hjl : j < l.length := by omega
              obtain ⟨p, hp⟩ : ∃ p, l[j]? = some p := ⟨_, List.getElem?_eq_getElem hjl⟩
              obtain ⟨b', off', eo', ec', ta', tc', ra', rc', e', _, c', _⟩ := res_at hl.out hbw.out hp
              simp only [Option.some.injEq, Addr.mk.injEq, and_true] at e'
              obtain ⟨rfl, rfl⟩ := e'
              have hn := bad_next d1 d2 h3 hj hp
              have hwp := wrap_pred hj (by omega)
              have g4 : (0 : Int) < (i : Int) := by omega
              have g5 : (0 : Int) ≤ (j : Int) := by omega
              have g6 : (j : Int) < (l.length : Int) := nn_lt hjl
              go_upto_region 4 with fail
              obtain ⟨wb, hwb⟩ : ∃ wb, wb = wr.alloc (.cells #[.int .i64 r.kind, .string r.name, .slice eo r.eps.length ec, .slice ta r.tgts.length tc, .string r.host, .slice ra r.rules.length rc, .string r.route, .bool false] 52) := ⟨_, rfl⟩
              obtain ⟨bk, hbk⟩ : ∃ bk, bk = wr.heap.size := ⟨_, rfl⟩
              rw [h3] at hbox
              rw [← hwb] at hbw2 hbox ⊢
              rw [← hbk] at hbox ⊢
              have hrb : Below wr.heap.size wr wb := by rw [hwb]; exact alloc_below _ _
              have hbl2 : b < wr.heap.size := Nat.lt_of_lt_of_le hbl hbw.out.size
              have hbkl : bk < wb.heap.size := by rw [hwb, hbk]; simp
              have hS : Hid (∀ w', Below wb.heap.size wb w' → Below wb.heap.size wb w' ∧ w'.cell? ⟨bk, 0, none⟩ = some (.int .i64 r.kind) ∧ w'.cell? ⟨bk, 1, none⟩ = some (.string r.name) ∧ w'.cell? ⟨bk, 2, none⟩ = some (.slice eo r.eps.length ec) ∧ w'.cell? ⟨bk, 3, none⟩ = some (.slice ta r.tgts.length tc) ∧ w'.cell? ⟨bk, 4, none⟩ = some (.string r.host) ∧ w'.cell? ⟨bk, 5, none⟩ = some (.slice ra r.rules.length rc) ∧ w'.cell? ⟨bk, 6, none⟩ = some (.string r.route) ∧ w'.cell? ⟨bk, 7, none⟩ = some (.bool false) ∧ w'.cell? ⟨b, off + j * 8, none⟩ = some (.int .i64 p.kind) ∧ w'.cell? ⟨b, off + j * 8 + 1, none⟩ = some (.string p.name) ∧ w'.cell? ⟨b, off + j * 8 + 2, none⟩ = some (Value.slice eo' p.eps.length ec') ∧ w'.cell? ⟨b, off + j * 8 + 3, none⟩ = some (Value.slice ta' p.tgts.length tc') ∧ w'.cell? ⟨b, off + j * 8 + 4, none⟩ = some (.string p.host) ∧ w'.cell? ⟨b, off + j * 8 + 5, none⟩ = some (Value.slice ra' p.rules.length rc') ∧ w'.cell? ⟨b, off + j * 8 + 6, none⟩ = some (.string p.route) ∧ w'.cell? ⟨b, off + j * 8 + 7, none⟩ = some (.bool p.del)) := Lib.hid (fun w' hw => by
                obtain ⟨q0, q1, q2, q3, q4, q5, q6, q7⟩ := (rc_box (by rw [h3]; exact hbox)).below hbkl hw
                obtain ⟨z0, z1, z2, z3, z4, z5, z6, z7⟩ := (c'.below hbl2 hrb).below (Nat.lt_of_lt_of_le hbl2 hrb.size) hw
                rw [h3] at q7
                exact ⟨hw, q0, q1, q2, q3, q4, q5, q6, q7, z0, z1, z2, z3, z4, z5, z6, z7⟩)
              have hrefl : Hid (Below wb.heap.size wb wb.drew) := Lib.hid ⟨rfl, rfl, rfl, Nat.le_refl _, fun _ _ => rfl⟩
              have hlo := less_ord p r
              obtain ⟨cc, hcc⟩ : ∃ cc, cc = ordI (p.kind, p.name) (r.kind, r.name) := ⟨_, rfl⟩
              have hO : Hid (∀ w', Below wb.heap.size wb w' → Calls Try.prog 114 #[.agg #[.int .i64 p.kind, .string p.name], .agg #[.int .i64 r.kind, .string r.name]] w' fun e w2 => e = .returned (.int .i64 cc) ∧ Below wb.heap.size wb w2) := Lib.hid (fun w' h => by rw [hcc]; exact ord114_from h p.kind r.kind p.name r.name)
              have hOr : Hid (∀ w', Below wb.heap.size wb w' → Calls Try.prog 61 #[.agg #[.int .i64 r.kind, .string r.name, .slice eo r.eps.length ec, .slice ta r.tgts.length tc, .string r.host, .slice ra r.rules.length rc, .string r.route, .bool false]] w' fun e w2 => e = .returned (.agg #[.int .i64 r.kind, .string r.name]) ∧ Below wb.heap.size wb w2) := Lib.hid (fun w' h => by rw [← h3]; exact of61_from h r _ _ _)
              rw [← hcc] at hlo
              rw [hlo] at hn
              replace hbw2 := Lib.hid hbw2
              replace hbox := Lib.hid hbox
              replace hwb := Lib.hid hwb
              replace hbk := Lib.hid hbk
              replace hrb := Lib.hid hrb
              replace hbl2 := Lib.hid hbl2
              replace hbkl := Lib.hid hbkl
              clear c' c0 c1 c2 c3 c4 c5 c6 c7
              by_cases h5 : cc < 0
              · have d5 : decide (0 ≤ cc) = false := decide_eq_false (by omega)
                have hnb : badIx l i = false := by rw [hix, hn, decide_eq_true h5]; rfl
                have hno2 : ∀ j, j < i + 1 → badIx l j = false := fun j hj => by
                  rcases Nat.lt_succ_iff_lt_or_eq.1 hj with h | h
                  · exact hno.out j h
                  · rw [h]; exact hnb
                replace hix := Lib.hid hix
                replace hn := Lib.hid hn
                replace hno := Lib.hid hno
                replace hlo := Lib.hid hlo
                replace hcc := Lib.hid hcc
                replace hnb := Lib.hid hnb
                replace hno2 := Lib.hid hno2
                go_region_held3 (fun w' => Below wb.heap.size wb w' ∧ w'.cell? ⟨bk, 0, none⟩ = some (.int .i64 r.kind) ∧ w'.cell? ⟨bk, 1, none⟩ = some (.string r.name) ∧ w'.cell? ⟨bk, 2, none⟩ = some (.slice eo r.eps.length ec) ∧ w'.cell? ⟨bk, 3, none⟩ = some (.slice ta r.tgts.length tc) ∧ w'.cell? ⟨bk, 4, none⟩ = some (.string r.host) ∧ w'.cell? ⟨bk, 5, none⟩ = some (.slice ra r.rules.length rc) ∧ w'.cell? ⟨bk, 6, none⟩ = some (.string r.route) ∧ w'.cell? ⟨bk, 7, none⟩ = some (.bool false) ∧ w'.cell? ⟨b, off + j * 8, none⟩ = some (.int .i64 p.kind) ∧ w'.cell? ⟨b, off + j * 8 + 1, none⟩ = some (.string p.name) ∧ w'.cell? ⟨b, off + j * 8 + 2, none⟩ = some (Value.slice eo' p.eps.length ec') ∧ w'.cell? ⟨b, off + j * 8 + 3, none⟩ = some (Value.slice ta' p.tgts.length tc') ∧ w'.cell? ⟨b, off + j * 8 + 4, none⟩ = some (.string p.host) ∧ w'.cell? ⟨b, off + j * 8 + 5, none⟩ = some (Value.slice ra' p.rules.length rc') ∧ w'.cell? ⟨b, off + j * 8 + 6, none⟩ = some (.string p.route) ∧ w'.cell? ⟨b, off + j * 8 + 7, none⟩ = some (.bool p.del))
                  (first | exact hS.out _ hrefl.out | exact hS.out _ tA.out | exact hS.out _ tB.out | exact hS.out _ tC.out | fail)
                  (first
                    | (go_at_call 61; (with_reducible refine (of61_from (wb := wb) (by first | exact hrefl.out | exact tB.out) p (.slice eo' p.eps.length ec') (.slice ta' p.tgts.length tc') (.slice ra' p.rules.length rc')).mono ?_); rintro e wA ⟨rfl, tA⟩; replace tA := Lib.hid tA)
                    | (go_at_call 61; (with_reducible refine (hOr.out _ (by first | exact hrefl.out | exact tA.out)).mono ?_); rintro e wB ⟨rfl, tB⟩; replace tB := Lib.hid tB)
                    | (go_at_call 114; (with_reducible refine (hO.out _ (by first | exact tA.out | exact tB.out)).mono ?_); rintro e wC ⟨rfl, tC⟩; replace tC := Lib.hid tC)
                    | fail)
                all_goals
                  go_wp2
                  go_roundg (l.length - (i + 1) + 1)
                  case rel => exact ⟨i + 1, rfl, hlt, by first | rw [hwk.out] | go_num, hno2, Lib.hid (seq_below hbw2.out tC.out)⟩
                  case measure => exact nn_downS hlt
              · have d5 : 0 ≤ cc := by omega
                have hnb : badIx l i = true := by rw [hix, hn, decide_eq_false h5]; rfl
                have hf := firstN_at hno.out hlt hnb
                replace hix := Lib.hid hix
                replace hn := Lib.hid hn
                replace hno := Lib.hid hno
                replace hlo := Lib.hid hlo
                replace hcc := Lib.hid hcc
                replace hnb := Lib.hid hnb
                replace hf := Lib.hid hf
                go_region_held3 (fun w' => Below wb.heap.size wb w' ∧ w'.cell? ⟨bk, 0, none⟩ = some (.int .i64 r.kind) ∧ w'.cell? ⟨bk, 1, none⟩ = some (.string r.name) ∧ w'.cell? ⟨bk, 2, none⟩ = some (.slice eo r.eps.length ec) ∧ w'.cell? ⟨bk, 3, none⟩ = some (.slice ta r.tgts.length tc) ∧ w'.cell? ⟨bk, 4, none⟩ = some (.string r.host) ∧ w'.cell? ⟨bk, 5, none⟩ = some (.slice ra r.rules.length rc) ∧ w'.cell? ⟨bk, 6, none⟩ = some (.string r.route) ∧ w'.cell? ⟨bk, 7, none⟩ = some (.bool false) ∧ w'.cell? ⟨b, off + j * 8, none⟩ = some (.int .i64 p.kind) ∧ w'.cell? ⟨b, off + j * 8 + 1, none⟩ = some (.string p.name) ∧ w'.cell? ⟨b, off + j * 8 + 2, none⟩ = some (Value.slice eo' p.eps.length ec') ∧ w'.cell? ⟨b, off + j * 8 + 3, none⟩ = some (Value.slice ta' p.tgts.length tc') ∧ w'.cell? ⟨b, off + j * 8 + 4, none⟩ = some (.string p.host) ∧ w'.cell? ⟨b, off + j * 8 + 5, none⟩ = some (Value.slice ra' p.rules.length rc') ∧ w'.cell? ⟨b, off + j * 8 + 6, none⟩ = some (.string p.route) ∧ w'.cell? ⟨b, off + j * 8 + 7, none⟩ = some (.bool p.del))
                  (first | exact hS.out _ hrefl.out | exact hS.out _ tA.out | exact hS.out _ tB.out | exact hS.out _ tC.out | fail)
                  (first
                    | (go_at_call 61; (with_reducible refine (of61_from (wb := wb) (by first | exact hrefl.out | exact tB.out) p (.slice eo' p.eps.length ec') (.slice ta' p.tgts.length tc') (.slice ra' p.rules.length rc')).mono ?_); rintro e wA ⟨rfl, tA⟩; replace tA := Lib.hid tA)
                    | (go_at_call 61; (with_reducible refine (hOr.out _ (by first | exact hrefl.out | exact tA.out)).mono ?_); rintro e wB ⟨rfl, tB⟩; replace tB := Lib.hid tB)
                    | (go_at_call 114; (with_reducible refine (hO.out _ (by first | exact tA.out | exact tB.out)).mono ?_); rintro e wC ⟨rfl, tC⟩; replace tC := Lib.hid tC)
                    | fail)
                all_goals
                  go_wp2
                  go_ret
                  exact ⟨ret_i hf.out.symm, seq_below hbw2.out tC.out⟩
            · have d4 : decide ((0 : Int) < (i : Int)) = false := decide_eq_false (by omega)
              have hi0 : i = 0 := by omega
              have hnb : badIx l i = false := by rw [hix, hi0]; rw [hi0] at hix; exact bad_first d1 d2 h3
              have hno2 : ∀ j, j < i + 1 → badIx l j = false := fun j hj => by
                rcases Nat.lt_succ_iff_lt_or_eq.1 hj with h | h
                · exact hno.out j h
                · rw [h]; exact hnb
              replace hix := Lib.hid hix
              replace hno := Lib.hid hno
              replace hbox := Lib.hid hbox
              replace hbw2 := Lib.hid hbw2
              replace hi0 := Lib.hid hi0
              replace hnb := Lib.hid hnb
              replace hno2 := Lib.hid hno2
              go_upto_region 4 with fail
              go_quiet (fail)
              all_goals
                go_wp2
                go_roundg (l.length - (i + 1) + 1)
                case rel => exact ⟨i + 1, rfl, hlt, by first | rw [hwk.out] | go_num, hno2, Lib.hid (below_drewN hbw2.out _)⟩
                case measure => exact nn_downS hlt
    · have hk0 : decide ((i : Int) < (l.length : Int)) = false := decide_eq_false (by omega)
      have hf := firstN_none (n := l.length) (fun j hj => hno.out j (by omega))
      replace hf := Lib.hid hf
      go_wp2
      go_ret
      exact ⟨ret_i hf.out.symm, hbw.out⟩
end Go.Proofs.Ytjepgpocmnijiaa
end
