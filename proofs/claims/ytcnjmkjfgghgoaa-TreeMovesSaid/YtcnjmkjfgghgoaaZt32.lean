/- The document's Of, walked. -/
import Derived.Test.YtcnjmkjfgghgoaaZt31
section

namespace Go.Proofs.Ytcnjmkjfgghgoaa
open Go.RowKit Go.Mp Go.Tr
set_option linter.unusedVariables false
set_option maxRecDepth 100000
set_option maxHeartbeats 4000000
theorem info48 : (Try.prog.info? 48).map (fun i => (i.zero, i.size, i.bytes)) = some (some (.agg #[.int .i64 0, .int .i64 0, .int .i64 0, .string ⟨#[]⟩, .bool false]), 5, 48) := by kernel_rfl
theorem nn_i {i n : Nat} (h : i ≤ n) (hn : n < 2932031007400) : wrap64 ((i : Int) + 1) = ((i + 1 : Nat) : Int) := by unfold wrap64; omega
theorem nn_c {c i n : Nat} (h : c ≤ i) (hi : i < n) (hn : n < 2932031007400) : c + 1 ≤ maxLen ∧ (c + 1) * 48 ≤ 140737488355328 := by unfold maxLen; omega
theorem nn_o {c i n : Nat} (h : c ≤ i) (hi : i ≤ n) (hn : n < 2932031007400) : c + 1 ≤ maxLen ∧ (c + 1) * 24 ≤ 140737488355328 := by unfold maxLen; omega
theorem rof_any {w : World} {kb : Nat} {lv : Value} {l : List Tok} (tk : TokS w kb lv l) (hk : kb < w.heap.size ∨ l = []) (hll : l.length < 2932031007400) :
    Calls Try.prog 11 #[lv] w (OfOut w (ofRun l)) := by
  obtain ⟨w1, hw1⟩ : ∃ w1, w1 = w.alloc (.cells #[.int .i64 0, .int .i64 0, .int .i64 0] 32) := ⟨_, rfl⟩
  have t1 : Tch No w w1 := by rw [hw1]; exact Tch.alloc No w _
  obtain ⟨fb, hfb⟩ : ∃ fb, fb = w.heap.size := ⟨_, rfl⟩
  have h1 : ROf w w1 kb fb lv (.slice none 0 0) (.slice none 0 0) l 0 [] No [] (ofRun l) := ⟨tk.stay hk t1 id, World.ownsRow_nil _ _ _ _, TM.nil _ _, t1, by rw [hw1, hfb]; exact heap_alloc_new w _, ⟨id, by omega⟩, (fun k hk => by cases hk), ⟨Nat.zero_le _, Nat.zero_le _⟩, restAt_start l⟩
  obtain ⟨ao, cap, rfl, _⟩ := id tk
  generalize ofRun l = r at *
  obtain ⟨i0, hi, hz0, hz1, hz2⟩ := info_parts info48
  replace hi := Lib.hid hi
  replace hz0 := Lib.hid hz0
  replace hz1 := Lib.hid hz1
  replace hz2 := Lib.hid hz2
  obtain ⟨j0, hj, hj0, hj1, hj2⟩ := info_parts info50
  replace hj := Lib.hid hj
  replace hj0 := Lib.hid hj0
  replace hj1 := Lib.hid hj1
  replace hj2 := Lib.hid hj2
  replace tk := Lib.hid tk
  replace hk := Lib.hid hk
  replace t1 := Lib.hid t1
  replace h1 := Lib.hid h1
  replace hll := Lib.hid hll
  go_enter Try.func11, Try.ntmps11
  go_upto_region 1 with fail
  rw [← hw1, ← hfb]
  replace hw1 := Lib.hid hw1
  replace hfb := Lib.hid hfb
  go_wp2
  go_loopg [4, 5, 6] (l.length + 2) (fun gg ov dv iv wr => ∃ (i : Nat) (cur : List Tok) (F : Nat → Prop) (L : List TrX), gg = l.length + 1 - i + 1 ∧ iv = .int .i64 i ∧ i ≤ l.length + 1 ∧ (l.length < i → cur = []) ∧ ROf w wr kb fb (.slice ao l.length cap) dv ov l i cur F L r)
  case atStart => exact ⟨0, [], No, [], rfl, rfl, Nat.zero_le _, fun _ => rfl, h1.out⟩
  case round =>
    obtain ⟨i, cur, F, L, rfl, rfl, hil, hce, hM⟩ := hrel
    obtain ⟨od, dc, rfl⟩ := ownsRow_shape hM.row
    obtain ⟨oo, oc, rfl⟩ := ownsRow_shape hM.tm.row
    by_cases hle : i ≤ l.length
    · have k0 : (i : Int) ≤ (l.length : Int) := by omega
      have hwi := Lib.hid (nn_i hle hll.out)
      by_cases hgo : ∃ t, l[i]? = some t ∧ t.kind ≠ 1
      · obtain ⟨t, hx, hkd⟩ := hgo
        have hlt := (List.getElem?_eq_some_iff.1 hx).1
        have k1 := nn_lt hlt
        obtain ⟨off, rfl, _, d0, d1, d2, d3, d4⟩ := hM.tk.at hx
        have q1 : (t.kind != 1) = true := by simp [hkd]
        have hB := Lib.hid hM.t.size
        have hrow := Lib.hid hM.row
        have hci := Lib.hid hM.le.1
        replace hM := Lib.hid hM
        replace hx := Lib.hid hx
        replace hkd := Lib.hid hkd
        replace hil := Lib.hid hil
        replace hce := Lib.hid hce
        replace hle := Lib.hid hle
        go_wp2_with (first
          | (at_builtin; refine wp_append_us rfl _ _ 22 (by rfl) w.heap.size 48 i0 (.agg #[.int .i64 0, .int .i64 0, .int .i64 0, .string ⟨#[]⟩, .bool false]) 5 48 Try.underlying22 hi.out hz0.out hz1.out hz2.out rfl (by decide) _ cur.length _ (by rfl) hrow.out 1 (by rfl) rfl (by simp [Value.oneCell']) (nn_c hci.out hlt hll.out).1 (nn_c hci.out hlt hll.out).2 hB.out ?_; intro v7 w7 hr7 hg7 hl7; obtain ⟨o7, c7, rfl⟩ := ownsRow_shape hr7; replace hr7 := Lib.hid hr7; replace hg7 := Lib.hid hg7; replace hl7 := Lib.hid hl7)
          | fail)
        go_roundg (l.length + 1 - (i + 1) + 1)
        case rel => exact ⟨i + 1, cur ++ [t], F, L, rfl, by rw [hwi.out], Nat.succ_le_succ hle.out, fun h => absurd hlt (by omega), hM.out.more hk.out hx.out hkd.out hr7.out hg7.out hl7.out⟩
        case measure => exact Nat.succ_lt_succ (nn_sub (Nat.lt_succ_of_le hle.out))
      · have hdn : ∀ t, l[i]? = some t → t.kind = 1 := fun t ht => Classical.byContradiction fun h => hgo ⟨t, ht, h⟩
        replace hgo := Lib.hid hgo
        replace hdn := Lib.hid hdn
        replace hil := Lib.hid hil
        replace hce := Lib.hid hce
        replace hle := Lib.hid hle
        by_cases hlt : i < l.length
        · have k1 := nn_lt hlt
          have hx := List.getElem?_eq_getElem hlt
          generalize l[i] = u at *
          obtain ⟨off, rfl, _, d0, d1, d2, d3, d4⟩ := hM.tk.at hx
          have q1 : (u.kind != 1) = false := by rw [hdn.out u hx]; rfl
          replace hM := Lib.hid hM
          replace hx := Lib.hid hx
          replace hlt := Lib.hid hlt
          go_upto_region 8 with fail
          clear d0 d1 d2 d3 d4
          by_cases hc : cur = []
          · subst hc
            have hs := Lib.hid (hM.out.skip hle.out hdn.out)
            go_wp2
            go_roundg (l.length + 1 - (i + 1) + 1)
            case rel => exact ⟨i + 1, [], F, L, rfl, by rw [hwi.out], Nat.succ_le_succ hle.out, fun _ => rfl, hs.out⟩
            case measure => exact Nat.succ_lt_succ (nn_sub (Nat.lt_succ_of_le hle.out))
          · have hcp : 0 < cur.length := List.length_pos_iff.2 hc
            have p1 := nn_lt hcp
            have p2 : decide (0 < cur.length) = true := decide_eq_true hcp
            obtain ⟨gd, rfl, _, hgd, htk⟩ := rowTok hM.out.row hc
            have hD := rdocument_any (B := w.heap.size) htk hgd hM.out.t.size hc (Nat.lt_of_le_of_lt hM.out.le.1 (by have := hle.out; have := hll.out; omega))
            have hcut := restAt_cut hle.out hdn.out hc (L.map (·.1))
            replace htk := Lib.hid htk
            replace hgd := Lib.hid hgd
            replace hc := Lib.hid hc
            replace hcp := Lib.hid hcp
            rcases hd : doc cur with ⟨ln, er⟩ | t
            · have her := doc_errs hd
              have hrun : r = .error (L.length, ln, er) := by rw [hM.out.run, hcut, hd]; simp
              have q1 : (er == 0) = false := by rw [beq_eq_false_iff_ne]; exact her
              have q2 : (er != 0) = true := by simp [bne, q1]
              replace hd := Lib.hid hd
              replace her := Lib.hid her
              replace hrun := Lib.hid hrun
              replace hcut := Lib.hid hcut
              replace hD := Lib.hid hD
              go_upto_region 11 with (first
                | (go_at_call 35; refine hD.out.mono ?_; clear hD; rintro e w3 hO; unfold RDoc at hO; rw [hd.out] at hO; simp only at hO; obtain ⟨pp, rfl, t3⟩ := hO; have hM3 := hM.out.no hk.out t3; replace t3 := Lib.hid t3)
                | fail)
              have hfh := hM3.fh
              obtain ⟨c0, c1, c2, f0, f1, f2⟩ := row3_cells hfh
              obtain ⟨hs, ts⟩ := set3 hfh (.int .i64 L.length) (.int .i64 ln) (.int .i64 er)
              obtain ⟨s0, s1, s2, _, _, _⟩ := row3_cells hs
              obtain ⟨w4, hw4⟩ : ∃ w4, w4 = ((w3.setCell ⟨fb, 0, none⟩ (.int .i64 L.length)).setCell ⟨fb, 1, none⟩ (.int .i64 ln)).setCell ⟨fb, 2, none⟩ (.int .i64 er) := ⟨_, rfl⟩
              rw [← hw4] at s0 s1 s2 ts
              have tfin := Lib.hid (hM3.t.trans ts (fun k hk => .inr (by rw [hk]; exact hM3.nf.2)))
              replace hfh := Lib.hid hfh
              replace hM3 := Lib.hid hM3
              replace hs := Lib.hid hs
              replace ts := Lib.hid ts
              go_wp2
              rw [← hw4]
              exact bodyPost_ret (v := .tuple #[.slice none 0 0, .agg #[.int .i64 L.length, .int .i64 ln, .int .i64 er]]) (by simp [results, Try.results11, go_sem, s0, s1, s2]) rfl (ofOut_err hrun.out tfin.out)
            · have hrun : r = restAt l (L.map (·.1) ++ [t]) [] (i + 1) := by rw [hM.out.run, hcut, hd]
              have hts := doc_size hd
              replace hd := Lib.hid hd
              replace hrun := Lib.hid hrun
              replace hcut := Lib.hid hcut
              replace hD := Lib.hid hD
              replace hts := Lib.hid hts
              go_upto_region 12 with (first
                | (go_at_call 35; refine hD.out.mono ?_; clear hD; rintro e w3 hO; unfold RDoc at hO; rw [hd.out] at hO; simp only at hO; obtain ⟨tb, Ft, rfl, hP3, t3, hF3⟩ := hO; have hM3 := Lib.hid (hM.out.no hk.out t3); replace hP3 := Lib.hid hP3; replace t3 := Lib.hid t3; replace hF3 := Lib.hid hF3)
                | fail)
              have hLd := Lib.hid (laid_any _ t (Nat.le_refl _) w3 w.heap.size tb Ft No (.slice none 0 0) [] hP3.out ⟨World.ownsRow_nil _ _ _ _, (fun i x hx => by cases hx), (fun i j x y _ hx => by cases hx), ⟨(fun g hg => by cases hg), (fun i x hx => by cases hx)⟩, (fun k hk => hk.elim)⟩ (fun k hk => ⟨id, hF3.out k hk⟩) hM3.out.t.size (by simp; exact hts.out))
              have hB3 := Lib.hid hM3.out.t.size
              go_wp2_with (first
                | (go_at_call 36; refine hLd.out.mono ?_; clear hLd; rintro e w5 ⟨v5, F5, R5, rfl, hN5, hm5, t5, hs5⟩; have hM5 := Lib.hid (hM3.out.no hk.out t5); obtain ⟨vo, vc, rfl⟩ := ownsRow_shape hN5.row; replace hm5 := Lib.hid hm5; replace t5 := Lib.hid t5; replace hs5 := Lib.hid hs5; replace hN5 := Lib.hid hN5; have hrw5 := Lib.hid hM5.out.tm.row; have hB5 := Lib.hid hM5.out.t.size)
                | (at_builtin; refine wp_append_us rfl _ _ 25 (by rfl) w.heap.size 50 j0 (.slice none 0 0) 1 24 Try.underlying25 hj.out hj0.out hj1.out hj2.out rfl (by decide) _ L.length _ (by rfl) hrw5.out 1 (by rfl) rfl (by simp [Value.oneCell']) (nn_o hM5.out.le.2 hle.out hll.out).1 (nn_o hM5.out.le.2 hle.out hll.out).2 hB5.out ?_; intro v7 w7 hr7 hg7 hl7; obtain ⟨o7, c7, rfl⟩ := ownsRow_shape hr7; replace hr7 := Lib.hid hr7; replace hg7 := Lib.hid hg7; replace hl7 := Lib.hid hl7)
                | fail)
              go_roundg (l.length + 1 - (i + 1) + 1)
              case rel => exact ⟨i + 1, [], _, L ++ [(t, _, F5)], rfl, by rw [hwi.out], Nat.succ_le_succ hle.out, fun _ => rfl, hM5.out.push hk.out (by simpa using hm5.out) hN5.out (fun k hk5 => by
                have h1 := (hs5.out k hk5).resolve_left id
                exact ⟨fun hf => by have := (hM3.out.tm.lt k hf).2; omega, fun e => by have := (Array.getElem?_eq_some_iff.1 hM3.out.fh).1; omega⟩) hr7.out hg7.out hl7.out hrun.out⟩
              case measure => exact Nat.succ_lt_succ (nn_sub (Nat.lt_succ_of_le hle.out))
        · have k1 := nn_ge hlt
          have k2 : decide (i < l.length) = false := decide_eq_false hlt
          replace hM := Lib.hid hM
          replace hlt := Lib.hid hlt
          go_upto_region 8 with fail
          by_cases hc : cur = []
          · subst hc
            have hs := Lib.hid (hM.out.skip hle.out hdn.out)
            go_wp2
            go_roundg (l.length + 1 - (i + 1) + 1)
            case rel => exact ⟨i + 1, [], F, L, rfl, by rw [hwi.out], Nat.succ_le_succ hle.out, fun _ => rfl, hs.out⟩
            case measure => exact Nat.succ_lt_succ (nn_sub (Nat.lt_succ_of_le hle.out))
          · have hcp : 0 < cur.length := List.length_pos_iff.2 hc
            have p1 := nn_lt hcp
            have p2 : decide (0 < cur.length) = true := decide_eq_true hcp
            obtain ⟨gd, rfl, _, hgd, htk⟩ := rowTok hM.out.row hc
            have hD := rdocument_any (B := w.heap.size) htk hgd hM.out.t.size hc (Nat.lt_of_le_of_lt hM.out.le.1 (by have := hle.out; have := hll.out; omega))
            have hcut := restAt_cut hle.out hdn.out hc (L.map (·.1))
            replace htk := Lib.hid htk
            replace hgd := Lib.hid hgd
            replace hc := Lib.hid hc
            replace hcp := Lib.hid hcp
            rcases hd : doc cur with ⟨ln, er⟩ | t
            · have her := doc_errs hd
              have hrun : r = .error (L.length, ln, er) := by rw [hM.out.run, hcut, hd]; simp
              have q1 : (er == 0) = false := by rw [beq_eq_false_iff_ne]; exact her
              have q2 : (er != 0) = true := by simp [bne, q1]
              replace hd := Lib.hid hd
              replace her := Lib.hid her
              replace hrun := Lib.hid hrun
              replace hcut := Lib.hid hcut
              replace hD := Lib.hid hD
              go_upto_region 11 with (first
                | (go_at_call 35; refine hD.out.mono ?_; clear hD; rintro e w3 hO; unfold RDoc at hO; rw [hd.out] at hO; simp only at hO; obtain ⟨pp, rfl, t3⟩ := hO; have hM3 := hM.out.no hk.out t3; replace t3 := Lib.hid t3)
                | fail)
              have hfh := hM3.fh
              obtain ⟨c0, c1, c2, f0, f1, f2⟩ := row3_cells hfh
              obtain ⟨hs, ts⟩ := set3 hfh (.int .i64 L.length) (.int .i64 ln) (.int .i64 er)
              obtain ⟨s0, s1, s2, _, _, _⟩ := row3_cells hs
              obtain ⟨w4, hw4⟩ : ∃ w4, w4 = ((w3.setCell ⟨fb, 0, none⟩ (.int .i64 L.length)).setCell ⟨fb, 1, none⟩ (.int .i64 ln)).setCell ⟨fb, 2, none⟩ (.int .i64 er) := ⟨_, rfl⟩
              rw [← hw4] at s0 s1 s2 ts
              have tfin := Lib.hid (hM3.t.trans ts (fun k hk => .inr (by rw [hk]; exact hM3.nf.2)))
              replace hfh := Lib.hid hfh
              replace hM3 := Lib.hid hM3
              replace hs := Lib.hid hs
              replace ts := Lib.hid ts
              go_wp2
              rw [← hw4]
              exact bodyPost_ret (v := .tuple #[.slice none 0 0, .agg #[.int .i64 L.length, .int .i64 ln, .int .i64 er]]) (by simp [results, Try.results11, go_sem, s0, s1, s2]) rfl (ofOut_err hrun.out tfin.out)
            · have hrun : r = restAt l (L.map (·.1) ++ [t]) [] (i + 1) := by rw [hM.out.run, hcut, hd]
              have hts := doc_size hd
              replace hd := Lib.hid hd
              replace hrun := Lib.hid hrun
              replace hcut := Lib.hid hcut
              replace hD := Lib.hid hD
              replace hts := Lib.hid hts
              go_upto_region 12 with (first
                | (go_at_call 35; refine hD.out.mono ?_; clear hD; rintro e w3 hO; unfold RDoc at hO; rw [hd.out] at hO; simp only at hO; obtain ⟨tb, Ft, rfl, hP3, t3, hF3⟩ := hO; have hM3 := Lib.hid (hM.out.no hk.out t3); replace hP3 := Lib.hid hP3; replace t3 := Lib.hid t3; replace hF3 := Lib.hid hF3)
                | fail)
              have hLd := Lib.hid (laid_any _ t (Nat.le_refl _) w3 w.heap.size tb Ft No (.slice none 0 0) [] hP3.out ⟨World.ownsRow_nil _ _ _ _, (fun i x hx => by cases hx), (fun i j x y _ hx => by cases hx), ⟨(fun g hg => by cases hg), (fun i x hx => by cases hx)⟩, (fun k hk => hk.elim)⟩ (fun k hk => ⟨id, hF3.out k hk⟩) hM3.out.t.size (by simp; exact hts.out))
              have hB3 := Lib.hid hM3.out.t.size
              go_wp2_with (first
                | (go_at_call 36; refine hLd.out.mono ?_; clear hLd; rintro e w5 ⟨v5, F5, R5, rfl, hN5, hm5, t5, hs5⟩; have hM5 := Lib.hid (hM3.out.no hk.out t5); obtain ⟨vo, vc, rfl⟩ := ownsRow_shape hN5.row; replace hm5 := Lib.hid hm5; replace t5 := Lib.hid t5; replace hs5 := Lib.hid hs5; replace hN5 := Lib.hid hN5; have hrw5 := Lib.hid hM5.out.tm.row; have hB5 := Lib.hid hM5.out.t.size)
                | (at_builtin; refine wp_append_us rfl _ _ 25 (by rfl) w.heap.size 50 j0 (.slice none 0 0) 1 24 Try.underlying25 hj.out hj0.out hj1.out hj2.out rfl (by decide) _ L.length _ (by rfl) hrw5.out 1 (by rfl) rfl (by simp [Value.oneCell']) (nn_o hM5.out.le.2 hle.out hll.out).1 (nn_o hM5.out.le.2 hle.out hll.out).2 hB5.out ?_; intro v7 w7 hr7 hg7 hl7; obtain ⟨o7, c7, rfl⟩ := ownsRow_shape hr7; replace hr7 := Lib.hid hr7; replace hg7 := Lib.hid hg7; replace hl7 := Lib.hid hl7)
                | fail)
              go_roundg (l.length + 1 - (i + 1) + 1)
              case rel => exact ⟨i + 1, [], _, L ++ [(t, _, F5)], rfl, by rw [hwi.out], Nat.succ_le_succ hle.out, fun _ => rfl, hM5.out.push hk.out (by simpa using hm5.out) hN5.out (fun k hk5 => by
                have h1 := (hs5.out k hk5).resolve_left id
                exact ⟨fun hf => by have := (hM3.out.tm.lt k hf).2; omega, fun e => by have := (Array.getElem?_eq_some_iff.1 hM3.out.fh).1; omega⟩) hr7.out hg7.out hl7.out hrun.out⟩
              case measure => exact Nat.succ_lt_succ (nn_sub (Nat.lt_succ_of_le hle.out))
    · have k0 : decide ((i : Int) ≤ (l.length : Int)) = false := decide_eq_false (by omega)
      have k1 : decide (i ≤ l.length) = false := decide_eq_false hle
      have hrun : r = .ok (L.map (·.1)) := by rw [hM.run, restAt_end _ _ hle]
      have hfh := hM.fh
      obtain ⟨c0, c1, c2, f0, f1, f2⟩ := row3_cells hfh
      obtain ⟨hs, ts⟩ := set3 hfh (.int .i64 0) (.int .i64 0) (.int .i64 0)
      obtain ⟨s0, s1, s2, _, _, _⟩ := row3_cells hs
      obtain ⟨w4, hw4⟩ : ∃ w4, w4 = ((wr.setCell ⟨fb, 0, none⟩ (.int .i64 0)).setCell ⟨fb, 1, none⟩ (.int .i64 0)).setCell ⟨fb, 2, none⟩ (.int .i64 0) := ⟨_, rfl⟩
      rw [← hw4] at s0 s1 s2 ts
      replace hrun := Lib.hid hrun
      replace hfh := Lib.hid hfh
      replace hM := Lib.hid hM
      replace hs := Lib.hid hs
      replace ts := Lib.hid ts
      replace hle := Lib.hid hle
      replace hil := Lib.hid hil
      replace hce := Lib.hid hce
      go_wp2
      rw [← hw4]
      exact bodyPost_ret (v := .tuple #[.slice oo L.length oc, .agg #[.int .i64 0, .int .i64 0, .int .i64 0]]) (by simp [results, Try.results11, go_sem, s0, s1, s2]) rfl (ofOut_ok hrun.out (hM.out.tm.tch ts.out (fun k hk e => hM.out.nf.1 (e ▸ hk))) (hM.out.t.trans ts.out (fun k hk => .inr (by rw [hk]; exact hM.out.nf.2))))
end Go.Proofs.Ytcnjmkjfgghgoaa
end
