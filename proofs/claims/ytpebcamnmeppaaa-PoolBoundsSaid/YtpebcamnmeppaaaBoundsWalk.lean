/- The law PoolBounds, walked. -/
import Derived.Test.YtpebcamnmeppaaaBounds
import Derived.Deep.CutBlock
import Derived.Deep.DeepCutAuto
import Derived.Deep.RegionWith
namespace Go.Proofs.Ytpebcamnmeppaaa
open Go.RowKit Go.Mp Go.Po
set_option linter.unusedVariables false
set_option maxHeartbeats 40000000
set_option maxRecDepth 100000
theorem info39 : (Try.prog.info? 39).map (fun i => (i.zero, i.size, i.bytes)) = some (some (.agg #[.int .i64 0, .string ⟨#[]⟩, .int .i64 0, .int .i64 0]), 4, 40) := by kernel_rfl
theorem bounds (l : List CallT) (v : Value) (most wait : Int) (w : World) (hrd : Rd.SliceOf callE w v l) (hmw : -9223372036854775808 ≤ wait ∧ wait ≤ 9223372036854775807) (hlen : l.length * 40 ≤ 140737488351232) :
    Calls Try.prog 4 #[.int .i64 most, .int .i64 wait, v] w fun e w' => e = .returned (.bool true) ∧ Below w.heap.size w w' := by
  obtain ⟨ao, cap, rfl⟩ : ∃ ao cap, v = .slice ao l.length cap := by
    obtain ⟨_, ao, cap, rfl, _⟩ := hrd
    exact ⟨ao, cap, rfl⟩
  obtain ⟨i0, hi0, hz0, hz1, hz2⟩ := info_parts info39
  obtain ⟨i3, hi3, hy0, hy1, hy2⟩ := info_parts info3
  replace hi0 := Lib.hid hi0
  replace hz0 := Lib.hid hz0
  replace hz1 := Lib.hid hz1
  replace hz2 := Lib.hid hz2
  replace hi3 := Lib.hid hi3
  replace hy0 := Lib.hid hy0
  replace hy1 := Lib.hid hy1
  replace hy2 := Lib.hid hy2
  replace hrd := Lib.hid hrd
  go_enter Try.func4, Try.ntmps4
  go_upto_region 3 with (go_at_call 6; refine (awake_any w).mono ?_; rintro _ w1 ⟨rfl, hb1⟩)
  by_cases hbad : most < 1 ∨ 64 < most ∨ wait < 0
  · have h0 := new_bad (w := w1) most wait hbad
    go_wp2_with (go_at_call 7; refine h0.mono ?_; clear h0; rintro _ w2 ⟨rfl, rfl⟩)
    go_ret
    exact ⟨rfl, hb1⟩
  have h0 := new_any (w := w1) most wait ⟨by omega, by omega, by omega, by omega⟩
  go_wp2_with (go_at_call 7; refine h0.mono ?_; clear h0; rintro _ w2 ⟨p, F, rfl, hP, hB⟩; have hL := Lib.hid (show Live w w2 F p _ 0 from ⟨by exact (show PoolM w2 w.heap.size F p _ 0 from hP.base hb1.size), hb1.trans (hB.mono hb1.size)⟩); clear hP hB)
  replace hbad := Lib.hid hbad
  go_loopg [9, 10, 11, 12] l.length (fun gg hv gv kv ic wr => ∃ (i : Nat) (F : Nat → Prop) (s : St) (held gone : List Int), i ≤ l.length ∧ gg = l.length - i ∧ ic = .int .i64 i ∧ BM w wr F p s i hv held gv gone kv (l.take i) [] ∧ Bk s held gone ∧ held.length ≤ i ∧ gone.length + s.all.length ≤ i ∧ s.most = most)
  case atStart => exact ⟨0, F, _, [], [], by omega, by omega, rfl, ⟨hL.out, World.ownsRow_nil _ _ _ _, World.ownsRow_nil _ _ _ _, World.ownsRow_nil _ _ _ _, (fun _ h => by cases h), (fun _ h => by cases h), (fun _ h => by cases h), (fun _ h => by cases h)⟩, bk0 most wait, by simp, by simp [St0, St.all], rfl⟩
  case round =>
    clear hL F
    obtain ⟨i, F, s, held, gone, hi, rfl, rfl, hM, hBk, hhl, hgl, hms⟩ := hrel
    by_cases hil : i < l.length
    · have ki : (i : Int) < (l.length : Int) := by omega
      have hx := List.getElem?_eq_getElem hil
      have hstep : l.take (i + 1) = l.take i ++ [l[i]] := by rw [List.take_add_one, hx]; rfl
      obtain ⟨b, off, rfl, d0, d1, d2, d3, hsz, hcn, hnw⟩ := call_at hrd.out hM.live.2 hx
      generalize l[i] = c at *
      obtain ⟨kd, nm, cn, nw, _⟩ := c
      dsimp only at d0 d1 d2 d3 hsz hcn hnw
      replace hx := Lib.hid hx
      replace hstep := Lib.hid hstep
      replace hM := Lib.hid hM
      replace hBk := Lib.hid hBk
      have hM1 := hM.out.box (.cells #[.int .i64 kd, .string nm, .int .i64 cn, .int .i64 nw] 39)
      have hkt : (l.take i).length = i := by rw [List.length_take]; omega
      obtain ⟨w3, hw3⟩ : ∃ w3, w3 = wr.alloc (.cells #[.int .i64 kd, .string nm, .int .i64 cn, .int .i64 nw] 39) := ⟨_, rfl⟩
      rw [← hw3] at hM1
      obtain ⟨cb, hcb⟩ : ∃ cb, cb = wr.heap.size := ⟨_, rfl⟩
      rw [← hcb] at hM1
      go_upto_region 13 with fail
      rw [← hw3, ← hcb]
      have hbx := (hM1.bx _ List.mem_cons_self).1
      have b0 : w3.cell? ⟨cb, 0, none⟩ = some (.int .i64 kd) := (cell_of_row _ _ 0 _ _ _ hbx).trans rfl
      have b1 : w3.cell? ⟨cb, 1, none⟩ = some (.string nm) := (cell_of_row _ _ 1 _ _ _ hbx).trans rfl
      have b2 : w3.cell? ⟨cb, 2, none⟩ = some (.int .i64 cn) := (cell_of_row _ _ 2 _ _ _ hbx).trans rfl
      have b3 : w3.cell? ⟨cb, 3, none⟩ = some (.int .i64 nw) := (cell_of_row _ _ 3 _ _ _ hbx).trans rfl
      clear d0 d1 d2 d3
      replace hw3 := Lib.hid hw3
      replace hcb := Lib.hid hcb
      replace hbx := Lib.hid hbx
      replace hM1 := Lib.hid hM1
      replace hkt := Lib.hid hkt
      go_upto_region 14 with (first | (at_builtin; refine wp_append_four rfl _ _ 37 rfl w.heap.size 39 i0 (.agg #[.int .i64 0, .string ⟨#[]⟩, .int .i64 0, .int .i64 0]) 40 Try.underlying37 hi0.out hz0.out hz1.out hz2.out rfl _ _ _ rfl hM1.out.rk 1 rfl (by simp [Value.oneCell']) (by rw [hkt.out]; unfold maxLen; omega) (by rw [hkt.out]; omega) hM1.out.live.2.size ?_; intro kv' w4 hrk4 hgk4 hlk4) | fail)
      have hM4 := hM1.out.onKnown (known' := l.take (i + 1)) (by rw [hstep.out, kcells_append]; simpa [kcells, ccells] using hrk4) hgk4 hlk4
      have hbx4 := (hM4.bx _ List.mem_cons_self).1
      have b0 : w4.cell? ⟨cb, 0, none⟩ = some (.int .i64 kd) := (cell_of_row _ _ 0 _ _ _ hbx4).trans rfl
      have b1 : w4.cell? ⟨cb, 1, none⟩ = some (.string nm) := (cell_of_row _ _ 1 _ _ _ hbx4).trans rfl
      have b2 : w4.cell? ⟨cb, 2, none⟩ = some (.int .i64 cn) := (cell_of_row _ _ 2 _ _ _ hbx4).trans rfl
      have b3 : w4.cell? ⟨cb, 3, none⟩ = some (.int .i64 nw) := (cell_of_row _ _ 3 _ _ _ hbx4).trans rfl
      replace hM4 := Lib.hid hM4
      replace hbx4 := Lib.hid hbx4
      replace hrk4 := Lib.hid hrk4
      replace hgk4 := Lib.hid hgk4
      replace hlk4 := Lib.hid hlk4
      clear hM hM1 hbx
      go_upto_block 2 with fail
      go_cut [9, 10] (fun hv gv wx => ∃ (F : Nat → Prop) (s : St) (held gone : List Int), BM w wx F p s (i + 1) hv held gv gone kv' (l.take (i + 1)) [] ∧ Bk s held gone ∧ held.length ≤ i + 1 ∧ gone.length + s.all.length ≤ i + 1 ∧ s.most = most)
      case first =>
        have hlt : l.length ≤ 4398046511104 := by omega
        by_cases h0 : kd = 0
        · -- Take
          as_aux_lemma =>
            subst h0
            have hA := take_any hM4.out.live.1 nm
            have hms' := most_take s nm
            rcases bk_take hM4.out.live.1.inv hBk.out nm with ⟨c, hc, hn1, hn2, hp0, e1, hB', hL'⟩ | ⟨⟨f, r, e1⟩, hB', hL'⟩
            · generalize (take s nm).2 = s' at *
              rw [e1] at hA
              dsimp only at hA
              generalize c.id = ci at *
              have kge : decide ((0 : Int) ≤ ci) = true := decide_eq_true hp0
              replace hB' := Lib.hid hB'
              replace e1 := Lib.hid e1
              replace hc := Lib.hid hc
              go_wp2_with (first
                | (go_at_call 8; have _t := hA; refine hA.mono ?_; clear hA _t; rintro _ w5 ⟨rfl, hP⟩; obtain ⟨F5, hM5⟩ := hM4.out.pool hP; have hI1 := in_any (ri_own hM5.rh) (by omega) ci; rw [show decide (ci ∈ held) = false from decide_eq_false hn1] at hI1; have hI2 := in_any (ri_own hM5.rg) (by omega) ci; rw [show decide (ci ∈ gone) = false from decide_eq_false hn2] at hI2; replace hM5 := Lib.hid hM5; clear hP)
                | (go_at_call 12; have _t := hI1; refine hI1.mono ?_; clear hI1 _t; rintro _ w6 ⟨rfl, hw⟩; cases hw)
                | (go_at_call 12; have _t := hI2; refine hI2.mono ?_; clear hI2 _t; rintro _ w6 ⟨rfl, hw⟩; cases hw)
                | (at_builtin; refine wp_append_one rfl _ _ 22 rfl w.heap.size 3 i3 (.int .i64 0) 8 Try.underlying22 hi3.out hy0.out hy1.out hy2.out rfl _ _ _ rfl hM5.out.rh 1 rfl rfl (by unfold maxLen; omega) (by omega) hM5.out.live.2.size ?_; intro v' w7 hr7 hg7 hl7)
                | fail)
              go_meet
              exact ⟨F5, s', held ++ [ci], gone, ((hM5.out.onHeld (held' := held ++ [ci]) (by simpa [icells] using hr7) hg7 hl7).mono (by omega)).unbox, hB'.out, by simp; omega, by omega, by omega⟩
            · generalize (take s nm).2 = s' at *
              rw [e1] at hA
              dsimp only at hA
              replace hB' := Lib.hid hB'
              replace e1 := Lib.hid e1
              by_cases hr0 : r = 0
              · subst hr0
                go_wp2_with (first
                  | (go_at_call 8; have _t := hA; refine hA.mono ?_; clear hA _t; rintro _ w5 ⟨rfl, hP⟩; obtain ⟨F5, hM5⟩ := hM4.out.pool hP; replace hM5 := Lib.hid hM5; clear hP)
                  | fail)
                go_meet
                exact ⟨F5, s', held, gone, (hM5.out.mono (by omega)).unbox, hB'.out, by omega, by omega, by omega⟩
              · have kr : (r == 0) = false := by rw [beq_eq_false_iff_ne]; exact hr0
                go_wp2_with (first
                  | (go_at_call 8; have _t := hA; refine hA.mono ?_; clear hA _t; rintro _ w5 ⟨rfl, hP⟩; obtain ⟨F5, hM5⟩ := hM4.out.pool hP; replace hM5 := Lib.hid hM5; clear hP)
                  | fail)
                go_meet
                exact ⟨F5, s', held, gone, (hM5.out.mono (by omega)).unbox, hB'.out, by omega, by omega, by omega⟩
        have k0 : (kd == 0) = false := by rw [beq_eq_false_iff_ne]; exact h0
        replace h0 := Lib.hid h0
        by_cases h1 : kd = 1
        · -- Dialled
          as_aux_lemma =>
            subst h1
            have hA := dial_any hM4.out.live.1 nm cn hcn.2 hM4.out.live.2.size
            have hms' := most_dial s nm cn
            rcases bk_dial hBk.out nm cn with ⟨e1, hn1, hB', hL'⟩ | ⟨e1, e2⟩
            · generalize (dial s nm cn).2 = s' at *
              rw [e1] at hA
              replace hB' := Lib.hid hB'
              replace e1 := Lib.hid e1
              go_wp2_with (first
                | (go_at_call 9; have _t := hA; refine hA.mono ?_; clear hA _t; rintro _ w5 ⟨rfl, hP⟩; obtain ⟨F5, hM5⟩ := hM4.out.pool hP; have hI1 := in_any (ri_own hM5.rh) (by omega) cn; rw [show decide (cn ∈ held) = false from decide_eq_false hn1] at hI1; have b2' : w5.cell? ⟨cb, 2, none⟩ = some (.int .i64 cn) := (cell_of_row _ _ 2 _ _ _ (hM5.bx _ List.mem_cons_self).1).trans rfl; replace hM5 := Lib.hid hM5; clear hP)
                | (go_at_call 12; have _t := hI1; refine hI1.mono ?_; clear hI1 _t; rintro _ w6 ⟨rfl, hw⟩; cases hw)
                | (at_builtin; refine wp_append_one rfl _ _ 22 rfl w.heap.size 3 i3 (.int .i64 0) 8 Try.underlying22 hi3.out hy0.out hy1.out hy2.out rfl _ _ _ rfl hM5.out.rh 1 rfl rfl (by unfold maxLen; omega) (by omega) hM5.out.live.2.size ?_; intro v' w7 hr7 hg7 hl7; have hM7 := hM5.out.onHeld (held' := held ++ [cn]) (by simpa [icells] using hr7) hg7 hl7; have hI3 := but_any (ri_own hM7.rg) (by omega) cn; have b2'' : w7.cell? ⟨cb, 2, none⟩ = some (.int .i64 cn) := (cell_of_row _ _ 2 _ _ _ (hM7.bx _ List.mem_cons_self).1).trans rfl; replace hM7 := Lib.hid hM7; clear hr7 hg7 hl7)
                | (go_at_call 14; have _t := hI3; refine hI3.mono ?_; clear hI3 _t; rintro _ w8 ⟨gv', rfl, hr8, hb8⟩)
                | fail)
              go_meet
              have hfl := List.length_filter_le (fun x => decide (x ≠ cn)) gone
              exact ⟨F5, s', held ++ [cn], gone.filter fun x => decide (x ≠ cn), ((hM7.out.onGone (ownsRow_base hr8 hM7.out.live.2.size) (grown_of_below hb8 _) (fun g hg => .inr (ownsRow_ge hr8 hg).1)).mono (by omega)).unbox, hB'.out, by simp; omega, by omega, by omega⟩
            · rw [e1, e2] at hA
              replace e1 := Lib.hid e1
              replace e2 := Lib.hid e2
              go_wp2_with (first
                | (go_at_call 9; have _t := hA; refine hA.mono ?_; clear hA _t; rintro _ w5 ⟨rfl, hP⟩; obtain ⟨F5, hM5⟩ := hM4.out.pool hP; replace hM5 := Lib.hid hM5; clear hP)
                | fail)
              go_meet
              exact ⟨F5, s, held, gone, (hM5.out.mono (by omega)).unbox, hBk.out, by omega, by omega, by omega⟩
        have k1 : (kd == 1) = false := by rw [beq_eq_false_iff_ne]; exact h1
        replace h1 := Lib.hid h1
        by_cases h2 : kd = 2
        · -- Failed
          as_aux_lemma =>
            subst h2
            have hA := fail_any hM4.out.live.1 nm
            have hms' := most_fail s nm
            obtain ⟨hB', hL'⟩ := bk_fail hBk.out nm
            generalize fail s nm = fs at *
            replace hB' := Lib.hid hB'
            go_wp2_with (first
              | (go_at_call 15; have _t := hA; refine hA.mono ?_; clear hA _t; rintro _ w5 ⟨rfl, hP⟩; obtain ⟨F5, hM5⟩ := hM4.out.pool hP; replace hM5 := Lib.hid hM5; clear hP)
              | fail)
            go_meet
            exact ⟨F5, fs.2, held, gone, (hM5.out.mono (by omega)).unbox, hB'.out, by omega, by omega, by omega⟩
        have k2 : (kd == 2) = false := by rw [beq_eq_false_iff_ne]; exact h2
        replace h2 := Lib.hid h2
        by_cases h3 : kd = 3
        · -- Put
          as_aux_lemma =>
            subst h3
            have hMd := hM4.out.same (Tch.drew No w4)
            have hA := put_any hMd.live.1 cn nw hnw (by omega)
            have hms' := most_put s cn nw
            obtain ⟨hr01, hB', hL'⟩ := bk_put hM4.out.live.1.inv hBk.out cn nw
            have hI0 := in_any (ri_own hMd.rh) (by omega) cn
            generalize put s cn nw = ps at *
            obtain ⟨r, s'⟩ := ps
            dsimp only at hr01 hA hB' hL' hms'
            have hrq : (r == 0) = decide (cn ∈ held) := by
              rcases hr01 with ⟨rfl, h⟩ | ⟨rfl, h⟩
              · rw [decide_eq_true h]; rfl
              · rw [decide_eq_false h]; rfl
            generalize hdq : decide (cn ∈ held) = dq at *
            replace hB' := Lib.hid hB'
            replace hr01 := Lib.hid hr01
            replace hdq := Lib.hid hdq
            replace hMd := Lib.hid hMd
            go_upto_region 30 with fail
            go_region_with (first
              | (go_at_call 10; refine hA.mono ?_; clear hA; rintro _ w5 ⟨rfl, hP⟩; obtain ⟨F5, hM5⟩ := hMd.out.pool hP; have hI1 := in_any (ri_own hM5.rh) (by omega) cn; rw [hdq.out] at hI1; have b2' : w5.cell? ⟨cb, 2, none⟩ = some (.int .i64 cn) := (cell_of_row _ _ 2 _ _ _ (hM5.bx _ List.mem_cons_self).1).trans rfl; have b3' : w5.cell? ⟨cb, 3, none⟩ = some (.int .i64 nw) := (cell_of_row _ _ 3 _ _ _ (hM5.bx _ List.mem_cons_self).1).trans rfl; replace hM5 := Lib.hid hM5; clear hP)
              | (go_at_call 12; refine hI1.mono ?_; clear hI1; rintro _ w6 ⟨rfl, hw⟩; cases hw)
              | (go_at_call 12; refine hI0.mono ?_; clear hI0; rintro _ w6 ⟨rfl, hw⟩; cases hw)
              | fail)
            all_goals
              go_wp2_with (first
                | (go_at_call 14; refine (but_any (ri_own hM5.out.rh) (by omega) cn).mono ?_; rintro _ w8 ⟨hv', rfl, hr8, hb8⟩)
                | fail)
              go_meet
              have hfl := List.length_filter_le (fun x => decide (x ≠ cn)) held
              exact ⟨F5, s', held.filter fun x => decide (x ≠ cn), gone, ((hM5.out.onHeld (ownsRow_base hr8 hM5.out.live.2.size) (grown_of_below hb8 _) (fun g hg => .inr (ownsRow_ge hr8 hg).1))).unbox, hB'.out, by omega, by omega, by omega⟩
        have k3 : (kd == 3) = false := by rw [beq_eq_false_iff_ne]; exact h3
        replace h3 := Lib.hid h3
        by_cases h4 : kd = 4
        · -- Poison
          as_aux_lemma =>
            subst h4
            have hA := poison_any hM4.out.live.1 cn
            have hms' := most_poison s cn
            rcases bk_poison hM4.out.live.1.inv hBk.out cn with ⟨e1, hB', hL'⟩ | ⟨e1, e2⟩
            · generalize (poison s cn).2 = s' at *
              rw [e1] at hA
              replace hB' := Lib.hid hB'
              replace e1 := Lib.hid e1
              go_wp2_with (first
                | (go_at_call 16; have _t := hA; refine hA.mono ?_; clear hA _t; rintro _ w5 ⟨rfl, hP⟩; obtain ⟨F5, hM5⟩ := hM4.out.pool hP; have hI3 := but_any (ri_own hM5.rh) (by omega) cn; have b2' : w5.cell? ⟨cb, 2, none⟩ = some (.int .i64 cn) := (cell_of_row _ _ 2 _ _ _ (hM5.bx _ List.mem_cons_self).1).trans rfl; replace hM5 := Lib.hid hM5; clear hP)
                | (go_at_call 14; have _t := hI3; refine hI3.mono ?_; clear hI3 _t; rintro _ w8 ⟨hv', rfl, hr8, hb8⟩; have hM8 := hM5.out.onHeld (ownsRow_base hr8 hM5.out.live.2.size) (grown_of_below hb8 _) (fun g hg => .inr (ownsRow_ge hr8 hg).1); have b2'' : w8.cell? ⟨cb, 2, none⟩ = some (.int .i64 cn) := (cell_of_row _ _ 2 _ _ _ (hM8.bx _ List.mem_cons_self).1).trans rfl; replace hM8 := Lib.hid hM8; clear hr8 hb8)
                | (at_builtin; refine wp_append_one rfl _ _ 22 rfl w.heap.size 3 i3 (.int .i64 0) 8 Try.underlying22 hi3.out hy0.out hy1.out hy2.out rfl _ _ _ rfl hM8.out.rg 1 rfl rfl (by unfold maxLen; omega) (by omega) hM8.out.live.2.size ?_; intro v' w7 hr7 hg7 hl7)
                | fail)
              go_meet
              have hfl := List.length_filter_le (fun x => decide (x ≠ cn)) held
              exact ⟨F5, s', held.filter fun x => decide (x ≠ cn), gone ++ [cn], ((hM8.out.onGone (gone' := gone ++ [cn]) (by simpa [icells] using hr7) hg7 hl7).mono (by omega)).unbox, hB'.out, by omega, by simp; omega, by omega⟩
            · rw [e1, e2] at hA
              replace e1 := Lib.hid e1
              replace e2 := Lib.hid e2
              go_wp2_with (first
                | (go_at_call 16; have _t := hA; refine hA.mono ?_; clear hA _t; rintro _ w5 ⟨rfl, hP⟩; obtain ⟨F5, hM5⟩ := hM4.out.pool hP; replace hM5 := Lib.hid hM5; clear hP)
                | fail)
              go_meet
              exact ⟨F5, s, held, gone, (hM5.out.mono (by omega)).unbox, hBk.out, by omega, by omega, by omega⟩
        have k4 : (kd == 4) = false := by rw [beq_eq_false_iff_ne]; exact h4
        replace h4 := Lib.hid h4
        by_cases h5 : kd = 5
        · -- Expire
          as_aux_lemma =>
            subst h5
            have hfl : s.free.length ≤ s.all.length := by rw [St.all, List.length_append]; omega
            have hA := expire_any hM4.out.live.1 nw (by omega)
            obtain ⟨hnx, hsx, hB', hL'⟩ := bk_expire hM4.out.live.1.inv hBk.out nw
            have hms' := most_expire s nw
            generalize expire s nw = ps at *
            obtain ⟨x, s'⟩ := ps
            dsimp only at hA hnx hsx hB' hL' hms'
            replace hB' := Lib.hid hB'
            replace hnx := Lib.hid hnx
            replace hsx := Lib.hid hsx
            go_wp2_with (first
              | (go_at_call 11; have _t := hA; refine hA.mono ?_; clear hA _t; rintro _ w5 ⟨xv, rfl, hrx, hPx, hTx⟩; obtain ⟨xo, xc, rfl⟩ := ownsRow_shape hrx)
              | fail)
            obtain ⟨bs, hM6, hbs⟩ := hM4.out.expired hPx hTx hrx
            have hRx := ri_own hrx
            have hkeep : ∀ (wx : World) (F' : Nat → Prop) (s'' : St) (n' : Nat) (hv gv kv : Value) (hd gn : List Int) (kn : List CallT), BM w wx F' p s'' n' hv hd gv gn kv kn bs → RI wx (.slice xo x.length xc) x := fun _ _ _ _ _ _ _ _ _ _ hB => ri_keep hRx (fun g hg => by
              obtain ⟨o, ho, hw5⟩ := hbs g hg
              rw [(hB.bx _ ho).1, hw5])
            have hgx := Lib.hid (show gone.length + x.length < 8796093022208 by omega)
            have hxm := Lib.hid (show x.length < 8796093022208 by omega)
            have hend := Lib.hid (show held.length ≤ i + 1 ∧ (gone ++ x).length + s'.all.length ≤ i + 1 ∧ s'.most = most from ⟨by omega, by rw [List.length_append]; omega, by omega⟩)
            have hhx := Lib.hid (show held.length < 4611686018427387904 by omega)
            replace hkeep := Lib.hid hkeep
            replace hM6 := Lib.hid hM6
            replace hbs := Lib.hid hbs
            replace hRx := Lib.hid hRx
            replace hrx := Lib.hid hrx
            clear hPx hTx
            go_wp2_with fail
            go_loopg [10, 18] x.length (fun gg gv kc wx => ∃ k : Nat, k ≤ x.length ∧ gg = x.length - k ∧ kc = .int .i64 k ∧ BM w wx F p s' i u9 held gv (gone ++ x.take k) kv' (l.take (i + 1)) bs)
            case atStart => exact ⟨0, Nat.zero_le _, rfl, rfl, by simpa using hM6.out⟩
            case round =>
              clear hM6
              obtain ⟨k, hk, rfl, rfl, hM⟩ := hrel
              have hRk := hkeep.out _ _ _ _ _ _ _ _ _ _ hM
              by_cases hkx : k < x.length
              · have kk := nn_lt hkx
                obtain ⟨y, hxk, hin1, hin2, hstepx, hprev⟩ := next_gone hnx.out hsx.out hkx
                obtain ⟨xb, xf, hxo, dk⟩ := ri_at hRk hxk
                have hgl := app_take_len gone x k
                obtain ⟨r1, r2, r3⟩ := app_room hgl hgx.out
                have hI1 := Lib.hid (fun m => in_not (ri_own (hM.same (Tch.drewN No wr m)).rh) hhx.out hin1)
                have hI2 := Lib.hid (fun m => in_not (ri_own (hM.same (Tch.drewN No wr m)).rg) r1 hin2)
                replace hM := Lib.hid hM
                replace hRk := Lib.hid hRk
                replace hxk := Lib.hid hxk
                replace hstepx := Lib.hid hstepx
                replace hin1 := Lib.hid hin1
                replace hin2 := Lib.hid hin2
                subst hxo
                rcases hprev with hk0 | ⟨k', z, hkk, hz, hzy⟩
                · have c1 := nn_zero hk0
                  have c1' : decide (0 < k) = false := by rw [hk0]; rfl
                  replace hk0 := Lib.hid hk0
                  go_upto_region 42 with fail
                  go_quiet ((first | (go_at_call 12; with_reducible exact quiet_same (hI1.out _)) | (go_at_call 12; with_reducible exact quiet_same (hI2.out _)) | fail))
                  have hMd := Lib.hid (hM.out.same (Tch.drewN No wr nq))
                  go_wp2_with (first
                    | (at_builtin; refine wp_append_one rfl _ _ 22 rfl w.heap.size 3 i3 (.int .i64 0) 8 Try.underlying22 hi3.out hy0.out hy1.out hy2.out rfl _ _ _ rfl hMd.out.rg 1 rfl rfl r2 r3 hMd.out.live.2.size ?_; intro v' w7 hr7 hg7 hl7)
                    | fail)
                  go_roundg (x.length - (k + 1))
                  case rel => exact ⟨k + 1, hkx, rfl, by first | rfl | rw [nn_succ hkx hxm.out] | (push_cast; rfl), hMd.out.onGone (by rw [hstepx.out, ← List.append_assoc]; simpa [icells, Nat.add_assoc] using hr7) hg7 hl7⟩
                  case measure => exact nn_sub hkx
                · obtain ⟨_, _, e1, dz⟩ := ri_at hRk.out hz
                  cases e1
                  have c1 := nn_pos hkk
                  have c1' : decide (0 < k) = true := by rw [hkk]; exact decide_eq_true (Nat.succ_pos _)
                  have c2 := nn_pred hkk hkx hxm.out
                  have c3 := nn_le hzy
                  have c4 := nn_predlt hkk hkx
                  have c4' := nn_predlt0 hkk hkx
                  obtain ⟨c5, c6⟩ := nn_pred0 hkk
                  replace hz := Lib.hid hz
                  replace hkk := Lib.hid hkk
                  go_upto_region 42 with fail
                  go_quiet ((first | (go_at_call 12; with_reducible exact quiet_same (hI1.out _)) | (go_at_call 12; with_reducible exact quiet_same (hI2.out _)) | fail))
                  have hMd := Lib.hid (hM.out.same (Tch.drewN No wr nq))
                  go_wp2_with (first
                    | (at_builtin; refine wp_append_one rfl _ _ 22 rfl w.heap.size 3 i3 (.int .i64 0) 8 Try.underlying22 hi3.out hy0.out hy1.out hy2.out rfl _ _ _ rfl hMd.out.rg 1 rfl rfl r2 r3 hMd.out.live.2.size ?_; intro v' w7 hr7 hg7 hl7)
                    | fail)
                  go_roundg (x.length - (k + 1))
                  case rel => exact ⟨k + 1, hkx, rfl, by first | rfl | rw [nn_succ hkx hxm.out] | (push_cast; rfl), hMd.out.onGone (by rw [hstepx.out, ← List.append_assoc]; simpa [icells, Nat.add_assoc] using hr7) hg7 hl7⟩
                  case measure => exact nn_sub hkx
              · have hke := nn_eq hk hkx
                have kk := nn_ge hkx
                rw [hke, List.take_length] at hM
                replace hke := Lib.hid hke
                replace hM := Lib.hid hM
                go_wp2_with fail
                go_meet
                exact ⟨F, s', held, gone ++ x, (hM.out.mono (Nat.le_succ i)).unbox, hB'.out, hend.out⟩
        have k5 : (kd == 5) = false := by rw [beq_eq_false_iff_ne]; exact h5
        replace h5 := Lib.hid h5
        go_wp2_with fail
        go_meet
        exact ⟨F, s, held, gone, (hM4.out.mono (by omega)).unbox, hBk.out, by omega, by omega, by omega⟩
      case rest =>
        as_aux_lemma =>
          clear hM4 hBk hbx4
          obtain ⟨F5, s5, held5, gone5, hM5, hB5, hh5, hg5, hm5⟩ := hcut
          have hkl5 : (l.take (i + 1)).length = i + 1 := by rw [List.length_take]; omega
          obtain ⟨m, hm⟩ : ∃ m, m = i + 1 := ⟨_, rfl⟩
          obtain ⟨ko, kc, hkv⟩ := ownsRow_shape hM5.rk
          rw [hkl5, ← hm] at hkv
          subst hkv
          replace hM5 := Lib.hid hM5
          replace hB5 := Lib.hid hB5
          replace hkl5 := Lib.hid hkl5
          have hlm := Lib.hid (show l.length < 8796093022208 by omega)
          have hmm := Lib.hid (show m < 8796093022208 by omega)
          replace hm := Lib.hid hm
          go_wp2_with fail
          go_loopg [19] m (fun gg kc' wx => ∃ k : Nat, k ≤ m ∧ gg = m - k ∧ kc' = .int .i64 k ∧ BM w wx F5 p s5 (i + 1) u9 held5 u10 gone5 (.slice ko m kc) (l.take (i + 1)) [])
          case atStart => exact ⟨0, Nat.zero_le _, rfl, rfl, hM5.out⟩
          case round =>
            clear hM5
            obtain ⟨k, hk, rfl, rfl, hM⟩ := hrel
            by_cases hki : k < m
            · obtain ⟨kb, nm', hko, dk⟩ := known_at hM.rk hki
              subst hko
              obtain ⟨a1, a2, a3, n1, n2, n3, n4, n5, hA⟩ := counts_le hM.live hm5 nm'
              obtain ⟨c1, c2, c3, w1', w2', c4⟩ := nn_three n1 n2 n3 n4 n5
              have kk := nn_lt hki
              replace n1 := Lib.hid n1
              replace n2 := Lib.hid n2
              replace n3 := Lib.hid n3
              replace n4 := Lib.hid n4
              replace n5 := Lib.hid n5
              replace hM := Lib.hid hM
              go_wp2_with (first | (go_at_call 13; refine hA.mono ?_; clear hA; rintro _ w7 ⟨rfl, hT⟩) | fail)
              go_roundg (m - (k + 1))
              case rel => exact ⟨k + 1, hki, rfl, by first | rfl | rw [nn_succ hki hmm.out] | (push_cast; rfl), hM.out.same hT⟩
              case measure => exact nn_sub hki
            · have kk := nn_ge hki
              replace hM := Lib.hid hM
              go_wp2_with fail
              go_roundg (l.length - (i + 1))
              case rel => exact ⟨i + 1, F5, s5, held5, gone5, hil, rfl, by first | rfl | rw [nn_succ hil hlm.out] | (push_cast; rfl), hM.out, hB5.out, hh5, hg5, hm5⟩
              case measure => exact nn_sub hil
    · have kk : decide ((i : Int) < (l.length : Int)) = false := decide_eq_false (by omega)
      have hbl := hM.live.2
      replace hM := Lib.hid hM
      replace hBk := Lib.hid hBk
      go_wp2_with fail
      go_ret
      exact ⟨rfl, hbl⟩
end Go.Proofs.Ytpebcamnmeppaaa
