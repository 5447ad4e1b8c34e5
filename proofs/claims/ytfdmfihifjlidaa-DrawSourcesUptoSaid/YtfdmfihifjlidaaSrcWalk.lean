/- The walk of the law on sources, where both live. -/
import Derived.Test.YtfdmfihifjlidaaSrcLive
import Derived.Deep.RegionLaw
import Derived.Deep.RegionWith
import Derived.Deep.DeepCutAuto
namespace Go.Proofs.Ytfdmfihifjlidaa.drawSources
open Go.RowKit Go.Tp
set_option linter.unusedVariables false
theorem next_len (s : Sc) : (nextS s).xs.length ≤ s.xs.length := by
  unfold nextS
  obtain ⟨xs, st⟩ := s
  cases xs <;> simp
theorem row_kept {w w' : World} {B n : Nat} {u : Value} {zs : List Value} {F : Nat → Prop} (h : viewRow w B 22 u n zs) (hk : ∀ k, k < w.heap.size → F k → w'.heap[k]? = w.heap[k]?) (hf : ∀ g, u.ownBlock = some g → F g) : viewRow w' B 22 u n zs := by
  refine ⟨h.1, ?_⟩
  rcases h.2 with h0 | ⟨g, off, cap, cur, hv, hB, hc, r⟩
  · exact .inl h0
  · exact .inr ⟨g, off, cap, cur, hv, hB, (hk g (Array.getElem?_eq_some_iff.1 hc).1 (hf g (by rw [hv]; rfl))).trans hc, r⟩
set_option maxHeartbeats 40000000 in
set_option maxRecDepth 100000 in
theorem run_live (st : Int) (script : List OpT) (vv : Value) (w : World) (hrd : Rd.SliceOf opE w vv script) (hw : ∀ o ∈ script, o.1.length ≤ 1048576) :
    Calls Try.prog 4 #[.int .u64 st, vv, .bool false] w fun e w' => e = .returned (.bool true) ∧ Below w.heap.size w w' := by
  obtain ⟨i0, hi, hz0, hz1, hz2⟩ := info_parts info22
  have hls := hrd.1
  obtain ⟨ao, cap, hv⟩ : ∃ ao cap, vv = .slice ao script.length cap := by obtain ⟨_, ao, cap, rfl, _⟩ := hrd; exact ⟨_, _, rfl⟩
  subst hv
  have hb1 := Below_alloc w (.cells #[.slice none 0 0, .int .u64 st] 67)
  have hb2 := Below_seq hb1 (Below_alloc (w.alloc (.cells #[.slice none 0 0, .int .u64 st] 67)) (.cells #[.slice none 0 0, .int .u64 st] 38))
  have hn := Lib.hid (new_any st w)
  have hL0 : LiveS w w.heap.size (w.heap.size + 1) (.slice none 0 0) (.slice none 0 0) ⟨[], st⟩ ⟨[], st⟩ (.pointer none) (.pointer none) [] ((w.alloc (.cells #[.slice none 0 0, .int .u64 st] 67)).alloc (.cells #[.slice none 0 0, .int .u64 st] 38)) := by
    have h2 := heap_alloc_new (w.alloc (.cells #[.slice none 0 0, .int .u64 st] 67)) (.cells #[.slice none 0 0, .int .u64 st] 38)
    rw [show (w.alloc (.cells #[.slice none 0 0, .int .u64 st] 67)).heap.size = w.heap.size + 1 by simp] at h2
    have h1 := (Below.heap_alloc (w.alloc (.cells #[.slice none 0 0, .int .u64 st] 67)) (.cells #[.slice none 0 0, .int .u64 st] 38) w.heap.size (by simp)).trans (heap_alloc_new w (.cells #[.slice none 0 0, .int .u64 st] 67))
    refine ⟨hb2, ⟨fun e he => ?_, ?_⟩, .inl ⟨rfl, rfl, rfl⟩⟩
    · rcases List.mem_cons.1 he with rfl | he
      · exact ⟨⟨h1, ⟨rfl, .inl ⟨rfl, rfl⟩⟩, Nat.le_refl _⟩, show (67 : Nat) ≠ 22 by decide⟩
      · rw [List.mem_singleton.1 he]
        exact ⟨⟨h2, ⟨rfl, .inl ⟨rfl, rfl⟩⟩, Nat.le_succ _⟩, show (38 : Nat) ≠ 22 by decide⟩
    · refine List.pairwise_cons.2 ⟨fun f hf => ?_, List.pairwise_singleton _ _⟩
      rw [List.mem_singleton.1 hf]
      exact ⟨Nat.ne_of_lt (Nat.lt_succ_self _), fun g hg => by cases hg⟩
  replace hL0 := Lib.hid hL0
  replace hrd := Lib.hid hrd
  replace hw := Lib.hid hw
  replace hb2 := Lib.hid hb2
  clear hb1
  go_enter Try.func4, Try.ntmps4
  go_wp2_with fail
  refine hn.out.mono ?_
  rintro e w1 ⟨rfl, rfl⟩
  clear hn
  go_upto_region 3 with fail
  change Code.wp _ _ _ _ ((w.alloc (.cells #[.slice none 0 0, .int .u64 st] 67)).alloc (.cells #[.slice none 0 0, .int .u64 st] 38))
  generalize (w.alloc (.cells #[.slice none 0 0, .int .u64 st] 67)).alloc (.cells #[.slice none 0 0, .int .u64 st] 38) = w2 at *
  go_wp2_with fail
  go_loopg [7, 9, 10, 11] 100 (fun g sa lv tv ic wr => ∃ (i bs : Nat) (vs vm : Value) (S : Sc) (rest : List En), i ≤ script.length ∧ i ≤ 100 ∧ g = 100 - i ∧ sa = .pointer (some ⟨bs, 0, none⟩) ∧ ic = .int .i64 i ∧ LiveS w bs (w.heap.size + 1) vs vm S S lv tv rest wr ∧ S.xs.length ≤ i * 1048576)
  case atStart => exact ⟨0, _, _, _, _, _, by omega, by omega, rfl, rfl, rfl, hL0.out, by simp⟩
  case round =>
    obtain ⟨i, bs, vs, vm, S, rest, hi1, hi2, rfl, rfl, rfl, hL, hSl⟩ := hrel
    have hbr := hL.below
    by_cases hl : i < script.length ∧ i < 100
    · obtain ⟨hl1, hl2⟩ := hl
      have hx := List.getElem?_eq_getElem hl1
      obtain ⟨b, off, wo, wq, rfl, hbb, c0, c1, c2, c3, hws, hnb⟩ := op_at hrd.out hbr hx
      have hwl := hw.out _ (List.mem_of_getElem? hx)
      generalize script[i] = x at *
      obtain ⟨ws, nx, cp, on, _⟩ := x
      dsimp only at c0 c1 c2 c3 hws hwl hnb
      have k1 : (i : Int) < (script.length : Int) := by omega
      have k2 : (i : Int) < 100 := by omega
      replace hx := Lib.hid hx
      replace hbr := Lib.hid hbr
      replace hws := Lib.hid hws
      go_upto_region 14 with fail
      have hL4 := hL.after (Below_alloc wr (.cells #[.slice wo ws.length wq, .int .i64 nx, .bool cp, .bool on] 40))
      have hfb := live_fresh hL (Nat.le_refl wr.heap.size)
      replace hL := Lib.hid hL
      have hnb4 := heap_alloc_new wr (.cells #[.slice wo ws.length wq, .int .i64 nx, .bool cp, .bool on] 40)
      have hb4 := Below_seq hbr.out (Below_alloc wr (.cells #[.slice wo ws.length wq, .int .i64 nx, .bool cp, .bool on] 40))
      change Code.wp _ _ _ _ (wr.alloc (.cells #[.slice wo ws.length wq, .int .i64 nx, .bool cp, .bool on] 40))
      clear c0 c1 c2 c3
      generalize wr.alloc (.cells #[.slice wo ws.length wq, .int .i64 nx, .bool cp, .bool on] 40) = w4 at *
      generalize wr.heap.size = b12 at *
      have hlb := (Array.getElem?_eq_some_iff.1 hnb4).1
      have hB : ∀ w', Below w4.heap.size w4 w' → w'.cell? ⟨b12, 0, none⟩ = some (.slice wo ws.length wq) ∧ w'.cell? ⟨b12, 1, none⟩ = some (.int .i64 nx) ∧ w'.cell? ⟨b12, 2, none⟩ = some (.bool cp) ∧ w'.cell? ⟨b12, 3, none⟩ = some (.bool on) := fun w' hb => by
        have h := (hb.block _ hlb).trans hnb4
        exact ⟨(cell_of_row _ _ 0 _ _ _ h).trans rfl, (cell_of_row _ _ 1 _ _ _ h).trans rfl, (cell_of_row _ _ 2 _ _ _ h).trans rfl, (cell_of_row _ _ 3 _ _ _ h).trans rfl⟩
      have hba := Below_alloc w4 (.cells #[] 22)
      obtain ⟨d0, _, _, _⟩ := hB _ (Below.refl _ _)
      have hown0 : viewRow (w4.alloc (.cells #[] 22)) w4.heap.size 22 (.slice (some ⟨w4.heap.size, 0, none⟩) 0 0) 0 [] :=
        ⟨rfl, .inr ⟨w4.heap.size, 0, 0, #[], rfl, Nat.le_refl _, heap_alloc_new w4 _, Nat.le_refl _, by unfold maxLen; omega, Nat.le_refl _, fun j u hj => by simp at hj⟩⟩
      have hsrc := u64_src hws.out (Below_seq hb4 hba)
      have hg2 : ∀ v' w1, Grew (w4.alloc (.cells #[] 22)) w1 (.slice (some ⟨w4.heap.size, 0, none⟩) 0 0) v' 0 ws.length → Below w4.heap.size w4 w1 := fun v' w1 hg => hba.trans (by
        refine ⟨hg.os, hg.tape, hg.output, hg.size, fun k hk => ?_⟩
        rcases hg.block k (Nat.lt_of_lt_of_le hk hba.size) with h3 | ⟨_, _, _, _, _, h3, _⟩
        · exact h3
        · cases h3)
      replace hB := Lib.hid hB
      replace hg2 := Lib.hid hg2
      replace hb4 := Lib.hid hb4
      replace hL4 := Lib.hid hL4
      replace hfb := Lib.hid hfb
      replace hnb4 := Lib.hid hnb4
      clear hba hL
      go_wp2_with (at_builtin; (refine wpList_append_view rfl _ _ 36 rfl w4.heap.size 22 i0 (.int .u64 0) 8 Try.underlying36 hi hz0 hz1 hz2 rfl _ 0 [] (by rfl) hown0 _ ws.length _ (ucells ws) (by rfl) (by simp [ucells]) hsrc (ucells_one ws) (by unfold maxLen; omega) (by omega) (by simp) ?_))
      intro v13 w5 hr5 hg5
      have hb5 := Lib.hid (hg2.out _ _ (by simpa using hg5))
      have hr5' : viewRow w5 w4.heap.size 22 v13 ws.length (ucells ws) := by simpa using hr5
      obtain ⟨vo, vc, rfl⟩ := row_shape hr5'
      replace hr5' := Lib.hid hr5'
      have hL5 := hL4.out.after hb5.out
      have hp := Lib.hid (live_push hL5 ws (.slice vo ws.length vc) (viewRow_mono hr5'.out (Nat.zero_le _)) (by omega) hwl)
      replace hL5 := Lib.hid hL5
      clear hr5 hg5 hown0 hsrc hg2 d0
      go_wp2_with fail
      refine hp.out.mono ?_
      rintro e w6 ⟨vs6, vm6, rfl, hL6, hsz6, hfr6⟩
      have hg5 : ∀ g, (Value.slice vo ws.length vc).ownBlock = some g → g < w5.heap.size ∧ w4.heap.size ≤ g ∧ Free bs (w.heap.size + 1) vs vm rest g := fun g hg => by
        obtain ⟨_, _, h1, h2⟩ := row_block hr5'.out hg
        exact ⟨h2, h1, live_fresh hL4.out h1⟩
      have hr6 := row_kept (F := Free bs (w.heap.size + 1) vs vm rest) hr5'.out (fun k hk hf => (hfr6 k hk hf).1) (fun g hg => (hg5 g hg).2.2)
      have hf6 : ∀ g, (Value.slice vo ws.length vc).ownBlock = some g → Free bs (w.heap.size + 1) vs6 vm6 rest g := fun g hg => (hfr6 g (hg5 g hg).1 (hg5 g hg).2.2).2
      obtain ⟨mo, mc, rfl⟩ := row_shape hL6.doc.row
      have hk12 : w6.heap[b12]? = some (.cells #[.slice wo ws.length wq, .int .i64 nx, .bool cp, .bool on] 40) ∧ Free bs (w.heap.size + 1) vs6 (.slice mo S.xs.length mc) rest b12 := by
        have h5 := (hb5.out.block _ hlb).trans hnb4.out
        have h6 := hfr6 b12 (Array.getElem?_eq_some_iff.1 h5).1 hfb.out
        exact ⟨h6.1.trans h5, h6.2⟩
      have hL6d := hL6.after (below_drewN (Below.refl w6.heap.size w6) 1)
      replace hL6d : LiveS w bs (w.heap.size + 1) vs6 (.slice mo S.xs.length mc) ⟨S.xs ++ ws, S.st⟩ S u9 u10 rest w6.drew := hL6d
      have hrow6 := hL6d.doc.row
      have m0 : w6.cell? ⟨w.heap.size + 1, 0, none⟩ = some (.slice mo S.xs.length mc) := (cell_of_row _ _ 0 _ _ _ hL6.doc.blk).trans rfl
      have d0 : w6.cell? ⟨b12, 0, none⟩ = some (.slice wo ws.length wq) := (cell_of_row _ _ 0 _ _ _ hk12.1).trans rfl
      have hsrc6 := u64_src hws.out hL6d.below
      have hBs := hL6d.below.size
      replace hL6 := Lib.hid hL6
      replace hL6d := Lib.hid hL6d
      replace hfr6 := Lib.hid hfr6
      replace hk12 := Lib.hid hk12
      have hr6d : viewRow w6.drew w4.heap.size 22 (.slice vo ws.length vc) ws.length (ucells ws) := viewRow_below hr6 (below_drewN (Below.refl w6.heap.size w6) 1)
      replace hr6d := Lib.hid hr6d
      replace hr6 := Lib.hid hr6
      replace hf6 := Lib.hid hf6
      replace hg5 := Lib.hid hg5
      replace hsrc6 := Lib.hid hsrc6
      replace hrow6 := Lib.hid hrow6
      go_upto_if 49 with fail
      go_cut [] (fun wx => ∃ vm7, LiveS w bs (w.heap.size + 1) vs6 vm7 ⟨S.xs ++ ws, S.st⟩ ⟨S.xs ++ ws, S.st⟩ u9 u10 rest wx ∧ wx.heap[b12]? = some (.cells #[.slice wo ws.length wq, .int .i64 nx, .bool cp, .bool on] 40) ∧ viewRow wx w4.heap.size 22 (.slice vo ws.length vc) ws.length (ucells ws) ∧ (∀ g, (Value.slice vo ws.length vc).ownBlock = some g → Free bs (w.heap.size + 1) vs6 vm7 rest g) ∧ Free bs (w.heap.size + 1) vs6 vm7 rest b12)
      case first =>
        go_upto_region 17 with fail
        go_region_law ((refine step_append_view rfl _ _ 36 (by rfl) w.heap.size 22 i0 (.int .u64 0) 8 Try.underlying36 hi hz0 hz1 hz2 rfl _ S.xs.length (ucells S.xs) (by rfl) hrow6.out wo ws.length wq (ucells ws) (by rfl) (by simp [ucells]) hsrc6.out (ucells_one ws) (by unfold maxLen; omega) (by omega) hBs ?_; intro v7 w7 hr7 hg7; obtain ⟨g1, g2, g3⟩ := live_docapp hL6d.out hr7 hg7; obtain ⟨no, nc, rfl⟩ := row_shape hr7; have f0 : w7.frozen? ⟨w.heap.size + 1, 0, none⟩ = false := frozen_of_row _ _ _ _ _ g1; have e0 : w7.cell? ⟨w.heap.size + 1, 0, none⟩ = some (.slice mo S.xs.length mc) := (cell_of_row _ _ 0 _ _ _ g1).trans rfl; replace g1 := Lib.hid g1; replace g2 := Lib.hid g2; replace g3 := Lib.hid g3; replace hr7 := Lib.hid hr7; replace hg7 := Lib.hid hg7))
        all_goals
          go_wp2_with fail
          go_meet
          exact ⟨_, g2.out, (g3.out b12 (Array.getElem?_eq_some_iff.1 hk12.out.1).1 hk12.out.2).1.trans hk12.out.1, row_kept (F := Free bs (w.heap.size + 1) vs6 (.slice mo S.xs.length mc) rest) hr6d.out (fun k hk hf => (g3.out k hk hf).1) hf6.out, fun g hg => (g3.out g (row_block hr6d.out hg).choose_spec.2.2 (hf6.out g hg)).2, (g3.out b12 (Array.getElem?_eq_some_iff.1 hk12.out.1).1 hk12.out.2).2⟩
      case rest =>
        obtain ⟨vm7, hL7, hbox7, hr7, hf7, hf12⟩ := hcut
        replace hf12 := Lib.hid hf12
        replace hf7 := Lib.hid hf7
        replace hL7 := Lib.hid hL7
        replace hbox7 := Lib.hid hbox7
        replace hr7 := Lib.hid hr7
        clear m0 d0
        go_wp2_with fail
        go_loopg [14] ws.length (fun g kc wx => ∃ (k : Nat) (zs : List Value), k ≤ ws.length ∧ g = ws.length - k ∧ kc = .int .i64 k ∧ viewRow wx w4.heap.size 22 (.slice vo ws.length vc) ws.length zs ∧ (∀ j, k ≤ j → zs[j]? = (ucells ws)[j]?) ∧ LiveS w bs (w.heap.size + 1) vs6 vm7 ⟨S.xs ++ ws, S.st⟩ ⟨S.xs ++ ws, S.st⟩ u9 u10 rest wx ∧ wx.heap[b12]? = some (.cells #[.slice wo ws.length wq, .int .i64 nx, .bool cp, .bool on] 40))
        case atStart => exact ⟨0, _, by omega, rfl, rfl, hr7.out, fun j _ => rfl, hL7.out, hbox7.out⟩
        case round =>
          obtain ⟨k, zs, hk, rfl, rfl, hrow, hz, hL, hbox⟩ := hrel
          clear hL7 hbox7 hr7
          have d0 : wr.cell? ⟨b12, 0, none⟩ = some (.slice wo ws.length wq) := (cell_of_row _ _ 0 _ _ _ hbox).trans rfl
          have d1 : wr.cell? ⟨b12, 1, none⟩ = some (.int .i64 nx) := (cell_of_row _ _ 1 _ _ _ hbox).trans rfl
          have d2 : wr.cell? ⟨b12, 2, none⟩ = some (.bool cp) := (cell_of_row _ _ 2 _ _ _ hbox).trans rfl
          have d3 : wr.cell? ⟨b12, 3, none⟩ = some (.bool on) := (cell_of_row _ _ 3 _ _ _ hbox).trans rfl
          by_cases hkl : k < ws.length
          · have hk1 : (k : Int) < (ws.length : Int) := by omega
            have hwx := List.getElem?_eq_getElem hkl
            generalize ws[k] = x at *
            have hux : (ucells ws)[k]? = some (.int .u64 x) := by simp [ucells, hwx]
            obtain ⟨g, go, gc, hv, hBg, e0, f0⟩ := row_cell hrow ((hz k (Nat.le_refl _)).trans hux)
            cases hv
            obtain ⟨wb, woff, rfl, e1⟩ := u64_at hws.out hL.below hwx
            have hne : (x != x) = false := by simp
            have hset := fun m u => row_set (w := wr.drewN m) (u := u) (viewRow_below hrow (below_drewN (Below.refl _ _) m)) hkl
            have hLs := fun (m : Nat) (u : Value) => (hL.after (below_drewN (Below.refl wr.heap.size wr) m)).foreign (w' := (wr.drewN m).setCell ⟨g, go + k, none⟩ u) (viewRow_mono (viewRow_below hrow (below_drewN (Below.refl _ _) m)) hb4.out.size) rfl (hf7.out g rfl).2.2.2.not (but_set _ _ _ _)
            have hbs : ∀ (m : Nat) (u : Value), ((wr.drewN m).setCell ⟨g, go + k, none⟩ u).heap[b12]? = some (.cells #[.slice (some ⟨wb, woff, none⟩) ws.length wq, .int .i64 nx, .bool cp, .bool on] 40) := fun m u => (Below.heap_setCell _ _ _ _ (show b12 ≠ g by omega)).trans hbox
            replace hset := Lib.hid hset
            replace hLs := Lib.hid hLs
            replace hbs := Lib.hid hbs
            replace hz := Lib.hid hz
            replace hrow := Lib.hid hrow
            replace hL := Lib.hid hL
            replace hbox := Lib.hid hbox
            replace hwx := Lib.hid hwx
            replace hux := Lib.hid hux
            clear d1 d2 d3
            go_upto_region 21 with fail
            go_quiet (fail)
            go_wp2_with fail
            go_roundg (ws.length - (k + 1))
            case measure => omega
            case rel =>
              refine ⟨k + 1, _, by omega, rfl, by go_num, hset.out _ _, fun j hj => ?_, hLs.out _ _, hbs.out _ _⟩
              rw [List.getElem?_set_ne (by omega)]
              exact hz.out j (by omega)
          · have hk1 : (ws.length : Int) ≤ (k : Int) := by omega
            have hSl2 : (S.xs ++ ws).length ≤ 104857600 := by rw [List.length_append]; omega
            have hbl := (Array.getElem?_eq_some_iff.1 hbox).1
            replace hSl2 := Lib.hid hSl2
            replace hL := Lib.hid hL
            replace hbox := Lib.hid hbox
            replace hbl := Lib.hid hbl
            clear hrow hz d0
            go_upto_if 85 with fail
            go_cut [7, 9, 10] (fun sv lv tv wx => ∃ (bs' : Nat) (vs' : Value) (rest' : List En), sv = .pointer (some ⟨bs', 0, none⟩) ∧ LiveS w bs' (w.heap.size + 1) vs' vm7 ⟨S.xs ++ ws, S.st⟩ ⟨S.xs ++ ws, S.st⟩ lv tv rest' wx ∧ wx.heap[b12]? = some (.cells #[.slice wo ws.length wq, .int .i64 nx, .bool cp, .bool on] 40) ∧ Free bs' (w.heap.size + 1) vs' vm7 rest' b12)
            case first =>
              cases cp
              · go_wp2_with fail
                go_meet
                exact ⟨bs, vs6, rest, rfl, hL.out, hbox.out, hf12.out⟩
              · go_wp2_with fail
                refine (copy_any hL.out.src (Nat.le_trans (Nat.mul_le_mul_right 8 hSl2.out) (by decide))).mono ?_
                rintro e w8 ⟨bc, v8, rfl, hc8, hb8⟩
                have hrc := refcopy_any (hL.out.after hb8).doc (Nat.le_trans (Nat.mul_le_mul_right 8 hSl2.out) (by decide))
                have d3' : w8.cell? ⟨b12, 3, none⟩ = some (.bool on) := (hb8.cell (by exact hbl.out)).trans d3
                replace hrc := Lib.hid hrc
                replace hc8 := Lib.hid hc8
                replace hb8 := Lib.hid hb8
                clear d1 d2 d3
                go_wp2_with fail
                refine hrc.out.mono ?_
                rintro e w9 ⟨bt, v9, rfl, ht9, hb9⟩
                have d3'' : w9.cell? ⟨b12, 3, none⟩ = some (.bool on) := (hb9.cell (by exact Nat.lt_of_lt_of_le hbl.out hb8.out.size)).trans d3'
                obtain ⟨hA, hO⟩ := live_copies hL.out hc8.out hb8.out ht9 hb9 hSl2.out
                have hbx9 := (hb9.block _ (Nat.lt_of_lt_of_le hbl.out hb8.out.size)).trans ((hb8.out.block _ hbl.out).trans hbox.out)
                have n8 : v8.ownBlock ≠ some b12 := fun h => by have := (row_block hc8.out.row h).choose_spec.2.1; have := hbl.out; omega
                have n9 : v9.ownBlock ≠ some b12 := fun h => by have := (row_block ht9.row h).choose_spec.2.1; have := hbl.out; have := hb8.out.size; omega
                have m8 : b12 ≠ bc := by have := hc8.out.hb; have := hbl.out; omega
                have m9 : b12 ≠ bt := by have := ht9.hb; have := hbl.out; have := hb8.out.size; omega
                have q1 : Free bs (w.heap.size + 1) vs6 vm7 [⟨67, bc, v8, ⟨S.xs ++ ws, S.st⟩⟩, ⟨38, bt, v9, ⟨S.xs ++ ws, S.st⟩⟩] b12 := ⟨hf12.out.1, hf12.out.2.1, by simp [m8, m9], hf12.out.2.2.2.1, hf12.out.2.2.2.2.1, by simp [n8, n9]⟩
                have q2 : Free bc (w.heap.size + 1) v8 vm7 [⟨67, bs, vs6, ⟨S.xs ++ ws, S.st⟩⟩, ⟨38, bt, v9, ⟨S.xs ++ ws, S.st⟩⟩] b12 := ⟨m8, hf12.out.2.1, by simp [hf12.out.1, m9], n8, hf12.out.2.2.2.2.1, by simp [hf12.out.2.2.2.1, n9]⟩
                replace hA := Lib.hid hA
                replace hO := Lib.hid hO
                replace hbx9 := Lib.hid hbx9
                replace q1 := Lib.hid q1
                replace q2 := Lib.hid q2
                clear ht9 hb9 d3' n8 n9 m8 m9
                cases on
                · go_wp2_with fail
                  go_meet
                  exact ⟨bs, vs6, _, rfl, hA.out, hbx9.out, q1.out⟩
                · go_wp2_with fail
                  go_meet
                  exact ⟨bc, v8, _, rfl, hO.out, hbx9.out, q2.out⟩
            case rest =>
              obtain ⟨bs', vs', rest', rfl, hL9, hbx9, hf9⟩ := hcut
              replace hL9 := Lib.hid hL9
              replace hbx9 := Lib.hid hbx9
              replace hf9 := Lib.hid hf9
              clear d1 d2 d3 hL hbox
              go_wp2_with fail
              go_loopg [16] 100 (fun g kc wx => ∃ (q : Nat) (vs3 vm3 : Value) (S3 : Sc), q ≤ 100 ∧ g = 100 - q ∧ kc = .int .i64 q ∧ LiveS w bs' (w.heap.size + 1) vs3 vm3 S3 S3 u9 u10 rest' wx ∧ S3.xs.length ≤ (S.xs ++ ws).length ∧ wx.heap[b12]? = some (.cells #[.slice wo ws.length wq, .int .i64 nx, .bool cp, .bool on] 40) ∧ Free bs' (w.heap.size + 1) vs3 vm3 rest' b12)
              case atStart => exact ⟨0, _, _, _, by omega, rfl, rfl, hL9.out, Nat.le_refl _, hbx9.out, hf9.out⟩
              case round =>
                obtain ⟨q, vs3, vm3, S3, hq, rfl, rfl, hLq, hS3, hbq, hfq⟩ := hrel
                clear hL9 hbx9 hf9
                have d1 : wr.cell? ⟨b12, 1, none⟩ = some (.int .i64 nx) := (cell_of_row _ _ 1 _ _ _ hbq).trans rfl
                have hlq := (Array.getElem?_eq_some_iff.1 hbq).1
                by_cases hqn : (q : Int) < nx ∧ q < 100
                · obtain ⟨hq1, hq2⟩ := hqn
                  have hq3 : (q : Int) < 100 := by omega
                  have hp19 := Lib.hid (live_next hLq)
                  have hS4 := Nat.le_trans hS3 hSl2.out
                  replace hLq := Lib.hid hLq
                  replace hbq := Lib.hid hbq
                  replace hfq := Lib.hid hfq
                  replace hS3 := Lib.hid hS3
                  replace hS4 := Lib.hid hS4
                  replace hlq := Lib.hid hlq
                  go_wp2_with fail
                  refine hp19.out.mono ?_
                  rintro e wa ⟨vsa, vma, rfl, hLa, hsa, hfa⟩
                  have hka := hfa b12 hlq.out hfq.out
                  have hp20 := Lib.hid (live_refnext hLa hS4.out)
                  replace hLa := Lib.hid hLa
                  replace hka := Lib.hid hka
                  replace hsa := Lib.hid hsa
                  clear hfa d1
                  obtain ⟨r, hr⟩ : ∃ r, r = nextW S3 := ⟨_, rfl⟩
                  rw [← hr] at hp20 ⊢
                  replace hr := Lib.hid hr
                  have hrr : (r != r) = false := by simp
                  go_wp2_with fail
                  refine hp20.out.mono ?_
                  rintro e wb2 ⟨vsb, vmb, rfl, hLb, hsb, hfb⟩
                  have hkb := hfb b12 (Nat.lt_of_lt_of_le hlq.out hsa.out) hka.out.2
                  have hbb := hkb.1.trans (hka.out.1.trans hbq.out)
                  replace hLb := Lib.hid hLb
                  replace hkb := Lib.hid hkb
                  replace hbb := Lib.hid hbb
                  clear hfb hsb
                  go_wp2_with fail
                  go_roundg (100 - (q + 1))
                  case measure => omega
                  case rel => exact ⟨q + 1, _, _, _, by omega, rfl, by go_num, hLb.out, Nat.le_trans (next_len S3) hS3.out, hbb.out, hkb.out.2⟩
                · have hqc : nx ≤ (q : Int) ∨ ((q : Int) < nx ∧ (100 : Int) ≤ (q : Int)) := by omega
                  have hp21 := Lib.hid (left_any hLq.src)
                  obtain ⟨mo3, mc3, rfl⟩ := row_shape hLq.doc.row
                  have m0 : wr.cell? ⟨w.heap.size + 1, 0, none⟩ = some (.slice mo3 S3.xs.length mc3) := (cell_of_row _ _ 0 _ _ _ hLq.doc.blk).trans rfl
                  have hlen3 : S3.xs.length ≤ (i + 1) * 1048576 := by
                    have := hS3
                    rw [List.length_append] at this
                    omega
                  have hll : ((S3.xs.length : Int) != (S3.xs.length : Int)) = false := by simp
                  replace hLq := Lib.hid hLq
                  replace hbq := Lib.hid hbq
                  replace hlen3 := Lib.hid hlen3
                  clear hqn hfq hS3
                  rcases hqc with h5 | ⟨h5, h6⟩
                  all_goals
                    go_wp2_with fail
                    refine hp21.out.mono ?_
                    rintro e wz ⟨rfl, rfl⟩
                    go_wp2_with fail
                    go_roundg (100 - (i + 1))
                    case measure => omega
                    case rel => exact ⟨i + 1, _, _, _, _, _, by omega, by omega, rfl, rfl, by go_num, hLq.out, hlen3.out⟩
    · have hcase : (script.length : Int) ≤ (i : Int) ∨ ((i : Int) < (script.length : Int) ∧ (100 : Int) ≤ (i : Int)) := by omega
      clear hl
      rcases hL.left with ⟨rfl, rfl, rfl⟩ | ⟨bl, bt, vl, vt, L, rfl, rfl, rfl, hLl⟩
      · replace hL := Lib.hid hL
        replace hbr := Lib.hid hbr
        rcases hcase with h5 | ⟨h5, h6⟩
        all_goals
          go_wp2_with fail
          go_ret
          exact ⟨rfl, hbr.out⟩
      · have hL2 : LiveS w bl bt vl vt L L (.pointer none) (.pointer none) [] wr := ⟨hL.below, hL.pool.tail.tail, .inl ⟨rfl, rfl, rfl⟩⟩
        replace hL := Lib.hid hL
        replace hbr := Lib.hid hbr
        replace hL2 := Lib.hid hL2
        rcases hcase with h5 | ⟨h5, h6⟩
        all_goals
          go_wp2_with fail
          go_loopg [18] 20 (fun g kc wx => ∃ (q : Nat) (vl vt : Value) (L : Sc), q ≤ 20 ∧ g = 20 - q ∧ kc = .int .i64 q ∧ LiveS w bl bt vl vt L L (.pointer none) (.pointer none) [] wx ∧ L.xs.length ≤ 104857600)
          case atStart => exact ⟨0, _, _, _, by omega, rfl, rfl, hL2.out, hLl⟩
          case round =>
            obtain ⟨q, vl3, vt3, L3, hq, rfl, rfl, hLq, hL3⟩ := hrel
            clear hL2
            by_cases hqn : q < 20
            · have hq3 : (q : Int) < 20 := by omega
              obtain ⟨mo3, mc3, rfl⟩ := row_shape hLq.doc.row
              have m0 : wr.cell? ⟨bt, 0, none⟩ = some (.slice mo3 L3.xs.length mc3) := (cell_of_row _ _ 0 _ _ _ hLq.doc.blk).trans rfl
              have hLd : LiveS w bl bt vl3 (.slice mo3 L3.xs.length mc3) L3 L3 (.pointer none) (.pointer none) [] wr.drew := hLq.after (below_drewN (Below.refl wr.heap.size wr) 1)
              have hp21 := Lib.hid (left_any hLd.src)
              have hp19 := Lib.hid (live_next hLd)
              obtain ⟨r, hr⟩ : ∃ r, r = nextW L3 := ⟨_, rfl⟩
              rw [← hr] at hp19
              have hrr : (r != r) = false := by simp
              have hll : ((L3.xs.length : Int) != (L3.xs.length : Int)) = false := by simp
              have k20 := Lib.hid (fun (wa : World) (vsa vma : Value) (h : LiveS w bl bt vsa vma (nextS L3) L3 (.pointer none) (.pointer none) [] wa) => (show Calls Try.prog 20 #[.pointer (some ⟨bt, 0, none⟩)] wa (LPost w bl bt vsa vma (nextS L3) (nextS L3) (.pointer none) (.pointer none) [] wa (.int .u64 r)) from by rw [hr]; exact live_refnext h hL3))
              replace hr := Lib.hid hr
              replace hLd := Lib.hid hLd
              replace hLq := Lib.hid hLq
              replace hL3 := Lib.hid hL3
              go_upto_region 48 with fail
              go_region_with (first | (go_at_call 21; (with_reducible refine hp21.out.mono ?_); rintro e wz ⟨rfl, rfl⟩) | (go_at_call 19; (with_reducible refine hp19.out.mono ?_); rintro e wa ⟨vsa, vma, rfl, hLa, hsa, hfa⟩; replace hfa := Lib.hid hfa) | (go_at_call 20; (with_reducible refine (k20.out _ _ _ hLa).mono ?_); rintro e wb ⟨vsb, vmb, rfl, hLb, hsb, hfb⟩; replace hfb := Lib.hid hfb) | fail)
              all_goals
                replace hLb := Lib.hid hLb
                go_wp2_with fail
                go_roundg (20 - (q + 1))
                case measure => omega
                case rel => exact ⟨q + 1, _, _, _, by omega, rfl, by go_num, hLb.out, Nat.le_trans (next_len L3) hL3.out⟩
            · have hq3 : (20 : Int) ≤ (q : Int) := by omega
              have hfin := Lib.hid hLq.below
              replace hLq := Lib.hid hLq
              go_wp2_with fail
              go_ret
              exact ⟨rfl, hfin.out⟩
end Go.Proofs.Ytfdmfihifjlidaa.drawSources
