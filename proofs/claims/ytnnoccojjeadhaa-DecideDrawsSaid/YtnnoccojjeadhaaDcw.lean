/- The walk of D whole. -/
import Derived.Test.YtnnoccojjeadhaaDs
import Derived.ScopeJumps
import Derived.WalkMore
namespace Go.Proofs.Ytnnoccojjeadhaa
open Go.ChangeShapes Go.WideShapes Go.ChangeAt Go.RowKit
open Go.Pa Go.Dec
set_option linter.unusedVariables false

def stat (k : Int) : Int := if k = 1 then 0 else if k = 2 then 404 else if k = 3 then 404 else if k = 4 then 403 else 503
set_option maxRecDepth 100000 in
set_option maxHeartbeats 8000000 in
theorem decide15 (ver : Int) (v1 v2 vh : Value) (ts : List Host) (hl : List Healthy) (m h p : ByteArray) (u : Nat) (n : Int) (w : World)
    (hm : m.size ≤ maxLen) (hh : h.size ≤ maxLen) (hpa : p.size ≤ maxLen) (hn : -9223372036854775808 ≤ n ∧ n ≤ 9223372036854775807)
    (hrd : Rd.SliceOf hostE w v1 ts) (hrh : Rd.SliceOf healthyE w vh hl) :
    Calls Try.prog 15 #[.agg #[.int .i64 ver, v1, v2], vh, .string m, .string h, .string p, .float .f64 u, .int .i64 n] w fun e w' => e = .returned (decOf ts hl m h p u n).v ∧ Below w.heap.size w w' := by
  obtain ⟨ao, cap, hv⟩ : ∃ ao cap, v1 = .slice ao ts.length cap := by obtain ⟨_, ao, cap, rfl, _⟩ := hrd; exact ⟨_, _, rfl⟩
  subst hv
  obtain ⟨bo, bcap, hv⟩ : ∃ ao cap, vh = .slice ao hl.length cap := by obtain ⟨_, ao, cap, rfl, _⟩ := hrh; exact ⟨_, _, rfl⟩
  subst hv
  have hmf := mkf
  replace hrd := Lib.hid hrd
  replace hrh := Lib.hid hrh
  obtain ⟨D, hD⟩ : ∃ D, D = decOf ts hl m h p u n := ⟨_, rfl⟩
  rw [← hD]
  replace hD := Lib.hid hD
  go_enter Try.func15, Try.ntmps15
  go_wp2
  refine wp_scope_jumps 0 (fun a' w' => Fr (.agg #[.int .i64 ver, .slice ao ts.length cap, v2]) (.slice bo hl.length bcap) (.string m) (.string h) (.string p) (.float .f64 u) (.int .i64 n) (.pointer (some ⟨w.heap.size, 0, none⟩)) (.pointer (some ⟨w.heap.size + 1, 0, none⟩)) (.pointer (some ⟨w.heap.size + 1 + 1, 0, none⟩)) (.pointer (some ⟨w.heap.size + 1 + 1 + 1, 0, none⟩)) (.pointer (some ⟨w.heap.size + 1 + 1 + 1 + 1, 0, none⟩)) a' ∧
    ∃ d rt, DS w #[.int .i64 ver, .slice ao ts.length cap, v2] d rt w' ∧ { d with status := stat d.kind } = D ∧ 1 ≤ d.kind ∧ d.kind ≤ 5) (fun _ _ => 0) rfl ?_ ?_
  · have hs0 := Lib.hid (DS.start (w := w) (tv := #[.int .i64 ver, .slice ao ts.length cap, v2]) (rt := #[.string ⟨#[]⟩, .string ⟨#[]⟩, .slice none 0 0, .slice none 0 0]))
    have hc6 := fun wx hb => find6 ver (.slice ao ts.length cap) v2 ts h wx hh (hrd.out.below hb)
    rcases first_cases (takesH h.data.toList) ts with h1 | ⟨k, r, hk, h1, _⟩
    · rw [h1] at hc6
      have hfin : ({ (⟨2, 0, ⟨#[]⟩, -1, ⟨#[]⟩, ⟨#[]⟩⟩ : Dc) with status := stat 2 }) = D := by rw [hD.out, dec_nohost h1]; rfl
      replace hc6 := Lib.hid hc6
      replace hfin := Lib.hid hfin
      go_wp2_with fail
      refine (hc6.out _ hs0.out.bel).mono ?_
      rintro e w1 ⟨rfl, hb1⟩
      have hs1 := Lib.hid (hs0.out.call hb1)
      clear hb1
      go_wp2
      go_step3
      exact ⟨rfl, fr_mk _ _ _ _ _ _ _ _ _ _ _ _ _ _ _ _ _ _ _ _ _ _ _ _ _ _ _ _ _ _ _ _ _ _ _ _ _ _ _ _ _ _ _ _ _ _ _ _ _ _ _ _ _ _ _ _ _ _ _ _ _ _ _ _ _ _ _ _ _ _ _ _ _ _ _ _ _ _ _ _ _ _ _ _ _ _ _ _ _ _ _ _ _ _ _ _ _ _ _ _ _ _ _ _ _ _, _, _, hs1.out, hfin.out, (show (1 : Int) ≤ 2 by decide), (show (2 : Int) ≤ 5 by decide)⟩
    · rw [h1] at hc6
      have hkl := (List.getElem?_eq_some_iff.1 hk).1
      obtain ⟨bb, off, cap', hv, hbw, hxx⟩ := hrd.out.at (by rintro rfl; simp at hkl)
      cases hv
      obtain ⟨⟨q0, s0⟩, ⟨q1, s1⟩, ⟨rv2, q2, r2⟩, ⟨rv3, q3, r3⟩, _⟩ := hxx k _ hk
      obtain ⟨eo, ecap, hv⟩ : ∃ ao cap, rv2 = .slice ao r.2.2.1.length cap := by obtain ⟨_, ao, cap, rfl, _⟩ := r2; exact ⟨_, _, rfl⟩
      subst hv
      obtain ⟨po, pcap, hv⟩ : ∃ ao cap, rv3 = .slice ao r.2.2.2.1.length cap := by obtain ⟨_, ao, cap, rfl, _⟩ := r3; exact ⟨_, _, rfl⟩
      subst hv
      have hk1 : (k : Int) < (ts.length : Int) := by omega
      have hd : decide ((k : Int) < 0) = false := decide_eq_false (by omega)
      replace hc6 := Lib.hid hc6
      clear hxx hkl
      replace hk := Lib.hid hk
      replace h1 := Lib.hid h1
      replace r2 := Lib.hid r2
      replace r3 := Lib.hid r3
      replace q0 := Lib.hid q0
      replace q1 := Lib.hid q1
      replace q2 := Lib.hid q2
      replace q3 := Lib.hid q3
      go_wp2_with fail
      refine (hc6.out _ hs0.out.bel).mono ?_
      rintro e w1 ⟨rfl, hb1⟩
      have hs1 := hs0.out.call hb1
      clear hb1
      have c0 : w1.cell? ⟨bb, off + k * 4, none⟩ = some (.string r.1) := (hs1.bel.cell (by exact hbw)).trans q0.out
      have c1 : w1.cell? ⟨bb, off + k * 4 + 1, none⟩ = some (.string r.2.1) := (hs1.bel.cell (by exact hbw)).trans q1.out
      have c2 : w1.cell? ⟨bb, off + k * 4 + 2, none⟩ = some (.slice eo r.2.2.1.length ecap) := (hs1.bel.cell (by exact hbw)).trans q2.out
      have c3 : w1.cell? ⟨bb, off + k * 4 + 3, none⟩ = some (.slice po r.2.2.2.1.length pcap) := (hs1.bel.cell (by exact hbw)).trans q3.out
      have t1 := hs1.tabc 1 _ rfl
      have rc0 := hs1.rtec 0 _ rfl
      have rc1 := hs1.rtec 1 _ rfl
      have rc2 := hs1.rtec 2 _ rfl
      have rc3 := hs1.rtec 3 _ rfl
      have rf := hs1.rtef
      replace hs1 := Lib.hid hs1
      go_upto_region 11 with fail
      have hs2 : DS w #[.int .i64 ver, .slice (some ⟨bb, off, none⟩) ts.length cap, v2] ⟨2, 0, ⟨#[]⟩, -1, ⟨#[]⟩, ⟨#[]⟩⟩ #[.string r.1, .string r.2.1, .slice eo r.2.2.1.length ecap, .slice po r.2.2.2.1.length pcap] _ := (((hs1.out.setR 0 (.string r.1)).setR 1 (.string r.2.1)).setR 2 (.slice eo r.2.2.1.length ecap)).setR 3 (.slice po r.2.2.2.1.length pcap)
      clear t1 rc0 rc1 rc2 rc3 rf c0 c1 c2 c3 q0 q1 q2 q3
      generalize (((w1.setCell ⟨w.heap.size + 1 + 1 + 1 + 1, 0, none⟩ (.string r.1)).setCell ⟨w.heap.size + 1 + 1 + 1 + 1, 1, none⟩ (.string r.2.1)).setCell ⟨w.heap.size + 1 + 1 + 1 + 1, 2, none⟩ (.slice eo r.2.2.1.length ecap)).setCell ⟨w.heap.size + 1 + 1 + 1 + 1, 3, none⟩ (.slice po r.2.2.2.1.length pcap) = w2 at *
      clear hs1
      obtain ⟨d0, d1, d2, d3, d4, d5, df⟩ := hs2.decc
      have rc0 := hs2.rtec 0 _ rfl
      have rc1 := hs2.rtec 1 _ rfl
      have rc2 := hs2.rtec 2 _ rfl
      have rc3 := hs2.rtec 3 _ rfl
      dsimp only at d0 d1 d2 d3 d4 d5
      replace hs2 := Lib.hid hs2
      go_cut [] (fun wx => DS w #[.int .i64 ver, .slice (some ⟨bb, off, none⟩) ts.length cap, v2] ⟨3, 0, r.2.1, -1, ⟨#[]⟩, ⟨#[]⟩⟩ #[.string r.1, .string r.2.1, .slice eo r.2.2.1.length ecap, .slice po r.2.2.2.1.length pcap] wx)
      case first =>
        go_region
        go_wp2
        go_meet
        exact ((hs2.out.kind 3).route r.2.1).drew
      case rest =>
        clear hs2
        clear d0 d1 d2 d3 d4 d5 df rc0 rc1 rc2 rc3
        obtain ⟨d0, d1, d2, d3, d4, d5, df⟩ := hcut.decc
        have rc0 := hcut.rtec 0 _ rfl
        have rc1 := hcut.rtec 1 _ rfl
        have rc2 := hcut.rtec 2 _ rfl
        have rc3 := hcut.rtec 3 _ rfl
        dsimp only at d0 d1 d2 d3 d4 d5
        have hc10 := fun wx (hb : Below w.heap.size w wx) => rule10 r.1 r.2.1 (.slice eo r.2.2.1.length ecap) (.slice po r.2.2.2.1.length pcap) r.2.2.1 m p wx hm hpa (r2.out.below hb)
        have hcut2 := Lib.hid hcut
        clear hcut
        rcases first_cases (takesE m.data.toList p.data.toList) r.2.2.1 with h2 | ⟨i, e, hi, h2, _⟩
        · rw [h2] at hc10
          have hfin : ({ (⟨3, 0, r.2.1, -1, ⟨#[]⟩, ⟨#[]⟩⟩ : Dc) with status := stat 3 }) = D := by rw [hD.out, dec_norule h1.out hk.out h2]; rfl
          replace hc10 := Lib.hid hc10
          replace hfin := Lib.hid hfin
          replace h2 := Lib.hid h2
          go_wp2_with fail
          refine (hc10.out _ hcut2.out.bel).mono ?_
          rintro e w3 ⟨rfl, hb3⟩
          have hs3 := hcut2.out.call hb3
          clear hb3
          clear d0 d1 d2 d3 d4 d5 df rc0 rc1 rc2 rc3
          obtain ⟨d0, d1, d2, d3, d4, d5, df⟩ := hs3.decc
          have rc0 := hs3.rtec 0 _ rfl
          have rc1 := hs3.rtec 1 _ rfl
          have rc2 := hs3.rtec 2 _ rfl
          have rc3 := hs3.rtec 3 _ rfl
          dsimp only at d0 d1 d2 d3 d4 d5
          replace hs3 := Lib.hid hs3
          go_wp2
          go_step3
          exact ⟨rfl, fr_mk _ _ _ _ _ _ _ _ _ _ _ _ _ _ _ _ _ _ _ _ _ _ _ _ _ _ _ _ _ _ _ _ _ _ _ _ _ _ _ _ _ _ _ _ _ _ _ _ _ _ _ _ _ _ _ _ _ _ _ _ _ _ _ _ _ _ _ _ _ _ _ _ _ _ _ _ _ _ _ _ _ _ _ _ _ _ _ _ _ _ _ _ _ _ _ _ _ _ _ _ _ _ _ _ _ _, _, _, hs3.out.rule (-1), hfin.out, (show (1 : Int) ≤ 3 by decide), (show (3 : Int) ≤ 5 by decide)⟩
        · rw [h2] at hc10
          have hil := (List.getElem?_eq_some_iff.1 hi).1
          have hd2 : decide ((i : Int) < 0) = false := decide_eq_false (by omega)
          have hi1 : (i : Int) < (r.2.2.1.length : Int) := by omega
          obtain ⟨eb, eoff, ecap', hv, hebw, hxx⟩ := r2.out.at (by intro h; rw [h] at hil; simp at hil)
          cases hv
          obtain ⟨⟨q0, s0⟩, ⟨q1, s1⟩, ⟨sv, q2, r4⟩, _⟩ := hxx i _ hi
          obtain ⟨so, scap, hv⟩ : ∃ ao cap, sv = .slice ao e.2.2.1.length cap := by obtain ⟨_, ao, cap, rfl, _⟩ := r4; exact ⟨_, _, rfl⟩
          subst hv
          replace r4 := Lib.hid r4
          replace q0 := Lib.hid q0
          replace q1 := Lib.hid q1
          replace q2 := Lib.hid q2
          clear hxx hil
          replace hc10 := Lib.hid hc10
          replace h2 := Lib.hid h2
          replace hi := Lib.hid hi
          go_wp2_with fail
          refine (hc10.out _ hcut2.out.bel).mono ?_
          rintro ev w3 ⟨rfl, hb3⟩
          have hs3 := hcut2.out.call hb3
          clear hb3
          clear d0 d1 d2 d3 d4 d5 df rc0 rc1 rc2 rc3
          obtain ⟨d0, d1, d2, d3, d4, d5, df⟩ := hs3.decc
          have rc0 := hs3.rtec 0 _ rfl
          have rc1 := hs3.rtec 1 _ rfl
          have rc2 := hs3.rtec 2 _ rfl
          have rc3 := hs3.rtec 3 _ rfl
          dsimp only at d0 d1 d2 d3 d4 d5
          replace hs3 := Lib.hid hs3
          have hc8 := Lib.hid fun wx (hb : Below w.heap.size w wx) => allowed8 r.1 r.2.1 (.slice (some ⟨eb, eoff, none⟩) r.2.2.1.length ecap) (.slice po r.2.2.2.1.length pcap) r.2.2.2.1 m p wx hm hpa (r3.out.below hb)
          go_wp2_with fail
          have hs4 := (hs3.out.rule i).kind 4
          refine (hc8.out _ hs4.bel).mono ?_
          rintro ev w4 ⟨rfl, hb4⟩
          replace hs4 := hs4.call hb4
          clear hb4 hs3
          clear d0 d1 d2 d3 d4 d5 df rc0 rc1 rc2 rc3
          obtain ⟨d0, d1, d2, d3, d4, d5, df⟩ := hs4.decc
          have rc0 := hs4.rtec 0 _ rfl
          have rc1 := hs4.rtec 1 _ rfl
          have rc2 := hs4.rtec 2 _ rfl
          have rc3 := hs4.rtec 3 _ rfl
          dsimp only at d0 d1 d2 d3 d4 d5
          have hs5 := Lib.hid hs4
          clear hs4
          obtain ⟨al, hal⟩ : ∃ al, al = allowB (takesP m.data.toList p.data.toList) r.2.2.2.1 := ⟨_, rfl⟩
          rw [← hal]
          cases al with
          | false =>
            have hfin : ({ (⟨4, 0, r.2.1, i, ⟨#[]⟩, ⟨#[]⟩⟩ : Dc) with status := stat 4 }) = D := by rw [hD.out, dec_denied h1.out hk.out h2.out hi.out hal.symm]; rfl
            replace hfin := Lib.hid hfin
            replace hal := Lib.hid hal
            go_wp2
            go_step3
            exact ⟨rfl, fr_mk _ _ _ _ _ _ _ _ _ _ _ _ _ _ _ _ _ _ _ _ _ _ _ _ _ _ _ _ _ _ _ _ _ _ _ _ _ _ _ _ _ _ _ _ _ _ _ _ _ _ _ _ _ _ _ _ _ _ _ _ _ _ _ _ _ _ _ _ _ _ _ _ _ _ _ _ _ _ _ _ _ _ _ _ _ _ _ _ _ _ _ _ _ _ _ _ _ _ _ _ _ _ _ _ _ _, _, _, hs5.out, hfin.out, (show (1 : Int) ≤ 4 by decide), (show (4 : Int) ≤ 5 by decide)⟩
          | true =>
            have hlast : D = lastOf hl r.2.1 i e.2.2.1 u n := by rw [hD.out, dec_last h1.out hk.out h2.out hi.out hal.symm]
            replace hlast := Lib.hid hlast
            replace hal := Lib.hid hal
            have c0 : w4.cell? ⟨eb, eoff + i * 3, none⟩ = some (.string e.1) := (hs5.out.bel.cell (by exact hebw)).trans q0.out
            have c1 : w4.cell? ⟨eb, eoff + i * 3 + 1, none⟩ = some (.string e.2.1) := (hs5.out.bel.cell (by exact hebw)).trans q1.out
            have c2 : w4.cell? ⟨eb, eoff + i * 3 + 2, none⟩ = some (.slice so e.2.2.1.length scap) := (hs5.out.bel.cell (by exact hebw)).trans q2.out
            have hc12 := Lib.hid (share12 e.1 e.2.1 (.slice so e.2.2.1.length scap) e.2.2.1 u w4 (r4.out.below hs5.out.bel))
            go_wp2_with fail
            refine hc12.out.mono ?_
            rintro ev w5 ⟨rfl, hb5⟩
            have hs6 := hs5.out.call hb5
            clear hb5 hc12 hs5 c0 c1 c2
            clear d0 d1 d2 d3 d4 d5 df rc0 rc1 rc2 rc3
            obtain ⟨d0, d1, d2, d3, d4, d5, df⟩ := hs6.decc
            have rc0 := hs6.rtec 0 _ rfl
            have rc1 := hs6.rtec 1 _ rfl
            have rc2 := hs6.rtec 2 _ rfl
            have rc3 := hs6.rtec 3 _ rfl
            dsimp only at d0 d1 d2 d3 d4 d5
            replace hs6 := Lib.hid hs6
            obtain ⟨sv, hsv⟩ : ∃ sv, sv = shareOf u e.2.2.1 := ⟨_, rfl⟩
            rw [← hsv]
            replace hsv := Lib.hid hsv
            go_upto_region 18 with fail
            have hs7 := (hs6.out.kind 5).svc sv
            clear hs6
            generalize (w5.setCell ⟨w.heap.size + 1 + 1 + 1, 0, none⟩ (.int .i64 5)).setCell ⟨w.heap.size + 1 + 1 + 1, 4, none⟩ (.string sv) = w6 at *
            clear d0 d1 d2 d3 d4 d5 df rc0 rc1 rc2 rc3
            obtain ⟨d0, d1, d2, d3, d4, d5, df⟩ := hs7.decc
            have rc0 := hs7.rtec 0 _ rfl
            have rc1 := hs7.rtec 1 _ rfl
            have rc2 := hs7.rtec 2 _ rfl
            have rc3 := hs7.rtec 3 _ rfl
            dsimp only at d0 d1 d2 d3 d4 d5
            have hc27 := idx27 hl sv (w.heap.size + 1 + 1 + 1) (.slice bo hl.length bcap) w6 d4 (Nat.lt_of_succ_lt hs7.lt) (hrh.out.below hs7.bel)
            replace hs7 := Lib.hid hs7
            rcases first_cases (isSvc sv) hl with h3 | ⟨j, x, hj, h3, _⟩
            · rw [h3] at hc27
              have hfin : ({ (⟨5, 0, r.2.1, i, sv, ⟨#[]⟩⟩ : Dc) with status := stat 5 }) = D := by rw [hlast.out, last_none (.inl (by rw [← hsv.out]; exact all_none h3)), ← hsv.out]; rfl
              replace hfin := Lib.hid hfin
              replace hc27 := Lib.hid hc27
              replace h3 := Lib.hid h3
              go_wp2_with fail
              refine hc27.out.mono ?_
              rintro ev w7 ⟨rfl, hb7⟩
              have hs8 := hs7.out.call hb7
              clear hb7 hc27 hs7
              clear d0 d1 d2 d3 d4 d5 df rc0 rc1 rc2 rc3
              obtain ⟨d0, d1, d2, d3, d4, d5, df⟩ := hs8.decc
              have rc0 := hs8.rtec 0 _ rfl
              have rc1 := hs8.rtec 1 _ rfl
              have rc2 := hs8.rtec 2 _ rfl
              have rc3 := hs8.rtec 3 _ rfl
              dsimp only at d0 d1 d2 d3 d4 d5
              obtain ⟨e0, e1, e2, e3, e4, e5, ef⟩ := hs8.resc
              obtain ⟨z1, z2, z3, z4, z5⟩ := hs8.stsc
              replace hs8 := Lib.hid hs8
              go_wp2
              go_step3
              go_wp2
              simp only [Exit.jump]
              obtain ⟨⟨m0, m1, m2, m3, m4, m5⟩, hbel⟩ := hs8.out.outs _ _ rfl
              dsimp only at m0 m1 m2 m3 m4 m5
              refine bodyPost_ret (v := Dc.v D) (by rw [← hfin.out]; simp [results, Try.results15, go_sem, Dc.v, m0, m1, m2, m3, m4, m5]; rfl) rfl ⟨rfl, hbel⟩
            · rw [h3] at hc27
              have hjl := (List.getElem?_eq_some_iff.1 hj).1
              have hj1 : (j : Int) < (hl.length : Int) := by omega
              have hj0 : decide ((j : Int) ≥ 0) = true := decide_eq_true (by omega)
              obtain ⟨hb, hoff, hcap', hv, hhbw, hxx⟩ := hrh.out.at (by intro h; rw [h] at hjl; simp at hjl)
              cases hv
              obtain ⟨⟨y0, s3⟩, ⟨xv, y1, r5⟩, _⟩ := hxx j _ hj
              obtain ⟨xo, xcap, hv⟩ : ∃ ao cap, xv = .slice ao x.2.1.length cap := by obtain ⟨_, ao, cap, rfl, _⟩ := r5; exact ⟨_, _, rfl⟩
              subst hv
              have hall : allOf hl sv = x.2.1 := all_at h3 hj
              replace hall := Lib.hid hall
              replace hc27 := Lib.hid hc27
              replace h3 := Lib.hid h3
              replace hj := Lib.hid hj
              replace y1 := Lib.hid y1
              replace r5 := Lib.hid r5
              clear y0 s3 hxx hjl
              go_wp2_with fail
              refine hc27.out.mono ?_
              rintro ev w7 ⟨rfl, hb7⟩
              have hs8 := hs7.out.call hb7
              clear hb7 hc27 hs7
              clear d0 d1 d2 d3 d4 d5 df rc0 rc1 rc2 rc3
              obtain ⟨d0, d1, d2, d3, d4, d5, df⟩ := hs8.decc
              have rc0 := hs8.rtec 0 _ rfl
              have rc1 := hs8.rtec 1 _ rfl
              have rc2 := hs8.rtec 2 _ rfl
              have rc3 := hs8.rtec 3 _ rfl
              dsimp only at d0 d1 d2 d3 d4 d5
              have c0 : w7.cell? ⟨eb, eoff + i * 3, none⟩ = some (.string e.1) := (hs8.bel.cell (by exact hebw)).trans q0.out
              have c1 : w7.cell? ⟨eb, eoff + i * 3 + 1, none⟩ = some (.string e.2.1) := (hs8.bel.cell (by exact hebw)).trans q1.out
              have c2 : w7.cell? ⟨eb, eoff + i * 3 + 2, none⟩ = some (.slice so e.2.2.1.length scap) := (hs8.bel.cell (by exact hebw)).trans q2.out
              have x1 : w7.cell? ⟨hb, hoff + j * 2 + 1, none⟩ = some (.slice xo x.2.1.length xcap) := (hs8.bel.cell (by exact hhbw)).trans y1.out
              by_cases hss : e.2.2.1 = []
              · have hfin : ({ (⟨5, 0, r.2.1, i, sv, ⟨#[]⟩⟩ : Dc) with status := stat 5 }) = D := by rw [hlast.out, last_none (.inr hss), ← hsv.out]; rfl
                have hp : decide (0 < e.2.2.1.length) = false := by rw [hss]; rfl
                replace hfin := Lib.hid hfin
                clear hss
                obtain ⟨e0, e1, e2, e3, e4, e5, ef⟩ := hs8.resc
                obtain ⟨z1, z2, z3, z4, z5⟩ := hs8.stsc
                replace hs8 := Lib.hid hs8
                go_wp2
                go_step3
                go_wp2
                simp only [Exit.jump]
                obtain ⟨⟨m0, m1, m2, m3, m4, m5⟩, hbel⟩ := hs8.out.outs _ _ rfl
                dsimp only at m0 m1 m2 m3 m4 m5
                refine bodyPost_ret (v := Dc.v D) (by rw [← hfin.out]; simp [results, Try.results15, go_sem, Dc.v, m0, m1, m2, m3, m4, m5]; rfl) rfl ⟨rfl, hbel⟩
              · have hp : decide (0 < e.2.2.1.length) = true := decide_eq_true (by have := List.length_pos_iff.2 hss; omega)
                replace hss := Lib.hid hss
                by_cases hx0 : x.2.1 = []
                · have hfin : ({ (⟨5, 0, r.2.1, i, sv, ⟨#[]⟩⟩ : Dc) with status := stat 5 }) = D := by rw [hlast.out, last_none (.inl (by rw [← hsv.out, hall.out, hx0])), ← hsv.out]; rfl
                  have hp2 : decide (0 < x.2.1.length) = false := by rw [hx0]; rfl
                  replace hfin := Lib.hid hfin
                  clear hx0
                  obtain ⟨e0, e1, e2, e3, e4, e5, ef⟩ := hs8.resc
                  obtain ⟨z1, z2, z3, z4, z5⟩ := hs8.stsc
                  replace hs8 := Lib.hid hs8
                  go_wp2
                  go_step3
                  go_wp2
                  simp only [Exit.jump]
                  obtain ⟨⟨m0, m1, m2, m3, m4, m5⟩, hbel⟩ := hs8.out.outs _ _ rfl
                  dsimp only at m0 m1 m2 m3 m4 m5
                  refine bodyPost_ret (v := Dc.v D) (by rw [← hfin.out]; simp [results, Try.results15, go_sem, Dc.v, m0, m1, m2, m3, m4, m5]; rfl) rfl ⟨rfl, hbel⟩
                · have hxl := List.length_pos_iff.2 hx0
                  have hp2 : decide (0 < x.2.1.length) = true := decide_eq_true (by omega)
                  replace hx0 := Lib.hid hx0
                  replace hs8 := Lib.hid hs8
                  go_upto_region 22 with fail
                  obtain ⟨xb, xoff, xcap', hv, hxbw, hxe⟩ := r5.out.at hx0.out
                  cases hv
                  obtain ⟨N, hN⟩ : ∃ N : Nat, max n 0 = (N : Int) := ⟨(max n 0).toNat, by omega⟩
                  have hql : N % x.2.1.length < x.2.1.length := Nat.mod_lt _ hxl
                  have hqe := List.getElem?_eq_getElem hql
                  obtain ⟨w0, s4⟩ := hxe _ _ hqe
                  obtain ⟨ep, hep⟩ : ∃ ep, ep = x.2.1[N % x.2.1.length] := ⟨_, rfl⟩
                  rw [← hep] at w0 hqe
                  have hmd : ((N % x.2.1.length : Nat) : Int) = max n 0 % (x.2.1.length : Int) := by rw [hN]; exact Int.natCast_emod N x.2.1.length
                  have hfin : ({ (⟨1, 0, r.2.1, i, sv, ep⟩ : Dc) with status := stat 1 }) = D := by
                    rw [hlast.out, last_at (j := N % x.2.1.length) hss.out (by rw [← hsv.out, hall.out]; exact hmd) (by rw [← hsv.out, hall.out]; exact hqe), ← hsv.out]; rfl
                  have w1 : w7.cell? ⟨xb, xoff + N % x.2.1.length, none⟩ = some (.string ep) := (hs8.out.bel.cell (by exact hxbw)).trans (by simpa [Rd.cellsAt, Rd.str] using w0)
                  replace hfin := Lib.hid hfin
                  have hq1 : ((N % x.2.1.length : Nat) : Int) < (x.2.1.length : Int) := by omega
                  have hq2 : (if n < 0 then 0 else n) % (x.2.1.length : Int) = ((N % x.2.1.length : Nat) : Int) := by rw [hmd, show max n 0 = (if n < 0 then 0 else n) by split <;> omega]
                  have hne : (x.2.1.length : Int) ≠ 0 := by omega
                  clear hqe hxe w0 s4 hmd hep
                  obtain ⟨q, hq⟩ : ∃ q, q = N % x.2.1.length := ⟨_, rfl⟩
                  rw [← hq] at hql w1 hq1 hq2
                  replace hq := Lib.hid hq
                  go_cut [] (fun wx => DS w #[.int .i64 ver, .slice (some ⟨bb, off, none⟩) ts.length cap, v2] ⟨1, 0, r.2.1, i, sv, ep⟩ #[.string r.1, .string r.2.1, .slice (some ⟨eb, eoff, none⟩) r.2.2.1.length ecap, .slice po r.2.2.2.1.length pcap] wx)
                  case first =>
                    go_region
                    go_wp2
                    all_goals
                      go_meet
                      exact ((hs8.out.kind 1).ep ep).drew
                  case rest =>
                    clear hs8
                    clear d0 d1 d2 d3 d4 d5 df rc0 rc1 rc2 rc3
                    obtain ⟨d0, d1, d2, d3, d4, d5, df⟩ := hcut.decc
                    have rc0 := hcut.rtec 0 _ rfl
                    have rc1 := hcut.rtec 1 _ rfl
                    have rc2 := hcut.rtec 2 _ rfl
                    have rc3 := hcut.rtec 3 _ rfl
                    dsimp only at d0 d1 d2 d3 d4 d5
                    obtain ⟨e0, e1, e2, e3, e4, e5, ef⟩ := hcut.resc
                    obtain ⟨z1, z2, z3, z4, z5⟩ := hcut.stsc
                    replace hcut := Lib.hid hcut
                    go_wp2
                    go_step3
                    go_wp2
                    simp only [Exit.jump]
                    obtain ⟨⟨m0, m1, m2, m3, m4, m5⟩, hbel⟩ := hcut.out.outs _ _ rfl
                    dsimp only at m0 m1 m2 m3 m4 m5
                    refine bodyPost_ret (v := Dc.v D) (by rw [← hfin.out]; simp [results, Try.results15, go_sem, Dc.v, m0, m1, m2, m3, m4, m5]; rfl) rfl ⟨rfl, hbel⟩
  · rintro a' w' ⟨⟨f, rfl⟩, ⟨kd, sd, rod, rud, svd, epd⟩, rt, hS, hfin, hk1, hk2⟩
    dsimp only at hk1 hk2
    have hk : kd = 1 ∨ kd = 2 ∨ kd = 3 ∨ kd = 4 ∨ kd = 5 := by omega
    clear hk1 hk2
    replace hfin := Lib.hid hfin
    rcases hk with rfl | rfl | rfl | rfl | rfl
    · obtain ⟨d0, d1, d2, d3, d4, d5, df⟩ := hS.decc
      dsimp only at d0 d1 d2 d3 d4 d5
      obtain ⟨e0, e1, e2, e3, e4, e5, ef⟩ := hS.resc
      obtain ⟨z1, z2, z3, z4, z5⟩ := hS.stsc
      replace hS := Lib.hid hS
      go_wp2
      simp only [Exit.jump]
      obtain ⟨⟨m0, m1, m2, m3, m4, m5⟩, hbel⟩ := hS.out.outs _ _ rfl
      dsimp only at m0 m1 m2 m3 m4 m5
      refine bodyPost_ret (v := Dc.v D) (by rw [← hfin.out]; simp [results, Try.results15, go_sem, Dc.v, m0, m1, m2, m3, m4, m5]; rfl) rfl ⟨rfl, hbel⟩
    · obtain ⟨d0, d1, d2, d3, d4, d5, df⟩ := hS.decc
      dsimp only at d0 d1 d2 d3 d4 d5
      obtain ⟨e0, e1, e2, e3, e4, e5, ef⟩ := hS.resc
      obtain ⟨z1, z2, z3, z4, z5⟩ := hS.stsc
      replace hS := Lib.hid hS
      go_wp2
      simp only [Exit.jump]
      obtain ⟨⟨m0, m1, m2, m3, m4, m5⟩, hbel⟩ := hS.out.outs _ _ rfl
      dsimp only at m0 m1 m2 m3 m4 m5
      refine bodyPost_ret (v := Dc.v D) (by rw [← hfin.out]; simp [results, Try.results15, go_sem, Dc.v, m0, m1, m2, m3, m4, m5]; rfl) rfl ⟨rfl, hbel⟩
    · obtain ⟨d0, d1, d2, d3, d4, d5, df⟩ := hS.decc
      dsimp only at d0 d1 d2 d3 d4 d5
      obtain ⟨e0, e1, e2, e3, e4, e5, ef⟩ := hS.resc
      obtain ⟨z1, z2, z3, z4, z5⟩ := hS.stsc
      replace hS := Lib.hid hS
      go_wp2
      simp only [Exit.jump]
      obtain ⟨⟨m0, m1, m2, m3, m4, m5⟩, hbel⟩ := hS.out.outs _ _ rfl
      dsimp only at m0 m1 m2 m3 m4 m5
      refine bodyPost_ret (v := Dc.v D) (by rw [← hfin.out]; simp [results, Try.results15, go_sem, Dc.v, m0, m1, m2, m3, m4, m5]; rfl) rfl ⟨rfl, hbel⟩
    · obtain ⟨d0, d1, d2, d3, d4, d5, df⟩ := hS.decc
      dsimp only at d0 d1 d2 d3 d4 d5
      obtain ⟨e0, e1, e2, e3, e4, e5, ef⟩ := hS.resc
      obtain ⟨z1, z2, z3, z4, z5⟩ := hS.stsc
      replace hS := Lib.hid hS
      go_wp2
      simp only [Exit.jump]
      obtain ⟨⟨m0, m1, m2, m3, m4, m5⟩, hbel⟩ := hS.out.outs _ _ rfl
      dsimp only at m0 m1 m2 m3 m4 m5
      refine bodyPost_ret (v := Dc.v D) (by rw [← hfin.out]; simp [results, Try.results15, go_sem, Dc.v, m0, m1, m2, m3, m4, m5]; rfl) rfl ⟨rfl, hbel⟩
    · obtain ⟨d0, d1, d2, d3, d4, d5, df⟩ := hS.decc
      dsimp only at d0 d1 d2 d3 d4 d5
      obtain ⟨e0, e1, e2, e3, e4, e5, ef⟩ := hS.resc
      obtain ⟨z1, z2, z3, z4, z5⟩ := hS.stsc
      replace hS := Lib.hid hS
      go_wp2
      simp only [Exit.jump]
      obtain ⟨⟨m0, m1, m2, m3, m4, m5⟩, hbel⟩ := hS.out.outs _ _ rfl
      dsimp only at m0 m1 m2 m3 m4 m5
      refine bodyPost_ret (v := Dc.v D) (by rw [← hfin.out]; simp [results, Try.results15, go_sem, Dc.v, m0, m1, m2, m3, m4, m5]; rfl) rfl ⟨rfl, hbel⟩
end Go.Proofs.Ytnnoccojjeadhaa
