/- The walk of the law on rises: any thresholds, any probes. -/
import Derived.Test.YteedjgkinmkmoaaRises
import Derived.Test.YteedjgkinmkmoaaOpen
import Derived.StillTailTactics
namespace Go.Proofs.Yteedjgkinmkmoaa.healthRises
open Go.ChangeShapes Go.WideShapes Go.ChangeAt Go.RowKit
open Go.Tp
set_option linter.unusedVariables false

/-- What stands at the head of a round. -/
structure Inv (rise fall : Int) (ps : List (Bool × Nat)) (bs : Nat) (w : World) (i since : Nat) (s : St) (wr : World) : Prop where
  blk : wr.heap[bs]? = some (blk s)
  ok : Ok s i
  row : -(i : Int) ≤ s.row ∧ s.row ≤ i
  opp : opp s = tc ps since (wasUp s) i
  rise : s.rise = rise
  fall : s.fall = fall
  since : since ≤ i
  below : Below w.heap.size w wr

set_option maxHeartbeats 4000000 in
set_option maxRecDepth 100000 in
theorem rises_some (rise fall : Int) (h1 : 1 ≤ rise ∧ rise ≤ 100) (h2 : 1 ≤ fall ∧ fall ≤ 100) (ps : List (Bool × Nat)) (hps : ∀ p ∈ ps, p.2 < 18446744073709551616) (b off cap : Nat) (w : World) (hb : b < w.heap.size) (hc : Pr w b off ps) (hlen : ps.length ≤ 100000000000000) :
    Calls Try.prog 3 #[.int .i64 rise, .int .i64 fall, .slice (some ⟨b, off, none⟩) ps.length cap] w fun e w' => e = .returned (.bool true) ∧ Below w.heap.size w w' := by
  go_enter Try.func3, Try.ntmps3
  go_wp2_with fail
  refine (awake_any w).mono ?_
  rintro e w1 ⟨rfl, hb1⟩
  go_wp2_with fail
  refine (new_ok rise fall w1 h1 h2).mono ?_
  rintro e w2 ⟨rfl, rfl⟩
  have I0 : Inv rise fall ps w1.heap.size w 0 0 (newS rise fall) (w1.alloc (blk (newS rise fall))) :=
    ⟨heap_alloc_new w1 _, newS_ok h1 h2, ⟨Int.le_refl _, Int.le_refl _⟩, rfl, rfl, rfl, Nat.le_refl _, Tp.Below_seq hb1 (Tp.Below_alloc _ _)⟩
  have hbs : w.heap.size ≤ w1.heap.size := hb1.size
  generalize w1.alloc (blk (newS rise fall)) = w2 at *
  generalize w1.heap.size = bs at *
  clear hb1
  go_wp2
  go_loopw [9, 10] (fun sc ic wr => ∃ (i since : Nat) (s : St), i ≤ ps.length ∧ i ≤ 400 ∧ ic = .int .i64 i ∧ sc = .int .i64 since ∧ Inv rise fall ps bs w i since s wr) (fun _ i _ => 400 - (intOf i).toNat)
  case atStart => exact ⟨0, 0, _, by omega, by omega, rfl, rfl, I0⟩
  case round =>
    obtain ⟨i, since, s, hi, hi4, rfl, rfl, I⟩ := hrel
    clear I0
    by_cases hlt : i < ps.length ∧ i < 400
    · obtain ⟨hlt1, hlt2⟩ := hlt
      have hpr := hc.below hb I.below
      have hok := hpr.ok i hlt1
      have htk := hpr.took i hlt1
      have hp2 : (ps.getD i (false, 0)).2 < 18446744073709551616 := by
        have : ps.getD i (false, 0) = ps[i] := by simp [List.getD, hlt1]
        rw [this]; exact hps _ (List.getElem_mem hlt1)
      obtain ⟨ok, hoke⟩ : ∃ ok, ok = (ps.getD i (false, 0)).1 := ⟨_, rfl⟩
      obtain ⟨tk, htke⟩ : ∃ tk, tk = (ps.getD i (false, 0)).2 := ⟨_, rfl⟩
      rw [← hoke] at hok
      rw [← htke] at htk hp2
      have hT := turn_spec I.ok (by have := I.row; omega) ok tk
      have hok' := probeS_ok I.ok ok tk hp2
      have hprobe := probe_any bs s ok tk i wr.drew I.blk hp2 I.ok (by omega)
      have hhe := healthy_any bs s wr I.blk
      have htu := turns_any bs s wr I.blk
      have hwas : (s.pl == 1) = wasUp s := rfl
      rw [hwas] at hhe
      have htn := I.ok.turns
      have hne1 : (s.turns == s.turns + 1) = false := by rw [beq_eq_false_iff_ne]; omega
      replace hprobe := Lib.hid hprobe
      replace hhe := Lib.hid hhe
      replace htu := Lib.hid htu
      replace hT := Lib.hid hT
      replace hok' := Lib.hid hok'
      replace hpr := Lib.hid hpr
      have II := Lib.hid I
      clear hwas I
      replace hoke := Lib.hid hoke
      replace htke := Lib.hid htke
      have hi0 : (0 : Int) ≤ (i : Int) := by omega
      have hi1 : (i : Int) < (ps.length : Int) := by omega
      go_wp2_with (first | (go_at_call 11; refine hhe.out.mono ?_; rintro e w' ⟨rfl, rfl⟩) | (go_at_call 12; refine htu.out.mono ?_; rintro e w' ⟨rfl, rfl⟩))
      go_still_tail 11, (by kernel_rfl)
      change wpList _ _ _ _ _ wr.drew
      go_wp2_with fail
      refine hprobe.out.mono ?_
      rintro e w3 ⟨rfl, hb3, ho3⟩
      have ho3' : Only bs wr w3 := (Only.drewN bs wr 1).trans ho3
      have hbel3 := Lib.hid (II.out.below.trans (ho3'.below hbs))
      have g1 := healthy_any bs _ w3 hb3
      have g2 := turns_any bs _ w3 hb3
      have g3 := row_any bs _ w3 hb3
      have hwas : ((probeS s ok tk).pl == 1) = (wasUp s != turned s ok) := hT.out.up
      have hcc : ∀ k, k < ps.length → w3.cell? ⟨b, off + k * 2, none⟩ = some (.bool (ps.getD k (false, 0)).1) := fun k hk => (ho3'.below (Nat.le_refl bs) |>.cell (by show b < bs; omega)).trans (hpr.out.ok k hk)
      rw [hwas] at g1
      rw [hT.out.turns] at g2
      clear hprobe ho3 ho3' hwas hhe htu hok htk
      have htc : tc ps since (wasUp s) (i + 1) = opp' s ok := by
        unfold tc opp'
        rw [← hoke.out, ← II.out.opp]
        have := II.out.since
        by_cases h : (ok != wasUp s) = true
        · rw [if_pos ⟨this, h⟩, if_pos h]
        · rw [if_neg (fun h2 => h h2.2), if_neg h]
      have hsi := II.out.since
      replace htc := Lib.hid htc
      replace hb3 := Lib.hid hb3
      replace hcc := Lib.hid hcc
      replace g1 := Lib.hid g1
      replace g2 := Lib.hid g2
      replace g3 := Lib.hid g3
      cases hw : wasUp s
      · rw [hw] at g1 htc
        have hwant : want s = rise := by
          have h : (s.pl == 1) = false := hw
          unfold want
          rw [if_neg (by simpa using h)]; exact II.out.rise
        replace hwant := Lib.hid hwant
        replace hw := Lib.hid hw
        go_wp2_with fail
        go_loop [14, 15] (fun rc kc => ∃ (m : Nat) (r : Int), since ≤ m ∧ m ≤ i + 1 ∧ kc = .int .i64 (m - 1) ∧ rc = .int .i64 r ∧ r + tc ps since false m = opp' s ok ∧ 0 ≤ r ∧ r + m ≤ i + 1) (fun _ k => (intOf k + 1).toNat)
        case atStart => exact ⟨i + 1, 0, by omega, by omega, by go_num, rfl, by rw [htc.out]; omega, by omega, by omega⟩
        case round =>
          obtain ⟨m, r, hm1, hm2, rfl, rfl, hsum, hr0, hrm⟩ := hrel
          by_cases hms : since < m
          · obtain ⟨q, rfl⟩ : ∃ q, m = q + 1 := ⟨m - 1, by omega⟩
            have hcq := hcc.out q (by omega)
            obtain ⟨okq, hokq⟩ : ∃ okq, okq = (ps.getD q (false, 0)).1 := ⟨_, rfl⟩
            rw [← hokq] at hcq
            have eq1 : ((q + 1 : Nat) : Int) - 1 = (q : Int) := by omega
            rw [eq1]
            have hq0 : (0 : Int) ≤ (q : Int) := by omega
            have hq1 : (q : Int) < (ps.length : Int) := by omega
            have hq2 : (since : Int) ≤ (q : Int) := by omega
            by_cases hd : okq = true
            · have hst : tc ps since false (q + 1) = tc ps since false q + 1 := by
                show (if since ≤ q ∧ ((ps.getD q (false, 0)).1 != false) = true then _ else _) = _
                rw [if_pos ⟨by omega, by rw [← hokq, hd]; rfl⟩]
              have hnew : r + 1 + tc ps since false q = opp' s ok := by omega
              rw [hd] at hcq
              replace hnew := Lib.hid hnew
              clear hst hsum hokq hd eq1
              go_wp2
              go_round
              case rel => exact ⟨q, r + 1, by omega, by omega, rfl, rfl, hnew.out, by omega, by omega⟩
              case measure => show ((q : Int) - 1 + 1).toNat < ((q : Int) + 1).toNat; omega
            · have hd' : okq = false := Bool.eq_false_iff.2 hd
              have hst : tc ps since false (q + 1) = 0 := by
                show (if since ≤ q ∧ ((ps.getD q (false, 0)).1 != false) = true then _ else _) = _
                rw [if_neg (by rw [← hokq, hd']; simp)]
              have hro : r = opp' s ok := by omega
              rw [hd'] at hcq
              clear hst hsum hokq hd hd' eq1
              by_cases hTc : rise ≤ r
              · have hTc' : rise ≤ r := hTc
                have hTT : turned s ok = true := by unfold turned; rw [hwant, ← hro]; rw [decide_eq_true_iff]; exact hTc
                have hro2 := Lib.hid hro
                clear hro
                rw [hTT] at g1 g2
                have q1 := Lib.hid (show Calls Try.prog 11 #[.pointer (some ⟨bs, 0, none⟩)] w3 (fun e w' => e = .returned (.bool true) ∧ w3 = w') from g1.out)
                have q2 := Lib.hid (show Calls Try.prog 12 #[.pointer (some ⟨bs, 0, none⟩)] w3 (fun e w' => e = .returned (.int .i64 (s.turns + 1)) ∧ w3 = w') from g2.out)
                have q3 := Lib.hid (show Calls Try.prog 14 #[.pointer (some ⟨bs, 0, none⟩)] w3 (fun e w' => e = .returned (.int .i64 0) ∧ w3 = w') from (by have h := g3.out; rw [hT.out.row hTT] at h; exact h))
                have IN : Inv rise fall ps bs w (i + 1) (i + 1) (probeS s ok tk) w3 := by
                  refine ⟨hb3.out, hok'.out, ?_, ?_, by rw [hT.out.rise]; exact II.out.rise, by rw [hT.out.fall]; exact II.out.fall, Nat.le_refl _, hbel3.out⟩
                  · have h1 := hT.out.size
                    have h2 := II.out.row
                    omega
                  · rw [hT.out.opp, hTT, hT.out.up, hTT, hw]
                    rw [if_pos rfl]; exact (tc_since _ _ _).symm
                replace IN := Lib.hid IN
                clear g1 g2 g3 hTT hTc
                go_wp2_with (first | (go_at_call 11; refine q1.out.mono ?_; rintro e w' ⟨rfl, rfl⟩) | (go_at_call 12; refine q2.out.mono ?_; rintro e w' ⟨rfl, rfl⟩) | (go_at_call 14; refine q3.out.mono ?_; rintro e w' ⟨rfl, rfl⟩))
                go_roundw
                case rel => exact ⟨i + 1, _, _, by omega, by omega, by go_num, by go_num, IN.out⟩
                case measure => simp [intOf]; omega
              · have hTc' : r < rise := by omega
                have hTT : turned s ok = false := by unfold turned; rw [hwant, ← hro]; rw [decide_eq_false_iff_not]; exact hTc
                have hro2 := Lib.hid hro
                clear hro
                rw [hTT] at g1 g2
                have q1 := Lib.hid (show Calls Try.prog 11 #[.pointer (some ⟨bs, 0, none⟩)] w3 (fun e w' => e = .returned (.bool false) ∧ w3 = w') from g1.out)
                have q2 := Lib.hid (show Calls Try.prog 12 #[.pointer (some ⟨bs, 0, none⟩)] w3 (fun e w' => e = .returned (.int .i64 s.turns) ∧ w3 = w') from (by have h := g2.out; rw [if_neg (by decide), Int.add_zero] at h; exact h))
                have IN : Inv rise fall ps bs w (i + 1) since (probeS s ok tk) w3 := by
                  refine ⟨hb3.out, hok'.out, ?_, ?_, by rw [hT.out.rise]; exact II.out.rise, by rw [hT.out.fall]; exact II.out.fall, by omega, hbel3.out⟩
                  · have h1 := hT.out.size
                    have h2 := II.out.row
                    omega
                  · rw [hT.out.opp, hTT, hT.out.up, hTT, hw]
                    rw [if_neg (by decide)]; exact htc.out.symm
                replace IN := Lib.hid IN
                clear g1 g2 g3 hTT hTc
                go_wp2_with (first | (go_at_call 11; refine q1.out.mono ?_; rintro e w' ⟨rfl, rfl⟩) | (go_at_call 12; refine q2.out.mono ?_; rintro e w' ⟨rfl, rfl⟩))
                go_roundw
                case rel => exact ⟨i + 1, _, _, by omega, by omega, by go_num, rfl, IN.out⟩
                case measure => simp [intOf]; omega
          · obtain rfl : m = since := by omega
            have hst := tc_since ps m false
            have hro : r = opp' s ok := by omega
            clear hst hsum
            have hq2 : ¬ (m : Int) ≤ (m : Int) - 1 := by omega
            by_cases hTc : rise ≤ r
            · have hTc' : rise ≤ r := hTc
              have hTT : turned s ok = true := by unfold turned; rw [hwant, ← hro]; rw [decide_eq_true_iff]; exact hTc
              have hro2 := Lib.hid hro
              clear hro
              rw [hTT] at g1 g2
              have q1 := Lib.hid (show Calls Try.prog 11 #[.pointer (some ⟨bs, 0, none⟩)] w3 (fun e w' => e = .returned (.bool true) ∧ w3 = w') from g1.out)
              have q2 := Lib.hid (show Calls Try.prog 12 #[.pointer (some ⟨bs, 0, none⟩)] w3 (fun e w' => e = .returned (.int .i64 (s.turns + 1)) ∧ w3 = w') from g2.out)
              have q3 := Lib.hid (show Calls Try.prog 14 #[.pointer (some ⟨bs, 0, none⟩)] w3 (fun e w' => e = .returned (.int .i64 0) ∧ w3 = w') from (by have h := g3.out; rw [hT.out.row hTT] at h; exact h))
              have IN : Inv rise fall ps bs w (i + 1) (i + 1) (probeS s ok tk) w3 := by
                refine ⟨hb3.out, hok'.out, ?_, ?_, by rw [hT.out.rise]; exact II.out.rise, by rw [hT.out.fall]; exact II.out.fall, Nat.le_refl _, hbel3.out⟩
                · have h1 := hT.out.size
                  have h2 := II.out.row
                  omega
                · rw [hT.out.opp, hTT, hT.out.up, hTT, hw]
                  rw [if_pos rfl]; exact (tc_since _ _ _).symm
              replace IN := Lib.hid IN
              clear g1 g2 g3 hTT hTc
              go_wp2_with (first | (go_at_call 11; refine q1.out.mono ?_; rintro e w' ⟨rfl, rfl⟩) | (go_at_call 12; refine q2.out.mono ?_; rintro e w' ⟨rfl, rfl⟩) | (go_at_call 14; refine q3.out.mono ?_; rintro e w' ⟨rfl, rfl⟩))
              go_roundw
              case rel => exact ⟨i + 1, _, _, by omega, by omega, by go_num, by go_num, IN.out⟩
              case measure => simp [intOf]; omega
            · have hTc' : r < rise := by omega
              have hTT : turned s ok = false := by unfold turned; rw [hwant, ← hro]; rw [decide_eq_false_iff_not]; exact hTc
              have hro2 := Lib.hid hro
              clear hro
              rw [hTT] at g1 g2
              have q1 := Lib.hid (show Calls Try.prog 11 #[.pointer (some ⟨bs, 0, none⟩)] w3 (fun e w' => e = .returned (.bool false) ∧ w3 = w') from g1.out)
              have q2 := Lib.hid (show Calls Try.prog 12 #[.pointer (some ⟨bs, 0, none⟩)] w3 (fun e w' => e = .returned (.int .i64 s.turns) ∧ w3 = w') from (by have h := g2.out; rw [if_neg (by decide), Int.add_zero] at h; exact h))
              have IN : Inv rise fall ps bs w (i + 1) m (probeS s ok tk) w3 := by
                refine ⟨hb3.out, hok'.out, ?_, ?_, by rw [hT.out.rise]; exact II.out.rise, by rw [hT.out.fall]; exact II.out.fall, by omega, hbel3.out⟩
                · have h1 := hT.out.size
                  have h2 := II.out.row
                  omega
                · rw [hT.out.opp, hTT, hT.out.up, hTT, hw]
                  rw [if_neg (by decide)]; exact htc.out.symm
              replace IN := Lib.hid IN
              clear g1 g2 g3 hTT hTc
              go_wp2_with (first | (go_at_call 11; refine q1.out.mono ?_; rintro e w' ⟨rfl, rfl⟩) | (go_at_call 12; refine q2.out.mono ?_; rintro e w' ⟨rfl, rfl⟩))
              go_roundw
              case rel => exact ⟨i + 1, _, _, by omega, by omega, by go_num, rfl, IN.out⟩
              case measure => simp [intOf]; omega
      · rw [hw] at g1 htc
        have hwant : want s = fall := by
          have h : (s.pl == 1) = true := hw
          unfold want
          rw [if_pos (by simpa using h)]; exact II.out.fall
        replace hwant := Lib.hid hwant
        replace hw := Lib.hid hw
        go_wp2_with fail
        go_loop [14, 15] (fun rc kc => ∃ (m : Nat) (r : Int), since ≤ m ∧ m ≤ i + 1 ∧ kc = .int .i64 (m - 1) ∧ rc = .int .i64 r ∧ r + tc ps since true m = opp' s ok ∧ 0 ≤ r ∧ r + m ≤ i + 1) (fun _ k => (intOf k + 1).toNat)
        case atStart => exact ⟨i + 1, 0, by omega, by omega, by go_num, rfl, by rw [htc.out]; omega, by omega, by omega⟩
        case round =>
          obtain ⟨m, r, hm1, hm2, rfl, rfl, hsum, hr0, hrm⟩ := hrel
          by_cases hms : since < m
          · obtain ⟨q, rfl⟩ : ∃ q, m = q + 1 := ⟨m - 1, by omega⟩
            have hcq := hcc.out q (by omega)
            obtain ⟨okq, hokq⟩ : ∃ okq, okq = (ps.getD q (false, 0)).1 := ⟨_, rfl⟩
            rw [← hokq] at hcq
            have eq1 : ((q + 1 : Nat) : Int) - 1 = (q : Int) := by omega
            rw [eq1]
            have hq0 : (0 : Int) ≤ (q : Int) := by omega
            have hq1 : (q : Int) < (ps.length : Int) := by omega
            have hq2 : (since : Int) ≤ (q : Int) := by omega
            by_cases hd : okq = false
            · have hst : tc ps since true (q + 1) = tc ps since true q + 1 := by
                show (if since ≤ q ∧ ((ps.getD q (false, 0)).1 != true) = true then _ else _) = _
                rw [if_pos ⟨by omega, by rw [← hokq, hd]; rfl⟩]
              have hnew : r + 1 + tc ps since true q = opp' s ok := by omega
              rw [hd] at hcq
              replace hnew := Lib.hid hnew
              clear hst hsum hokq hd eq1
              go_wp2
              go_round
              case rel => exact ⟨q, r + 1, by omega, by omega, rfl, rfl, hnew.out, by omega, by omega⟩
              case measure => show ((q : Int) - 1 + 1).toNat < ((q : Int) + 1).toNat; omega
            · have hd' : okq = true := (by cases okq with | true => rfl | false => exact absurd rfl hd)
              have hst : tc ps since true (q + 1) = 0 := by
                show (if since ≤ q ∧ ((ps.getD q (false, 0)).1 != true) = true then _ else _) = _
                rw [if_neg (by rw [← hokq, hd']; simp)]
              have hro : r = opp' s ok := by omega
              rw [hd'] at hcq
              clear hst hsum hokq hd hd' eq1
              by_cases hTc : fall ≤ r
              · have hTc' : fall ≤ r := hTc
                have hTT : turned s ok = true := by unfold turned; rw [hwant, ← hro]; rw [decide_eq_true_iff]; exact hTc
                have hro2 := Lib.hid hro
                clear hro
                rw [hTT] at g1 g2
                have q1 := Lib.hid (show Calls Try.prog 11 #[.pointer (some ⟨bs, 0, none⟩)] w3 (fun e w' => e = .returned (.bool false) ∧ w3 = w') from g1.out)
                have q2 := Lib.hid (show Calls Try.prog 12 #[.pointer (some ⟨bs, 0, none⟩)] w3 (fun e w' => e = .returned (.int .i64 (s.turns + 1)) ∧ w3 = w') from g2.out)
                have q3 := Lib.hid (show Calls Try.prog 14 #[.pointer (some ⟨bs, 0, none⟩)] w3 (fun e w' => e = .returned (.int .i64 0) ∧ w3 = w') from (by have h := g3.out; rw [hT.out.row hTT] at h; exact h))
                have IN : Inv rise fall ps bs w (i + 1) (i + 1) (probeS s ok tk) w3 := by
                  refine ⟨hb3.out, hok'.out, ?_, ?_, by rw [hT.out.rise]; exact II.out.rise, by rw [hT.out.fall]; exact II.out.fall, Nat.le_refl _, hbel3.out⟩
                  · have h1 := hT.out.size
                    have h2 := II.out.row
                    omega
                  · rw [hT.out.opp, hTT, hT.out.up, hTT, hw]
                    rw [if_pos rfl]; exact (tc_since _ _ _).symm
                replace IN := Lib.hid IN
                clear g1 g2 g3 hTT hTc
                go_wp2_with (first | (go_at_call 11; refine q1.out.mono ?_; rintro e w' ⟨rfl, rfl⟩) | (go_at_call 12; refine q2.out.mono ?_; rintro e w' ⟨rfl, rfl⟩) | (go_at_call 14; refine q3.out.mono ?_; rintro e w' ⟨rfl, rfl⟩))
                go_roundw
                case rel => exact ⟨i + 1, _, _, by omega, by omega, by go_num, by go_num, IN.out⟩
                case measure => simp [intOf]; omega
              · have hTc' : r < fall := by omega
                have hTT : turned s ok = false := by unfold turned; rw [hwant, ← hro]; rw [decide_eq_false_iff_not]; exact hTc
                have hro2 := Lib.hid hro
                clear hro
                rw [hTT] at g1 g2
                have q1 := Lib.hid (show Calls Try.prog 11 #[.pointer (some ⟨bs, 0, none⟩)] w3 (fun e w' => e = .returned (.bool true) ∧ w3 = w') from g1.out)
                have q2 := Lib.hid (show Calls Try.prog 12 #[.pointer (some ⟨bs, 0, none⟩)] w3 (fun e w' => e = .returned (.int .i64 s.turns) ∧ w3 = w') from (by have h := g2.out; rw [if_neg (by decide), Int.add_zero] at h; exact h))
                have IN : Inv rise fall ps bs w (i + 1) since (probeS s ok tk) w3 := by
                  refine ⟨hb3.out, hok'.out, ?_, ?_, by rw [hT.out.rise]; exact II.out.rise, by rw [hT.out.fall]; exact II.out.fall, by omega, hbel3.out⟩
                  · have h1 := hT.out.size
                    have h2 := II.out.row
                    omega
                  · rw [hT.out.opp, hTT, hT.out.up, hTT, hw]
                    rw [if_neg (by decide)]; exact htc.out.symm
                replace IN := Lib.hid IN
                clear g1 g2 g3 hTT hTc
                go_wp2_with (first | (go_at_call 11; refine q1.out.mono ?_; rintro e w' ⟨rfl, rfl⟩) | (go_at_call 12; refine q2.out.mono ?_; rintro e w' ⟨rfl, rfl⟩))
                go_roundw
                case rel => exact ⟨i + 1, _, _, by omega, by omega, by go_num, rfl, IN.out⟩
                case measure => simp [intOf]; omega
          · obtain rfl : m = since := by omega
            have hst := tc_since ps m true
            have hro : r = opp' s ok := by omega
            clear hst hsum
            have hq2 : ¬ (m : Int) ≤ (m : Int) - 1 := by omega
            by_cases hTc : fall ≤ r
            · have hTc' : fall ≤ r := hTc
              have hTT : turned s ok = true := by unfold turned; rw [hwant, ← hro]; rw [decide_eq_true_iff]; exact hTc
              have hro2 := Lib.hid hro
              clear hro
              rw [hTT] at g1 g2
              have q1 := Lib.hid (show Calls Try.prog 11 #[.pointer (some ⟨bs, 0, none⟩)] w3 (fun e w' => e = .returned (.bool false) ∧ w3 = w') from g1.out)
              have q2 := Lib.hid (show Calls Try.prog 12 #[.pointer (some ⟨bs, 0, none⟩)] w3 (fun e w' => e = .returned (.int .i64 (s.turns + 1)) ∧ w3 = w') from g2.out)
              have q3 := Lib.hid (show Calls Try.prog 14 #[.pointer (some ⟨bs, 0, none⟩)] w3 (fun e w' => e = .returned (.int .i64 0) ∧ w3 = w') from (by have h := g3.out; rw [hT.out.row hTT] at h; exact h))
              have IN : Inv rise fall ps bs w (i + 1) (i + 1) (probeS s ok tk) w3 := by
                refine ⟨hb3.out, hok'.out, ?_, ?_, by rw [hT.out.rise]; exact II.out.rise, by rw [hT.out.fall]; exact II.out.fall, Nat.le_refl _, hbel3.out⟩
                · have h1 := hT.out.size
                  have h2 := II.out.row
                  omega
                · rw [hT.out.opp, hTT, hT.out.up, hTT, hw]
                  rw [if_pos rfl]; exact (tc_since _ _ _).symm
              replace IN := Lib.hid IN
              clear g1 g2 g3 hTT hTc
              go_wp2_with (first | (go_at_call 11; refine q1.out.mono ?_; rintro e w' ⟨rfl, rfl⟩) | (go_at_call 12; refine q2.out.mono ?_; rintro e w' ⟨rfl, rfl⟩) | (go_at_call 14; refine q3.out.mono ?_; rintro e w' ⟨rfl, rfl⟩))
              go_roundw
              case rel => exact ⟨i + 1, _, _, by omega, by omega, by go_num, by go_num, IN.out⟩
              case measure => simp [intOf]; omega
            · have hTc' : r < fall := by omega
              have hTT : turned s ok = false := by unfold turned; rw [hwant, ← hro]; rw [decide_eq_false_iff_not]; exact hTc
              have hro2 := Lib.hid hro
              clear hro
              rw [hTT] at g1 g2
              have q1 := Lib.hid (show Calls Try.prog 11 #[.pointer (some ⟨bs, 0, none⟩)] w3 (fun e w' => e = .returned (.bool true) ∧ w3 = w') from g1.out)
              have q2 := Lib.hid (show Calls Try.prog 12 #[.pointer (some ⟨bs, 0, none⟩)] w3 (fun e w' => e = .returned (.int .i64 s.turns) ∧ w3 = w') from (by have h := g2.out; rw [if_neg (by decide), Int.add_zero] at h; exact h))
              have IN : Inv rise fall ps bs w (i + 1) m (probeS s ok tk) w3 := by
                refine ⟨hb3.out, hok'.out, ?_, ?_, by rw [hT.out.rise]; exact II.out.rise, by rw [hT.out.fall]; exact II.out.fall, by omega, hbel3.out⟩
                · have h1 := hT.out.size
                  have h2 := II.out.row
                  omega
                · rw [hT.out.opp, hTT, hT.out.up, hTT, hw]
                  rw [if_neg (by decide)]; exact htc.out.symm
              replace IN := Lib.hid IN
              clear g1 g2 g3 hTT hTc
              go_wp2_with (first | (go_at_call 11; refine q1.out.mono ?_; rintro e w' ⟨rfl, rfl⟩) | (go_at_call 12; refine q2.out.mono ?_; rintro e w' ⟨rfl, rfl⟩))
              go_roundw
              case rel => exact ⟨i + 1, _, _, by omega, by omega, by go_num, rfl, IN.out⟩
              case measure => simp [intOf]; omega
    · have hfin : ps.length ≤ i ∨ 400 ≤ i := by omega
      have hbel := Lib.hid I.below
      clear I
      by_cases hlt1 : i < ps.length
      · have h4 : (400 : Int) ≤ (i : Int) := by omega
        have h5 : (i : Int) < (ps.length : Int) := by omega
        go_wp2
        go_ret
        exact ⟨rfl, hbel.out⟩
      · have h5 : (ps.length : Int) ≤ (i : Int) := by omega
        go_wp2
        go_ret
        exact ⟨rfl, hbel.out⟩

theorem rises_zero (rise fall : Int) (h1 : 1 ≤ rise ∧ rise ≤ 100) (h2 : 1 ≤ fall ∧ fall ≤ 100) (ao : Option Addr) (cap : Nat) (w : World) :
    Calls Try.prog 3 #[.int .i64 rise, .int .i64 fall, .slice ao 0 cap] w fun e w' => e = .returned (.bool true) ∧ Below w.heap.size w w' := by
  go_enter Try.func3, Try.ntmps3
  go_wp2_with fail
  refine (awake_any w).mono ?_
  rintro e w1 ⟨rfl, hb1⟩
  go_wp2_with fail
  refine (new_ok rise fall w1 h1 h2).mono ?_
  rintro e w2 ⟨rfl, rfl⟩
  have hb2 := Tp.Below_seq hb1 (Tp.Below_alloc _ (blk (newS rise fall)))
  generalize w1.alloc (blk (newS rise fall)) = w2 at *
  generalize w1.heap.size = bs at *
  clear hb1
  go_wp2
  refine wp_loop_rounds 1 ?_
  rw [rounds_succ]
  go_wp2
  go_ret
  exact ⟨rfl, hb2⟩
theorem rises_bad (rise fall : Int) (h : ¬ (1 ≤ rise ∧ rise ≤ 100) ∨ ¬ (1 ≤ fall ∧ fall ≤ 100)) (v : Value) (w : World) :
    Calls Try.prog 3 #[.int .i64 rise, .int .i64 fall, v] w fun e w' => e = .returned (.bool true) ∧ Below w.heap.size w w' := by
  go_enter Try.func3, Try.ntmps3
  go_wp2_with fail
  refine (awake_any w).mono ?_
  rintro e w1 ⟨rfl, hb1⟩
  go_wp2_with fail
  refine (new_bad rise fall w1 h).mono ?_
  rintro e w2 ⟨rfl, hb2⟩
  go_wp2
  go_ret
  exact ⟨rfl, Tp.Below_seq hb1 hb2⟩

theorem walk {H : Type} (enc : TypeId × Value → H) (W : World) (base : Nat) (args : Array Value) (ds : List (DataW H)) (p : List MemPlace)
    (hval0 : ∀ (j : Nat) t v, Try.f3.params[j]? = some t → args[j]? = some v → Value.okWide Try.prog W .any base t v)
    (hA : DataW.TrodAll enc Try.prog W 0 (fun _ => true) true Try.f3.params.toList args.toList ds p)
    (hsz : (DataW.weightsEach Try.prog Try.f3.params.toList ds).all (· ≤ reachBytes) = true) :
    Calls Try.prog 3 args W fun e w' => e = .returned (.bool true) ∧ Below W.heap.size W w' := by
  have hval : ∀ (j : Nat) t v, Try.f3.params[j]? = some t → args[j]? = some v → Value.okWide Try.prog W .any base t v := hval0
  rw [Try.params3] at hA hval hsz
  obtain ⟨v0, v1, v2, d0, d1, d2, p0, p1, p2, rfl, rfl, rfl, h0, h1, h2⟩ := trodAll_three hA
  obtain ⟨a0, rfl, rfl, rfl, w0⟩ := open_int Try.underlying3 (hval 0 3 v0 rfl rfl) h0
  obtain ⟨a1, rfl, rfl, rfl, w1⟩ := open_int Try.underlying3 (hval 1 3 v1 rfl rfl) h1
  obtain ⟨ps, ⟨ao, cap, rfl, hr⟩, hp, hl⟩ := open_probes (hval 2 22 v2 rfl rfl) h2 hsz (j := 2) rfl rfl
  by_cases hg : (1 ≤ a0 ∧ a0 ≤ 100) ∧ (1 ≤ a1 ∧ a1 ≤ 100)
  · rcases hr with rfl | ⟨b, off, rfl, hb, hpr⟩
    · exact rises_zero a0 a1 hg.1 hg.2 ao cap W
    · by_cases hn : ps = []
      · subst hn; exact rises_zero a0 a1 hg.1 hg.2 _ cap W
      · exact rises_some a0 a1 hg.1 hg.2 ps hp b off cap W hb hpr (by omega)
  · exact rises_bad a0 a1 (by omega) _ W
end Go.Proofs.Yteedjgkinmkmoaa.healthRises
