/- The law PoolScripts, walked. -/
import Derived.Test.YtpebcamnmeppaaaPair
import Derived.Deep.CutBlock
import Derived.Deep.DeepCutAuto
namespace Go.Proofs.Ytpebcamnmeppaaa
open Go.RowKit Go.Mp Go.Po
set_option linter.unusedVariables false
set_option maxHeartbeats 40000000
set_option maxRecDepth 100000
/-- The two pairs, side by side. -/
structure TP (w wx : World) (a p b q : Option Addr) (F1 F2 : Nat → Prop) (s1 s2 : St) (n1 n2 : Nat) : Prop where
  h1 : Pr wx w.heap.size F1 a p s1 n1
  h2 : Pr wx w.heap.size F2 b q s2 n2
  d : ∀ k, F1 k → ¬ F2 k
  be : Below w.heap.size w wx
section
variable {w wx wy : World} {a p b q : Option Addr} {F1 F2 : Nat → Prop} {s1 s2 : St} {n1 n2 : Nat}
theorem TP.same (h : TP w wx a p b q F1 F2 s1 s2 n1 n2) (t : Tch No wx wy) : TP w wy a p b q F1 F2 s1 s2 n1 n2 :=
  ⟨h.h1.tch t (fun _ _ h => h), h.h2.tch t (fun _ _ h => h), h.d, t.below h.be h.be.size (fun _ h => h.elim)⟩
theorem TP.one (h : TP w wx a p b q F1 F2 s1 s2 n1 n2) {s' : St} {n' : Nat} {F' : Nat → Prop} (h1 : Pr wy w.heap.size F' a p s' n') (t : Tch F1 wx wy) (hf : ∀ k, F' k → F1 k ∨ wx.heap.size ≤ k) : TP w wy a p b q F' F2 s' s2 n' n2 := by
  refine ⟨h1, h.h2.tch t (fun k hk h1 => h.d k h1 hk), fun k hk h2 => ?_, t.below h.be h.be.size (fun k hk => (h.h1.lt k hk).1)⟩
  rcases hf k hk with h3 | h3
  · exact h.d k h3 h2
  · have := (h.h2.lt k h2).2; omega
theorem TP.two (h : TP w wx a p b q F1 F2 s1 s2 n1 n2) {s' : St} {n' : Nat} {F' : Nat → Prop} (h2 : Pr wy w.heap.size F' b q s' n') (t : Tch F2 wx wy) (hf : ∀ k, F' k → F2 k ∨ wx.heap.size ≤ k) : TP w wy a p b q F1 F' s1 s' n1 n' := by
  refine ⟨h.h1.tch t (fun k hk h2 => h.d k hk h2), h2, fun k hk h3 => ?_, t.below h.be h.be.size (fun k hk => (h.h2.lt k hk).1)⟩
  rcases hf k h3 with h4 | h4
  · exact h.d k hk h4
  · have := (h.h1.lt k hk).2; omega
theorem TP.does1 (h : TP w wx a p b q F1 F2 s1 s2 n1 n2) (hn : n1 < 4398046511000) (kd cn nw : Int) (nm : ByteArray) (hcn : -9223372036854775808 ≤ cn ∧ cn ≤ 9223372036854775807) (hnw : -9223372036854775808 ≤ nw ∧ nw ≤ 9223372036854775807) :
    Calls Try.prog 19 #[.pointer a, .pointer p, .agg #[.int .i64 kd, .string nm, .int .i64 cn, .int .i64 nw]] wx fun e' w' => e' = .returned (.bool true) ∧ ∃ F' s', TP w w' a p b q F' F2 s' s2 (n1 + 1) n2 := by
  refine (does_pr h.h1 h.be.size hn kd cn nw nm hcn hnw).mono ?_
  rintro _ w' ⟨rfl, s', F', h1, h2, h3⟩
  exact ⟨rfl, F', s', h.one h1 h2 h3⟩
theorem TP.does2 (h : TP w wx a p b q F1 F2 s1 s2 n1 n2) (hn : n2 < 4398046511000) (kd cn nw : Int) (nm : ByteArray) (hcn : -9223372036854775808 ≤ cn ∧ cn ≤ 9223372036854775807) (hnw : -9223372036854775808 ≤ nw ∧ nw ≤ 9223372036854775807) :
    Calls Try.prog 19 #[.pointer b, .pointer q, .agg #[.int .i64 kd, .string nm, .int .i64 cn, .int .i64 nw]] wx fun e' w' => e' = .returned (.bool true) ∧ ∃ F' s', TP w w' a p b q F1 F' s1 s' n1 (n2 + 1) := by
  refine (does_pr h.h2 h.be.size hn kd cn nw nm hcn hnw).mono ?_
  rintro _ w' ⟨rfl, s', F', h1, h2, h3⟩
  exact ⟨rfl, F', s', h.two h1 h2 h3⟩
theorem TP.counts (h : TP w wx a p b q F1 F2 s1 s2 n1 n2) (e : ByteArray) : Calls Try.prog 13 #[.pointer a, .string e] wx fun e' w' => e' = .returned (.tuple #[.int .i64 (aCounts a s1 e).1, .int .i64 (aCounts a s1 e).2.1, .int .i64 (aCounts a s1 e).2.2]) ∧ TP w w' a p b q F1 F2 s1 s2 n1 n2 := by
  refine (counts_pr h.h1 e).mono ?_
  rintro _ w' ⟨rfl, t⟩
  exact ⟨rfl, h.same t⟩
theorem TP.rcounts (h : TP w wx a p b q F1 F2 s1 s2 n1 n2) (hn : n1 < 4398046511000) (e : ByteArray) : Calls Try.prog 20 #[.pointer p, .string e] wx fun e' w' => e' = .returned (.tuple #[.int .i64 (aCounts a s1 e).1, .int .i64 (aCounts a s1 e).2.1, .int .i64 (aCounts a s1 e).2.2]) ∧ TP w w' a p b q F1 F2 s1 s2 n1 n2 := by
  refine (rcounts_pr h.h1 hn e).mono ?_
  rintro _ w' ⟨rfl, t⟩
  exact ⟨rfl, h.same t⟩
theorem TP.wher (h : TP w wx a p b q F1 F2 s1 s2 n1 n2) (i : Int) : Calls Try.prog 21 #[.pointer a, .int .i64 i] wx fun e' w' => e' = .returned (.tuple #[.string (aWhere a s1 i).1, .bool (aWhere a s1 i).2]) ∧ TP w w' a p b q F1 F2 s1 s2 n1 n2 := by
  refine (where_pr h.h1 i).mono ?_
  rintro _ w' ⟨rfl, t⟩
  exact ⟨rfl, h.same t⟩
theorem TP.rwher (h : TP w wx a p b q F1 F2 s1 s2 n1 n2) (hn : n1 < 4398046511000) (i : Int) : Calls Try.prog 22 #[.pointer p, .int .i64 i] wx fun e' w' => e' = .returned (.tuple #[.string (aWhere a s1 i).1, .bool (aWhere a s1 i).2]) ∧ TP w w' a p b q F1 F2 s1 s2 n1 n2 := by
  refine (rwhere_pr h.h1 hn i).mono ?_
  rintro _ w' ⟨rfl, t⟩
  exact ⟨rfl, h.same t⟩
end
theorem call_all {w : World} {ao : Option Addr} {n cap : Nat} {l : List CallT} (h : Rd.SliceOf callE w (.slice ao n cap) l) {i : Nat} {c : CallT} (hx : l[i]? = some c) :
    ∃ b off, ao = some ⟨b, off, none⟩ ∧ (∀ w', Below w.heap.size w w' → w'.cell? ⟨b, off + i * 4, none⟩ = some (.int .i64 c.1) ∧ w'.cell? ⟨b, off + i * 4 + 1, none⟩ = some (.string c.2.1) ∧ w'.cell? ⟨b, off + i * 4 + 2, none⟩ = some (.int .i64 c.2.2.1) ∧ w'.cell? ⟨b, off + i * 4 + 3, none⟩ = some (.int .i64 c.2.2.2.1)) ∧
      (-9223372036854775808 ≤ c.2.2.1 ∧ c.2.2.1 ≤ 9223372036854775807) ∧ (-9223372036854775808 ≤ c.2.2.2.1 ∧ c.2.2.2.1 ≤ 9223372036854775807) := by
  obtain ⟨b, off, h0, _, _, _, _, _, h6, h7⟩ := call_at h (Below.refl _ w) hx
  refine ⟨b, off, h0, fun w' hb => ?_, h6, h7⟩
  obtain ⟨b', off', h0', d0, d1, d2, d3, _⟩ := call_at h hb hx
  rw [h0] at h0'
  cases h0'
  exact ⟨d0, d1, d2, d3⟩
theorem scripts (l m : List CallT) (v1 v2 : Value) (fl : Bool) (most wait : Int) (w : World) (hr1 : Rd.SliceOf callE w v1 l) (hr2 : Rd.SliceOf callE w v2 m) (hmw : wait ≤ 9223372036854775807) (hl1 : l.length * 40 ≤ 140737488351232) (hl2 : m.length * 40 ≤ 140737488351232) :
    Calls Try.prog 5 #[.int .i64 most, .int .i64 wait, v1, v2, .bool fl] w fun e w' => e = .returned (.bool true) ∧ Below w.heap.size w w' := by
  obtain ⟨o1, c1, rfl⟩ : ∃ ao cap, v1 = .slice ao l.length cap := by
    obtain ⟨_, ao, cap, rfl, _⟩ := hr1
    exact ⟨ao, cap, rfl⟩
  obtain ⟨o2, c2, rfl⟩ : ∃ ao cap, v2 = .slice ao m.length cap := by
    obtain ⟨_, ao, cap, rfl, _⟩ := hr2
    exact ⟨ao, cap, rfl⟩
  replace hr1 := Lib.hid hr1
  replace hr2 := Lib.hid hr2
  have ee : (errOf most wait != errOf most wait) = false := bne_self_eq_false _
  have A1 := Lib.hid (new_opt (w := w) most wait hmw)
  go_enter Try.func5, Try.ntmps5
  go_upto_region 5 with (first
    | (go_at_call 7; have _t := A1; refine A1.out.mono ?_; clear A1 _t; rintro _ w1 ⟨a, Fa, rfl, ha, hba⟩; have A2 := Lib.hid (rnew_opt (w := w1) most wait); replace ha := Lib.hid ha; replace hba := Lib.hid hba)
    | (go_at_call 17; have _t := A2; refine A2.out.mono ?_; clear A2 _t; rintro _ w2 ⟨p, Fp, rfl, hp, hbp⟩; have A3 := Lib.hid (new_opt (w := w2) 3 wait hmw); replace hp := Lib.hid hp; replace hbp := Lib.hid hbp)
    | (go_at_call 7; have _t := A3; refine A3.out.mono ?_; clear A3 _t; rintro _ w3 ⟨b, Fb, rfl, hb, hbb⟩; have A4 := Lib.hid (rnew_opt (w := w3) 3 wait); replace hb := Lib.hid hb; replace hbb := Lib.hid hbb)
    | (go_at_call 17; have _t := A4; refine A4.out.mono ?_; clear A4 _t; rintro _ w4 ⟨q, Fq, rfl, hq, hbq⟩; replace hq := Lib.hid hq; replace hbq := Lib.hid hbq)
    | fail)
  obtain ⟨F1, hP1, hn1, hF1⟩ := pr_new (Nat.le_refl _) ha.out hba.out hp.out hbp.out
  have hb2 := hba.out.trans (hbp.out.mono hba.out.size)
  obtain ⟨F2, hP2, hn2, hF2⟩ := pr_new hb2.size hb.out hbb.out hq.out hbq.out
  have hb24 := hbb.out.trans (hbq.out.mono hbb.out.size)
  have hT : TP w w4 a p b q F1 F2 (St0 most wait) (St0 3 wait) 0 0 := ⟨hP1.tch (Tch.of_below (S := No) hb24) (fun _ _ h => h), hP2, fun k h1 h2 => by have h3 := (hP1.lt k h1).2; have h4 := hF2 k h2; omega, hb2.trans (hb24.mono hb2.size)⟩
  obtain ⟨x, hxa⟩ : ∃ x, a.isNone = x := ⟨_, rfl⟩
  have hxp : p.isNone = x := by
    rw [← hxa]
    cases a <;> cases p <;> simp_all
  have hxx : (x == x) = true := beq_self_eq_true _
  have hxy : (x != x) = false := bne_self_eq_false _
  replace hP1 := Lib.hid hP1
  replace hP2 := Lib.hid hP2
  replace hn1 := Lib.hid hn1
  replace hn2 := Lib.hid hn2
  replace hF1 := Lib.hid hF1
  replace hF2 := Lib.hid hF2
  replace hb2 := Lib.hid hb2
  replace hb24 := Lib.hid hb24
  replace hT := Lib.hid hT
  clear ha hba hp hbp hb hbb hq hbq hP1 hP2 hn1 hn2 hF1 hF2 hb2 hb24
  go_upto_if 63 with (first
    | (go_at_call 18; refine (num_any _).mono ?_; rintro _ w4' ⟨rfl, rfl⟩)
    | fail)
  clear ee hxp hxx hxy hxa
  go_cut [11, 13] (fun av pv wx => ∃ (a p : Option Addr) (F1 F2 : Nat → Prop) (s1 s2 : St), av = .pointer a ∧ pv = .pointer p ∧ TP w wx a p b q F1 F2 s1 s2 0 0)
  case first =>
    cases fl
    · go_wp2
      go_meet
      exact ⟨a, p, F1, F2, _, _, rfl, rfl, hT.out⟩
    · go_wp2
      go_meet
      exact ⟨none, none, _, F2, St0 most wait, _, rfl, rfl, pr_none, hT.out.h2, fun _ h => h.elim, hT.out.be⟩
  case rest =>
    clear hT
    obtain ⟨a, p, F1, F2, s1, s2, rfl, rfl, hT⟩ := hcut
    have hlt := Lib.hid (show l.length + m.length < 8796093022208 by omega)
    have hlm := Lib.hid (show l.length < 4398046511000 ∧ m.length < 4398046511000 by omega)
    clear hl1 hl2
    go_wp2
    go_loopg [19] (l.length + m.length) (fun gg ic wr => ∃ (i : Nat) (F1 F2 : Nat → Prop) (s1 s2 : St) (n1 n2 : Nat), i ≤ l.length + m.length ∧ gg = l.length + m.length - i ∧ ic = .int .i64 i ∧ TP w wr a p b q F1 F2 s1 s2 n1 n2 ∧ n1 ≤ l.length ∧ n1 ≤ i ∧ n2 ≤ m.length ∧ n2 ≤ i)
    case atStart => exact ⟨0, F1, F2, s1, s2, 0, 0, Nat.zero_le _, rfl, rfl, hT, Nat.zero_le _, Nat.le_refl _, Nat.zero_le _, Nat.le_refl _⟩
    case round =>
      clear hT
      obtain ⟨i, F1, F2, s1, s2, n1, n2, hi, rfl, rfl, hT, hn1, hn1i, hn2, hn2i⟩ := hrel
      by_cases h1 : i < l.length
      · have k1 := nn_lt h1
        have hx1 := List.getElem?_eq_getElem h1
        obtain ⟨b1, f1, rfl, hL, hcn1, hnw1⟩ := call_all hr1.out hx1
        generalize l[i] = c1' at *
        obtain ⟨kd, nm, cn, nw, _⟩ := c1'
        dsimp only at hL hcn1 hnw1
        have hm1 := Lib.hid (show n1 < 4398046511000 by have := hlm.out.1; omega)
        have hm1' := Lib.hid (show n1 + 1 < 4398046511000 by have := hlm.out.1; omega)
        have hs1 := Lib.hid (show n1 + 1 ≤ l.length ∧ n1 + 1 ≤ i + 1 by omega)
        obtain ⟨d0, d1, d2, d3⟩ := hL _ hT.be
        replace hx1 := Lib.hid hx1
        replace hL := Lib.hid hL
        by_cases h2 : i < m.length
        · have k2 := nn_lt h2
          have hx2 := List.getElem?_eq_getElem h2
          obtain ⟨b2, f2, rfl, hR, hcn2, hnw2⟩ := call_all hr2.out hx2
          generalize m[i] = c2' at *
          obtain ⟨kd2, nm2, cn2, nw2, _⟩ := c2'
          dsimp only at hR hcn2 hnw2
          have hm2 := Lib.hid (show n2 < 4398046511000 by have := hlm.out.2; omega)
          have hs2 := Lib.hid (show n2 + 1 ≤ m.length ∧ n2 + 1 ≤ i + 1 by omega)
          obtain ⟨e0, e1, e2, e3⟩ := hR _ hT.be
          replace hx2 := Lib.hid hx2
          replace hR := Lib.hid hR
          replace hT := Lib.hid hT
          go_wp2_with (first
            | (go_at_call 19; (with_reducible refine (hT.out.does1 hm1.out kd cn nw nm hcn1 hnw1).mono ?_); rintro _ wn ⟨rfl, F1n, s1n, hTn⟩; clear hT; have hT := Lib.hid hTn; clear hTn; clear d0 d1 d2 d3; obtain ⟨d0, d1, d2, d3⟩ := hL.out _ hT.out.be; clear e0 e1 e2 e3; obtain ⟨e0, e1, e2, e3⟩ := hR.out _ hT.out.be)
            | (go_at_call 19; (with_reducible refine (hT.out.does2 hm2.out kd2 cn2 nw2 nm2 hcn2 hnw2).mono ?_); rintro _ wn ⟨rfl, F2n, s2n, hTn⟩; clear hT; have hT := Lib.hid hTn; clear hTn; clear d0 d1 d2 d3; obtain ⟨d0, d1, d2, d3⟩ := hL.out _ hT.out.be; clear e0 e1 e2 e3; obtain ⟨e0, e1, e2, e3⟩ := hR.out _ hT.out.be)
            | (go_at_call 13; (with_reducible refine (hT.out.counts nm).mono ?_); rintro _ wn ⟨rfl, hTn⟩; clear hT; have hT := Lib.hid hTn; clear hTn; clear d0 d1 d2 d3; obtain ⟨d0, d1, d2, d3⟩ := hL.out _ hT.out.be; clear e0 e1 e2 e3; obtain ⟨e0, e1, e2, e3⟩ := hR.out _ hT.out.be)
            | (go_at_call 20; (with_reducible refine (hT.out.rcounts hm1'.out nm).mono ?_); rintro _ wn ⟨rfl, hTn⟩; clear hT; have hT := Lib.hid hTn; clear hTn; clear d0 d1 d2 d3; obtain ⟨d0, d1, d2, d3⟩ := hL.out _ hT.out.be; clear e0 e1 e2 e3; obtain ⟨e0, e1, e2, e3⟩ := hR.out _ hT.out.be)
            | (go_at_call 21; (with_reducible refine (hT.out.wher cn).mono ?_); rintro _ wn ⟨rfl, hTn⟩; clear hT; have hT := Lib.hid hTn; clear hTn; clear d0 d1 d2 d3; obtain ⟨d0, d1, d2, d3⟩ := hL.out _ hT.out.be; clear e0 e1 e2 e3; obtain ⟨e0, e1, e2, e3⟩ := hR.out _ hT.out.be)
            | (go_at_call 22; (with_reducible refine (hT.out.rwher hm1'.out cn).mono ?_); rintro _ wn ⟨rfl, hTn⟩; clear hT; have hT := Lib.hid hTn; clear hTn; clear d0 d1 d2 d3; obtain ⟨d0, d1, d2, d3⟩ := hL.out _ hT.out.be; clear e0 e1 e2 e3; obtain ⟨e0, e1, e2, e3⟩ := hR.out _ hT.out.be)
            | fail)
          go_roundg (l.length + m.length - (i + 1))
          case rel => exact ⟨i + 1, _, _, _, _, _, _, (Nat.lt_of_lt_of_le h1 (Nat.le_add_right _ _)), rfl, by first | rfl | rw [nn_succ (Nat.lt_of_lt_of_le h1 (Nat.le_add_right _ _)) hlt.out] | (push_cast; rfl), hT.out, hs1.out.1, hs1.out.2, hs2.out.1, hs2.out.2⟩
          case measure => exact nn_sub (Nat.lt_of_lt_of_le h1 (Nat.le_add_right _ _))
        · have k2 := nn_ge h2
          replace hT := Lib.hid hT
          go_wp2_with (first
            | (go_at_call 19; (with_reducible refine (hT.out.does1 hm1.out kd cn nw nm hcn1 hnw1).mono ?_); rintro _ wn ⟨rfl, F1n, s1n, hTn⟩; clear hT; have hT := Lib.hid hTn; clear hTn; clear d0 d1 d2 d3; obtain ⟨d0, d1, d2, d3⟩ := hL.out _ hT.out.be)
            | (go_at_call 13; (with_reducible refine (hT.out.counts nm).mono ?_); rintro _ wn ⟨rfl, hTn⟩; clear hT; have hT := Lib.hid hTn; clear hTn; clear d0 d1 d2 d3; obtain ⟨d0, d1, d2, d3⟩ := hL.out _ hT.out.be)
            | (go_at_call 20; (with_reducible refine (hT.out.rcounts hm1'.out nm).mono ?_); rintro _ wn ⟨rfl, hTn⟩; clear hT; have hT := Lib.hid hTn; clear hTn; clear d0 d1 d2 d3; obtain ⟨d0, d1, d2, d3⟩ := hL.out _ hT.out.be)
            | (go_at_call 21; (with_reducible refine (hT.out.wher cn).mono ?_); rintro _ wn ⟨rfl, hTn⟩; clear hT; have hT := Lib.hid hTn; clear hTn; clear d0 d1 d2 d3; obtain ⟨d0, d1, d2, d3⟩ := hL.out _ hT.out.be)
            | (go_at_call 22; (with_reducible refine (hT.out.rwher hm1'.out cn).mono ?_); rintro _ wn ⟨rfl, hTn⟩; clear hT; have hT := Lib.hid hTn; clear hTn; clear d0 d1 d2 d3; obtain ⟨d0, d1, d2, d3⟩ := hL.out _ hT.out.be)
            | fail)
          go_roundg (l.length + m.length - (i + 1))
          case rel => exact ⟨i + 1, _, _, _, _, _, _, (Nat.lt_of_lt_of_le h1 (Nat.le_add_right _ _)), rfl, by first | rfl | rw [nn_succ (Nat.lt_of_lt_of_le h1 (Nat.le_add_right _ _)) hlt.out] | (push_cast; rfl), hT.out, hs1.out.1, hs1.out.2, hn2, Nat.le_succ_of_le hn2i⟩
          case measure => exact nn_sub (Nat.lt_of_lt_of_le h1 (Nat.le_add_right _ _))
      · have k1 := nn_ge h1
        by_cases h2 : i < m.length
        · have k2 := nn_lt h2
          have hx2 := List.getElem?_eq_getElem h2
          obtain ⟨b2, f2, rfl, hR, hcn2, hnw2⟩ := call_all hr2.out hx2
          generalize m[i] = c2' at *
          obtain ⟨kd2, nm2, cn2, nw2, _⟩ := c2'
          dsimp only at hR hcn2 hnw2
          have hm2 := Lib.hid (show n2 < 4398046511000 by have := hlm.out.2; omega)
          have hs2 := Lib.hid (show n2 + 1 ≤ m.length ∧ n2 + 1 ≤ i + 1 by omega)
          obtain ⟨e0, e1, e2, e3⟩ := hR _ hT.be
          replace hx2 := Lib.hid hx2
          replace hR := Lib.hid hR
          replace hT := Lib.hid hT
          go_wp2_with (first
            | (go_at_call 19; (with_reducible refine (hT.out.does2 hm2.out kd2 cn2 nw2 nm2 hcn2 hnw2).mono ?_); rintro _ wn ⟨rfl, F2n, s2n, hTn⟩; clear hT; have hT := Lib.hid hTn; clear hTn; clear e0 e1 e2 e3; obtain ⟨e0, e1, e2, e3⟩ := hR.out _ hT.out.be)
            | fail)
          go_roundg (l.length + m.length - (i + 1))
          case rel => exact ⟨i + 1, _, _, _, _, _, _, (Nat.lt_of_lt_of_le h2 (Nat.le_add_left _ _)), rfl, by first | rfl | rw [nn_succ (Nat.lt_of_lt_of_le h2 (Nat.le_add_left _ _)) hlt.out] | (push_cast; rfl), hT.out, hn1, Nat.le_succ_of_le hn1i, hs2.out.1, hs2.out.2⟩
          case measure => exact nn_sub (Nat.lt_of_lt_of_le h2 (Nat.le_add_left _ _))
        · have k2 := nn_ge h2
          have hbe := Lib.hid hT.be
          replace hT := Lib.hid hT
          go_wp2
          go_ret
          exact ⟨rfl, hbe.out⟩
end Go.Proofs.Ytpebcamnmeppaaa
