/- The law CheckBack: its walk. -/
import Derived.Test.YtjepgpocmnijiaaZb32
import Derived.Test.YtjepgpocmnijiaaZb36
import Derived.Test.YtjepgpocmnijiaaZb37
section

namespace Go.Ck
set_option linter.unusedVariables false
open Go.Proofs.Ytjepgpocmnijiaa (Key diff_len)
theorem sz_del (k : Key) : SzR (delR k) := ⟨by simp [delR], by simp [delR], by simp [delR]⟩
theorem sz_diff {A B d : List Res} (h : IsDiff A B d) (hA : A.length ≤ 64) (hB : B.length ≤ 64) (hz : SzL B) : SzL d :=
  ⟨by have := diff_len h; omega, fun r hr => by
    have h1 : fnd d (rk r) = some r := h.1.fnd_mem hr
    rw [h.2] at h1
    cases hb : fnd B (rk r) with
    | some b => have := diff_new hb h1; rw [this]; exact hz.el _ (fnd_some hb).2
    | none => rw [(diff_gone hb h1).1]; exact sz_del _⟩
theorem mgs_mem {C D a : List Res} {n : Nat} (h : MgS C D n a) : ∀ r ∈ a, r ∈ C ∨ r ∈ D := by
  have key : ∀ m, m ≤ n → ∀ r ∈ (D.take m).foldl setD C, r ∈ C ∨ r ∈ D := by
    intro m
    induction m with
    | zero => intro _ r hr; rw [List.take_zero] at hr; exact .inl hr
    | succ m ih =>
      intro h2 r hr
      have hl := h.le
      have hx : D[m]? = some D[m] := List.getElem?_eq_getElem (by omega)
      rw [fold_succ hx] at hr
      rcases setD_mem hr with hr | ⟨rfl, _⟩
      · exact ih (by omega) r hr
      · exact .inr (List.mem_of_getElem? hx)
  rw [h.from0]
  exact key n (Nat.le_refl _)
theorem sz_merge {C D m : List Res} {i : Int} (h : MgE C D m i 0) (hC : SzL C) (hD : SzL D) (hm : m.length ≤ 64) : SzL m :=
  ⟨by omega, fun r hr => by
    rcases mgs_mem (mge_ok h rfl).2.1 r hr with q | q
    · exact hC.el r q
    · exact hD.el r q⟩
end Go.Ck
namespace Go.Proofs.Ytjepgpocmnijiaa
open Go.RowKit Go.Mp Go.Ck Go.Shelf
attribute [local go_sem] Oper.semAt_some
set_option linter.unusedVariables false
set_option maxRecDepth 100000
set_option maxHeartbeats 8000000
/-- The program's difference, where there is none. -/
theorem diff27n {A B : List Res} {u1 u2 : Value} {w' : World} (h1 : ResS w' u1 A) (h2 : ResS w' u2 B) (hA : SzL A) (hB : SzL B) (hN : A.length + B.length ≤ 4194304) (h : ∀ l, IsDiff A B l → l = []) : Calls Try.prog 27 #[u1, u2] w' fun e w2 => ∃ o2 c2, e = .returned (.slice o2 0 c2) ∧ Below w'.heap.size w' w2 := by
  refine (diff27r h1 h2 hA hB hN).mono ?_
  rintro e w2 ⟨o2, c2, L, rfl, hE, _, hb⟩
  rw [h L hE]
  exact ⟨o2, c2, rfl, hb⟩
theorem back8 (A B : List Res) (v1 v2 : Value) (w : World) (h1 : ResS w v1 A) (h2 : ResS w v2 B) (hA : SzL A) (hB : SzL B) : Calls Try.prog 8 #[v1, v2] w fun e w' => e = .returned (.bool true) ∧ Below w.heap.size w w' := by
  obtain ⟨ao, cap, rfl⟩ := slice_shape h1
  obtain ⟨bo, bcp, rfl⟩ := slice_shape h2
  obtain ⟨oA, hoA⟩ : ∃ b, decide (outI A < 0) = b := ⟨_, rfl⟩
  obtain ⟨oB, hoB⟩ : ∃ b, decide (outI B < 0) = b := ⟨_, rfl⟩
  have k23a : ∀ w', Below w.heap.size w w' → Calls Try.prog 23 #[.slice ao A.length cap] w' fun e w2 => e = .returned (.bool oA) ∧ Below w'.heap.size w' w2 := fun w' h => by rw [← hoA]; exact ordered23 A _ w' (h1.below h)
  have k23b : ∀ w', Below w.heap.size w w' → Calls Try.prog 23 #[.slice bo B.length bcp] w' fun e w2 => e = .returned (.bool oB) ∧ Below w'.heap.size w' w2 := fun w' h => by rw [← hoB]; exact ordered23 B _ w' (h2.below h)
  have hcur : Hid (Below w.heap.size w w) := Lib.hid (Below.refl _ _)
  replace h1 := Lib.hid h1
  replace h2 := Lib.hid h2
  replace hA := Lib.hid hA
  replace hB := Lib.hid hB
  replace k23a := Lib.hid k23a
  replace k23b := Lib.hid k23b
  cases oA with
  | false =>
    replace hoA := Lib.hid hoA
    replace hoB := Lib.hid hoB
    go_enter Try.func8, Try.ntmps8
    go_wp2_with (first
      | (go_at_call 31; (with_reducible refine (awake31 _).mono ?_); rintro e wC ⟨rfl, hbC⟩; replace hcur := Lib.hid (seq_below hcur.out hbC); clear hbC)
      | (go_at_call 23; (with_reducible refine (k23a.out _ hcur.out).mono ?_); rintro e wC ⟨rfl, hbC⟩; replace hcur := Lib.hid (seq_below hcur.out hbC); clear hbC)
      | (go_at_call 23; (with_reducible refine (k23b.out _ hcur.out).mono ?_); rintro e wC ⟨rfl, hbC⟩; replace hcur := Lib.hid (seq_below hcur.out hbC); clear hbC)
      | fail)
    go_ret
    exact ⟨rfl, hcur.out⟩
  | true => cases oB with
    | false =>
      replace hoA := Lib.hid hoA
      replace hoB := Lib.hid hoB
      go_enter Try.func8, Try.ntmps8
      go_wp2_with (first
        | (go_at_call 31; (with_reducible refine (awake31 _).mono ?_); rintro e wC ⟨rfl, hbC⟩; replace hcur := Lib.hid (seq_below hcur.out hbC); clear hbC)
        | (go_at_call 23; (with_reducible refine (k23a.out _ hcur.out).mono ?_); rintro e wC ⟨rfl, hbC⟩; replace hcur := Lib.hid (seq_below hcur.out hbC); clear hbC)
        | (go_at_call 23; (with_reducible refine (k23b.out _ hcur.out).mono ?_); rintro e wC ⟨rfl, hbC⟩; replace hcur := Lib.hid (seq_below hcur.out hbC); clear hbC)
        | fail)
      go_ret
      exact ⟨rfl, hcur.out⟩
    | true =>
      by_cases hla : 64 < A.length
      · have g1 : (64 : Int) < (A.length : Int) := by omega
        replace hoA := Lib.hid hoA
        replace hoB := Lib.hid hoB
        replace hla := Lib.hid hla
        go_enter Try.func8, Try.ntmps8
        go_wp2_with (first
          | (go_at_call 31; (with_reducible refine (awake31 _).mono ?_); rintro e wC ⟨rfl, hbC⟩; replace hcur := Lib.hid (seq_below hcur.out hbC); clear hbC)
          | (go_at_call 23; (with_reducible refine (k23a.out _ hcur.out).mono ?_); rintro e wC ⟨rfl, hbC⟩; replace hcur := Lib.hid (seq_below hcur.out hbC); clear hbC)
          | (go_at_call 23; (with_reducible refine (k23b.out _ hcur.out).mono ?_); rintro e wC ⟨rfl, hbC⟩; replace hcur := Lib.hid (seq_below hcur.out hbC); clear hbC)
          | fail)
        go_ret
        exact ⟨rfl, hcur.out⟩
      · have g1 : decide ((64 : Int) < (A.length : Int)) = false := decide_eq_false (by omega)
        have g2 : ¬ (64 : Int) < (A.length : Int) := by omega
        by_cases hlb : 64 < B.length
        · have g3 : (64 : Int) < (B.length : Int) := by omega
          replace hoA := Lib.hid hoA
          replace hoB := Lib.hid hoB
          replace hla := Lib.hid hla
          replace hlb := Lib.hid hlb
          go_enter Try.func8, Try.ntmps8
          go_wp2_with (first
            | (go_at_call 31; (with_reducible refine (awake31 _).mono ?_); rintro e wC ⟨rfl, hbC⟩; replace hcur := Lib.hid (seq_below hcur.out hbC); clear hbC)
            | (go_at_call 23; (with_reducible refine (k23a.out _ hcur.out).mono ?_); rintro e wC ⟨rfl, hbC⟩; replace hcur := Lib.hid (seq_below hcur.out hbC); clear hbC)
            | (go_at_call 23; (with_reducible refine (k23b.out _ hcur.out).mono ?_); rintro e wC ⟨rfl, hbC⟩; replace hcur := Lib.hid (seq_below hcur.out hbC); clear hbC)
            | fail)
          go_ret
          exact ⟨rfl, hcur.out⟩
        · have g3 : decide ((64 : Int) < (B.length : Int)) = false := decide_eq_false (by omega)
          have g4 : ¬ (64 : Int) < (B.length : Int) := by omega
          replace hla := Nat.le_of_not_lt hla
          replace hlb := Nat.le_of_not_lt hlb
          replace hoA := of_decide_eq_true hoA
          replace hoB := of_decide_eq_true hoB
          have hOB := ord_of hoB
          have hN1 : A.length + B.length ≤ 4194304 := by omega
          have hN3 : A.length + A.length ≤ 4194304 := by omega
          replace hoA := Lib.hid hoA
          replace hoB := Lib.hid hoB
          replace hla := Lib.hid hla
          replace hlb := Lib.hid hlb
          replace hOB := Lib.hid hOB
          replace hN1 := Lib.hid hN1
          replace hN3 := Lib.hid hN3
          go_enter Try.func8, Try.ntmps8
          go_wp2_with (first
            | (go_at_call 31; (with_reducible refine (awake31 _).mono ?_); rintro e wC ⟨rfl, hbC⟩; replace hcur := Lib.hid (seq_below hcur.out hbC); clear hbC)
            | (go_at_call 23; (with_reducible refine (k23a.out _ hcur.out).mono ?_); rintro e wC ⟨rfl, hbC⟩; replace hcur := Lib.hid (seq_below hcur.out hbC); clear hbC)
            | (go_at_call 23; (with_reducible refine (k23b.out _ hcur.out).mono ?_); rintro e wC ⟨rfl, hbC⟩; replace hcur := Lib.hid (seq_below hcur.out hbC); clear hbC)
            | (go_at_call 27; (with_reducible refine (diff27r (h1.out.below hcur.out) (h2.out.below hcur.out) hA.out hB.out hN1.out).mono ?_); rintro e wC ⟨p3, q3, d, rfl, hD, hr3, hbC⟩; replace hcur := Lib.hid (seq_below hcur.out hbC); replace hr3 := Lib.hid hr3; have szd := Lib.hid (sz_diff hD hla.out hlb.out hB.out); replace hD := Lib.hid hD; clear hbC)
            | (go_at_call 25; (with_reducible refine (merge25r (h1.out.below hcur.out) hr3.out hA.out szd.out).mono ?_); rintro e wC ⟨p4, q4, m, i4, f4, rfl, hE4, hr4, hbC⟩; replace hcur := Lib.hid (seq_below hcur.out hbC); replace hr3 := Lib.hid (hr3.out.below hbC); replace hr4 := Lib.hid hr4; obtain ⟨rfl, rfl, hml, hmq, hms, hmk⟩ := merge_diff hoA.out hOB.out hlb.out hD.out hE4; have szm := Lib.hid (sz_merge hE4 hA.out szd.out (by rw [hml]; exact hlb.out)); have hN2 := Lib.hid (show B.length + m.length ≤ 4194304 by have := hlb.out; omega); have kmB := Lib.hid (fun w' (a : ResS w' (.slice p4 m.length q4) m) (b : ResS w' (.slice bo B.length bcp) B) => show Calls Try.prog 22 #[_, _] w' fun e w2 => e = .returned (.bool true) ∧ Below w'.heap.size w' w2 from by rw [← hmq]; exact lists22 m B _ _ w' a b); replace hmk := Lib.hid hmk; clear hbC hE4 hml hmq hms)
            | (go_at_call 22; (with_reducible refine (kmB.out _ hr4.out (h2.out.below hcur.out)).mono ?_); rintro e wC ⟨rfl, hbC⟩; replace hcur := Lib.hid (seq_below hcur.out hbC); replace hr3 := Lib.hid (hr3.out.below hbC); replace hr4 := Lib.hid (hr4.out.below hbC); clear hbC)
            | (go_at_call 27; (with_reducible refine (diff27n (h2.out.below hcur.out) hr4.out hB.out szm.out hN2.out (fun l h => diff_like hmk.out h)).mono ?_); rintro e wC ⟨p5, q5, rfl, hbC⟩; replace hcur := Lib.hid (seq_below hcur.out hbC); replace hr3 := Lib.hid (hr3.out.below hbC); clear hbC)
            | (go_at_call 27; (with_reducible refine (diff27n (h1.out.below hcur.out) (h1.out.below hcur.out) hA.out hA.out hN3.out (fun l h => diff_self h)).mono ?_); rintro e wC ⟨p6, q6, rfl, hbC⟩; replace hcur := Lib.hid (seq_below hcur.out hbC); replace hr3 := Lib.hid (hr3.out.below hbC); clear hbC)
            | fail)
          have hld := hr3.out.1
          obtain ⟨w7, hw7⟩ : ∃ w7, w7 = wC := ⟨_, rfl⟩
          rw [← hw7]
          rw [← hw7] at hcur hr3
          replace hld := Lib.hid hld
          clear hw7

          go_loopg [9] (d.length + 1) (fun gg ic wx => ∃ i : Nat, gg = d.length - i + 1 ∧ i ≤ d.length ∧ ic = .int .i64 i ∧ Hid (Below w7.heap.size w7 wx))
          case atStart => exact ⟨0, rfl, Nat.zero_le _, rfl, Lib.hid (Below.refl _ _)⟩
          case round =>
            obtain ⟨i, rfl, hi, rfl, hbw⟩ := hrel
            by_cases hlt : i < d.length
            · have hk0 : (i : Int) < (d.length : Int) := nn_lt hlt
              have hwk := Lib.hid (nn_succ2 hlt hld.out)
              by_cases h0 : 0 < i
              · obtain ⟨j, hj⟩ : ∃ j, j + 1 = i := ⟨i - 1, by omega⟩
                have hjl : j < d.length := by omega
                obtain ⟨x, hx⟩ : ∃ x, d[j]? = some x := ⟨_, List.getElem?_eq_getElem hjl⟩
                obtain ⟨y, hy⟩ : ∃ y, d[i]? = some y := ⟨_, List.getElem?_eq_getElem hlt⟩
                obtain ⟨b1, f1, e1, k1, t1, m1, r1, n1, rfl, hbl1, c1, hp1⟩ := res_at2 hr3.out hx
                obtain ⟨b2, f2, e2, k2, t2, m2, r2, n2, eb, hbl2, c2, hp2⟩ := res_at2 hr3.out hy
                simp only [Option.some.injEq, Addr.mk.injEq, and_true] at eb
                obtain ⟨rfl, rfl⟩ := eb
                have hls : less x y = true := diff_next hD.out hx (by rw [hj]; exact hy)
                have hwp := wrap_pred hj (by have := hld.out; omega)
                have g5 : (0 : Int) < (i : Int) := by omega
                have g6 : (0 : Int) ≤ (j : Int) := by omega
                have g7 : (j : Int) < (d.length : Int) := nn_lt hjl
                have hS : Hid (∀ w', Below w7.heap.size w7 w' → w'.cell? ⟨b1, f1 + j * 8, none⟩ = some (.int .i64 x.kind) ∧ w'.cell? ⟨b1, f1 + j * 8 + 1, none⟩ = some (.string x.name) ∧ w'.cell? ⟨b1, f1 + j * 8 + 2, none⟩ = some (.slice e1 x.eps.length k1) ∧ w'.cell? ⟨b1, f1 + j * 8 + 3, none⟩ = some (.slice t1 x.tgts.length m1) ∧ w'.cell? ⟨b1, f1 + j * 8 + 4, none⟩ = some (.string x.host) ∧ w'.cell? ⟨b1, f1 + j * 8 + 5, none⟩ = some (.slice r1 x.rules.length n1) ∧ w'.cell? ⟨b1, f1 + j * 8 + 6, none⟩ = some (.string x.route) ∧ w'.cell? ⟨b1, f1 + j * 8 + 7, none⟩ = some (.bool x.del) ∧ w'.cell? ⟨b1, f1 + i * 8, none⟩ = some (.int .i64 y.kind) ∧ w'.cell? ⟨b1, f1 + i * 8 + 1, none⟩ = some (.string y.name) ∧ w'.cell? ⟨b1, f1 + i * 8 + 2, none⟩ = some (.slice e2 y.eps.length k2) ∧ w'.cell? ⟨b1, f1 + i * 8 + 3, none⟩ = some (.slice t2 y.tgts.length m2) ∧ w'.cell? ⟨b1, f1 + i * 8 + 4, none⟩ = some (.string y.host) ∧ w'.cell? ⟨b1, f1 + i * 8 + 5, none⟩ = some (.slice r2 y.rules.length n2) ∧ w'.cell? ⟨b1, f1 + i * 8 + 6, none⟩ = some (.string y.route) ∧ w'.cell? ⟨b1, f1 + i * 8 + 7, none⟩ = some (.bool y.del)) := Lib.hid (fun w' h => by
                  have a := c1.below hbl1 h
                  have b := c2.below hbl2 h
                  exact ⟨a.c0, a.c1, a.c2, a.c3, a.c4, a.c5, a.c6, a.c7, b.c0, b.c1, b.c2, b.c3, b.c4, b.c5, b.c6, b.c7⟩)
                have k32 : Hid (∀ w', Below w7.heap.size w7 w' → Calls Try.prog 32 #[.agg #[.int .i64 x.kind, .string x.name, .slice e1 x.eps.length k1, .slice t1 x.tgts.length m1, .string x.host, .slice r1 x.rules.length n1, .string x.route, .bool x.del], .agg #[.int .i64 y.kind, .string y.name, .slice e2 y.eps.length k2, .slice t2 y.tgts.length m2, .string y.host, .slice r2 y.rules.length n2, .string y.route, .bool y.del]] w' fun e w2 => e = .returned (.bool true) ∧ Below w'.heap.size w' w2) := Lib.hid (fun w' h => by rw [← hls]; exact less32 x y _ _ _ _ _ _ w')
                replace hx := Lib.hid hx
                replace hy := Lib.hid hy
                replace hls := Lib.hid hls
                replace hp1 := Lib.hid hp1
                replace hp2 := Lib.hid hp2
                replace hbl1 := Lib.hid hbl1
                replace hbl2 := Lib.hid hbl2
                replace hj := Lib.hid hj
                clear c1 c2
                go_upto_region 12 with fail
                have hcur2 : Hid (Below w7.heap.size w7 wr.drew) := Lib.hid (seq_below hbw.out (drew_below wr 1))
                go_cut [86] (fun b wx => b = .bool false ∧ Hid (Below w7.heap.size w7 wx))
                case first =>
                  obtain ⟨x0, x1, x2, x3, x4, x5, x6, x7, y0, y1, y2, y3, y4, y5, y6, y7⟩ := hS.out wr hbw.out
                  go_region_held3 (fun w' => w'.cell? ⟨b1, f1 + j * 8, none⟩ = some (.int .i64 x.kind) ∧ w'.cell? ⟨b1, f1 + j * 8 + 1, none⟩ = some (.string x.name) ∧ w'.cell? ⟨b1, f1 + j * 8 + 2, none⟩ = some (.slice e1 x.eps.length k1) ∧ w'.cell? ⟨b1, f1 + j * 8 + 3, none⟩ = some (.slice t1 x.tgts.length m1) ∧ w'.cell? ⟨b1, f1 + j * 8 + 4, none⟩ = some (.string x.host) ∧ w'.cell? ⟨b1, f1 + j * 8 + 5, none⟩ = some (.slice r1 x.rules.length n1) ∧ w'.cell? ⟨b1, f1 + j * 8 + 6, none⟩ = some (.string x.route) ∧ w'.cell? ⟨b1, f1 + j * 8 + 7, none⟩ = some (.bool x.del) ∧ w'.cell? ⟨b1, f1 + i * 8, none⟩ = some (.int .i64 y.kind) ∧ w'.cell? ⟨b1, f1 + i * 8 + 1, none⟩ = some (.string y.name) ∧ w'.cell? ⟨b1, f1 + i * 8 + 2, none⟩ = some (.slice e2 y.eps.length k2) ∧ w'.cell? ⟨b1, f1 + i * 8 + 3, none⟩ = some (.slice t2 y.tgts.length m2) ∧ w'.cell? ⟨b1, f1 + i * 8 + 4, none⟩ = some (.string y.host) ∧ w'.cell? ⟨b1, f1 + i * 8 + 5, none⟩ = some (.slice r2 y.rules.length n2) ∧ w'.cell? ⟨b1, f1 + i * 8 + 6, none⟩ = some (.string y.route) ∧ w'.cell? ⟨b1, f1 + i * 8 + 7, none⟩ = some (.bool y.del))
                    (first | exact hS.out _ hcur2.out | fail)
                    (first
                      | (go_at_call 32; (with_reducible refine (k32.out _ hcur2.out).mono ?_); rintro e wC ⟨rfl, hbC⟩; replace hcur2 := Lib.hid (seq_below hcur2.out hbC); clear hbC)
                      | fail)
                  all_goals (first | (go_wp2; go_meet; exact ⟨rfl, hcur2⟩) | (go_meet; exact ⟨rfl, hcur2⟩))
                case rest =>
                  obtain ⟨rfl, hbz⟩ := hcut
                  go_wp2
                  go_roundg (d.length - (i + 1) + 1)
                  case rel => exact ⟨i + 1, rfl, hlt, by first | rw [hwk.out] | go_num, hbz⟩
                  case measure => exact nn_downS hlt
              · have hz : i = 0 := by omega
                have g5 : decide ((0 : Int) < (i : Int)) = false := decide_eq_false (by omega)
                replace hz := Lib.hid hz
                go_upto_region 12 with fail
                go_quiet (fail)
                all_goals
                  go_wp2
                  go_roundg (d.length - (i + 1) + 1)
                  case rel => exact ⟨i + 1, rfl, hlt, by first | rw [hwk.out] | go_num, Lib.hid (below_drewN hbw.out _)⟩
                  case measure => exact nn_downS hlt
            · have hk0 : decide ((i : Int) < (d.length : Int)) = false := decide_eq_false (by omega)
              have hk1 : ¬ (i : Int) < (d.length : Int) := by omega
              go_wp2
              go_ret
              exact ⟨rfl, seq_below hcur.out hbw.out⟩
end Go.Proofs.Ytjepgpocmnijiaa
end
