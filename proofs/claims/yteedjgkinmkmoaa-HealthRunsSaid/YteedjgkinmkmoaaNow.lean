/- The document's own answer, its Now: all probes gone through from the first one, tells what the program's state tells. -/
import Derived.Test.YteedjgkinmkmoaaTell
import Derived.Test.YteedjgkinmkmoaaBoth
import Derived.Test.YteedjgkinmkmoaaTimesWalk
import Derived.Deep.LoopGhost
import Derived.Deep.DeepCutAuto
import Derived.Outline
namespace Go.Proofs.Yteedjgkinmkmoaa
open Go.ChangeShapes Go.WideShapes Go.ChangeAt Go.RowKit
open Go.Tp
set_option linter.unusedVariables false

def nblk (s : St) : Obj := .cells #[.bool (s.pl == 1), .int .i64 s.row, .float .f64 s.took, .int .i64 s.timed, .int .i64 s.turns] 57 (0, 0)
def nblk0 : Obj := .cells #[.bool false, .int .i64 0, .float .f64 0, .int .i64 0, .int .i64 0] 57 (0, 0)
theorem order00 : (FloatKind.f64.format.order 0 0 == some Ordering.eq) = true := by decide +kernel
/-- How a time stands against nought. -/
theorem order_ge {t : Nat} (h : Fl.ge t = true) : (FloatKind.f64.format.order t 0 == some Ordering.gt) = true ∨ (FloatKind.f64.format.order t 0 == some Ordering.gt) = false ∧ (FloatKind.f64.format.order t 0 == some Ordering.eq) = true := by
  unfold Fl.ge at h
  rw [Bool.or_eq_true] at h
  by_cases h3 : (FloatKind.f64.format.order t 0 == some Ordering.gt) = true
  · exact .inl h3
  · exact .inr ⟨Bool.eq_false_iff.2 h3, h.resolve_left h3⟩
theorem order_lt {t : Nat} (h : Fl.ge t = false) : (FloatKind.f64.format.order t 0 == some Ordering.gt) = false ∧ (FloatKind.f64.format.order t 0 == some Ordering.eq) = false := by
  unfold Fl.ge at h
  rwa [Bool.or_eq_false_iff] at h

theorem refcounts_yes (t : Nat) (ht : t < 18446744073709551616) (hc : counts t) (w : World) : Calls Try.prog 31 #[.float .f64 t] w fun e w' => e = .returned (.bool true) ∧ w = w' := by
  have hsub := healthTimes.sub_fin ht hc
  have h00 := order00
  have hor := order_ge hc.1
  clear hc ht
  rcases hor with hA | ⟨hA, hB⟩
  all_goals
    go_enter Try.func31, Try.ntmps31
    go_wp2
    go_ret
    exact ⟨rfl, rfl⟩
theorem refcounts_no (t : Nat) (ht : t < 18446744073709551616) (hc : ¬ counts t) (w : World) : Calls Try.prog 31 #[.float .f64 t] w fun e w' => e = .returned (.bool false) ∧ ∃ n, w.drewN n = w' := by
  by_cases hge : Fl.ge t = true
  · have hinf : t = Fl.INF := by
      by_cases h : t = Fl.INF
      · exact h
      · exact absurd ⟨hge, h⟩ hc
    subst hinf
    have hsub := healthTimes.sub_inf
    have hnan : ∀ w, (FloatKind.f64.format.order (healthTimes.nanOf w Fl.INF Fl.INF) 0 == some Ordering.eq) = false := by
      intro w
      have h := healthTimes.nan_ne w
      simpa using h
    have hA : (FloatKind.f64.format.order Fl.INF 0 == some Ordering.gt) = true := by decide +kernel
    clear hge hc ht
    go_enter Try.func31, Try.ntmps31
    go_wp2
    go_ret
    exact ⟨rfl, 1, rfl⟩
  · obtain ⟨hA, hB⟩ := order_lt (by simpa using hge)
    clear hge hc ht
    go_enter Try.func31, Try.ntmps31
    go_wp2
    go_ret
    exact ⟨rfl, 0, rfl⟩

def nval (s : St) : Value := .agg #[.bool (s.pl == 1), .int .i64 s.row, .float .f64 s.took, .int .i64 s.timed, .int .i64 s.turns]
theorem probe_limits (s : St) (ok : Bool) (t : Nat) : (probeS s ok t).rise = s.rise ∧ (probeS s ok t).fall = s.fall := by
  have h : ∀ m : St, (turnS m ok).rise = m.rise ∧ (turnS m ok).fall = m.fall := by
    intro m
    unfold turnS
    split <;> exact ⟨rfl, rfl⟩
  have h2 := h (midS s ok t)
  have h3 : (midS s ok t).rise = s.rise ∧ (midS s ok t).fall = s.fall := by
    unfold midS countS
    have h4 := timeS_same s t
    cases ok
    · exact ⟨rfl, rfl⟩
    · exact ⟨h4.1, h4.2.1⟩
  exact ⟨h2.1.trans h3.1, h2.2.trans h3.2⟩
theorem run_limits (s : St) (ps : List (Bool × Nat)) : (runS s ps).rise = s.rise ∧ (runS s ps).fall = s.fall := by
  induction ps generalizing s with
  | nil => exact ⟨rfl, rfl⟩
  | cons p r ih =>
    have h := ih (probeS s p.1 p.2)
    have h2 := probe_limits s p.1 p.2
    exact ⟨h.1.trans h2.1, h.2.trans h2.2⟩

theorem nz_cases {t : Nat} (ht : t < 18446744073709551616) (hc : counts t) : (FloatKind.f64.format.order t 0 == some Ordering.eq) = false ∧ nz t = t ∨ (FloatKind.f64.format.order t 0 == some Ordering.eq) = true ∧ nz t = 0 := by
  have h0 : counts 0 := counts_lt (by decide)
  have ho := order_nz ht (by decide) hc h0
  have e0 : nz 0 = 0 := by decide
  rw [e0] at ho
  show (Fl.dbl.order t 0 == _) = false ∧ _ ∨ (Fl.dbl.order t 0 == _) = true ∧ _
  rw [ho]
  by_cases h : nz t = 0
  · right; rw [h]; exact ⟨rfl, rfl⟩
  · left
    refine ⟨?_, ?_⟩
    · have : compare (nz t) 0 = .gt := Nat.compare_eq_gt.2 (by omega)
      rw [this]; rfl
    · unfold nz at h ⊢
      split
      · rename_i h2; rw [if_pos h2] at h; exact absurd rfl h
      · rfl
/-- What stands at the head of a round of Now. -/
structure NInv (w : World) (rise fall : Int) (ps : List (Bool × Nat)) (i : Nat) (wr : World) : Prop where
  res : wr.heap[w.heap.size]? = some nblk0
  nb : wr.heap[w.heap.size + 1]? = some (nblk (runS (newS rise fall) (ps.take i)))
  ok : Ok (runS (newS rise fall) (ps.take i)) i
  below : Below w.heap.size w wr
/-- What stands within a round. -/
structure MInv (w : World) (b5 : Nat) (ok : Bool) (t : Nat) (A : St) (wx : World) : Prop where
  res : wx.heap[w.heap.size]? = some nblk0
  nb : wx.heap[w.heap.size + 1]? = some (nblk A)
  box : wx.heap[b5]? = some (.cells #[.bool ok, .float .f64 t] 32 (0, 0))
  below : Below w.heap.size w wx
structure NCells (w : World) (b : Nat) (s : St) : Prop where
  c0 : w.cell? ⟨b, 0, none⟩ = some (.bool (s.pl == 1))
  c1 : w.cell? ⟨b, 1, none⟩ = some (.int .i64 s.row)
  c2 : w.cell? ⟨b, 2, none⟩ = some (.float .f64 s.took)
  c3 : w.cell? ⟨b, 3, none⟩ = some (.int .i64 s.timed)
  c4 : w.cell? ⟨b, 4, none⟩ = some (.int .i64 s.turns)
  fr : ∀ i, w.frozen? ⟨b, i, none⟩ = false
theorem ncells_of {w : World} {b : Nat} {s : St} (h : w.heap[b]? = some (nblk s)) : NCells w b s := by
  unfold nblk at h
  refine ⟨?_, ?_, ?_, ?_, ?_, fun i => frozen_of_row w b i _ _ h⟩ <;> (rw [cell_of_row w b _ _ _ _ h]; rfl)

theorem minv_only {w : World} {b5 : Nat} {ok : Bool} {t : Nat} {A B : St} {wx wy : World} (h : MInv w b5 ok t A wx) (h5 : b5 ≠ w.heap.size + 1) (ho : Only (w.heap.size + 1) wx wy) (hb : wy.heap[w.heap.size + 1]? = some (nblk B)) : MInv w b5 ok t B wy :=
  ⟨(ho.block _ (by omega)).trans h.res, hb, (ho.block _ h5).trans h.box, h.below.trans (ho.below (by omega))⟩

theorem ninv_next {w : World} {rise fall : Int} {ps : List (Bool × Nat)} {i b5 : Nat} {ok : Bool} {t : Nat} {A S : St} {wx wy : World} (hp2 : t < 18446744073709551616) (h3 : Ok S i) (h : MInv w b5 ok t A wx) (hn : runS (newS rise fall) (ps.take (i + 1)) = probeS S ok t)
    (ho : Only (w.heap.size + 1) wx wy) (hb : wy.heap[w.heap.size + 1]? = some (nblk (probeS S ok t))) : NInv w rise fall ps (i + 1) wy :=
  ⟨(ho.block _ (by omega)).trans h.res, by rw [hn]; exact hb, by rw [hn]; exact probeS_ok h3 ok t hp2, h.below.trans (ho.below (by omega))⟩
theorem only_s {b i : Nat} {v : Value} {w w' : World} (h : Only b w w') : Only b w (w'.setCell ⟨b, i, none⟩ v) := h.trans (Only.setCell _ _ _ _)
theorem only_d {b n : Nat} {w w' : World} (h : Only b w w') : Only b w (w'.drewN n) := h.trans (Only.drewN _ _ _)
theorem heap_set_d {w : World} {b i n : Nat} {c : Array Value} {T : TypeId} (v : Value) (h : w.heap[b]? = some (.cells c T (0, 0))) : ((w.drewN n).setCell ⟨b, i, none⟩ v).heap[b]? = some (.cells (c.setIfInBounds i v) T (0, 0)) := heap_set (w := w.drewN n) v h
theorem turn_u (Ar Af r tn R At : Int) (Ak : Nat) (hR : rowN r 1 = R) : turnS (countS ⟨Ar, Af, 1, r, Ak, At, tn⟩ (stepOf true)) true = ⟨Ar, Af, 1, R, Ak, At, tn⟩ := by subst hR; rfl
theorem turn_d (Ar Af r tn R At : Int) (Ak : Nat) (hR : rowN r 1 = R) (h : ¬ Ar ≤ R) : turnS (countS ⟨Ar, Af, 0, r, Ak, At, tn⟩ (stepOf true)) true = ⟨Ar, Af, 0, R, Ak, At, tn⟩ := by
  subst hR
  unfold turnS
  refine if_neg ?_
  show ¬ (decide ((0 : Int) = 0) && decide (Ar ≤ rowN r 1)) = true
  simpa using h
theorem turn_t (Ar Af r tn R At : Int) (Ak : Nat) (hR : rowN r 1 = R) (h : Ar ≤ R) : turnS (countS ⟨Ar, Af, 0, r, Ak, At, tn⟩ (stepOf true)) true = ⟨Ar, Af, 1, 0, Ak, At, tn + 1⟩ := by
  subst hR
  unfold turnS
  refine (if_pos ?_).trans rfl
  show (decide ((0 : Int) = 0) && decide (Ar ≤ rowN r 1)) = true
  simpa using h
theorem nturn_d (Ar Af r tn R At : Int) (Ak : Nat) (hR : rowN r (-1) = R) : turnS (countS ⟨Ar, Af, 0, r, Ak, At, tn⟩ (stepOf false)) false = ⟨Ar, Af, 0, R, Ak, At, tn⟩ := by subst hR; rfl
theorem nturn_u (Ar Af r tn R At : Int) (Ak : Nat) (hR : rowN r (-1) = R) (h : ¬ Af ≤ -R) : turnS (countS ⟨Ar, Af, 1, r, Ak, At, tn⟩ (stepOf false)) false = ⟨Ar, Af, 1, R, Ak, At, tn⟩ := by
  subst hR
  unfold turnS
  refine if_neg ?_
  show ¬ (decide ((1 : Int) = 1) && decide (Af ≤ -rowN r (-1))) = true
  simpa using h
theorem nturn_t (Ar Af r tn R At : Int) (Ak : Nat) (hR : rowN r (-1) = R) (h : Af ≤ -R) : turnS (countS ⟨Ar, Af, 1, r, Ak, At, tn⟩ (stepOf false)) false = ⟨Ar, Af, 0, 0, Ak, At, tn + 1⟩ := by
  subst hR
  unfold turnS
  refine (if_pos ?_).trans rfl
  show (decide ((1 : Int) = 1) && decide (Af ≤ -rowN r (-1))) = true
  simpa using h
/-- Counting as the document has it, step by step, is counting. -/
theorem rowf (r : Int) (ok : Bool) : ∀ (rb ub db : Bool) (r1 r2 : Int), (ok && decide (r < 0) || (!ok && decide (0 < r))) = rb → (if rb then 0 else r) = r1 → (ok && decide (r1 < 1000000)) = ub → (if ub then r1 + 1 else r1) = r2 → (!ok && decide (-1000000 < r2)) = db →
    rowN r (stepOf ok) = (if db then (if ub then (if rb then 0 else r) + 1 else (if rb then 0 else r)) - 1 else (if ub then (if rb then 0 else r) + 1 else (if rb then 0 else r))) := by
  rintro rb ub db r1 r2 h1 h2 h3 h4 h5
  subst h2 h4
  cases ok
  · simp at h1 h3 h5
    subst h1 h3 h5
    unfold rowN stepOf
    simp
    repeat' split
    all_goals omega
  · simp at h1 h3 h5
    subst h1 h3 h5
    unfold rowN stepOf
    simp
    repeat' split
    all_goals omega
theorem turn_all (Ar Af Ap r tn R At : Int) (Ak : Nat) (ok : Bool) (hR : rowN r (stepOf ok) = R) (h1 : 1 ≤ Ar) (h2 : 1 ≤ Af) (hp : Ap = 0 ∨ Ap = 1) (hr : -1000000 ≤ r ∧ r ≤ 1000000) {tb : Bool} (ht : (decide (Ap = 0) && decide (Ar ≤ R) || (decide (Ap = 1) && decide (R ≤ -Af))) = tb) :
    turnS (countS ⟨Ar, Af, Ap, r, Ak, At, tn⟩ (stepOf ok)) ok = if tb then ⟨Ar, Af, 1 - Ap, 0, Ak, At, tn + 1⟩ else ⟨Ar, Af, Ap, R, Ak, At, tn⟩ := by
  subst ht
  cases ok
  · have hs : stepOf false = -1 := rfl
    rw [hs] at hR ⊢
    have hneg : R ≤ -1 ∨ R ≤ 0 := by rw [← hR]; unfold rowN; split <;> split <;> omega
    rcases hp with rfl | rfl
    · have : ¬ Ar ≤ R := by omega
      rw [show (-1 : Int) = stepOf false from rfl, nturn_d Ar Af r tn R At Ak hR]
      simp [this]
    · by_cases h : R ≤ -Af
      · rw [show (-1 : Int) = stepOf false from rfl, nturn_t Ar Af r tn R At Ak hR (by omega)]
        simp [h]
      · rw [show (-1 : Int) = stepOf false from rfl, nturn_u Ar Af r tn R At Ak hR (by omega)]
        simp [h]
  · have hs : stepOf true = 1 := rfl
    rw [hs] at hR
    have hneg : 0 ≤ R := by rw [← hR]; unfold rowN; split <;> split <;> omega
    rcases hp with rfl | rfl
    · by_cases h : Ar ≤ R
      · rw [turn_t Ar Af r tn R At Ak hR h]
        simp [h]
      · rw [turn_d Ar Af r tn R At Ak hR h]
        simp [h]
    · have : ¬ R ≤ -Af := by omega
      rw [turn_u Ar Af r tn R At Ak hR]
      simp [this]
theorem now_nil (w : World) : Calls Try.prog 28 #[.pointer none] w fun e w' => e = .returned (.agg #[.bool false, .int .i64 0, .float .f64 0, .int .i64 0, .int .i64 0]) ∧ Below w.heap.size w w' := by
  go_enter Try.func28, Try.ntmps28
  go_wp2
  refine bodyPost_ret (v := .agg #[.bool false, .int .i64 0, .float .f64 0, .int .i64 0, .int .i64 0]) (by simp [results, Try.results28, go_sem]) rfl ⟨rfl, Tp.Below_seq (Tp.Below_alloc w nblk0) (Tp.Below_alloc _ nblk0)⟩

set_option maxHeartbeats 8000000 in
set_option maxRecDepth 100000 in
theorem now_any (bd : Nat) (rise fall : Int) (hv : validT rise fall) (ps : List (Bool × Nat)) (hps : ∀ p ∈ ps, p.2 < 18446744073709551616) (pv : Value) (w : World)
    (hbl : w.heap[bd]? = some (rblk rise fall pv)) (hrd : RdP w pv ps) (hlen : ps.length ≤ 1000000) :
    Calls Try.prog 28 #[.pointer (some ⟨bd, 0, none⟩)] w fun e w' => e = .returned (nval (runS (newS rise fall) ps)) ∧ Below w.heap.size w w' := by
  have hbd : bd < w.heap.size := (Array.getElem?_eq_some_iff.1 hbl).1
  obtain ⟨ao, cap, rfl, hvr⟩ := hrd
  replace hvr := Lib.hid hvr
  replace hbl := Lib.hid hbl
  go_enter Try.func28, Try.ntmps28
  go_wp2_with fail
  have hN0 : NInv w rise fall ps 0 ((w.alloc nblk0).alloc (nblk (newS rise fall))) := by
    refine ⟨(Below.heap_alloc _ _ _ (by simp)).trans (heap_alloc_new w _), ?_, newS_ok hv.1 hv.2, Tp.Below_seq (Tp.Below_alloc w _) (Tp.Below_alloc _ _)⟩
    have h := heap_alloc_new (w.alloc nblk0) (nblk (newS rise fall))
    simpa [runS] using h
  replace hN0 := Lib.hid hN0
  go_loopg [4] ps.length (fun g i wr => ∃ k : Nat, k ≤ ps.length ∧ g = ps.length - k ∧ i = .int .i64 k ∧ NInv w rise fall ps k wr)
  case atStart => exact ⟨0, by omega, rfl, rfl, hN0.out⟩
  case round =>
    obtain ⟨i, hi, rfl, rfl, I⟩ := hrel
    clear hN0
    have hblr : wr.heap[bd]? = some (rblk rise fall (.slice ao ps.length cap)) := (I.below.block _ hbd).trans hbl.out
    have q2 : wr.cell? ⟨bd, 2, none⟩ = some (.slice ao ps.length cap) := by rw [cell_of_row _ _ _ _ _ _ hblr]; rfl
    by_cases hlt : i < ps.length
    · obtain ⟨b, off, hao, hbw, hpr⟩ := hvr.out.resolve_left (by rintro rfl; simp at hlt)
      subst hao
      have hpr := hpr.below hbw I.below
      have hok := hpr.ok i hlt
      have htk := hpr.took i hlt
      have hp2 : (ps.getD i (false, 0)).2 < 18446744073709551616 := by
        have : ps.getD i (false, 0) = ps[i] := by simp [List.getD, hlt]
        rw [this]; exact hps _ (List.getElem_mem hlt)
      have htake := take_snoc ps (false, 0) i hlt
      obtain ⟨p, hpe⟩ : ∃ p, p = ps.getD i (false, 0) := ⟨_, rfl⟩
      rw [← hpe] at hok htk hp2 htake
      obtain ⟨ok, t⟩ := p
      dsimp only at hok htk hp2
      have hi1 : (i : Int) < (ps.length : Int) := by omega
      obtain ⟨hlim1, hlim2⟩ := run_limits (newS rise fall) (ps.take i)
      have hnext : runS (newS rise fall) (ps.take (i + 1)) = probeS (runS (newS rise fall) (ps.take i)) ok t := by rw [htake, runS_snoc]
      obtain ⟨I1, I2, I3, I4⟩ := I
      obtain ⟨S, hS⟩ : ∃ S, S = runS (newS rise fall) (ps.take i) := ⟨_, rfl⟩
      rw [← hS] at I2 I3 hlim1 hlim2 hnext
      have hM0 : MInv w wr.heap.size ok t S (wr.alloc (.cells #[.bool ok, .float .f64 t] 32 (0, 0))) := by
        have l1 := (Array.getElem?_eq_some_iff.1 I1).1
        have l2 := (Array.getElem?_eq_some_iff.1 I2).1
        exact ⟨(Below.heap_alloc _ _ _ l1).trans I1, (Below.heap_alloc _ _ _ l2).trans I2, heap_alloc_new wr _, I4.trans ((Tp.Below_alloc wr _).mono (Nat.le_of_lt l1))⟩
      have h5 : wr.heap.size ≠ w.heap.size + 1 := by
        have l2 := (Array.getElem?_eq_some_iff.1 I2).1
        omega
      replace hM0 := Lib.hid hM0
      replace hnext := Lib.hid hnext
      replace hlim1 := Lib.hid hlim1
      replace hlim2 := Lib.hid hlim2
      clear hS htake hpe hpr I1 I2 I4 hblr
      go_upto_region 9 with fail
      obtain ⟨cb, hcb⟩ : ∃ cb : Bool, cb = true ↔ ok = true ∧ counts t := ⟨ok && (Fl.ge t && decide (t ≠ Fl.INF)), by simp [counts]⟩
      replace hcb := Lib.hid hcb
      go_cut [34] (fun s34 wx => s34 = .bool cb ∧ MInv w wr.heap.size ok t S wx)
      case first =>
        have c5 := hM0.out.box
        have b0 : (wr.alloc (.cells #[.bool ok, .float .f64 t] 32 (0, 0))).cell? ⟨wr.heap.size, 0, none⟩ = some (.bool ok) := by rw [cell_of_row _ _ _ _ _ _ c5]; rfl
        have b1 : (wr.alloc (.cells #[.bool ok, .float .f64 t] 32 (0, 0))).cell? ⟨wr.heap.size, 1, none⟩ = some (.float .f64 t) := by rw [cell_of_row _ _ _ _ _ _ c5]; rfl
        clear c5
        generalize wr.alloc (.cells #[.bool ok, .float .f64 t] 32 (0, 0)) = wx at *
        cases ok with
        | false =>
          have hcb' : cb = false := by cases cb with | false => rfl | true => exact absurd (hcb.out.1 rfl).1 (by simp)
          subst hcb'
          clear hcb
          go_wp2_with fail
          go_meet
          exact ⟨rfl, hM0.out⟩
        | true =>
          by_cases hc : counts t
          · have hcb' : cb = true := hcb.out.2 ⟨rfl, hc⟩
            subst hcb'
            have hcc := Lib.hid (refcounts_yes t hp2 hc wx)
            clear hc hcb
            go_wp2_with fail
            refine hcc.out.mono ?_
            rintro e w' ⟨rfl, rfl⟩
            go_wp2_with fail
            go_meet
            exact ⟨rfl, hM0.out⟩
          · have hcb' : cb = false := by cases cb with | false => rfl | true => exact absurd (hcb.out.1 rfl).2 hc
            subst hcb'
            have hcc := Lib.hid (refcounts_no t hp2 hc wx)
            clear hc hcb
            go_wp2_with fail
            refine hcc.out.mono ?_
            rintro e w' ⟨rfl, n, hn⟩
            have hM1 : MInv w wr.heap.size true t S w' := by rw [← hn]; exact ⟨hM0.out.res, hM0.out.nb, hM0.out.box, below_drewN hM0.out.below n⟩
            replace hM1 := Lib.hid hM1
            clear hn
            go_wp2_with fail
            go_meet
            exact ⟨rfl, hM1.out⟩
      case rest =>
        obtain ⟨rfl, hM⟩ := hcut
        clear hM0
        obtain ⟨A, hA⟩ : ∃ A, A = (if ok then timeS S t else S) := ⟨_, rfl⟩
        go_upto_if 34 with fail
        go_cut [] (fun wx => MInv w wr.heap.size ok t A wx)
        case first =>
          obtain ⟨n0, n1, n2, n3, n4, nf⟩ := ncells_of hM.nb
          have f2 := nf 2
          have f3 := nf 3
          have b0 : wc.cell? ⟨wr.heap.size, 0, none⟩ = some (.bool ok) := by rw [cell_of_row _ _ _ _ _ _ hM.box]; rfl
          have b1 : wc.cell? ⟨wr.heap.size, 1, none⟩ = some (.float .f64 t) := by rw [cell_of_row _ _ _ _ _ _ hM.box]; rfl
          obtain ⟨t1, t2⟩ := I3.timed
          have hsf := @Tp.run_store_float Try.prog
          have hMh := Lib.hid hM
          clear n0 n1 n4 nf hM
          cases cb with
          | false =>
            have hAS : A = S := by
              rw [hA]
              cases ok with
              | false => rfl
              | true =>
                have hnc : ¬ counts t := fun hc => by have := hcb.out.2 ⟨rfl, hc⟩; cases this
                show timeS S t = S
                unfold timeS; exact if_neg hnc
            subst hAS
            clear hcb hA
            go_wp2_with fail
            go_meet
            exact hMh.out
          | true =>
            obtain ⟨rfl, hc⟩ := hcb.out.1 rfl
            have hA2 : A = { S with took := if S.timed = 0 then nz t else quarter S.took (nz t), timed := S.timed + 1 } := by
              rw [hA]
              show timeS S t = _
              unfold timeS; exact if_pos hc
            have hz : (FloatKind.f64.format.order t 0 == some Ordering.eq) = false ∧ nz t = t ∨ (FloatKind.f64.format.order t 0 == some Ordering.eq) = true ∧ nz t = 0 := nz_cases hp2 hc
            have hnl := nz_lt hp2 hc
            obtain ⟨d, e, k1, k2, k3, _, _⟩ := quarter_spec S.took (nz t) I3.took hnl
            have g1 : ∀ w, (binOp .sub 30 (.float .f64 (nz t)) (.float .f64 S.took)).run Try.prog w = .ok (.float .f64 d) w := fun w => run_float_arith w _ _ _ _ _ _ k1
            have g2 : ∀ w, (binOp .quo 30 (.float .f64 d) (.float .f64 4616189618054758400)).run Try.prog w = .ok (.float .f64 e) w := fun w => run_float_arith w _ _ _ _ _ _ k2
            have g3 : ∀ w, (binOp .add 30 (.float .f64 S.took) (.float .f64 e)).run Try.prog w = .ok (.float .f64 (quarter S.took (nz t))) w := fun w => run_float_arith w _ _ _ _ _ _ k3
            obtain ⟨z, hzd⟩ : ∃ z, z = nz t := ⟨_, rfl⟩
            rw [← hzd] at hA2 hz g1 g3
            generalize quarter S.took z = qq at *
            have h5' := Lib.hid h5
            clear hA k1 k2 k3 hcb hnl hzd hc h5
            by_cases h0 : S.timed = 0
            · rw [if_pos h0] at hA2
              have hz0 : (S.timed == 0) = true := by simpa using h0
              replace hA2 := Lib.hid hA2
              replace h0 := Lib.hid h0
              rcases hz with ⟨hB, rfl⟩ | ⟨hB, rfl⟩
              all_goals
                go_wp2_with fail
                go_meet
                exact minv_only hMh.out h5'.out ((Only.setCell _ _ _ _).trans (Only.setCell _ _ _ _)) (by rw [hA2.out]; exact heap_set _ (heap_set _ hMh.out.nb))
            · rw [if_neg h0] at hA2
              have hz0 : (S.timed == 0) = false := by simpa using h0
              replace hA2 := Lib.hid hA2
              replace h0 := Lib.hid h0
              rcases hz with ⟨hB, rfl⟩ | ⟨hB, rfl⟩
              all_goals
                go_wp2_with fail
                go_meet
                exact minv_only hMh.out h5'.out ((Only.setCell _ _ _ _).trans (Only.setCell _ _ _ _)) (by rw [hA2.out]; exact heap_set _ (heap_set _ hMh.out.nb))
        case rest =>
          have hps' : probeS S ok t = turnS (countS A (stepOf ok)) ok := by rw [hA]; rfl
          have a1 : A.rise = rise := by rw [hA]; cases ok; exact hlim1.out; exact (timeS_same S t).1.trans hlim1.out
          have a2 : A.fall = fall := by rw [hA]; cases ok; exact hlim2.out; exact (timeS_same S t).2.1.trans hlim2.out
          have a3 : A.pl = S.pl := by rw [hA]; cases ok; rfl; exact (timeS_same S t).2.2.1
          have a4 : A.row = S.row := by rw [hA]; cases ok; rfl; exact (timeS_same S t).2.2.2.1
          have a5 : A.turns = S.turns := by rw [hA]; cases ok; rfl; exact (timeS_same S t).2.2.2.2.1
          have hrow := I3.row
          have htn := I3.turns
          have hpl := I3.pl
          have hri := I3.rise
          have hfa := I3.fall
          rw [← a4] at hrow
          rw [← a5] at htn
          rw [← a3] at hpl
          rw [hlim1.out] at hri
          rw [hlim2.out] at hfa
          replace hri : 1 ≤ rise ∧ rise ≤ 100 := hri
          replace hfa : 1 ≤ fall ∧ fall ≤ 100 := hfa
          obtain ⟨tn1, tn2⟩ := htn
          obtain ⟨ri1, ri2⟩ := hri
          obtain ⟨fa1, fa2⟩ := hfa
          obtain ⟨hrow1, hrow2⟩ := hrow
          have hM1 := hcut
          have hfin : ∀ wy, MInv w wr.heap.size ok t (turnS (countS A (stepOf ok)) ok) wy → NInv w rise fall ps (i + 1) wy := fun wy h => ⟨h.res, by rw [hnext.out, hps']; exact h.nb, by rw [hnext.out]; exact probeS_ok I3 ok t hp2, h.below⟩
          replace hfin := Lib.hid hfin
          have h5' := Lib.hid h5
          clear a3 a4 a5 hM hA hnext hcut hlim1 hlim2 I3 hps' q2 hok htk h5 hps
          obtain ⟨Ar, Af, Ap, r, Ak, At, tn⟩ := A
          dsimp only at a1 a2 hrow1 hrow2 hpl tn1 tn2
          obtain rfl := a1
          obtain rfl := a2
          generalize hrb : (ok && decide (r < 0) || (!ok && decide (0 < r))) = rb at *
          generalize hr1 : (if rb then 0 else r) = r1 at *
          have hr1b : -1000000 ≤ r1 ∧ r1 ≤ 1000000 := by rw [← hr1]; split <;> omega
          generalize hub : (ok && decide (r1 < 1000000)) = ub at *
          generalize hr2 : (if ub then r1 + 1 else r1) = r2 at *
          have hr2b : -1000000 ≤ r2 ∧ r2 ≤ 1000000 := by
            rw [← hr2]
            cases ub with
            | false => exact hr1b
            | true =>
              have : r1 < 1000000 := by
                have h := hub
                rw [Bool.and_eq_true] at h
                exact of_decide_eq_true h.2
              simp; omega
          generalize hdb : (!ok && decide (-1000000 < r2)) = db at *
          generalize hr3 : (if db then r2 - 1 else r2) = r3 at *
          replace hrb := Lib.hid hrb
          replace hr1 := Lib.hid hr1
          replace hub := Lib.hid hub
          replace hr2 := Lib.hid hr2
          replace hdb := Lib.hid hdb
          replace hr3 := Lib.hid hr3
          obtain ⟨r1a, r1b⟩ := hr1b
          obtain ⟨r2a, r2b⟩ := hr2b
          go_upto_region 19 with fail
          go_cut [75] (fun sv wx => sv = .bool rb ∧ MInv w wr.heap.size ok t ⟨Ar, Af, Ap, r, Ak, At, tn⟩ wx)
          case first =>
            obtain ⟨n0, n1, n2, n3, n4, nf⟩ := ncells_of hM1.nb
            have b0 : wc.cell? ⟨wr.heap.size, 0, none⟩ = some (.bool ok) := by rw [cell_of_row _ _ _ _ _ _ hM1.box]; rfl
            have hMh := Lib.hid hM1
            clear n0 n2 n3 n4 nf hM1
            dsimp only at n1
            cases ok with
            | true =>
              by_cases h : r < 0
              · have hx : rb = true := by rw [← hrb.out]; simp [h]
                replace hx := Lib.hid hx
                go_wp2_with fail
                go_meet
                exact ⟨congrArg Value.bool hx.out.symm, hMh.out⟩
              · have hx : rb = false := by rw [← hrb.out]; simp; omega
                replace hx := Lib.hid hx
                go_wp2_with fail
                go_meet
                exact ⟨congrArg Value.bool hx.out.symm, hMh.out⟩
            | false =>
              by_cases h : 0 < r
              · have hx : rb = true := by rw [← hrb.out]; simp [h]
                replace hx := Lib.hid hx
                go_wp2_with fail
                go_meet
                exact ⟨congrArg Value.bool hx.out.symm, hMh.out⟩
              · have hx : rb = false := by rw [← hrb.out]; simp; omega
                replace hx := Lib.hid hx
                go_wp2_with fail
                go_meet
                exact ⟨congrArg Value.bool hx.out.symm, hMh.out⟩
          case rest =>
            obtain ⟨rfl, hM1⟩ := hcut
            go_upto_if 75 with fail
            go_cut [] (fun wx => MInv w wr.heap.size ok t ⟨Ar, Af, Ap, r1, Ak, At, tn⟩ wx)
            case first =>
              obtain ⟨n0, n1, n2, n3, n4, nf⟩ := ncells_of hM1.nb
              have f1 := nf 1
              have hMh := Lib.hid hM1
              clear n0 n2 n3 n4 nf hM1
              dsimp only at n1
              cases rb with
              | false =>
                obtain rfl := hr1.out
                go_wp2_with fail
                go_meet
                exact hMh.out
              | true =>
                go_wp2_with fail
                go_meet
                refine minv_only hMh.out h5'.out (Only.setCell _ _ _ _) ?_
                rw [← hr1.out]
                exact heap_set _ hMh.out.nb
            case rest =>
              have hM1 := hcut
              clear hcut
              go_upto_region 21 with fail
              go_cut [83] (fun sv wx => sv = .bool ub ∧ MInv w wr.heap.size ok t ⟨Ar, Af, Ap, r1, Ak, At, tn⟩ wx)
              case first =>
                obtain ⟨n0, n1, n2, n3, n4, nf⟩ := ncells_of hM1.nb
                have b0 : wc.cell? ⟨wr.heap.size, 0, none⟩ = some (.bool ok) := by rw [cell_of_row _ _ _ _ _ _ hM1.box]; rfl
                have hMh := Lib.hid hM1
                clear n0 n2 n3 n4 nf hM1
                dsimp only at n1
                cases ok with
                | true =>
                  by_cases h : r1 < 1000000
                  · have hx : ub = true := by rw [← hub.out]; simp [h]
                    replace hx := Lib.hid hx
                    go_wp2_with fail
                    go_meet
                    exact ⟨congrArg Value.bool hx.out.symm, hMh.out⟩
                  · have hx : ub = false := by rw [← hub.out]; simp; omega
                    replace hx := Lib.hid hx
                    go_wp2_with fail
                    go_meet
                    exact ⟨congrArg Value.bool hx.out.symm, hMh.out⟩
                | false =>
                  have hx : ub = false := by rw [← hub.out]; simp
                  replace hx := Lib.hid hx
                  go_wp2_with fail
                  go_meet
                  exact ⟨congrArg Value.bool hx.out.symm, hMh.out⟩
              case rest =>
                obtain ⟨rfl, hM1⟩ := hcut
                go_upto_if 83 with fail
                go_cut [] (fun wx => MInv w wr.heap.size ok t ⟨Ar, Af, Ap, r2, Ak, At, tn⟩ wx)
                case first =>
                  obtain ⟨n0, n1, n2, n3, n4, nf⟩ := ncells_of hM1.nb
                  have f1 := nf 1
                  have hMh := Lib.hid hM1
                  clear n0 n2 n3 n4 nf hM1
                  dsimp only at n1
                  cases ub with
                  | false =>
                    obtain rfl := hr2.out
                    go_wp2_with fail
                    go_meet
                    exact hMh.out
                  | true =>
                    go_wp2_with fail
                    go_meet
                    refine minv_only hMh.out h5'.out (Only.setCell _ _ _ _) ?_
                    rw [← hr2.out]
                    exact heap_set _ hMh.out.nb
                case rest =>
                  have hM1 := hcut
                  clear hcut
                  go_upto_region 23 with fail
                  go_cut [95] (fun sv wx => sv = .bool db ∧ MInv w wr.heap.size ok t ⟨Ar, Af, Ap, r2, Ak, At, tn⟩ wx)
                  case first =>
                    obtain ⟨n0, n1, n2, n3, n4, nf⟩ := ncells_of hM1.nb
                    have b0 : wc.cell? ⟨wr.heap.size, 0, none⟩ = some (.bool ok) := by rw [cell_of_row _ _ _ _ _ _ hM1.box]; rfl
                    have hMh := Lib.hid hM1
                    clear n0 n2 n3 n4 nf hM1
                    dsimp only at n1
                    cases ok with
                    | false =>
                      by_cases h : -1000000 < r2
                      · have hx : db = true := by rw [← hdb.out]; simp [h]
                        replace hx := Lib.hid hx
                        go_wp2_with fail
                        go_meet
                        exact ⟨congrArg Value.bool hx.out.symm, hMh.out⟩
                      · have hx : db = false := by rw [← hdb.out]; simp; omega
                        replace hx := Lib.hid hx
                        go_wp2_with fail
                        go_meet
                        exact ⟨congrArg Value.bool hx.out.symm, hMh.out⟩
                    | true =>
                      have hx : db = false := by rw [← hdb.out]; simp
                      replace hx := Lib.hid hx
                      go_wp2_with fail
                      go_meet
                      exact ⟨congrArg Value.bool hx.out.symm, hMh.out⟩
                  case rest =>
                    obtain ⟨rfl, hM1⟩ := hcut
                    go_upto_if 95 with fail
                    go_cut [] (fun wx => MInv w wr.heap.size ok t ⟨Ar, Af, Ap, r3, Ak, At, tn⟩ wx)
                    case first =>
                      obtain ⟨n0, n1, n2, n3, n4, nf⟩ := ncells_of hM1.nb
                      have f1 := nf 1
                      have hMh := Lib.hid hM1
                      clear n0 n2 n3 n4 nf hM1
                      dsimp only at n1
                      cases db with
                      | false =>
                        obtain rfl := hr3.out
                        go_wp2_with fail
                        go_meet
                        exact hMh.out
                      | true =>
                        go_wp2_with fail
                        go_meet
                        refine minv_only hMh.out h5'.out (Only.setCell _ _ _ _) ?_
                        rw [← hr3.out]
                        exact heap_set _ hMh.out.nb
                    case rest =>
                      have hM1 := hcut
                      clear hcut
                      have hR : rowN r (stepOf ok) = r3 := by rw [← hr3.out, ← hr2.out, ← hr1.out]; exact rowf r ok rb ub db r1 r2 hrb.out hr1.out hub.out hr2.out hdb.out
                      generalize htb : (decide (Ap = 0) && decide (Ar ≤ r3) || (decide (Ap = 1) && decide (r3 ≤ -Af))) = tb
                      have hfin2 : ∀ wy, MInv w wr.heap.size ok t (if tb then ⟨Ar, Af, 1 - Ap, 0, Ak, At, tn + 1⟩ else ⟨Ar, Af, Ap, r3, Ak, At, tn⟩) wy → NInv w Ar Af ps (i + 1) wy := fun wy h => hfin.out wy (by rw [turn_all Ar Af Ap r tn r3 At Ak ok hR (by omega) (by omega) hpl ⟨hrow1, hrow2⟩ htb]; exact h)
                      have hr3b : -1000000 ≤ r3 ∧ r3 ≤ 1000000 := by rw [← hR]; exact rowN_bd (by unfold stepOf; cases ok <;> simp) ⟨hrow1, hrow2⟩
                      obtain ⟨r3a, r3b⟩ := hr3b
                      replace hfin2 := Lib.hid hfin2
                      replace htb := Lib.hid htb
                      clear hR hfin hrb hr1 hub hr2 hdb hr3
                      go_upto_region 25 with fail
                      go_cut [125] (fun sv wx => sv = .bool tb ∧ MInv w wr.heap.size ok t ⟨Ar, Af, Ap, r3, Ak, At, tn⟩ wx)
                      case first =>
                        obtain ⟨n0, n1, n2, n3, n4, nf⟩ := ncells_of hM1.nb
                        have hblc : wc.heap[bd]? = some (rblk Ar Af (.slice (some ⟨b, off, none⟩) ps.length cap)) := (hM1.below.block _ hbd).trans hbl.out
                        have q0 : wc.cell? ⟨bd, 0, none⟩ = some (.int .i64 Ar) := by rw [cell_of_row _ _ _ _ _ _ hblc]; rfl
                        have q1 : wc.cell? ⟨bd, 1, none⟩ = some (.int .i64 Af) := by rw [cell_of_row _ _ _ _ _ _ hblc]; rfl
                        have hMd : ∀ n, MInv w wr.heap.size ok t ⟨Ar, Af, Ap, r3, Ak, At, tn⟩ (wc.drewN n) := fun n => ⟨hM1.res, hM1.nb, hM1.box, below_drewN hM1.below n⟩
                        replace hMd := Lib.hid hMd
                        clear n2 n3 n4 nf hM1 hblc
                        dsimp only at n0 n1
                        rcases hpl with rfl | rfl
                        · replace n0 : wc.cell? ⟨w.heap.size + 1, 0, none⟩ = some (.bool false) := n0
                          by_cases hx : Ar ≤ r3
                          · have ht : tb = true := by rw [← htb.out]; simp [hx]
                            replace ht := Lib.hid ht
                            go_quiet (fail)
                            go_wp2
                            go_meet
                            exact ⟨congrArg Value.bool ht.out.symm, hMd.out _⟩
                          · have ht : tb = false := by rw [← htb.out]; simp; omega
                            replace ht := Lib.hid ht
                            go_quiet (fail)
                            go_wp2
                            go_meet
                            exact ⟨congrArg Value.bool ht.out.symm, hMd.out _⟩
                        · replace n0 : wc.cell? ⟨w.heap.size + 1, 0, none⟩ = some (.bool true) := n0
                          by_cases hx : r3 ≤ -Af
                          · have ht : tb = true := by rw [← htb.out]; simp [hx]
                            replace ht := Lib.hid ht
                            go_quiet (fail)
                            go_wp2
                            go_meet
                            exact ⟨congrArg Value.bool ht.out.symm, hMd.out _⟩
                          · have ht : tb = false := by rw [← htb.out]; simp; omega
                            replace ht := Lib.hid ht
                            go_quiet (fail)
                            go_wp2
                            go_meet
                            exact ⟨congrArg Value.bool ht.out.symm, hMd.out _⟩
                      case rest =>
                        obtain ⟨rfl, hM1⟩ := hcut
                        obtain ⟨n0, n1, n2, n3, n4, nf⟩ := ncells_of hM1.nb
                        have f0 := nf 0
                        have f1 := nf 1
                        have f4 := nf 4
                        have hMh := Lib.hid hM1
                        clear n2 n3 nf hM1
                        dsimp only at n0 n1 n4
                        cases tb with
                        | false =>
                          have hNn := Lib.hid (hfin2.out _ hMh.out)
                          go_wp2_with fail
                          go_roundg (ps.length - (i + 1))
                          case measure => omega
                          case rel => exact ⟨i + 1, by omega, rfl, by go_num, hNn.out⟩
                        | true =>
                          rcases hpl with rfl | rfl
                          · replace n0 : wc.cell? ⟨w.heap.size + 1, 0, none⟩ = some (.bool false) := n0
                            go_wp2_with fail
                            go_roundg (ps.length - (i + 1))
                            case measure => omega
                            case rel => exact ⟨i + 1, by omega, rfl, by go_num, hfin2.out _ (minv_only hMh.out h5'.out (((Only.setCell _ _ _ _).trans (Only.setCell _ _ _ _)).trans (Only.setCell _ _ _ _)) (heap_set _ (heap_set _ (heap_set _ hMh.out.nb))))⟩
                          · replace n0 : wc.cell? ⟨w.heap.size + 1, 0, none⟩ = some (.bool true) := n0
                            go_wp2_with fail
                            go_roundg (ps.length - (i + 1))
                            case measure => omega
                            case rel => exact ⟨i + 1, by omega, rfl, by go_num, hfin2.out _ (minv_only hMh.out h5'.out (((Only.setCell _ _ _ _).trans (Only.setCell _ _ _ _)).trans (Only.setCell _ _ _ _)) (heap_set _ (heap_set _ (heap_set _ hMh.out.nb))))⟩
    · have hie : i = ps.length := by omega
      have hbel := Lib.hid I.below
      have hnb := I.nb
      rw [hie, List.take_length] at hnb
      obtain ⟨S, hS⟩ : ∃ S, S = runS (newS rise fall) ps := ⟨_, rfl⟩
      rw [← hS] at hnb
      replace hS := Lib.hid hS
      obtain ⟨n0, n1, n2, n3, n4, nf⟩ := ncells_of hnb
      have hres := I.res
      have l0 := (Array.getElem?_eq_some_iff.1 hres).1
      have hi1 : (ps.length : Int) ≤ (i : Int) := by omega
      have m0 : wr.cell? ⟨w.heap.size, 0, none⟩ = some (.bool false) := by rw [cell_of_row _ _ _ _ _ _ hres]; rfl
      have m1 : wr.cell? ⟨w.heap.size, 1, none⟩ = some (.int .i64 0) := by rw [cell_of_row _ _ _ _ _ _ hres]; rfl
      have m2 : wr.cell? ⟨w.heap.size, 2, none⟩ = some (.float .f64 0) := by rw [cell_of_row _ _ _ _ _ _ hres]; rfl
      have m3 : wr.cell? ⟨w.heap.size, 3, none⟩ = some (.int .i64 0) := by rw [cell_of_row _ _ _ _ _ _ hres]; rfl
      have m4 : wr.cell? ⟨w.heap.size, 4, none⟩ = some (.int .i64 0) := by rw [cell_of_row _ _ _ _ _ _ hres]; rfl
      have k0 : wr.frozen? ⟨w.heap.size, 0, none⟩ = false := frozen_of_row wr _ _ _ _ hres
      have k1 : wr.frozen? ⟨w.heap.size, 1, none⟩ = false := frozen_of_row wr _ _ _ _ hres
      have k2 : wr.frozen? ⟨w.heap.size, 2, none⟩ = false := frozen_of_row wr _ _ _ _ hres
      have k3 : wr.frozen? ⟨w.heap.size, 3, none⟩ = false := frozen_of_row wr _ _ _ _ hres
      have k4 : wr.frozen? ⟨w.heap.size, 4, none⟩ = false := frozen_of_row wr _ _ _ _ hres
      clear I hnb hie nf hblr hres
      go_wp2_with fail
      refine bodyPost_ret (v := nval S) (by simp [results, Try.results28, go_sem, nval, m0, m1, m2, m3, m4]) rfl ⟨by rw [hS.out], ?_⟩
      exact ((((hbel.out.setCell (Nat.le_refl _) _).setCell (Nat.le_refl _) _).setCell (Nat.le_refl _) _).setCell (Nat.le_refl _) _).setCell (Nat.le_refl _) _
end Go.Proofs.Yteedjgkinmkmoaa
