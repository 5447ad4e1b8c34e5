/- The walk of a split's depth, looked for with a memory of what was found. -/
import Derived.Test.YtjepgpocmnijiaaZy10
import Derived.Test.YtjepgpocmnijiaaZy3
section
/- The walk of heavy, and of what adds reals that may be none. -/
namespace Go.Ck
open Go.RowKit
set_option linter.unusedVariables false
open Go.Proofs.Ytjepgpocmnijiaa
theorem wOk_ge {x : Nat} (h : wOk x = true) : Fl.ge x = true := by
  unfold wOk at h
  rw [Bool.and_eq_true] at h
  exact h.1
theorem weights_at {r : Res} {i : Nat} {t : Tgt} (h : r.tgts[i]? = some t) : (weights r)[i]? = some t.weight ∧ (weights r).getD i 0 = t.weight := by
  have h1 : (weights r)[i]? = some t.weight := by unfold weights; rw [List.getElem?_map, h]; rfl
  exact ⟨h1, by simp [List.getD, h1]⟩
theorem weights_len (r : Res) : (weights r).length = r.tgts.length := by unfold weights; rw [List.length_map]
def Fine (r : Res) (i : Nat) : Prop := ∀ j x, j < i → (weights r)[j]? = some x → wOk x = true
theorem Fine.take {r : Res} {i : Nat} (h : Fine r i) : ((weights r).take i).all Fl.ge = true := by
  rw [List.all_eq_true]
  intro x hx
  obtain ⟨j, hj⟩ := List.mem_iff_getElem?.1 hx
  have hji : j < i := by have := (List.getElem?_eq_some_iff.1 hj).1; rw [List.length_take] at this; omega
  rw [List.getElem?_take_of_lt hji] at hj
  exact wOk_ge (h j x hji hj)
theorem Fine.succ {r : Res} {i : Nat} {t : Tgt} (h : Fine r i) (ht : r.tgts[i]? = some t) (hw : wOk t.weight = true) : Fine r (i + 1) := fun j x hj hx => by
  rcases Nat.lt_succ_iff_lt_or_eq.1 hj with h1 | h1
  · exact h j x h1 hx
  · subst h1
    rw [(weights_at ht).1] at hx
    cases hx; exact hw
theorem Fine.all {r : Res} {i : Nat} (h : Fine r i) (hi : ¬ i < r.tgts.length) : (weights r).all wOk = true := by
  rw [List.all_eq_true]
  intro x hx
  obtain ⟨j, hj⟩ := List.mem_iff_getElem?.1 hx
  have hjl := (List.getElem?_eq_some_iff.1 hj).1
  rw [weights_len] at hjl
  exact h j x (by omega) hj
theorem not_fine {r : Res} {i : Nat} {t : Tgt} (ht : r.tgts[i]? = some t) (hw : wOk t.weight = false) : (weights r).all wOk = false := by
  rw [Bool.eq_false_iff]
  intro h
  rw [List.all_eq_true] at h
  have := h t.weight (List.mem_of_getElem? (weights_at ht).1)
  rw [hw] at this; cases this
theorem add_fine {r : Res} {i : Nat} {t : Tgt} (hlt : ∀ x ∈ weights r, x < 18446744073709551616) (h : Fine r i) (ht : r.tgts[i]? = some t) (hw : wOk t.weight = true) :
    FloatKind.f64.format.add (Cum.sumTo (weights r) i) t.weight = some (Cum.sumTo (weights r) (i + 1)) := by
  have hi : i < (weights r).length := (List.getElem?_eq_some_iff.1 (weights_at ht).1).1
  have := Cum.add_step (weights r) hlt i hi h.take (by rw [(weights_at ht).2]; exact wOk_ge hw)
  rw [(weights_at ht).2] at this
  exact this
theorem heavy_bad {r : Res} (h : (weights r).all wOk = false) : heavy r = true := by unfold heavy; rw [h]; rfl
theorem heavy_sum {r : Res} (h : (weights r).all wOk = true) : heavy r = !sumOk (Cum.sumTo (weights r) r.tgts.length) := by unfold heavy; rw [h]; rfl
theorem rp_weights {w : World} {r : Res} {ev tv rv : Value} (h : RP w r ev tv rv) : ∀ x ∈ weights r, x < 18446744073709551616 := fun x hx => by
  obtain ⟨t, ht, rfl⟩ := List.mem_map.1 hx
  obtain ⟨i, hi⟩ := List.mem_iff_getElem?.1 ht
  obtain ⟨ao, cap, rfl⟩ := slice_shape h.t
  obtain ⟨_, _, _, _, _, _, _, _, _, h3⟩ := tgt_at h.t (Below.refl _ _) hi
  exact h3
end Go.Ck
namespace Go.Proofs.Ytjepgpocmnijiaa
open Go.RowKit Go.Mp Go.Ck
set_option linter.unusedVariables false
set_option maxRecDepth 100000
set_option maxHeartbeats 4000000
theorem heavy63 (r : Res) (ev tv rv : Value) (w : World) (hp : RP w r ev tv rv) :
    Calls Try.prog 63 #[.agg #[.int .i64 r.kind, .string r.name, ev, tv, .string r.host, rv, .string r.route, .bool r.del]] w fun e w' => e = .returned (.bool (heavy r)) ∧ Below w.heap.size w w' := by
  obtain ⟨eo, ec, rfl⟩ := slice_shape hp.e
  obtain ⟨ta, tc, rfl⟩ := slice_shape hp.t
  obtain ⟨ra, rc, rfl⟩ := slice_shape hp.ru
  have htl := hp.t.1
  have hws := rp_weights hp
  obtain ⟨w1, hw1⟩ : ∃ w1, w1 = w.alloc (.cells #[.int .i64 r.kind, .string r.name, .slice eo r.eps.length ec, .slice ta r.tgts.length tc, .string r.host, .slice ra r.rules.length rc, .string r.route, .bool r.del] 52) := ⟨_, rfl⟩
  have hb1 : Below w.heap.size w w1 := by rw [hw1]; exact alloc_below _ _
  obtain ⟨bk, hbk⟩ : ∃ bk, bk = w.heap.size := ⟨_, rfl⟩
  have hp1 := hp.below hb1
  clear hp
  obtain ⟨hv, hhv⟩ : ∃ hv, hv = heavy r := ⟨_, rfl⟩
  rw [← hhv]
  replace hw1 := Lib.hid hw1
  replace hbk := Lib.hid hbk
  replace hb1 := Lib.hid hb1
  replace hp1 := Lib.hid hp1
  replace hws := Lib.hid hws
  replace hhv := Lib.hid hhv
  go_enter Try.func63, Try.ntmps63
  go_wp2
  rw [← hbk.out, ← hw1.out]
  go_loopg [3, 9] (r.tgts.length + 1) (fun gg sv ic wr => ∃ i : Nat, gg = r.tgts.length - i + 1 ∧ i ≤ r.tgts.length ∧ ic = .int .i64 i ∧ sv = .float .f64 (Cum.sumTo (weights r) i) ∧ Hid (Fine r i) ∧ Hid (Below w1.heap.size w1 wr))
  case atStart => exact ⟨0, rfl, Nat.zero_le _, rfl, rfl, Lib.hid (fun j x hj => absurd hj (Nat.not_lt_zero j)), Lib.hid (Below.refl _ _)⟩
  case round =>
    obtain ⟨i, rfl, hi, rfl, rfl, hno, hbw⟩ := hrel
    by_cases hlt : i < r.tgts.length
    · obtain ⟨t, ht⟩ : ∃ t, r.tgts[i]? = some t := ⟨_, List.getElem?_eq_getElem hlt⟩
      obtain ⟨tb, toff, rfl, _, c0, c1, c2, _⟩ := tgt_at hp1.out.t hbw.out ht
      have hk0 : (i : Int) < (r.tgts.length : Int) := nn_lt hlt
      have hwk := Lib.hid (nn_succ2 hlt htl)
      have hbw2 := Lib.hid (seq_below hbw.out (alloc_below wr (.cells #[.string t.service, .string t.split, .float .f64 t.weight] 57)))
      obtain ⟨b1, hb⟩ : ∃ b, b = geF t.weight 0 := ⟨_, rfl⟩
      obtain ⟨b2, hb2⟩ : ∃ b, b = leF t.weight 4636737291354636288 := ⟨_, rfl⟩
      have hwo : wOk t.weight = (b1 && b2) := by rw [hb, hb2]; rfl
      have g1 : (FloatKind.f64.format.order t.weight 0 == some Ordering.gt || FloatKind.f64.format.order t.weight 0 == some Ordering.eq) = b1 := hb.symm
      have g2 : (FloatKind.f64.format.order t.weight 4636737291354636288 == some Ordering.lt || FloatKind.f64.format.order t.weight 4636737291354636288 == some Ordering.eq) = b2 := hb2.symm
      clear hb hb2
      cases b1 with
      | false =>
        have hh := heavy_bad (not_fine ht hwo)
        replace hwo := Lib.hid hwo
        replace ht := Lib.hid ht
        replace hno := Lib.hid hno
        replace hh := Lib.hid hh
        go_wp2
        go_ret
        exact ⟨ret_bool (by rw [hhv.out, hh.out]), seq_below hb1.out hbw2.out⟩
      | true =>
        cases b2 with
        | false =>
          have hh := heavy_bad (not_fine ht hwo)
          replace hwo := Lib.hid hwo
          replace ht := Lib.hid ht
          replace hno := Lib.hid hno
          replace hh := Lib.hid hh
          go_wp2
          go_ret
          exact ⟨ret_bool (by rw [hhv.out, hh.out]), seq_below hb1.out hbw2.out⟩
        | true =>
          have hadd : ∀ w, (binOp .add 55 (.float .f64 (Cum.sumTo (weights r) i)) (.float .f64 t.weight)).run Try.prog w = .ok (.float .f64 (Cum.sumTo (weights r) (i + 1))) w := fun w => run_float_arith w _ _ _ _ _ _ (add_fine hws.out hno.out ht hwo)
          have hno2 := hno.out.succ ht hwo
          replace hwo := Lib.hid hwo
          replace ht := Lib.hid ht
          replace hno := Lib.hid hno
          replace hno2 := Lib.hid hno2
          go_wp2
          go_roundg (r.tgts.length - (i + 1) + 1)
          case rel => exact ⟨i + 1, rfl, hlt, by first | rw [hwk.out] | go_num, rfl, hno2, hbw2⟩
          case measure => exact nn_downS hlt
    · have hk0 : decide ((i : Int) < (r.tgts.length : Int)) = false := decide_eq_false (by omega)
      have hil : i = r.tgts.length := by omega
      have hh := heavy_sum (hno.out.all hlt)
      rw [← hil] at hh
      generalize Cum.sumTo (weights r) i = s at *
      obtain ⟨b1, hb⟩ : ∃ b, b = geF s 4636737291287527424 := ⟨_, rfl⟩
      obtain ⟨b2, hb2⟩ : ∃ b, b = leF s 4636737291421745152 := ⟨_, rfl⟩
      have hwo : sumOk s = (b1 && b2) := by rw [hb, hb2]; rfl
      have g1 : (FloatKind.f64.format.order s 4636737291287527424 == some Ordering.gt || FloatKind.f64.format.order s 4636737291287527424 == some Ordering.eq) = b1 := hb.symm
      have g2 : (FloatKind.f64.format.order s 4636737291421745152 == some Ordering.lt || FloatKind.f64.format.order s 4636737291421745152 == some Ordering.eq) = b2 := hb2.symm
      rw [hwo] at hh
      clear hb hb2 hwo
      replace hno := Lib.hid hno
      replace hil := Lib.hid hil
      replace hh := Lib.hid hh
      cases b1 <;> cases b2
      all_goals
        go_wp2
        go_ret
        exact ⟨ret_bool (by rw [hhv.out, hh.out]; rfl), seq_below hb1.out hbw.out⟩
end Go.Proofs.Ytjepgpocmnijiaa
end

section
/- How deep splits are: the document's rounds and a search that keeps what it found come to the same. No program in sight. -/
namespace Go.Ck
set_option linter.unusedVariables false
def depthG (l : List Res) (n : ByteArray) : Int := if known l 8 n = 0 then 9 else (known l 8 n : Int)
theorem stepE_ge {e : ByteArray → Nat} : ∀ (ts : List Tgt) (a : Nat), stepE e ts a ≠ 0 → a ≤ stepE e ts a
  | [], a, _ => Nat.le_refl _
  | t :: ts, a, h => by
    unfold stepE at h ⊢
    by_cases h1 : noS t.service = true
    · rw [if_pos h1] at h ⊢
      by_cases h2 : e t.split = 0
      · rw [if_pos h2] at h; exact absurd rfl h
      · rw [if_neg h2] at h ⊢
        have := stepE_ge ts _ h
        omega
    · rw [if_neg h1] at h ⊢
      exact stepE_ge ts a h
theorem stepE_kid {e : ByteArray → Nat} : ∀ (ts : List Tgt) (a : Nat), stepE e ts a ≠ 0 → ∀ t ∈ ts, noS t.service = true → e t.split ≠ 0 ∧ e t.split + 1 ≤ stepE e ts a
  | [], a, _, t, ht, _ => by cases ht
  | u :: ts, a, h, t, ht, hs => by
    unfold stepE at h ⊢
    by_cases h1 : noS u.service = true
    · rw [if_pos h1] at h ⊢
      by_cases h2 : e u.split = 0
      · rw [if_pos h2] at h; exact absurd rfl h
      · rw [if_neg h2] at h ⊢
        rcases List.mem_cons.1 ht with rfl | ht
        · exact ⟨h2, by have := stepE_ge ts _ h; omega⟩
        · exact stepE_kid ts _ h t ht hs
    · rw [if_neg h1] at h ⊢
      rcases List.mem_cons.1 ht with rfl | ht
      · exact absurd hs h1
      · exact stepE_kid ts a h t ht hs
theorem stepE_congr {e e' : ByteArray → Nat} : ∀ (ts : List Tgt) (a : Nat), (∀ t ∈ ts, noS t.service = true → e t.split = e' t.split) → stepE e ts a = stepE e' ts a
  | [], a, _ => rfl
  | t :: ts, a, h => by
    unfold stepE
    by_cases h1 : noS t.service = true
    · rw [if_pos h1, if_pos h1, h t (.head _) h1]
      by_cases h2 : e' t.split = 0
      · rw [if_pos h2, if_pos h2]
      · rw [if_neg h2, if_neg h2]
        exact stepE_congr ts _ (fun u hu => h u (.tail _ hu))
    · rw [if_neg h1, if_neg h1]
      exact stepE_congr ts a (fun u hu => h u (.tail _ hu))
theorem stepE_le {e : ByteArray → Nat} {r : Nat} (he : ∀ n, e n ≤ r) : ∀ (ts : List Tgt) (a : Nat), a ≤ r + 1 → stepE e ts a ≤ r + 1
  | [], a, h => h
  | t :: ts, a, h => by
    unfold stepE
    by_cases h1 : noS t.service = true
    · rw [if_pos h1]
      by_cases h2 : e t.split = 0
      · rw [if_pos h2]; omega
      · rw [if_neg h2]
        have := he t.split
        exact stepE_le he ts _ (by omega)
    · rw [if_neg h1]
      exact stepE_le he ts a h
theorem known_succ {l : List Res} {n : ByteArray} (h : has l 2 n = true) (r : Nat) : known l (r + 1) n = stepE (known l r) (tgtsOf l n) 1 := by
  rw [known, if_pos h]
theorem known_has {l : List Res} {n : ByteArray} {r : Nat} (h : known l r n ≠ 0) : has l 2 n = true := by
  cases r with
  | zero => exact absurd rfl h
  | succ r =>
    by_cases h1 : has l 2 n = true
    · exact h1
    · rw [known, if_neg h1] at h; exact absurd rfl h
theorem known_le (l : List Res) : ∀ (r : Nat) (n : ByteArray), known l r n ≤ r
  | 0, n => Nat.le_refl _
  | r + 1, n => by
    unfold known
    split
    · exact stepE_le (known_le l r) _ _ (by omega)
    · omega
theorem known_mono (l : List Res) : ∀ (r : Nat) (n : ByteArray), known l r n ≠ 0 → known l (r + 1) n = known l r n
  | 0, n, h => absurd rfl h
  | r + 1, n, h => by
    have hh := known_has h
    rw [known_succ hh (r + 1), known_succ hh r]
    rw [known_succ hh r] at h
    exact (stepE_congr _ _ (fun t ht hs => (known_mono l r t.split (stepE_kid _ _ h t ht hs).1).symm)).symm
theorem known_up (l : List Res) {r s : Nat} (hrs : r ≤ s) {n : ByteArray} (h : known l r n ≠ 0) : known l s n = known l r n := by
  induction s with
  | zero => rw [Nat.le_zero.1 hrs]
  | succ s ih =>
    rcases Nat.lt_or_eq_of_le hrs with h1 | h1
    · have h2 := ih (by omega)
      rw [known_mono l s n (by rw [h2]; exact h), h2]
    · rw [h1]
theorem known_by (l : List Res) : ∀ (r : Nat) (n : ByteArray), known l r n ≠ 0 → known l (known l r n) n = known l r n
  | 0, n, h => absurd rfl h
  | r + 1, n, h => by
    have hh := known_has h
    have h1 := known_succ hh r
    obtain ⟨m, hm⟩ : ∃ m, m + 1 = known l (r + 1) n := ⟨known l (r + 1) n - 1, by omega⟩
    rw [← hm, known_succ hh m, hm, h1]
    rw [h1] at h
    refine stepE_congr _ _ (fun t ht hs => ?_)
    obtain ⟨k1, k2⟩ := stepE_kid _ _ h t ht hs
    have h3 := known_by l r t.split k1
    have h4 := known_up l (r := known l r t.split) (s := m) (n := t.split) (by rw [h1] at hm; omega) (by rw [h3]; exact k1)
    rw [h4, h3]
theorem depth_bd (l : List Res) (n : ByteArray) : 1 ≤ depthG l n ∧ depthG l n ≤ 9 := by
  unfold depthG
  have := known_le l 8 n
  split <;> omega
/-- One step of a search. -/
def accF (l : List Res) (a : Int) (t : Tgt) : Int := if noS t.service = true then max a (depthG l t.split) else a
def accL (l : List Res) (ts : List Tgt) : Int := ts.foldl (accF l) 0
theorem accL_snoc (l : List Res) {ts : List Tgt} {i : Nat} {t : Tgt} (h : ts[i]? = some t) : accL l (ts.take (i + 1)) = accF l (accL l (ts.take i)) t := by
  unfold accL
  have hi := (List.getElem?_eq_some_iff.1 h).1
  rw [List.take_succ_eq_append_getElem hi, List.foldl_append, (List.getElem?_eq_some_iff.1 h).2]; rfl
theorem fold_ge (l : List Res) : ∀ (ts : List Tgt) (a : Int), a ≤ ts.foldl (accF l) a
  | [], a => Int.le_refl _
  | t :: ts, a => by
    have := fold_ge l ts (accF l a t)
    have h2 : a ≤ accF l a t := by unfold accF; split <;> omega
    simp only [List.foldl_cons]; omega
theorem fold_kid (l : List Res) : ∀ (ts : List Tgt) (a : Int) (t : Tgt), t ∈ ts → noS t.service = true → depthG l t.split ≤ ts.foldl (accF l) a
  | u :: ts, a, t, ht, hs => by
    simp only [List.foldl_cons]
    rcases List.mem_cons.1 ht with rfl | ht
    · have := fold_ge l ts (accF l a t)
      have h2 : depthG l t.split ≤ accF l a t := by unfold accF; rw [if_pos hs]; omega
      omega
    · exact fold_kid l ts _ t ht hs
theorem fold_le (l : List Res) : ∀ (ts : List Tgt) (a : Int), a ≤ 9 → ts.foldl (accF l) a ≤ 9
  | [], a, h => h
  | t :: ts, a, h => by
    simp only [List.foldl_cons]
    refine fold_le l ts _ ?_
    have := (depth_bd l t.split).2
    unfold accF
    split <;> omega
theorem accL_bd (l : List Res) (ts : List Tgt) : 0 ≤ accL l ts ∧ accL l ts ≤ 9 := ⟨fold_ge l ts 0, fold_le l ts 0 (by decide)⟩
theorem step_fold (l : List Res) : ∀ (ts : List Tgt) (a : Nat), 1 ≤ a → (∀ t ∈ ts, noS t.service = true → known l 7 t.split ≠ 0) → (stepE (known l 7) ts a : Int) = ts.foldl (accF l) ((a : Int) - 1) + 1
  | [], a, h1, _ => by simp only [stepE, List.foldl_nil]; omega
  | t :: ts, a, h1, h => by
    unfold stepE
    simp only [List.foldl_cons]
    by_cases hs : noS t.service = true
    · have h2 := h t (.head _) hs
      have h3 := known_mono l 7 t.split h2
      rw [if_pos hs, if_neg h2, step_fold l ts _ (by omega) (fun u hu => h u (.tail _ hu))]
      unfold accF depthG
      rw [if_pos hs, if_neg (by rw [h3]; exact h2), h3]
      congr 2
      omega
    · rw [if_neg hs, step_fold l ts a h1 (fun u hu => h u (.tail _ hu))]
      unfold accF
      rw [if_neg hs]
theorem depth_fix {l : List Res} {n : ByteArray} (h : has l 2 n = true) : min (accL l (tgtsOf l n) + 1) 9 = depthG l n := by
  have hk := known_succ h 7
  by_cases hall : ∀ t ∈ tgtsOf l n, noS t.service = true → known l 7 t.split ≠ 0
  · have h1 := step_fold l (tgtsOf l n) 1 (Nat.le_refl _) hall
    have h2 := known_le l 8 n
    rw [← hk] at h1
    have h3 : (known l 8 n : Int) = accL l (tgtsOf l n) + 1 := h1
    have h4 := (accL_bd l (tgtsOf l n)).1
    unfold depthG
    rw [if_neg (by omega)]
    omega
  · obtain ⟨t, ht⟩ := Classical.not_forall.1 hall
    obtain ⟨hm, ht⟩ := Classical.not_imp.1 ht
    obtain ⟨hs, ht⟩ := Classical.not_imp.1 ht
    have ht0 : known l 7 t.split = 0 := Classical.not_not.1 ht
    have h0 : known l 8 n = 0 := Classical.byContradiction fun q => by
      rw [hk] at q
      exact (stepE_kid _ _ q t hm hs).1 ht0
    have h8 : 8 ≤ depthG l t.split := by
      unfold depthG
      split
      · decide
      · rename_i q
        have h5 := known_by l 8 t.split q
        have h6 := known_le l 8 t.split
        have h7 : ¬ known l 8 t.split ≤ 7 := fun h7 => by
          have := known_up l h7 (n := t.split) (by rw [h5]; exact q)
          rw [h5, ht0] at this
          exact q this.symm
        omega
    have h9 := fold_kid l (tgtsOf l n) 0 t hm hs
    have h10 : depthG l n = 9 := by unfold depthG; rw [if_pos h0]
    have h11 : depthG l t.split ≤ accL l (tgtsOf l n) := h9
    rw [h10]
    omega
/-! ### ways -/
def Edge (l : List Res) (n k : ByteArray) : Prop := has l 2 n = true ∧ ∃ t ∈ tgtsOf l n, noS t.service = true ∧ t.split = k
inductive Reach (l : List Res) : ByteArray → ByteArray → Prop
  | one {n k : ByteArray} : Edge l n k → Reach l n k
  | step {n k m : ByteArray} : Reach l n k → Edge l k m → Reach l n m
theorem edge_down {l : List Res} {n k : ByteArray} (h : Edge l n k) (hn : depthG l n ≤ 8) : depthG l k < depthG l n := by
  obtain ⟨hh, t, ht, hs, rfl⟩ := h
  have h1 := fold_kid l (tgtsOf l n) 0 t ht hs
  have h2 : depthG l t.split ≤ accL l (tgtsOf l n) := h1
  have h3 := depth_fix hh
  omega
theorem reach_down {l : List Res} {n k : ByteArray} (h : Reach l n k) (hn : depthG l n ≤ 8) : depthG l k < depthG l n := by
  induction h with
  | one h => exact edge_down h hn
  | step _ h ih => have := edge_down h (by omega); omega
theorem ring_nine {l : List Res} {n : ByteArray} (h : Reach l n n) : depthG l n = 9 := by
  have := (depth_bd l n).2
  by_cases h8 : depthG l n ≤ 8
  · have := reach_down h h8; omega
  · omega
theorem ring_iff {l : List Res} {n : ByteArray} : (8 < depthG l n) ↔ known l 8 n = 0 := by
  unfold depthG
  have := known_le l 8 n
  split <;> omega
/-! ### what has been found -/
abbrev Fnd := ByteArray → Option Int
def GoodK (l : List Res) (K : Fnd) : Prop := ∀ x v, K x = some v → v = -1 ∨ v = depthG l x
def UnderK (l : List Res) (K : Fnd) (n : ByteArray) : Prop := ∀ x, K x = some (-1) → Reach l x n
def ExtK (K K' : Fnd) : Prop := (∀ x v, K x = some v → K' x = some v) ∧ (∀ x, K' x = some (-1) → K x = some (-1))
theorem ExtK.refl (K : Fnd) : ExtK K K := ⟨fun _ _ h => h, fun _ h => h⟩
theorem ExtK.trans {A B C : Fnd} (h : ExtK A B) (h' : ExtK B C) : ExtK A C := ⟨fun x v hx => h'.1 x v (h.1 x v hx), fun x hx => h.2 x (h'.2 x hx)⟩
def putK (K : Fnd) (n : ByteArray) (v : Int) : Fnd := fun x => if x = n then some v else K x
def cnt (U : List ByteArray) (K : Fnd) : Nat := (U.filter fun x => (K x).isNone).length
theorem cnt_le {U : List ByteArray} {K K' : Fnd} (h : ∀ x v, K x = some v → K' x = some v) : cnt U K' ≤ cnt U K := by
  unfold cnt
  induction U with
  | nil => exact Nat.le_refl _
  | cons x U ih =>
    simp only [List.filter_cons]
    cases hk : K x with
    | none =>
      simp only [Option.isNone_none, if_true, List.length_cons]
      split
      · simp only [List.length_cons]; omega
      · omega
    | some v =>
      rw [h x v hk]
      simpa using ih
theorem cnt_put {U : List ByteArray} {K : Fnd} {n : ByteArray} (hn : n ∈ U) (hk : K n = none) (v : Int) : cnt U (putK K n v) < cnt U K := by
  induction U with
  | nil => cases hn
  | cons x U ih =>
    have hle : cnt U (putK K n v) ≤ cnt U K := cnt_le (fun y u hy => by
      unfold putK
      split
      · rename_i e; rw [e, hk] at hy; cases hy
      · exact hy)
    unfold cnt at *
    simp only [List.filter_cons]
    by_cases hx : x = n
    · subst hx
      have h1 : (putK K x v x).isNone = false := by unfold putK; rw [if_pos rfl]; rfl
      rw [h1, hk]
      simp only [Option.isNone_none, if_true, List.length_cons, Bool.false_eq_true, if_false]
      omega
    · have h1 : putK K n v x = K x := by unfold putK; rw [if_neg hx]
      have hm : n ∈ U := (List.mem_cons.1 hn).resolve_left (fun e => hx e.symm)
      have := ih hm
      rw [h1]
      split
      · simp only [List.length_cons]; omega
      · omega
theorem good_put {l : List Res} {K : Fnd} (h : GoodK l K) {n : ByteArray} {v : Int} (hv : v = -1 ∨ v = depthG l n) : GoodK l (putK K n v) := fun x u hx => by
  unfold putK at hx
  split at hx
  · rename_i e; cases hx; rw [e]; exact hv
  · exact h x u hx
theorem under_put {l : List Res} {K : Fnd} {n k : ByteArray} (h : UnderK l K n) (he : Edge l n k) : UnderK l (putK K n (-1)) k := fun x hx => by
  unfold putK at hx
  split at hx
  · rename_i e; rw [e]; exact .one he
  · exact .step (h x hx) he
theorem UnderK.ext {l : List Res} {K K' : Fnd} {n : ByteArray} (h : UnderK l K n) (he : ExtK K K') : UnderK l K' n := fun x hx => h x (he.2 x hx)
theorem ext_done {l : List Res} {K K2 : Fnd} {n : ByteArray} (hk : K n = none) (h : ExtK (putK K n (-1)) K2) : ExtK K (putK K2 n (depthG l n)) := by
  refine ⟨fun x v hx => ?_, fun x hx => ?_⟩
  · have hne : x ≠ n := fun e => by rw [e, hk] at hx; cases hx
    unfold putK
    rw [if_neg hne]
    exact h.1 x v (by unfold putK; rw [if_neg hne]; exact hx)
  · unfold putK at hx
    split at hx
    · have h1 := (depth_bd l n).1
      have h2 := Option.some.inj hx
      omega
    · rename_i hne
      have := h.2 x hx
      unfold putK at this
      rw [if_neg hne] at this
      exact this
end Go.Ck
end

section

namespace Go.Proofs.Ytjepgpocmnijiaa
open Go.RowKit Go.Mp Go.Ck
set_option linter.unusedVariables false
set_option maxRecDepth 100000
set_option maxHeartbeats 4000000
def kmap (K : Fnd) : ByteArray → Option Value := fun n => (K n).map (Value.int .i64)
theorem kmap_put (K : Fnd) (n : ByteArray) (v : Int) : upd (kmap K) n (.int .i64 v) = kmap (putK K n v) := by
  funext x
  unfold upd kmap putK
  by_cases h : x = n
  · rw [if_pos h, if_pos h]; rfl
  · rw [if_neg h, if_neg h]
/-- A split's resource as the map of splits has it. -/
def SplV (W0 : World) (l : List Res) (F : ByteArray → Option Value) : Prop := ∀ n, has l 2 n = true → ∃ (r : Res) (eo : Option Addr) (ec : Nat) (ta : Option Addr) (tc : Nat) (ra : Option Addr) (rc : Nat),
  F n = some (.agg #[.int .i64 r.kind, .string r.name, .slice eo r.eps.length ec, .slice ta r.tgts.length tc, .string r.host, .slice ra r.rules.length rc, .string r.route, .bool r.del]) ∧ RP W0 r (.slice eo r.eps.length ec) (.slice ta r.tgts.length tc) (.slice ra r.rules.length rc) ∧ r.tgts = tgtsOf l n
structure DS (W0 w : World) (db sb kb : Nat) (F : ByteArray → Option Value) (K : Fnd) : Prop where
  bel : Below W0.heap.size W0 w
  le : W0.heap.size ≤ kb
  c0 : w.cell? ⟨db, 0, none⟩ = some (.map (some sb))
  c1 : w.cell? ⟨db, 1, none⟩ = some (.map (some kb))
  sp : MapS nameKey w sb F
  kn : MapS nameKey w kb (kmap K)
  ne : sb ≠ kb
  nd : db ≠ kb
theorem DS.tch {W0 w w' : World} {db sb kb : Nat} {F : ByteArray → Option Value} {K : Fnd} (h : DS W0 w db sb kb F K) (t : Tch No w w') : DS W0 w' db sb kb F K :=
  ⟨Tch.below h.bel t h.bel.size (fun _ q => q.elim), h.le, t.cell_some h.c0 id, t.cell_some h.c1 id, h.sp.tch t id, h.kn.tch t id, h.ne, h.nd⟩
theorem DS.put {W0 w w' : World} {db sb kb : Nat} {F : ByteArray → Option Value} {K : Fnd} (h : DS W0 w db sb kb F K) {n : ByteArray} {v : Int} (hm : MapS nameKey w' kb (upd (kmap K) n (.int .i64 v))) (t : w.mapTurned w' kb) : DS W0 w' db sb kb F (putK K n v) := by
  have tt : Tch (fun k => k = kb) w w' := Tch.turned t rfl
  exact ⟨Tch.below h.bel tt h.bel.size (fun _ q => by rw [q]; exact h.le), h.le, tt.cell_some h.c0 h.nd, tt.cell_some h.c1 h.nd, h.sp.tch tt h.ne, by rw [← kmap_put]; exact hm, h.ne, h.nd⟩
def DepOut (W0 w : World) (db sb kb : Nat) (l : List Res) (F : ByteArray → Option Value) (K : Fnd) (n : ByteArray) (e : Ending) (w' : World) : Prop :=
  ∃ K', e = .returned (.int .i64 (depthG l n)) ∧ DS W0 w' db sb kb F K' ∧ GoodK l K' ∧ ExtK K K' ∧ Tch (fun k => k = kb) w w'
theorem spl_look {W0 w : World} {db sb kb : Nat} {F : ByteArray → Option Value} {K : Fnd} (h : DS W0 w db sb kb F K) {n : ByteArray} {v : Value} (hv : F n = some v) : (Instr.lookup 106 (.map (some sb)) (.string n) false).run Try.prog w = .ok v w := by
  have hz : (zeroValue 52).run Try.prog w = .ok (.agg #[.int .i64 0, .string ⟨#[]⟩, .slice none 0 0, .slice none 0 0, .string ⟨#[]⟩, .slice none 0 0, .string ⟨#[]⟩, .bool false]) w := by kernel_rfl
  have := h.sp.look (t := 106) (e := 52) Try.underlying106 hz false n
  rw [hv] at this
  exact this
theorem field3 (w : World) (k : Int) (n h o : ByteArray) (eo ta ra : Option Addr) (e1 e2 t1 t2 r1 r2 : Nat) (d : Bool) : (Instr.field 52 (.agg #[.int .i64 k, .string n, .slice eo e1 e2, .slice ta t1 t2, .string h, .slice ra r1 r2, .string o, .bool d]) 3).run Try.prog w = .ok (.slice ta t1 t2) w := by kernel_rfl
theorem of64_known {W0 : World} {db sb kb : Nat} {l : List Res} {F : ByteArray → Option Value} {K : Fnd} {n : ByteArray} {w : World} {v : Int} (hD : DS W0 w db sb kb F K) (hn : has l 2 n = true) (hg : GoodK l K) (hu : UnderK l K n) (hK : K n = some v) :
    Calls Try.prog 64 #[.pointer (some ⟨db, 0, none⟩), .string n] w (DepOut W0 w db sb kb l F K n) := by
  have hlk := hD.kn.look (t := 107) (e := 3) Try.underlying107 (z := .int .i64 0) (by kernel_rfl) true n
  have c0 := hD.c0
  have c1 := hD.c1
  have hv := hg n v hK
  replace hlk : (Instr.lookup 107 (.map (some kb)) (.string n) true).run Try.prog w = .ok (.tuple #[.int .i64 v, .bool true]) w := by
    have : kmap K n = some (.int .i64 v) := by unfold kmap; rw [hK]; rfl
    rw [this] at hlk; exact hlk
  by_cases hneg : v < 0
  · have hv1 : v = -1 := by have := (depth_bd l n).1; rcases hv with h | h <;> omega
    have h9 : depthG l n = 9 := ring_nine (hu n (by rw [hK, hv1]))
    have hout : DepOut W0 w db sb kb l F K n (.returned (.int .i64 9)) w := ⟨K, by rw [h9], hD, hg, ExtK.refl _, Tch.refl _ _⟩
    replace hK := Lib.hid hK
    replace hv1 := Lib.hid hv1
    replace h9 := Lib.hid h9
    replace hD := Lib.hid hD
    replace hn := Lib.hid hn
    replace hg := Lib.hid hg
    replace hu := Lib.hid hu
    replace hv := Lib.hid hv
    replace hout := Lib.hid hout
    go_enter Try.func64, Try.ntmps64
    go_wp2
    go_ret
    exact hout.out
  · have hv1 : v = depthG l n := by rcases hv with h | h <;> omega
    have hneg2 : decide (v < 0) = false := decide_eq_false hneg
    have hout : DepOut W0 w db sb kb l F K n (.returned (.int .i64 v)) w := ⟨K, by rw [hv1], hD, hg, ExtK.refl _, Tch.refl _ _⟩
    replace hK := Lib.hid hK
    replace hv1 := Lib.hid hv1
    replace hD := Lib.hid hD
    replace hn := Lib.hid hn
    replace hg := Lib.hid hg
    replace hu := Lib.hid hu
    replace hv := Lib.hid hv
    replace hout := Lib.hid hout
    clear hneg
    go_enter Try.func64, Try.ntmps64
    go_wp2
    go_ret
    exact hout.out
theorem of64_any {W0 : World} {db sb kb : Nat} {l : List Res} {F : ByteArray → Option Value} (hF : SplV W0 l F) (hND : ∀ n, has l 2 n = true → ∀ t ∈ tgtsOf l n, noS t.service = true → has l 2 t.split = true) {U : List ByteArray} (hU : ∀ n, has l 2 n = true → n ∈ U) :
    ∀ (m : Nat) (K : Fnd) (n : ByteArray) (w : World), cnt U K ≤ m → DS W0 w db sb kb F K → has l 2 n = true → GoodK l K → UnderK l K n → Calls Try.prog 64 #[.pointer (some ⟨db, 0, none⟩), .string n] w (DepOut W0 w db sb kb l F K n) := by
  intro m
  induction m with
  | zero =>
    intro K n w hm hD hn hg hu
    cases hK : K n with
    | none => exact absurd (cnt_put (hU n hn) hK 0) (by omega)
    | some v => exact of64_known hD hn hg hu hK
  | succ m ih =>
    intro K n w hm hD hn hg hu
    have hlk := hD.kn.look (t := 107) (e := 3) Try.underlying107 (z := .int .i64 0) (by kernel_rfl) true n
    have c0 := hD.c0
    have c1 := hD.c1
    cases hK : K n with
    | some v => exact of64_known hD hn hg hu hK
    | none =>
      replace hlk : (Instr.lookup 107 (.map (some kb)) (.string n) true).run Try.prog w = .ok (.tuple #[.int .i64 0, .bool false]) w := by
        have : kmap K n = none := by unfold kmap; rw [hK]; rfl
        rw [this] at hlk; exact hlk
      obtain ⟨r, eo, ec, ta, tc, ra, rc, hFn, hRP, hrt⟩ := hF n hn
      have hkn := hD.kn
      have hcnt : cnt U (putK K n (-1)) ≤ m := by have := cnt_put (hU n hn) hK (-1); omega
      have hfd := fun w => field3 w r.kind r.name r.host r.route eo ta ra r.eps.length ec r.tgts.length tc r.rules.length rc r.del
      replace hK := Lib.hid hK
      replace hD := Lib.hid hD
      replace hn := Lib.hid hn
      replace hg := Lib.hid hg
      replace hu := Lib.hid hu
      replace hFn := Lib.hid hFn
      replace hRP := Lib.hid hRP
      replace hrt := Lib.hid hrt
      replace hkn := Lib.hid hkn
      replace hcnt := Lib.hid hcnt
      clear hm
      go_enter Try.func64, Try.ntmps64
      go_wp2_with (first
        | (at_mapUpdate; refine wp_store rfl _ _ _ 107 rfl nameKey 3 Try.underlying107 kb (kmap K) n (.int .i64 (-1)) rfl hkn.out rfl rfl ?_; intro w1 hm1 ht1; have hD1 := DS.put hD.out hm1 ht1; have tt1 := Lib.hid (Tch.turned (S := fun k => k = kb) ht1 rfl); have d0 := hD1.c0; have d1 := hD1.c1; have hl2 := spl_look hD1 hFn.out; replace hm1 := Lib.hid hm1; replace ht1 := Lib.hid ht1; replace hD1 := Lib.hid hD1)
        | fail)
      have hG1 : Hid (GoodK l (putK K n (-1))) := Lib.hid (good_put hg.out (.inl rfl))
      have htl := hRP.out.t.1
      clear d0 d1 hl2 c0 c1 hlk
      go_loopg [7, 36] (r.tgts.length + 1) (fun gg av ic wr => ∃ (i : Nat) (K2 : Fnd), gg = r.tgts.length - i + 1 ∧ i ≤ r.tgts.length ∧ ic = .int .i64 i ∧ av = .int .i64 (accL l (r.tgts.take i)) ∧ Hid (DS W0 wr db sb kb F K2) ∧ Hid (GoodK l K2) ∧ Hid (ExtK (putK K n (-1)) K2) ∧ Hid (Tch (fun k => k = kb) w wr))
      case atStart => exact ⟨0, _, rfl, Nat.zero_le _, rfl, rfl, hD1, hG1, Lib.hid (ExtK.refl _), tt1⟩
      case round =>
        obtain ⟨i, K2, rfl, hi, rfl, rfl, hD2, hg2, hE2, tr⟩ := hrel
        obtain ⟨ha1, ha2⟩ := accL_bd l (r.tgts.take i)
        have d0 := hD2.out.c0
        have d1 := hD2.out.c1
        by_cases hlt : i < r.tgts.length
        · obtain ⟨t, ht⟩ : ∃ t, r.tgts[i]? = some t := ⟨_, List.getElem?_eq_getElem hlt⟩
          obtain ⟨tb, toff, rfl, _, e0, e1, e2, _⟩ := tgt_at hRP.out.t hD2.out.bel ht
          have hk0 : (i : Int) < (r.tgts.length : Int) := nn_lt hlt
          have hwk := Lib.hid (nn_succ2 hlt htl)
          have hsn := accL_snoc l ht
          unfold accF at hsn
          generalize accL l (r.tgts.take i) = a1 at *
          have tA := Lib.hid (Tch.alloc No wr (.cells #[.string t.service, .string t.split, .float .f64 t.weight] 57))
          have hDA := Lib.hid (hD2.out.tch tA.out)
          have trA := Lib.hid (tr.out.trans tA.out (fun _ q => q.elim))
          cases hs : t.service.toList.isEmpty with
          | true =>
            rw [if_pos (show noS t.service = true from hs)] at hsn
            have hmem : t ∈ tgtsOf l n := by rw [← hrt.out]; exact List.mem_of_getElem? ht
            have hIH := Lib.hid (ih K2 t.split _ (Nat.le_trans (cnt_le hE2.out.1) hcnt.out) hDA.out (hND n hn.out t hmem hs) hg2.out ((under_put hu.out ⟨hn.out, t, hmem, hs, rfl⟩).ext hE2.out))
            generalize hdg : depthG l t.split = dg at *
            replace hsn := Lib.hid hsn
            replace hmem := Lib.hid hmem
            replace ht := Lib.hid ht
            replace hdg := Lib.hid hdg
            go_wp2_with (first
              | (go_at_call 64; (with_reducible refine hIH.out.mono ?_); rintro e w3 ⟨K3, rfl, hD3, hg3, hE3, t3⟩; rw [hdg.out]; have tr3 := Lib.hid (trA.out.trans t3 (fun k q => .inl q)); replace hD3 := Lib.hid hD3; replace hg3 := Lib.hid hg3; replace hE3 := Lib.hid (hE2.out.trans hE3); replace t3 := Lib.hid t3)
              | fail)
            go_roundg (r.tgts.length - (i + 1) + 1)
            case rel => exact ⟨i + 1, K3, rfl, hlt, by first | rw [hwk.out] | go_num, by rw [hsn.out], hD3, hg3, hE3, tr3⟩
            case measure => exact nn_downS hlt
          | false =>
            rw [if_neg (by unfold noS; rw [hs]; simp)] at hsn
            replace hsn := Lib.hid hsn
            replace ht := Lib.hid ht
            go_wp2
            go_roundg (r.tgts.length - (i + 1) + 1)
            case rel => exact ⟨i + 1, K2, rfl, hlt, by first | rw [hwk.out] | go_num, by rw [hsn.out], hDA, hg2, hE2, trA⟩
            case measure => exact nn_downS hlt
        · have hk0 : decide ((i : Int) < (r.tgts.length : Int)) = false := decide_eq_false (by omega)
          have hfix := depth_fix hn.out
          rw [← hrt.out, ← List.take_of_length_le (show r.tgts.length ≤ i by omega)] at hfix
          have hkn2 := Lib.hid hD2.out.kn
          have hEd : Hid (ExtK K (putK K2 n (depthG l n))) := Lib.hid (ext_done hK.out hE2.out)
          have hGd : Hid (GoodK l (putK K2 n (depthG l n))) := Lib.hid (good_put hg2.out (.inr rfl))
          generalize hdg : depthG l n = dg at *
          generalize accL l (r.tgts.take i) = a1 at *
          replace hfix := Lib.hid hfix
          replace hdg := Lib.hid hdg
          go_wp2_with (first
            | (at_mapUpdate; refine wp_store rfl _ _ _ 107 rfl nameKey 3 Try.underlying107 kb (kmap K2) n (.int .i64 (min (a1 + 1) 9)) rfl hkn2.out rfl rfl ?_; intro w4 hm4 ht4; rw [hfix.out] at hm4; have hD4 := DS.put hD2.out hm4 ht4; have t4 := Lib.hid (tr.out.trans (Tch.turned (S := fun k => k = kb) ht4 rfl) (fun k q => .inl q)); replace hm4 := Lib.hid hm4; replace ht4 := Lib.hid ht4; replace hD4 := Lib.hid hD4)
            | fail)
          go_ret
          exact ⟨putK K2 n dg, ret_i (by rw [hfix.out, hdg.out]), hD4.out, hGd.out, hEd.out, t4.out⟩
end Go.Proofs.Ytjepgpocmnijiaa
end
