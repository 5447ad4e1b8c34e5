/- Expire at both pools. -/
import Derived.Test.YtpebcamnmeppaaaBox
namespace Go.Proofs.Ytpebcamnmeppaaa
open Go.RowKit Go.Mp Go.Po
set_option linter.unusedVariables false
set_option maxRecDepth 100000
set_option maxHeartbeats 4000000
theorem mid_partsR {w0 w w' : World} {B : Nat} {S0 FP FR : Nat → Prop} {cb p q : Nat} {o : Obj} {np : Nat} {sp sr sr' : St} (t : Tch S0 w0 w) (bx : w.heap[cb]? = some o) (hP : PoolM w B FP p sp np) (hR : RefM w B FR q sr) (hd : ∀ k, FP k → ¬ FR k) (hS : ∀ k, FP k ∨ FR k → S0 k ∨ w0.heap.size ≤ k) (hc : ¬ FP cb ∧ ¬ FR cb)
    (h : RPost w B FR q sr' w') : ∃ F', Tch S0 w0 w' ∧ w'.heap[cb]? = some o ∧ PoolM w' B FP p sp np ∧ RefM w' B F' q sr' ∧ (∀ k, FP k → ¬ F' k) ∧ (∀ k, FP k ∨ F' k → S0 k ∨ w0.heap.size ≤ k) ∧ (¬ FP cb ∧ ¬ F' cb) ∧ Tch FR w w' := by
  obtain ⟨F', h1, h2, h3⟩ := h
  have hcl := (Array.getElem?_eq_some_iff.1 bx).1
  refine ⟨F', t.trans h2 (fun k hk => hS k (.inr hk)), (h2.block cb hcl hc.2).trans bx, hP.tch h2 (fun k hk h => hd k hk h), h1, fun k hk hr => ?_, fun k hk => ?_, ⟨hc.1, fun h => ?_⟩, h2⟩
  · rcases h3 k hr with h | h
    · exact hd k hk h
    · have := (hP.lt k hk).2; omega
  · rcases hk with hk | hk
    · exact hS k (.inl hk)
    · rcases h3 k hk with h | h
      · exact hS k (.inr h)
      · exact .inr (Nat.le_trans t.size h)
  · rcases h3 cb h with h | h
    · exact hc.2 h
    · omega
theorem box_cells {w : World} {cb : Nat} {kd cn nw : Int} {nm : ByteArray} (h : w.heap[cb]? = some (boxO kd nm cn nw)) : w.cell? ⟨cb, 3, none⟩ = some (.int .i64 nw) := (cell_of_row _ _ 3 _ _ _ h).trans rfl
theorem ri_nil (w : World) : RI w (.slice none 0 0) [] := ⟨none, 0, rfl, fun i x hx => by simp at hx⟩
theorem does_expire_none {w : World} {B : Nat} {S0 : Nat → Prop} {n : Nat} {s : St} {cn nw : Int} {nm : ByteArray} (hm : Mid w B S0 none none w.heap.size (boxO 5 nm cn nw) n n (w.alloc (boxO 5 nm cn nw)) s s) (hB : B ≤ w.heap.size) (hn : n < 4398046511000) :
    Calls Try.prog 19 #[(.pointer none), (.pointer none), .agg #[.int .i64 5, .string nm, .int .i64 cn, .int .i64 nw]] w fun e' w' => e' = .returned (.bool true) ∧ ∃ s', Mid w B S0 none none w.heap.size (boxO 5 nm cn nw) (n + 1) (n + 1) w' s' s' := by
  obtain ⟨w1, hw1⟩ : ∃ w1, w1 = w.alloc (boxO 5 nm cn nw) := ⟨_, rfl⟩
  rw [← hw1] at hm
  have b0 := hm.c0
  have b3 := hm.c3
  obtain ⟨cb, hcb⟩ : ∃ cb, cb = w.heap.size := ⟨_, rfl⟩
  rw [← hcb] at hm b0 b3
  replace hm := Lib.hid hm
  go_enter Try.func19, Try.ntmps19
  go_upto_region 1 with fail
  rw [← hw1, ← hcb]
  replace hw1 := Lib.hid hw1
  replace hcb := Lib.hid hcb
  go_upto_region 15 with fail
  have hm := Lib.hid (hm.out.same (Tch.drew No w1))
  clear b0 b3
  go_region_held3 (fun w' => w'.cell? ⟨cb, 3, none⟩ = some (.int .i64 nw)) (first | exact hm.out.cells.2.2 | fail) (first
    | (go_at_call 11; refine (nexpire nw).mono ?_; rintro _ w2 ⟨rfl, rfl⟩)
    | (go_at_call 32; refine (rnexpire nw).mono ?_; rintro _ w2 ⟨rfl, rfl⟩)
    | (go_at_call 31; refine (ints_same (ri_nil _) (ri_nil _) (by decide)).mono ?_; rintro _ w4 ⟨rfl, hT⟩; have hm := Lib.hid (hm.out.same hT))
    | fail)
  all_goals
    go_wp2
    go_ret
    rw [← hcb.out]
    exact ⟨rfl, s, hm.out.t, hm.out.bx, .inl ⟨rfl, rfl⟩⟩
theorem does_expire {w : World} {B : Nat} {S0 : Nat → Prop} {a b : Option Addr} {n : Nat} {s : St} {cn nw : Int} {nm : ByteArray} (hm : Mid w B S0 a b w.heap.size (boxO 5 nm cn nw) n n (w.alloc (boxO 5 nm cn nw)) s s) (hB : B ≤ w.heap.size) (hn : n < 4398046511000) (hs : a ≠ none → Inv s) :
    Calls Try.prog 19 #[.pointer a, .pointer b, .agg #[.int .i64 5, .string nm, .int .i64 cn, .int .i64 nw]] w fun e' w' => e' = .returned (.bool true) ∧ ∃ s', Mid w B S0 a b w.heap.size (boxO 5 nm cn nw) (n + 1) (n + 1) w' s' s' := by
  rcases (id hm).alt with ⟨rfl, rfl⟩ | ⟨p, q, FP, FR, rfl, rfl, hP0, hR0, hd, hS, hc, h8, h9⟩
  · exact does_expire_none hm hB hn
  have hlp := h8
  unfold Len at hlp
  have hlen : s.free.length < 4398046511000 := by omega
  have hxl := len_expired h8 nw
  have hxl' : (expire s nw).1.length < 4611686018427387904 := by omega
  obtain ⟨w1, hw1⟩ : ∃ w1, w1 = w.alloc (boxO 5 nm cn nw) := ⟨_, rfl⟩
  rw [← hw1] at hm hP0 hR0
  have b0 := hm.c0
  have b3 := hm.c3
  obtain ⟨cb, hcb⟩ : ∃ cb, cb = w.heap.size := ⟨_, rfl⟩
  rw [← hcb] at hm b0 b3 hc
  have t0 := hm.t.trans (Tch.drew No w1) (fun _ h => h.elim)
  have x0 : w1.drew.heap[cb]? = some (boxO 5 nm cn nw) := hm.bx
  replace hP0 := Lib.hid (hP0.tch (Tch.drew No w1) (fun _ _ h => h))
  replace hR0 := Lib.hid (hR0.tch (Tch.drew No w1) (fun _ _ h => h))
  have hB0 := Lib.hid (Nat.le_trans hB t0.size)
  have hFP := Lib.hid (fun k hk => (hP0.out.lt k hk).2)
  have hFR := Lib.hid (fun k hk => (hR0.out.lt k hk).2)
  have hx := Lib.hid x0
  replace t0 := Lib.hid t0
  clear x0 hm
  replace hd := Lib.hid hd
  replace hS := Lib.hid hS
  replace hc := Lib.hid hc
  replace h8 := Lib.hid h8
  replace h9 := Lib.hid h9
  clear hlp
  go_enter Try.func19, Try.ntmps19
  go_upto_region 1 with fail
  rw [← hw1, ← hcb]
  replace hw1 := Lib.hid hw1
  replace hcb := Lib.hid hcb
  go_upto_region 15 with fail
  clear b0 b3
  go_region_held3 (fun w' => w'.cell? ⟨cb, 3, none⟩ = some (.int .i64 nw)) (first | exact box_cells hx.out | fail) (first
    | (go_at_call 11; have _t := hP0; refine (expire_any hP0.out nw (by omega)).mono ?_; clear _t; rintro _ w2 ⟨v1, rfl, hr1, hP2, hT2⟩; obtain ⟨o1, c1, rfl⟩ := ownsRow_shape hr1; have hR2 := Lib.hid (hR0.out.tch hT2 (fun k hk h => hd.out k h hk)); have x2 := Lib.hid ((hT2.block cb (Array.getElem?_eq_some_iff.1 hx.out).1 hc.out.1).trans hx.out); clear hx; have hx := x2; clear x2; have t2 := Lib.hid (t0.out.trans hT2 (fun k hk => hS.out k (.inl hk))); replace hP2 := Lib.hid (hP2.mono (Nat.le_succ n)); replace hr1 := Lib.hid hr1; have hB2 := Lib.hid (Nat.le_trans hB t2.out.size); clear hP0 hR0 hT2)
    | (go_at_call 32; have _t := hR0; refine (rexpire_any hR0.out (by omega) hB0.out nw).mono ?_; clear _t; rintro _ w2 ⟨v2, rfl, hr2, hPo⟩; obtain ⟨o2, c2, rfl⟩ := ownsRow_shape hr2; obtain ⟨F2, t2, x2, hP1, hM2, hd2, hS2, hc2, hT2⟩ := mid_partsR t0.out hx.out hP0.out hR0.out hd.out hS.out hc.out hPo; replace x2 := Lib.hid x2; clear hx; have hx := x2; clear x2; replace t2 := Lib.hid t2; replace hP1 := Lib.hid hP1; replace hM2 := Lib.hid hM2; replace hd2 := Lib.hid hd2; replace hS2 := Lib.hid hS2; replace hc2 := Lib.hid hc2; replace hr2 := Lib.hid hr2; clear hP0 hR0 hT2 hPo)
    | (go_at_call 32; have _t := hR2; refine (rexpire_any hR2.out (by omega) hB2.out nw).mono ?_; clear _t; rintro _ w3 ⟨v2, rfl, hr2, hPo⟩; obtain ⟨o2, c2, rfl⟩ := ownsRow_shape hr2; have hI := Lib.hid (And.intro (ri_own (ownsRow_tch hr1.out hPo.choose_spec.2.1 (fun g hg hf => Nat.lt_irrefl _ (Nat.lt_of_lt_of_le (hFR.out g hf) (ownsRow_ge hr1.out hg).1)))) (ri_own hr2)); have hm := Lib.hid (mid_postR t2.out hx.out hP2.out hR2.out hd.out hS.out hc.out (len_expire h8.out nw) (len_expire h9.out nw) hPo); clear hx; have hx := Lib.hid hm.out.bx; clear hr2 hPo hR2)
    | (go_at_call 11; have _t := hP1; refine (expire_any hP1.out nw (by omega)).mono ?_; clear _t; rintro _ w3 ⟨v1, rfl, hr1, hP3, hT3⟩; obtain ⟨o1, c1, rfl⟩ := ownsRow_shape hr1; have hI := Lib.hid (And.intro (ri_own hr1) (ri_own (ownsRow_tch hr2.out hT3 (fun g hg hf => Nat.lt_irrefl _ (Nat.lt_of_lt_of_le (hFP.out g hf) (ownsRow_ge hr2.out hg).1))))); have hm := Lib.hid (mid_postP t2.out hx.out hP1.out hM2.out hd2.out hS2.out hc2.out (len_expire h8.out nw) (len_expire h9.out nw) ⟨FP, hP3.mono (Nat.le_succ n), hT3, fun _ h => .inl h⟩); clear hx; have hx := Lib.hid hm.out.bx; clear hr1 hP1)
    | (go_at_call 31; have _t := hI; refine (ints_same hI.out.1 hI.out.2 hxl').mono ?_; clear _t hI; rintro _ w4 ⟨rfl, hT4⟩; have hm4 := Lib.hid (hm.out.same hT4); clear hx; have hx := Lib.hid hm4.out.bx; clear hT4)
    | fail)
  all_goals
    go_wp2
    go_ret
    rw [← hcb.out]
    exact ⟨rfl, _, hm4.out⟩
end Go.Proofs.Ytpebcamnmeppaaa
