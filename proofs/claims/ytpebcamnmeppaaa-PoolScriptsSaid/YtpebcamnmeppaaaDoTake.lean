/- A call at both pools. -/
import Derived.Test.YtpebcamnmeppaaaBox
namespace Go.Proofs.Ytpebcamnmeppaaa
open Go.RowKit Go.Mp Go.Po
set_option linter.unusedVariables false
set_option maxRecDepth 100000
set_option maxHeartbeats 4000000
theorem does_take {w : World} {B : Nat} {S0 : Nat → Prop} {a b : Option Addr} {n : Nat} {s : St} {cn nw : Int} {nm : ByteArray} (hm : Mid w B S0 a b w.heap.size (boxO 0 nm cn nw) n n (w.alloc (boxO 0 nm cn nw)) s s) (hB : B ≤ w.heap.size) (hn : n < 4398046511000) (hs : a ≠ none → Inv s) :
    Calls Try.prog 19 #[.pointer a, .pointer b, .agg #[.int .i64 0, .string nm, .int .i64 cn, .int .i64 nw]] w fun e' w' => e' = .returned (.bool true) ∧ ∃ s', Mid w B S0 a b w.heap.size (boxO 0 nm cn nw) (n + 1) (n + 1) w' s' s' := by
  obtain ⟨w1, hw1⟩ : ∃ w1, w1 = w.alloc (boxO 0 nm cn nw) := ⟨_, rfl⟩
  rw [← hw1] at hm
  have b0 := hm.c0
  have b1 := hm.c1
  have b2 := hm.c2
  have b3 := hm.c3
  obtain ⟨cb, hcb⟩ : ∃ cb, cb = w.heap.size := ⟨_, rfl⟩
  rw [← hcb] at hm b0 b1 b2 b3
  replace hm := Lib.hid hm
  go_enter Try.func19, Try.ntmps19
  go_upto_region 1 with fail
  rw [← hw1, ← hcb]
  replace hw1 := Lib.hid hw1
  replace hcb := Lib.hid hcb
  have e1 : ((aTake a s nm).1 == (aTake a s nm).1) = true := beq_self_eq_true _
  have e2 : ((aTake a s nm).2.1 == (aTake a s nm).2.1) = true := beq_self_eq_true _
  have e3 : ((aTake a s nm).2.2 == (aTake a s nm).2.2) = true := beq_self_eq_true _
  generalize hA : aTake a s nm = A at e1 e2 e3
  have hp := Lib.hid (hm.out.p_take hB hn nm)
  rw [hA] at hp
  have hr : ∀ w2, Mid w B S0 a b cb (boxO 0 nm cn nw) (n + 1) n w2 (take s nm).2 s → Calls Try.prog 26 #[.pointer b, .string nm] w2 fun e' w' => e' = .returned (.tuple #[.int .i64 A.1, .bool A.2.1, .int .i64 A.2.2]) ∧ Mid w B S0 a b cb (boxO 0 nm cn nw) (n + 1) (n + 1) w' (take s nm).2 (take s nm).2 := fun w2 h => by
    have := h.r_take hB hn hs nm
    rw [hA] at this
    exact this
  replace hA := Lib.hid hA
  replace hr := Lib.hid hr
  obtain ⟨x1, x2, x3⟩ := A
  dsimp only at e1 e2 e3 hp hr
  go_wp2_with (first
    | (go_at_call 8; refine hp.out.mono ?_; clear hp; rintro _ w2 ⟨rfl, hm⟩; clear b1; have b1 := hm.c1; replace hm := Lib.hid hm)
    | (go_at_call 26; refine (hr.out _ hm.out).mono ?_; clear hr; rintro _ w3 ⟨rfl, hm⟩; replace hm := Lib.hid hm)
    | (go_at_call 18; refine (num_any _).mono ?_; rintro _ w4 ⟨rfl, rfl⟩)
    | fail)
  go_ret
  rw [← hcb.out]
  exact ⟨rfl, _, hm.out⟩
end Go.Proofs.Ytpebcamnmeppaaa
