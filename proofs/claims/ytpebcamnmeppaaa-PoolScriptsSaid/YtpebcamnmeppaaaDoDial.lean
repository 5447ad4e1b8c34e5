/- A call at both pools. -/
import Derived.Test.YtpebcamnmeppaaaBox
namespace Go.Proofs.Ytpebcamnmeppaaa
open Go.RowKit Go.Mp Go.Po
set_option linter.unusedVariables false
set_option maxRecDepth 100000
set_option maxHeartbeats 4000000
theorem does_dial {w : World} {B : Nat} {S0 : Nat → Prop} {a b : Option Addr} {n : Nat} {s : St} {cn nw : Int} {nm : ByteArray} (hm : Mid w B S0 a b w.heap.size (boxO 1 nm cn nw) n n (w.alloc (boxO 1 nm cn nw)) s s) (hB : B ≤ w.heap.size) (hn : n < 4398046511000) (hs : a ≠ none → Inv s) (hcn : -9223372036854775808 ≤ cn ∧ cn ≤ 9223372036854775807) :
    Calls Try.prog 19 #[.pointer a, .pointer b, .agg #[.int .i64 1, .string nm, .int .i64 cn, .int .i64 nw]] w fun e' w' => e' = .returned (.bool true) ∧ ∃ s', Mid w B S0 a b w.heap.size (boxO 1 nm cn nw) (n + 1) (n + 1) w' s' s' := by
  obtain ⟨w1, hw1⟩ : ∃ w1, w1 = w.alloc (boxO 1 nm cn nw) := ⟨_, rfl⟩
  rw [← hw1] at hm
  have b0 := hm.c0
  have b1 := hm.c1
  have b2 := hm.c2
  have b3 := hm.c3
  obtain ⟨cb, hcb⟩ : ∃ cb, cb = w.heap.size := ⟨_, rfl⟩
  rw [← hcb] at hm b0 b1 b2 b3
  replace hm := Lib.hid hm
  go_enter Try.func19, Try.ntmps19
  go_upto_region 1 with fail
  rw [← hw1, ← hcb]
  replace hw1 := Lib.hid hw1
  replace hcb := Lib.hid hcb
  go_upto_region 7 with fail
  have e1 : ((aDial a s nm cn) == (aDial a s nm cn)) = true := beq_self_eq_true _
  have e2 : ((aDial a s nm cn) != (aDial a s nm cn)) = false := bne_self_eq_false _
  have hm := Lib.hid (hm.out.same (Tch.drew No w1))
  clear b0 b1 b2 b3
  go_region_held3 (fun w' => w'.cell? ⟨cb, 1, none⟩ = some (.string nm) ∧ w'.cell? ⟨cb, 2, none⟩ = some (.int .i64 cn) ∧ w'.cell? ⟨cb, 3, none⟩ = some (.int .i64 nw)) (first | exact hm.out.cells | fail) (first
    | (go_at_call 9; refine (hm.out.p_dial hB hn nm cn hcn.2).mono ?_; clear hm; rintro _ w2 ⟨rfl, hm⟩; replace hm := Lib.hid hm)
    | (go_at_call 27; refine (hm.out.r_dial hB hn hs nm cn).mono ?_; clear hm; rintro _ w2 ⟨rfl, hm⟩; replace hm := Lib.hid hm)
    | (go_at_call 18; refine (num_any _).mono ?_; rintro _ w4 ⟨rfl, rfl⟩)
    | fail)
  all_goals
    go_wp2
    go_ret
    rw [← hcb.out]
    exact ⟨rfl, _, hm.out⟩
end Go.Proofs.Ytpebcamnmeppaaa
