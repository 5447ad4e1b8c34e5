/- Both pools as one thing; a call at both, counts and places at both; New at both. -/
import Derived.Test.YtpebcamnmeppaaaDoTake
import Derived.Test.YtpebcamnmeppaaaDoDial
import Derived.Test.YtpebcamnmeppaaaDoFail
import Derived.Test.YtpebcamnmeppaaaDoPut
import Derived.Test.YtpebcamnmeppaaaDoPoison
import Derived.Test.YtpebcamnmeppaaaDoExpire
namespace Go.Proofs.Ytpebcamnmeppaaa
open Go.RowKit Go.Mp Go.Po
set_option linter.unusedVariables false
set_option maxRecDepth 100000
theorem does_other {w : World} {B : Nat} {S0 : Nat → Prop} {a b : Option Addr} {n : Nat} {s : St} {kd cn nw : Int} {nm : ByteArray} (hm : Mid w B S0 a b w.heap.size (boxO kd nm cn nw) n n (w.alloc (boxO kd nm cn nw)) s s)
    (h0 : kd ≠ 0) (h1 : kd ≠ 1) (h2 : kd ≠ 2) (h3 : kd ≠ 3) (h4 : kd ≠ 4) (h5 : kd ≠ 5) :
    Calls Try.prog 19 #[.pointer a, .pointer b, .agg #[.int .i64 kd, .string nm, .int .i64 cn, .int .i64 nw]] w fun e' w' => e' = .returned (.bool true) ∧ ∃ s', Mid w B S0 a b w.heap.size (boxO kd nm cn nw) (n + 1) (n + 1) w' s' s' := by
  have k0 : (kd == 0) = false := by rw [beq_eq_false_iff_ne]; exact h0
  have k1 : (kd == 1) = false := by rw [beq_eq_false_iff_ne]; exact h1
  have k2 : (kd == 2) = false := by rw [beq_eq_false_iff_ne]; exact h2
  have k3 : (kd == 3) = false := by rw [beq_eq_false_iff_ne]; exact h3
  have k4 : (kd == 4) = false := by rw [beq_eq_false_iff_ne]; exact h4
  have k5 : (kd == 5) = false := by rw [beq_eq_false_iff_ne]; exact h5
  clear h0 h1 h2 h3 h4 h5
  obtain ⟨w1, hw1⟩ : ∃ w1, w1 = w.alloc (boxO kd nm cn nw) := ⟨_, rfl⟩
  rw [← hw1] at hm
  have b0 := hm.c0
  obtain ⟨cb, hcb⟩ : ∃ cb, cb = w.heap.size := ⟨_, rfl⟩
  rw [← hcb] at hm b0
  have hm' : Mid w B S0 a b cb (boxO kd nm cn nw) (n + 1) (n + 1) w1 s s := ⟨hm.t, hm.bx, by
    rcases hm.alt with h1 | ⟨p, q, FP, FR, h1, h2, h3, h4, h5, h6, h7, h8, h9⟩
    · exact .inl h1
    · exact .inr ⟨p, q, FP, FR, h1, h2, h3.mono (Nat.le_succ n), h4, h5, h6, h7, Nat.le_succ_of_le h8, Nat.le_succ_of_le h9⟩⟩
  replace hm := Lib.hid hm'
  clear hm'
  go_enter Try.func19, Try.ntmps19
  go_upto_region 1 with fail
  rw [← hw1, ← hcb]
  replace hw1 := Lib.hid hw1
  replace hcb := Lib.hid hcb
  go_wp2
  go_ret
  rw [← hcb.out]
  exact ⟨rfl, _, hm.out⟩
def Pr (w : World) (B : Nat) (F : Nat → Prop) (a b : Option Addr) (s : St) (n : Nat) : Prop :=
  ((a = none ∧ b = none) ∧ ∀ k, ¬ F k) ∨ ∃ p q FP FR, a = some ⟨p, 0, none⟩ ∧ b = some ⟨q, 0, none⟩ ∧ PoolM w B FP p s n ∧ RefM w B FR q s ∧ (∀ k, FP k → ¬ FR k) ∧ (∀ k, F k ↔ FP k ∨ FR k) ∧ Len s n
section
variable {w w' : World} {B : Nat} {F S : Nat → Prop} {a b : Option Addr} {s : St} {n : Nat}
theorem Pr.tch (h : Pr w B F a b s n) (t : Tch S w w') (hn : ∀ k, F k → ¬ S k) : Pr w' B F a b s n := by
  rcases h with h | ⟨p, q, FP, FR, h1, h2, h3, h4, h5, h6, h7⟩
  · exact .inl h
  · exact .inr ⟨p, q, FP, FR, h1, h2, h3.tch t (fun k hk => hn k ((h6 k).2 (.inl hk))), h4.tch t (fun k hk => hn k ((h6 k).2 (.inr hk))), h5, h6, h7⟩
theorem Pr.lt (h : Pr w B F a b s n) : ∀ k, F k → B ≤ k ∧ k < w.heap.size := by
  rcases h with h | ⟨p, q, FP, FR, h1, h2, h3, h4, h5, h6, h7⟩
  · exact fun k hk => (h.2 k hk).elim
  · intro k hk
    rcases (h6 k).1 hk with hk | hk
    · exact h3.lt k hk
    · exact h4.lt k hk
theorem pr_none : Pr w B (fun _ => False) none none s n := .inl ⟨⟨rfl, rfl⟩, fun _ h => h⟩
theorem does_pr (h : Pr w B F a b s n) (hB : B ≤ w.heap.size) (hn : n < 4398046511000) (kd cn nw : Int) (nm : ByteArray) (hcn : -9223372036854775808 ≤ cn ∧ cn ≤ 9223372036854775807) (hnw : -9223372036854775808 ≤ nw ∧ nw ≤ 9223372036854775807) :
    Calls Try.prog 19 #[.pointer a, .pointer b, .agg #[.int .i64 kd, .string nm, .int .i64 cn, .int .i64 nw]] w fun e' w' => e' = .returned (.bool true) ∧ ∃ s' F', Pr w' B F' a b s' (n + 1) ∧ Tch F w w' ∧ ∀ k, F' k → F k ∨ w.heap.size ≤ k := by
  have hm : Mid w B F a b w.heap.size (boxO kd nm cn nw) n n (w.alloc (boxO kd nm cn nw)) s s := ⟨Tch.alloc F w _, heap_alloc_new w _, by
    rcases h with h | ⟨p, q, FP, FR, h1, h2, h3, h4, h5, h6, h7⟩
    · exact .inl h.1
    · exact .inr ⟨p, q, FP, FR, h1, h2, h3.tch (Tch.alloc No w _) (fun _ _ h => h), h4.tch (Tch.alloc No w _) (fun _ _ h => h), h5, fun k hk => .inl ((h6 k).2 hk), ⟨fun hk => by have := (h3.lt _ hk).2; omega, fun hk => by have := (h4.lt _ hk).2; omega⟩, h7, h7⟩⟩
  have hs : a ≠ none → Inv s := fun ha => by
    rcases h with h | ⟨p, q, FP, FR, h1, h2, h3, _⟩
    · exact (ha h.1.1).elim
    · exact h3.inv
  have key : Calls Try.prog 19 #[.pointer a, .pointer b, .agg #[.int .i64 kd, .string nm, .int .i64 cn, .int .i64 nw]] w fun e' w' => e' = .returned (.bool true) ∧ ∃ s', Mid w B F a b w.heap.size (boxO kd nm cn nw) (n + 1) (n + 1) w' s' s' := by
    by_cases h0 : kd = 0
    · subst h0; exact does_take hm hB hn hs
    by_cases h1 : kd = 1
    · subst h1; exact does_dial hm hB hn hs hcn
    by_cases h2 : kd = 2
    · subst h2; exact does_fail hm hB hn hs
    by_cases h3 : kd = 3
    · subst h3; exact does_put hm hB hn hs hnw
    by_cases h4 : kd = 4
    · subst h4; exact does_poison hm hB hn hs
    by_cases h5 : kd = 5
    · subst h5; exact does_expire hm hB hn hs
    exact does_other hm h0 h1 h2 h3 h4 h5
  refine key.mono ?_
  rintro e' w' ⟨rfl, s', hM⟩
  refine ⟨rfl, s', ?_⟩
  rcases hM.alt with h1 | ⟨p, q, FP, FR, h1, h2, h3, h4, h5, h6, h7, h8, h9⟩
  · exact ⟨fun _ => False, .inl ⟨h1, fun _ h => h⟩, hM.t, fun _ h => h.elim⟩
  · exact ⟨fun k => FP k ∨ FR k, .inr ⟨p, q, FP, FR, h1, h2, h3, h4, h5, fun _ => Iff.rfl, h8⟩, hM.t, h6⟩
theorem counts_pr (h : Pr w B F a b s n) (e : ByteArray) : Calls Try.prog 13 #[.pointer a, .string e] w fun e' w' => e' = .returned (.tuple #[.int .i64 (aCounts a s e).1, .int .i64 (aCounts a s e).2.1, .int .i64 (aCounts a s e).2.2]) ∧ Tch No w w' := by
  rcases h with ⟨⟨rfl, rfl⟩, _⟩ | ⟨p, q, FP, FR, rfl, rfl, h3, _⟩
  · refine (ncounts e).mono ?_
    rintro _ w' ⟨rfl, rfl⟩
    exact ⟨rfl, Tch.refl _ _⟩
  · exact counts_any h3 e
theorem rcounts_pr (h : Pr w B F a b s n) (hn : n < 4398046511000) (e : ByteArray) : Calls Try.prog 20 #[.pointer b, .string e] w fun e' w' => e' = .returned (.tuple #[.int .i64 (aCounts a s e).1, .int .i64 (aCounts a s e).2.1, .int .i64 (aCounts a s e).2.2]) ∧ Tch No w w' := by
  rcases h with ⟨⟨rfl, rfl⟩, _⟩ | ⟨p, q, FP, FR, rfl, rfl, h3, h4, h5, h6, h7⟩
  · refine (rncounts e).mono ?_
    rintro _ w' ⟨rfl, rfl⟩
    exact ⟨rfl, Tch.refl _ _⟩
  · exact rcounts_any h4 (by unfold Len at h7; omega) e
theorem where_pr (h : Pr w B F a b s n) (i : Int) : Calls Try.prog 21 #[.pointer a, .int .i64 i] w fun e' w' => e' = .returned (.tuple #[.string (aWhere a s i).1, .bool (aWhere a s i).2]) ∧ Tch No w w' := by
  rcases h with ⟨⟨rfl, rfl⟩, _⟩ | ⟨p, q, FP, FR, rfl, rfl, h3, _⟩
  · refine (nwhere i).mono ?_
    rintro _ w' ⟨rfl, rfl⟩
    exact ⟨rfl, Tch.refl _ _⟩
  · exact where_any h3 i
theorem rwhere_pr (h : Pr w B F a b s n) (hn : n < 4398046511000) (i : Int) : Calls Try.prog 22 #[.pointer b, .int .i64 i] w fun e' w' => e' = .returned (.tuple #[.string (aWhere a s i).1, .bool (aWhere a s i).2]) ∧ Tch No w w' := by
  rcases h with ⟨⟨rfl, rfl⟩, _⟩ | ⟨p, q, FP, FR, rfl, rfl, h3, h4, h5, h6, h7⟩
  · refine (rnwhere i).mono ?_
    rintro _ w' ⟨rfl, rfl⟩
    exact ⟨rfl, Tch.refl _ _⟩
  · exact rwhere_any h4 (by unfold Len at h7; omega) i
end
/-! ### New -/
theorem RM.base {w : World} {B B' : Nat} {F : Nat → Prop} {q : Nat} {s : St} {vb vf vk : Value} (h : RM w B F q s vb vf vk) (hb : B' ≤ B) : RM w B' F q s vb vf vk :=
  ⟨h.hq, ownsRow_base h.rb hb, ownsRow_base h.rf hb, ownsRow_base h.rk hb, h.bf, h.own, fun k hk => ⟨Nat.le_trans hb (h.lt k hk).1, (h.lt k hk).2⟩⟩
theorem RefM.base {w : World} {B B' : Nat} {F : Nat → Prop} {q : Nat} {s : St} (h : RefM w B F q s) (hb : B' ≤ B) : RefM w B' F q s := by
  obtain ⟨vb, vf, vk, h⟩ := h
  exact ⟨vb, vf, vk, h.base hb⟩
def Good (most wait : Int) : Prop := 1 ≤ most ∧ most ≤ 64 ∧ 0 ≤ wait
open Classical in
noncomputable def errOf (most wait : Int) : Int := if Good most wait then 0 else 2
theorem new_opt {w : World} (most wait : Int) (hw : wait ≤ 9223372036854775807) : Calls Try.prog 7 #[.int .i64 most, .int .i64 wait] w fun e' w' => ∃ a F, e' = .returned (.tuple #[.pointer a, .int .i64 (errOf most wait)]) ∧ ((¬ Good most wait ∧ a = none) ∨ (Good most wait ∧ ∃ p, a = some ⟨p, 0, none⟩ ∧ PoolM w' w.heap.size F p (St0 most wait) 0)) ∧ Below w.heap.size w w' := by
  by_cases hg : Good most wait
  · refine (new_any most wait ⟨hg.1, hg.2.1, hg.2.2, hw⟩).mono ?_
    rintro _ w' ⟨p, F, rfl, hP, hb⟩
    exact ⟨_, F, by rw [errOf, if_pos hg], .inr ⟨hg, p, rfl, hP⟩, hb⟩
  · refine (new_bad most wait (by unfold Good at hg; omega)).mono ?_
    rintro _ w' ⟨rfl, rfl⟩
    exact ⟨none, fun _ => False, by rw [errOf, if_neg hg], .inl ⟨hg, rfl⟩, Below.refl _ _⟩
theorem rnew_opt {w : World} (most wait : Int) : Calls Try.prog 17 #[.int .i64 most, .int .i64 wait] w fun e' w' => ∃ a F, e' = .returned (.tuple #[.pointer a, .int .i64 (errOf most wait)]) ∧ ((¬ Good most wait ∧ a = none) ∨ (Good most wait ∧ ∃ p, a = some ⟨p, 0, none⟩ ∧ RefM w' w.heap.size F p (St0 most wait))) ∧ Below w.heap.size w w' := by
  by_cases hg : Good most wait
  · refine (rnew_any most wait hg).mono ?_
    rintro _ w' ⟨p, F, rfl, hP, hb⟩
    exact ⟨_, F, by rw [errOf, if_pos hg], .inr ⟨hg, p, rfl, hP⟩, hb⟩
  · refine (rnew_bad most wait (by unfold Good at hg; omega)).mono ?_
    rintro _ w' ⟨rfl, rfl⟩
    exact ⟨none, fun _ => False, by rw [errOf, if_neg hg], .inl ⟨hg, rfl⟩, Below.refl _ _⟩
/-- Both New, one behind the other. -/
theorem pr_new {w w1 w2 : World} {B : Nat} {F1 F2 : Nat → Prop} {a b : Option Addr} {most wait : Int} (hB : B ≤ w.heap.size)
    (h1 : (¬ Good most wait ∧ a = none) ∨ (Good most wait ∧ ∃ p, a = some ⟨p, 0, none⟩ ∧ PoolM w1 w.heap.size F1 p (St0 most wait) 0)) (b1 : Below w.heap.size w w1)
    (h2 : (¬ Good most wait ∧ b = none) ∨ (Good most wait ∧ ∃ p, b = some ⟨p, 0, none⟩ ∧ RefM w2 w1.heap.size F2 p (St0 most wait))) (b2 : Below w1.heap.size w1 w2) :
    ∃ F, Pr w2 B F a b (St0 most wait) 0 ∧ (a = none ↔ b = none) ∧ ∀ k, F k → w.heap.size ≤ k := by
  rcases h1 with ⟨g, rfl⟩ | ⟨g, p, rfl, hP⟩
  · rcases h2 with ⟨_, rfl⟩ | ⟨g', _⟩
    · exact ⟨fun _ => False, pr_none, Iff.rfl, fun _ h => h.elim⟩
    · exact (g g').elim
  · rcases h2 with ⟨g', _⟩ | ⟨_, q, rfl, hR⟩
    · exact (g' g).elim
    · refine ⟨fun k => F1 k ∨ F2 k, .inr ⟨p, q, F1, F2, rfl, rfl, (hP.base hB).tch (Tch.of_below (S := No) b2) (fun _ _ h => h), hR.base (Nat.le_trans hB b1.size), fun k hk hr => ?_, fun _ => Iff.rfl, by simp [Len, St0]⟩, by simp, fun k hk => ?_⟩
      · have := (hP.lt k hk).2
        have := (hR.lt k hr).1
        omega
      · rcases hk with hk | hk
        · exact (hP.lt k hk).1
        · exact Nat.le_trans b1.size (hR.lt k hk).1
end Go.Proofs.Ytpebcamnmeppaaa
