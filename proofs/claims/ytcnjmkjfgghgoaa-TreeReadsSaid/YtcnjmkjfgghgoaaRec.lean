/- document's deferred closure: it hands the fault back. -/
import Derived.Test.YtcnjmkjfgghgoaaBegin
import Derived.Defers
import Derived.Recover
namespace Go.Proofs.Ytcnjmkjfgghgoaa
open Go.RowKit Go.Mp Go.Tr
set_option linter.unusedVariables false
set_option maxRecDepth 20000
theorem hide_post {P : Program} {c : Code} {Q : Exit → Act → World → Prop} {a : Act} {w : World} (h : ∀ Q', Q' = Q → c.wp P Q' a w) : c.wp P Q a w := h Q rfl
theorem tmps_is {P : Program} {c : Code} {Q : Exit → Act → World → Prop} {t t' : Array Value} {w : World} (e : t = t') (h : c.wp P Q { tmps := t', defers := [] } w) : c.wp P Q { tmps := t, defers := [] } w := e ▸ h
theorem eql_iface_nil {P : Program} {ti : TypeId} {ms : Array (String × TypeId)} (tp : TypeId) (v : Value) (hi : P.underlying ti = some (.interface ms)) (w : World) :
    (binOp .eql ti (.iface tp v) .nilIface).run P w = .ok (.bool false) w := by
  have h : ∀ d : Nat, (Op.equalIn (d + 1) ti (.iface tp v) .nilIface).run P w = .ok false w := fun d => by simp [Op.equalIn, run_underlying hi]
  simp only [binOp]
  simp [Op.equal, Op.maxDepth, h 9999]
theorem catch_idle (p q r : Addr) (w : World) :
    CallsD Try.prog 45 #[.pointer (some p), .pointer (some q), .pointer (some r)] .returning w fun e u' w' => e = .returned (.tuple #[]) ∧ u' = .returning ∧ w' = w := by
  refine callsD_of_wpS Try.func45 rfl fun c₀ cs hu => ?_
  apply wpS_seq
  apply wpS_region
  simp [wpOpsS, go_sem, recoverD, hu, Try.ntmps45, Exit.thenS]
  apply wpS_seq
  apply wpS_seq
  apply wpS_region
  simp [wpOpsS, go_sem, Exit.thenS]
  refine wpS_cond (t := true) (by simp [Act.eval, Array.replicate]) ?_
  simp only [if_true]
  refine wpS_of_wp (wp_ret ?_)
  cases c₀
  simp_all [bodyPostS, results, Try.results45, Exit.thenS]
theorem catch_fault (nb lb eb : Nat) (nv x y : Value) (ln er : Int) (w : World) (h1 : w.heap[nb]? = some (.cells #[nv] 50)) (h2 : w.heap[lb]? = some (.cells #[x] 3)) (h3 : w.heap[eb]? = some (.cells #[y] 26)) (d1 : nb ≠ lb) (d2 : nb ≠ eb) (d3 : lb ≠ eb) :
    CallsD Try.prog 45 #[.pointer (some ⟨nb, 0, none⟩), .pointer (some ⟨lb, 0, none⟩), .pointer (some ⟨eb, 0, none⟩)] (.panicking [{ v := .iface 85 (.agg #[.int .i64 ln, .int .i64 er]), recovered := false }]) w fun e u' w' =>
      e = .returned (.tuple #[]) ∧ u' = .panicking [{ v := .iface 85 (.agg #[.int .i64 ln, .int .i64 er]), recovered := true }] ∧ w'.heap[nb]? = some (.cells #[.slice none 0 0] 50) ∧ w'.heap[lb]? = some (.cells #[.int .i64 ln] 3) ∧ w'.heap[eb]? = some (.cells #[.int .i64 er] 26) ∧ Tch (fun k => k = nb ∨ k = lb ∨ k = eb) w w' := by
  refine callsD_of_wpS Try.func45 rfl fun c₀ cs hu => ?_
  apply wpS_seq
  apply wpS_region
  simp [wpOpsS, go_sem, recoverD, hu, Try.ntmps45, Exit.thenS]
  refine wpS_of_wp ?_
  refine hide_post fun Q hQ => ?_
  replace hQ := Lib.hid hQ
  refine tmps_is (t' := #[.pointer (some ⟨nb, 0, none⟩), .pointer (some ⟨lb, 0, none⟩), .pointer (some ⟨eb, 0, none⟩), .iface 85 (.agg #[.int .i64 ln, .int .i64 er]), undef, undef, .iface 85 (.agg #[.int .i64 ln, .int .i64 er]), undef, undef, undef, undef, undef, undef, undef, undef, undef, undef, undef, undef, undef, undef]) (by kernel_rfl) ?_
  have hta : ∀ w, (Instr.typeAssert (.iface 85 (.agg #[.int .i64 ln, .int .i64 er])) 20 85 true).run Try.prog w = .ok (.tuple #[.agg #[.int .i64 ln, .int .i64 er], .bool true]) w := fun w => by kernel_rfl
  have hne := eql_iface_nil (P := Try.prog) 85 (.agg #[.int .i64 ln, .int .i64 er]) Try.underlying20
  obtain ⟨w1, hw1⟩ : ∃ w1, w1 = w.alloc (.cells #[.int .i64 ln, .int .i64 er] 85) := ⟨_, rfl⟩
  have t1 : Tch No w w1 := by rw [hw1]; exact Tch.alloc No w _
  obtain ⟨cb, hcb⟩ : ∃ cb, cb = w.heap.size := ⟨_, rfl⟩
  have hc1 : w1.heap[cb]? = some (.cells #[.int .i64 ln, .int .i64 er] 85) := by rw [hw1, hcb]; exact heap_alloc_new w _
  have b1 : w1.heap[nb]? = some (.cells #[nv] 50) := (t1.block nb (Array.getElem?_eq_some_iff.1 h1).1 id).trans h1
  have b2 : w1.heap[lb]? = some (.cells #[x] 3) := (t1.block lb (Array.getElem?_eq_some_iff.1 h2).1 id).trans h2
  have b3 : w1.heap[eb]? = some (.cells #[y] 26) := (t1.block eb (Array.getElem?_eq_some_iff.1 h3).1 id).trans h3
  have n1 : nb ≠ cb := by have := (Array.getElem?_eq_some_iff.1 h1).1; omega
  have n2 : lb ≠ cb := by have := (Array.getElem?_eq_some_iff.1 h2).1; omega
  have n3 : eb ≠ cb := by have := (Array.getElem?_eq_some_iff.1 h3).1; omega
  have e0 : w1.cell? ⟨cb, 0, none⟩ = some (.int .i64 ln) := (cell_of_row _ _ 0 _ _ _ hc1).trans rfl
  have e1 : w1.cell? ⟨cb, 1, none⟩ = some (.int .i64 er) := (cell_of_row _ _ 1 _ _ _ hc1).trans rfl
  have e2 : w1.cell? ⟨nb, 0, none⟩ = some nv := (cell_of_row _ _ 0 _ _ _ b1).trans rfl
  have e3 : w1.cell? ⟨lb, 0, none⟩ = some x := (cell_of_row _ _ 0 _ _ _ b2).trans rfl
  have e4 : w1.cell? ⟨eb, 0, none⟩ = some y := (cell_of_row _ _ 0 _ _ _ b3).trans rfl
  have f2 : w1.frozen? ⟨nb, 0, none⟩ = false := frozen_of_row _ _ _ _ _ b1
  have f3 : w1.frozen? ⟨lb, 0, none⟩ = false := frozen_of_row _ _ _ _ _ b2
  have f4 : w1.frozen? ⟨eb, 0, none⟩ = false := frozen_of_row _ _ _ _ _ b3
  have fin : ∀ n, (((((w1.drewN n).setCell ⟨nb, 0, none⟩ (.slice none 0 0)).setCell ⟨lb, 0, none⟩ (.int .i64 ln)).setCell ⟨eb, 0, none⟩ (.int .i64 er)).heap[nb]? = some (.cells #[.slice none 0 0] 50) ∧ ((((w1.drewN n).setCell ⟨nb, 0, none⟩ (.slice none 0 0)).setCell ⟨lb, 0, none⟩ (.int .i64 ln)).setCell ⟨eb, 0, none⟩ (.int .i64 er)).heap[lb]? = some (.cells #[.int .i64 ln] 3) ∧ ((((w1.drewN n).setCell ⟨nb, 0, none⟩ (.slice none 0 0)).setCell ⟨lb, 0, none⟩ (.int .i64 ln)).setCell ⟨eb, 0, none⟩ (.int .i64 er)).heap[eb]? = some (.cells #[.int .i64 er] 26)) ∧ Tch (fun k => k = nb ∨ k = lb ∨ k = eb) w ((((w1.drewN n).setCell ⟨nb, 0, none⟩ (.slice none 0 0)).setCell ⟨lb, 0, none⟩ (.int .i64 ln)).setCell ⟨eb, 0, none⟩ (.int .i64 er)) := by
    intro n
    refine ⟨⟨?_, ?_, ?_⟩, ?_⟩
    · simp [World.setCell, Array.getElem?_modify, b1, d1.symm, d2.symm]
    · simp [World.setCell, Array.getElem?_modify, b2, d1, d3.symm]
    · simp [World.setCell, Array.getElem?_modify, b3, d2, d3]
    · refine (((t1.mono (fun _ h => h.elim)).trans (Tch.drewN (fun k => k = nb ∨ k = lb ∨ k = eb) w1 n) (fun _ h => .inl h)).trans (Tch.setCell (S := fun k => k = nb ∨ k = lb ∨ k = eb) _ (p := ⟨nb, 0, none⟩) (.inl rfl) (.slice none 0 0)) (fun _ h => .inl h)).trans ?_ (fun _ h => .inl h)
      exact (Tch.setCell (S := fun k => k = nb ∨ k = lb ∨ k = eb) _ (p := ⟨lb, 0, none⟩) (.inr (.inl rfl)) _).trans (Tch.setCell (S := fun k => k = nb ∨ k = lb ∨ k = eb) _ (p := ⟨eb, 0, none⟩) (.inr (.inr rfl)) _) (fun _ h => .inl h)
  have q1 : (nb = lb) = False := eq_false d1
  have q1' : (lb = nb) = False := eq_false d1.symm
  have q2 : (nb = eb) = False := eq_false d2
  have q2' : (eb = nb) = False := eq_false d2.symm
  have q3 : (lb = eb) = False := eq_false d3
  have q3' : (eb = lb) = False := eq_false d3.symm
  have q4 : (nb = cb) = False := eq_false n1
  have q5 : (lb = cb) = False := eq_false n2
  have q6 : (eb = cb) = False := eq_false n3
  replace h1 := Lib.hid h1
  replace h2 := Lib.hid h2
  replace h3 := Lib.hid h3
  replace b1 := Lib.hid b1
  replace b2 := Lib.hid b2
  replace b3 := Lib.hid b3
  replace hc1 := Lib.hid hc1
  replace t1 := Lib.hid t1
  replace hu := Lib.hid hu
  replace fin := Lib.hid fin
  clear d1 d2 d3 n1 n2 n3
  go_upto_region 3 with fail
  rw [show (w.alloc (.cells #[.int .i64 ln, .int .i64 er] 85)) = w1 from hw1.symm, ← hcb]
  replace hw1 := Lib.hid hw1
  replace hcb := Lib.hid hcb
  go_wp2
  go_region
  obtain ⟨⟨g1, g2, g3⟩, g4⟩ := fin.out 1
  rw [hQ.out]
  cases c₀
  simp [bodyPostS, results, Try.results45]
  exact ⟨g1, g2, g3, g4⟩
end Go.Proofs.Ytcnjmkjfgghgoaa
