/- Trees that the program made read; fault. -/
import Derived.Test.YtcnjmkjfgghgoaaSame
namespace Go.Proofs.Ytcnjmkjfgghgoaa
open Go.RowKit Go.Mp Go.Tr
set_option linter.unusedVariables false
set_option maxRecDepth 20000
theorem intsR_of {w : World} {B : Nat} {v : Value} {ks : List Int} (h : w.ownsRow B 3 1 v ks.length (icells ks)) : IntsR w v ks := by
  obtain ⟨ao, cap, rfl⟩ := ownsRow_shape h
  refine ⟨ao, cap, rfl, fun i k hk => ?_⟩
  obtain ⟨g, rfl, _, _, c, _⟩ := ownsRow_cell h (j := i) (u := .int .i64 k) (by simp [icells, hk])
  exact ⟨g, 0, rfl, by rw [Nat.zero_add]; exact c⟩
theorem nodesR_of {w : World} {B : Nat} {F : Nat → Prop} {v : Value} {R : List (Nd × Value)} {N : List Nd} (h : NM w B F v R) (hN : R.map (·.1) = N) : NodesR w v N := by
  subst hN
  obtain ⟨ao, cap, rfl⟩ := ownsRow_shape h.row
  refine ⟨ao, cap, by simp, fun i n hn => ?_⟩
  rw [List.getElem?_map] at hn
  obtain ⟨x, hx, rfl⟩ : ∃ x, R[i]? = some x ∧ x.1 = n := by
    cases hr : R[i]? with
    | none => rw [hr] at hn; cases hn
    | some x => rw [hr] at hn; exact ⟨x, rfl, by simpa using hn⟩
  obtain ⟨g, cp, e, hc⟩ := h.at hx
  cases e
  have hk := h.kid i x hx
  obtain ⟨ko, kc, ek⟩ := ownsRow_shape hk
  refine ⟨g, 0, ko, kc, rfl, ?_, ?_, ?_, ?_, ?_, ?_, ?_⟩
  · rw [Nat.zero_add]; exact (hc 0 _ (by omega) rfl).1
  · rw [Nat.zero_add]; exact (hc 1 _ (by omega) rfl).1
  · rw [Nat.zero_add]; exact (hc 2 _ (by omega) rfl).1
  · rw [Nat.zero_add]; exact (hc 3 _ (by omega) rfl).1
  · rw [Nat.zero_add]; exact (hc 4 _ (by omega) rfl).1
  · rw [Nat.zero_add, ← ek]; exact (hc 5 _ (by omega) rfl).1
  · rw [← ek]; exact intsR_of hk
theorem treesR_of {w : World} {B : Nat} {F : Nat → Prop} {v : Value} {L : List TrX} {ts : List T} (h : TM w B F v L) (hL : L.map (·.1) = ts) : TreesR w v (ts.map (lay 0)) := by
  subst hL
  obtain ⟨ao, cap, rfl⟩ := ownsRow_shape h.row
  refine ⟨ao, cap, by simp, fun i N hN => ?_⟩
  rw [List.map_map, List.getElem?_map] at hN
  obtain ⟨x, hx, rfl⟩ : ∃ x, L[i]? = some x ∧ lay 0 x.1 = N := by
    cases hr : L[i]? with
    | none => rw [hr] at hN; cases hN
    | some x => rw [hr] at hN; exact ⟨x, rfl, by simpa using hN⟩
  obtain ⟨R, hR, hM⟩ := h.el i x hx
  obtain ⟨g, rfl, _, _, c, _⟩ := ownsRow_cell h.row (j := i) (u := x.2.1) (by simp [hx])
  obtain ⟨no, nc, e⟩ := ownsRow_shape hM.row
  have hl : R.length = (lay 0 x.1).length := by rw [← hR]; simp
  rw [hl] at e
  exact ⟨g, 0, no, nc, rfl, by rw [Nat.zero_add, ← e]; exact c, by rw [← e]; exact nodesR_of hM hR⟩
theorem fault_any (w : World) (d l e : Int) : Calls Try.prog 13 #[.agg #[.int .i64 d, .int .i64 l, .int .i64 e], .agg #[.int .i64 d, .int .i64 l, .int .i64 e]] w fun e w' => e = .returned (.bool true) ∧ Tch No w w' := by
  go_enter Try.func13, Try.ntmps13
  go_wp2
  go_ret
  exact ⟨rfl, (Tch.alloc No w _).trans (Tch.alloc No _ _) (fun _ h => h.elim)⟩
end Go.Proofs.Ytcnjmkjfgghgoaa
