/- The law PoolBounds at its arguments as they are handed in. -/
import Derived.Test.YtpebcamnmeppaaaBook
import Derived.Test.YtpebcamnmeppaaaFrame
namespace Go.Proofs.Ytpebcamnmeppaaa.openCalls
open Go.ChangeShapes Go.WideShapes Go.ChangeAt Go.RowKit
set_option linter.unusedVariables false
set_option maxRecDepth 100000
theorem co3 : Try.prog.cellsOf 3 = 1 := by kernel_rfl
theorem co9 : Try.prog.cellsOf 9 = 1 := by kernel_rfl
theorem co39 : Try.prog.cellsOf 39 = 4 := by kernel_rfl
theorem oCall : Rd.Opens Try.prog callE 39 := Rd.opens_struct Try.underlying39 (Rd.opensF_cons rfl co3 (Rd.opens_int Try.underlying3) (Rd.opensF_cons rfl co9 (Rd.opens_str Try.underlying9) (Rd.opensF_cons rfl co3 (Rd.opens_int Try.underlying3) (Rd.opensF_cons rfl co3 (Rd.opens_int Try.underlying3) (Rd.opensF_nil _)))))
section
variable {H : Type} {enc : TypeId × Value → H} {W : World} {v : Value} {d : DataW H} {pl : List MemPlace} {ts : List TypeId} {ds : List (DataW H)} {j base : Nat}
theorem open_calls (hval : Value.okWide Try.prog W .any base 37 v) (hd : DataW.Trod enc Try.prog W 0 (fun _ => true) true 37 v d pl) (hsz : (DataW.weightsEach Try.prog ts ds).all (· ≤ reachBytes) = true) (hts : ts[j]? = some 37) (hds : ds[j]? = some d) :
    ∃ hs : List CallT, Rd.SliceOf callE W v hs ∧ hs.length * 40 ≤ 140737488351232 := by
  obtain ⟨a0, l0, c0, rfl⟩ := okWide_slice Try.underlying37 hval
  have hd0 := hd
  obtain ⟨hs, v', q, r⟩ := Rd.open_arg (Rd.opens_slice Try.underlying37 co39 (show Try.prog.bytesOf 39 = 40 by kernel_rfl) (by decide) (by decide) oCall) hd hsz hts hds
  replace q : some (Value.slice a0 l0 c0) = some v' := q
  cases q
  refine ⟨hs, r, ?_⟩
  obtain ⟨_, ao, cap, hv, _⟩ := r
  simp only [Value.slice.injEq] at hv
  obtain ⟨fuel, hf⟩ := hd0
  rcases Deep.open_slice Try.underlying37 hf with ⟨hcs, hx⟩ | ⟨a, len, cap, m, n, D, Pl, hcs, _, hl, hm, hmm, hx, hel⟩
  · simp [Value.cells] at hcs
    rw [← hv.2.1, hcs.2.1]
    omega
  · simp [Value.cells] at hcs
    have hdx : d = .slice ((List.range len).map D) ((List.range (m - len)).map fun j => D (len + j)) := congrArg Prod.fst hx
    have hb : Try.prog.bytesOf 39 = 40 := by kernel_rfl
    have h1 := List.all_eq_true.1 hsz ((((List.range len).map D).length + ((List.range (m - len)).map fun j => D (len + j)).length) * Try.prog.bytesOf 39) (DataW.weights_mem_each hts hds _ (by rw [hdx]; simp [DataW.weights, Try.underlying37]))
    simp only [List.length_map, List.length_range, hb, decide_eq_true_eq, reachBytes] at h1
    rw [← hv.2.1, hcs.2.1]
    omega
end
end Go.Proofs.Ytpebcamnmeppaaa.openCalls
