/- The law PoolBounds, its arguments opened. -/
import Derived.Test.YtpebcamnmeppaaaBoundsWalk
import Derived.Test.YtpebcamnmeppaaaBoundsOpen
namespace Go.Proofs.Ytpebcamnmeppaaa.poolBounds
open Go.ChangeShapes Go.WideShapes Go.ChangeAt Go.RowKit
set_option linter.unusedVariables false
set_option maxRecDepth 100000 in
theorem walk {H : Type} (enc : TypeId × Value → H) (W : World) (base : Nat) (args : Array Value) (ds : List (DataW H)) (p : List MemPlace)
    (hval : ∀ (j : Nat) t v, Try.f4.params[j]? = some t → args[j]? = some v → Value.okWide Try.prog W .any base t v)
    (hA : DataW.TrodAll enc Try.prog W 0 (fun _ => true) true Try.f4.params.toList args.toList ds p)
    (hsz : (DataW.weightsEach Try.prog Try.f4.params.toList ds).all (· ≤ reachBytes) = true) :
    Calls Try.prog 4 args W fun e w' => e = .returned (.bool true) ∧ Below W.heap.size W w' := by
  rw [Try.params4] at hA hval hsz
  obtain ⟨v0, v1, v2, d0, d1, d2, p0, p1, p2, rfl, rfl, rfl, h0, h1, h2⟩ := trodAll_three hA
  obtain ⟨most, rfl⟩ := okWide_int Try.underlying3 (hval 0 3 v0 rfl rfl)
  obtain ⟨n1, hn1⟩ := h1
  obtain ⟨wait, e1⟩ := okWide_int Try.underlying3 (hval 1 3 v1 rfl rfl)
  subst e1
  obtain ⟨a, e0, _, wa⟩ := DataW.trod_int Try.underlying3 hn1
  have hw := bounds_i64 wa
  have haw : a = wait := by simp [Value.cells] at e0; exact e0.symm
  subst haw
  obtain ⟨l, r2, hl⟩ := openCalls.open_calls (hval 2 37 v2 rfl rfl) h2 hsz (j := 2) rfl rfl
  exact Go.Proofs.Ytpebcamnmeppaaa.bounds l v2 most a W r2 hw hl
end Go.Proofs.Ytpebcamnmeppaaa.poolBounds
