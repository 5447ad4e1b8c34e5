/- The walk of the law on numbers, for every word and every number. -/
import Derived.Test.YtfdmfihifjlidaaBase
import Derived.Test.YtfdmfihifjlidaaFrame
namespace Go.Proofs.Ytfdmfihifjlidaa.drawNumbers
open Go.ChangeShapes Go.WideShapes Go.ChangeAt Go.RowKit
theorem Grown_below {W w' : World} (h : W = w') : Below W.heap.size W w' := h ▸ Below.refl _ _
theorem walk {H : Type} (enc : TypeId × Value → H) (W : World) (base : Nat) (args : Array Value) (ds : List (DataW H)) (p : List MemPlace)
    (hval0 : ∀ (j : Nat) t v, Try.f3.params[j]? = some t → args[j]? = some v → Value.okWide Try.prog W .any base t v)
    (hA : DataW.TrodAll enc Try.prog W 0 (fun _ => true) true Try.f3.params.toList args.toList ds p)
    (_ : (DataW.weightsEach Try.prog Try.f3.params.toList ds).all (· ≤ reachBytes) = true) :
    Calls Try.prog 3 args W fun e w' => e = .returned (.bool true) ∧ Below W.heap.size W w' := by
  have hval : ∀ (j : Nat) t v, Try.f3.params[j]? = some t → args[j]? = some v → Value.okWide Try.prog W .any base t v := hval0
  rw [Try.params3] at hA hval
  obtain ⟨v0, v1, d0, d1, p0, p1, rfl, rfl, rfl, h0, h1⟩ := trodAll_two hA
  obtain ⟨a0, rfl, rfl, rfl, w0⟩ := open_int Try.underlying22 (hval 0 22 v0 rfl rfl) h0
  obtain ⟨a1, rfl, rfl, rfl, w1⟩ := open_int Try.underlying3 (hval 1 3 v1 rfl rfl) h1
  exact (numbers a0 a1 w0 w1 W).mono fun e w' ⟨h1, h2⟩ => ⟨h1, Grown_below h2⟩
end Go.Proofs.Ytfdmfihifjlidaa.drawNumbers
