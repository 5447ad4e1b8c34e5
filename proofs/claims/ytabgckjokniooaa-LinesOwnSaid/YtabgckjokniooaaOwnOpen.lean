/- The law LinesOwn at its argument as it is handed in. -/
import Derived.Test.YtabgckjokniooaaLow
import Derived.Test.YtabgckjokniooaaLop
namespace Go.Proofs.Ytabgckjokniooaa.linesOwn
open Go.ChangeShapes Go.WideShapes Go.ChangeAt Go.RowKit
set_option maxRecDepth 100000
theorem walk {H : Type} (enc : TypeId × Value → H) (W : World) (base : Nat) (args : Array Value) (ds : List (DataW H)) (p : List MemPlace)
    (hval0 : ∀ (j : Nat) t v, Try.f4.params[j]? = some t → args[j]? = some v → Value.okWide Try.prog W .any base t v)
    (hA : DataW.TrodAll enc Try.prog W 0 (fun _ => true) true Try.f4.params.toList args.toList ds p) (hsh : W.ShapedOpen Try.prog)
    (hsz : (DataW.weightsEach Try.prog Try.f4.params.toList ds).all (· ≤ reachBytes) = true) :
    Calls Try.prog 4 args W fun e w' => e = .returned (.bool true) ∧ Below W.heap.size W w' := by
  have hval : ∀ (j : Nat) t v, Try.f4.params[j]? = some t → args[j]? = some v → Value.okWide Try.prog W .any base t v := hval0
  rw [Try.params4] at hA hval hsz
  obtain ⟨v0, d0, rfl, rfl, h0⟩ := trodAll_one hA
  obtain ⟨m, hm⟩ := hm_of hsh
  obtain ⟨ob, ho, _⟩ := Mp.cell_obj hm
  obtain ⟨b, l, h1, h2, h3⟩ := open_bytes (hval 0 22 v0 rfl rfl) h0 hsz (j := 0) rfl rfl (Mp.heap_lt ho)
  exact own_walk b v0 l W m h1 h2 h3 hm
end Go.Proofs.Ytabgckjokniooaa.linesOwn
