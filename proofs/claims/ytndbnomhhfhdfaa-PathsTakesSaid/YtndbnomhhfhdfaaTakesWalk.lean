/- The walk of the law on what patterns take: any two texts. -/
import Derived.Test.YtndbnomhhfhdfaaTakes
import Derived.Test.YtndbnomhhfhdfaaFrame
namespace Go.Proofs.Ytndbnomhhfhdfaa.pathsTakes
open Go.ChangeShapes Go.WideShapes Go.ChangeAt Go.RowKit
open Go.WideMaps Go.WideElems
open Go.ChangeMaps (open_string)
open Go.Pa
set_option linter.unusedVariables false

theorem law2 (a b : ByteArray) (w : World) (ha : a.size ≤ maxLen) (hb0 : b.size ≤ maxLen) :
    Calls Try.prog 4 #[.string a, .string b] w fun e w' => e = .returned (.bool true) ∧ Below w.heap.size w w' := by
  have c0 := fun w => host19 a b w ha hb0
  have c1 := fun w => host20 a b w ha hb0
  have c2 := fun w => path21 a b w ha hb0
  have c3 := fun w => path22 a b w ha hb0
  have c4 := fun w => method23 a b w ha hb0
  have c5 := fun w => method24 a b w ha hb0
  generalize hostTakes a.data.toList b.data.toList = x0 at *
  generalize pathTakes a.data.toList b.data.toList = x1 at *
  generalize methTakes a.data.toList b.data.toList = x2 at *
  have hb := Lib.hid (Below.refl w.heap.size w)
  replace c0 := Lib.hid c0
  replace c1 := Lib.hid c1
  replace c2 := Lib.hid c2
  replace c3 := Lib.hid c3
  replace c4 := Lib.hid c4
  replace c5 := Lib.hid c5
  go_enter Try.func4, Try.ntmps4
  go_wp2_with fail
  refine (c0.out _).mono ?_
  rintro e w' ⟨rfl, hb'⟩
  replace hb := Lib.hid (Tp.Below_seq hb.out hb')
  clear hb'
  go_wp2_with fail
  refine (c1.out _).mono ?_
  rintro e w' ⟨rfl, hb'⟩
  replace hb := Lib.hid (Tp.Below_seq hb.out hb')
  clear hb'
  go_wp2_with fail
  refine (c2.out _).mono ?_
  rintro e w' ⟨rfl, rfl⟩
  go_wp2_with fail
  refine (c3.out _).mono ?_
  rintro e w' ⟨rfl, rfl⟩
  go_wp2_with fail
  refine (c4.out _).mono ?_
  rintro e w' ⟨rfl, rfl⟩
  go_wp2_with fail
  refine (c5.out _).mono ?_
  rintro e w' ⟨rfl, rfl⟩
  go_wp2
  go_ret
  exact ⟨rfl, hb.out⟩

theorem walk {H : Type} (enc : TypeId × Value → H) (W : World) (base : Nat) (args : Array Value) (ds : List (DataW H)) (p : List MemPlace)
    (hval0 : ∀ (j : Nat) t v, Try.f4.params[j]? = some t → args[j]? = some v → Value.okWide Try.prog W .any base t v)
    (hA : DataW.TrodAll enc Try.prog W 0 (fun _ => true) true Try.f4.params.toList args.toList ds p)
    (hsz : (DataW.weightsEach Try.prog Try.f4.params.toList ds).all (· ≤ reachBytes) = true) :
    Calls Try.prog 4 args W fun e w' => e = .returned (.bool true) ∧ Below W.heap.size W w' := by
  have hval : ∀ (j : Nat) t v, Try.f4.params[j]? = some t → args[j]? = some v → Value.okWide Try.prog W .any base t v := hval0
  rw [Try.params4] at hA hval hsz
  obtain ⟨v0, v1, d0, d1, p0, p1, rfl, rfl, rfl, h0, h1⟩ := trodAll_two hA
  obtain ⟨s0, rfl, rfl, rfl, hs0⟩ := open_string Try.underlying9 (hval 0 9 v0 rfl rfl) h0
  obtain ⟨s1, rfl, rfl, rfl, hs1⟩ := open_string Try.underlying9 (hval 1 9 v1 rfl rfl) h1
  exact law2 s0 s1 W hs0 hs1
end Go.Proofs.Ytndbnomhhfhdfaa.pathsTakes
