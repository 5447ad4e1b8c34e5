/- The walk of the law on what patterns cover: any two texts. -/
import Derived.Test.YtndbnomhhfhdfaaCovers
import Derived.Test.YtndbnomhhfhdfaaOrder
import Derived.Test.YtndbnomhhfhdfaaFrame
namespace Go.Proofs.Ytndbnomhhfhdfaa.pathsCovers
open Go.ChangeShapes Go.WideShapes Go.ChangeAt Go.RowKit
open Go.WideMaps Go.WideElems
open Go.ChangeMaps (open_string)
open Go.Pa
set_option linter.unusedVariables false

theorem law2 (a b : ByteArray) (w : World) (ha : a.size ≤ maxLen) (hb0 : b.size ≤ maxLen) :
    Calls Try.prog 6 #[.string a, .string b] w fun e w' => e = .returned (.bool true) ∧ Below w.heap.size w w' := by
  have c0 := fun w => covhost27 a b w ha hb0
  have c1 := fun w => covhost28 a b w ha hb0
  have c2 := fun w => covpath29 a b w ha hb0
  have c3 := fun w => covpath30 a b w ha hb0
  have c4 := fun w => covmeth31 a b w ha hb0
  have c5 := fun w => covmeth32 a b w ha hb0
  have c6 := fun w => order33 a b w ha hb0
  have c7 := fun w => order34 a b w ha hb0
  generalize hostCovers a.data.toList b.data.toList = x0 at *
  generalize pathCovers a.data.toList b.data.toList = x1 at *
  generalize methCovers a.data.toList b.data.toList = x2 at *
  generalize orderH a.data.toList b.data.toList = x3 at *
  have hb := Lib.hid (Below.refl w.heap.size w)
  replace c0 := Lib.hid c0
  replace c1 := Lib.hid c1
  replace c2 := Lib.hid c2
  replace c3 := Lib.hid c3
  replace c4 := Lib.hid c4
  replace c5 := Lib.hid c5
  replace c6 := Lib.hid c6
  replace c7 := Lib.hid c7
  go_enter Try.func6, Try.ntmps6
  go_wp2_with fail
  refine (c0.out _).mono ?_
  rintro e w' ⟨rfl, hb'⟩
  replace hb := Lib.hid (Tp.Below_seq hb.out hb')
  clear hb'
  go_wp2_with fail
  refine (c1.out _).mono ?_
  rintro e w' ⟨rfl, hb'⟩
  replace hb := Lib.hid (Tp.Below_seq hb.out hb')
  clear hb'
  go_wp2_with fail
  refine (c2.out _).mono ?_
  rintro e w' ⟨rfl, rfl⟩
  go_wp2_with fail
  refine (c3.out _).mono ?_
  rintro e w' ⟨rfl, rfl⟩
  go_wp2_with fail
  refine (c4.out _).mono ?_
  rintro e w' ⟨rfl, rfl⟩
  go_wp2_with fail
  refine (c5.out _).mono ?_
  rintro e w' ⟨rfl, rfl⟩
  go_wp2_with fail
  refine (c6.out _).mono ?_
  rintro e w' ⟨rfl, hb'⟩
  replace hb := Lib.hid (Tp.Below_seq hb.out hb')
  clear hb'
  go_wp2_with fail
  refine (c7.out _).mono ?_
  rintro e w' ⟨rfl, hb'⟩
  replace hb := Lib.hid (Tp.Below_seq hb.out hb')
  clear hb'
  go_wp2
  go_ret
  exact ⟨rfl, hb.out⟩

theorem walk {H : Type} (enc : TypeId × Value → H) (W : World) (base : Nat) (args : Array Value) (ds : List (DataW H)) (p : List MemPlace)
    (hval0 : ∀ (j : Nat) t v, Try.f6.params[j]? = some t → args[j]? = some v → Value.okWide Try.prog W .any base t v)
    (hA : DataW.TrodAll enc Try.prog W 0 (fun _ => true) true Try.f6.params.toList args.toList ds p)
    (hsz : (DataW.weightsEach Try.prog Try.f6.params.toList ds).all (· ≤ reachBytes) = true) :
    Calls Try.prog 6 args W fun e w' => e = .returned (.bool true) ∧ Below W.heap.size W w' := by
  have hval : ∀ (j : Nat) t v, Try.f6.params[j]? = some t → args[j]? = some v → Value.okWide Try.prog W .any base t v := hval0
  rw [Try.params6] at hA hval hsz
  obtain ⟨v0, v1, d0, d1, p0, p1, rfl, rfl, rfl, h0, h1⟩ := trodAll_two hA
  obtain ⟨s0, rfl, rfl, rfl, hs0⟩ := open_string Try.underlying9 (hval 0 9 v0 rfl rfl) h0
  obtain ⟨s1, rfl, rfl, rfl, hs1⟩ := open_string Try.underlying9 (hval 1 9 v1 rfl rfl) h1
  exact law2 s0 s1 W hs0 hs1
end Go.Proofs.Ytndbnomhhfhdfaa.pathsCovers
