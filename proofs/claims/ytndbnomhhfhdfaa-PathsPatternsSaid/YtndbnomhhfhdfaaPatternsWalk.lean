/- The walk of the law on patterns: any text. -/
import Derived.Test.YtndbnomhhfhdfaaTakes
import Derived.Test.YtndbnomhhfhdfaaFrame
namespace Go.Proofs.Ytndbnomhhfhdfaa.pathsPatterns
open Go.ChangeShapes Go.WideShapes Go.ChangeAt Go.RowKit
open Go.WideMaps Go.WideElems
open Go.ChangeMaps (open_string)
open Go.Pa
set_option linter.unusedVariables false

theorem patterns (s : ByteArray) (w : World) (hs : s.size ≤ maxLen) :
    Calls Try.prog 3 #[.string s] w fun e w' => e = .returned (.bool true) ∧ Below w.heap.size w w' := by
  have c1 := fun w => fold_any s w hs
  have c2 := fun w => folded_any s w hs
  have c3 := fun w => hostpat13 s w hs
  have c4 := fun w => hostpat14 s w hs
  have c5 := fun w => pathpat15 s w hs
  have c6 := fun w => pathpat16 s w hs
  have c7 := fun w => methpat17 s w hs
  have c8 := fun w => methpat18 s w hs
  generalize hostPat s.data.toList = b1 at *
  generalize pathPat s.data.toList = b2 at *
  generalize methPat s.data.toList = b3 at *
  have hb := Lib.hid (Below.refl w.heap.size w)
  replace c3 := Lib.hid c3
  replace c4 := Lib.hid c4
  replace c5 := Lib.hid c5
  replace c6 := Lib.hid c6
  replace c7 := Lib.hid c7
  replace c8 := Lib.hid c8
  cases hfo : foldH s.data.toList with
  | none =>
    simp only [foldV_none hfo] at c1 c2
    replace c1 := Lib.hid c1
    replace c2 := Lib.hid c2
    clear hfo
    go_enter Try.func3, Try.ntmps3
    go_wp2_with fail
    refine (c1.out _).mono ?_
    rintro e w' ⟨rfl, hb'⟩
    replace hb := Lib.hid (Tp.Below_seq hb.out hb')
    clear hb'
    go_wp2_with fail
    refine (c2.out _).mono ?_
    rintro e w' ⟨rfl, hb'⟩
    replace hb := Lib.hid (Tp.Below_seq hb.out hb')
    clear hb'
    go_wp2_with fail
    refine (c3.out _).mono ?_
    rintro e w' ⟨rfl, hb'⟩
    replace hb := Lib.hid (Tp.Below_seq hb.out hb')
    clear hb'
    go_wp2_with fail
    refine (c4.out _).mono ?_
    rintro e w' ⟨rfl, hb'⟩
    replace hb := Lib.hid (Tp.Below_seq hb.out hb')
    clear hb'
    go_wp2_with fail
    refine (c5.out _).mono ?_
    rintro e w' ⟨rfl, rfl⟩
    go_wp2_with fail
    refine (c6.out _).mono ?_
    rintro e w' ⟨rfl, rfl⟩
    go_wp2_with fail
    refine (c7.out _).mono ?_
    rintro e w' ⟨rfl, rfl⟩
    go_wp2_with fail
    refine (c8.out _).mono ?_
    rintro e w' ⟨rfl, rfl⟩
    go_wp2
    go_ret
    exact ⟨rfl, hb.out⟩
  | some h =>
    simp only [foldV_some hfo] at c1 c2
    replace c1 := Lib.hid c1
    replace c2 := Lib.hid c2
    clear hfo
    have e1 : ((B h).toList == (B h).toList) = true := by simp
    go_enter Try.func3, Try.ntmps3
    go_wp2_with fail
    refine (c1.out _).mono ?_
    rintro e w' ⟨rfl, hb'⟩
    replace hb := Lib.hid (Tp.Below_seq hb.out hb')
    clear hb'
    go_wp2_with fail
    refine (c2.out _).mono ?_
    rintro e w' ⟨rfl, hb'⟩
    replace hb := Lib.hid (Tp.Below_seq hb.out hb')
    clear hb'
    go_wp2_with fail
    refine (c3.out _).mono ?_
    rintro e w' ⟨rfl, hb'⟩
    replace hb := Lib.hid (Tp.Below_seq hb.out hb')
    clear hb'
    go_wp2_with fail
    refine (c4.out _).mono ?_
    rintro e w' ⟨rfl, hb'⟩
    replace hb := Lib.hid (Tp.Below_seq hb.out hb')
    clear hb'
    go_wp2_with fail
    refine (c5.out _).mono ?_
    rintro e w' ⟨rfl, rfl⟩
    go_wp2_with fail
    refine (c6.out _).mono ?_
    rintro e w' ⟨rfl, rfl⟩
    go_wp2_with fail
    refine (c7.out _).mono ?_
    rintro e w' ⟨rfl, rfl⟩
    go_wp2_with fail
    refine (c8.out _).mono ?_
    rintro e w' ⟨rfl, rfl⟩
    go_wp2
    go_ret
    exact ⟨rfl, hb.out⟩

theorem walk {H : Type} (enc : TypeId × Value → H) (W : World) (base : Nat) (args : Array Value) (ds : List (DataW H)) (p : List MemPlace)
    (hval0 : ∀ (j : Nat) t v, Try.f3.params[j]? = some t → args[j]? = some v → Value.okWide Try.prog W .any base t v)
    (hA : DataW.TrodAll enc Try.prog W 0 (fun _ => true) true Try.f3.params.toList args.toList ds p)
    (hsz : (DataW.weightsEach Try.prog Try.f3.params.toList ds).all (· ≤ reachBytes) = true) :
    Calls Try.prog 3 args W fun e w' => e = .returned (.bool true) ∧ Below W.heap.size W w' := by
  have hval : ∀ (j : Nat) t v, Try.f3.params[j]? = some t → args[j]? = some v → Value.okWide Try.prog W .any base t v := hval0
  rw [Try.params3] at hA hval hsz
  obtain ⟨v0, d0, rfl, rfl, h0⟩ := trodAll_one hA
  obtain ⟨s0, rfl, rfl, rfl, hs0⟩ := open_string Try.underlying9 (hval 0 9 v0 rfl rfl) h0
  exact patterns s0 W hs0
end Go.Proofs.Ytndbnomhhfhdfaa.pathsPatterns
