/- The walk of the law on what a covered pattern takes: any three texts. -/
import Derived.Test.YtndbnomhhfhdfaaAwake
import Derived.Test.YtndbnomhhfhdfaaFrame
namespace Go.Proofs.Ytndbnomhhfhdfaa.pathsWithin
open Go.ChangeShapes Go.WideShapes Go.ChangeAt Go.RowKit
open Go.WideMaps Go.WideElems
open Go.ChangeMaps (open_string)
open Go.Pa
set_option linter.unusedVariables false

set_option maxHeartbeats 4000000 in
set_option maxRecDepth 100000 in
theorem law3 (a : ByteArray) (b : ByteArray) (s : ByteArray) (w : World) (ha : a.size ≤ maxLen) (hb : b.size ≤ maxLen) (hs : s.size ≤ maxLen) :
    Calls Try.prog 10 #[.string a, .string b, .string s] w fun e w' => e = .returned (.bool true) ∧ Below w.heap.size w w' := by
  have c1 := fun w => covhost27 a b w ha hb
  have c2 := fun w => host19 b s w hb hs
  have c3 := fun w => host19 a s w ha hs
  have c4 := fun w => covpath29 a b w ha hb
  have c5 := fun w => path21 b s w hb hs
  have c6 := fun w => path21 a s w ha hs
  have c7 := fun w => covmeth31 a b w ha hb
  have c8 := fun w => method23 b s w hb hs
  have c9 := fun w => method23 a s w ha hs
  have l1 := @within_host a.data.toList b.data.toList s.data.toList
  have l2 := @within_path a.data.toList b.data.toList s.data.toList
  have l3 := @within_meth a.data.toList b.data.toList s.data.toList
  generalize hostCovers a.data.toList b.data.toList = x1 at *
  generalize hostTakes b.data.toList s.data.toList = x2 at *
  generalize hostTakes a.data.toList s.data.toList = x3 at *
  generalize pathCovers a.data.toList b.data.toList = y1 at *
  generalize pathTakes b.data.toList s.data.toList = y2 at *
  generalize pathTakes a.data.toList s.data.toList = y3 at *
  generalize methCovers a.data.toList b.data.toList = z1 at *
  generalize methTakes b.data.toList s.data.toList = z2 at *
  generalize methTakes a.data.toList s.data.toList = z3 at *
  replace c1 := Lib.hid c1
  replace c2 := Lib.hid c2
  replace c3 := Lib.hid c3
  replace c4 := Lib.hid c4
  replace c5 := Lib.hid c5
  replace c6 := Lib.hid c6
  replace c7 := Lib.hid c7
  replace c8 := Lib.hid c8
  replace c9 := Lib.hid c9
  replace l1 := Lib.hid l1
  replace l2 := Lib.hid l2
  replace l3 := Lib.hid l3
  have hb := Lib.hid (Below.refl w.heap.size w)
  go_enter Try.func10, Try.ntmps10
  go_wp2_with fail
  refine (awake_any _).mono ?_
  rintro e w' ⟨rfl, hb'⟩
  replace hb := Lib.hid (Tp.Below_seq hb.out hb')
  clear hb'
  go_upto_region 3 with fail
  go_cut [22] (fun sv wx => sv = .bool false ∧ Below w.heap.size w wx)
  case first =>
    cases x1 <;> cases x2 <;> cases x3
    all_goals
      first | (exact absurd (l1.out rfl rfl) (by decide)) | skip
    all_goals
      go_wp2_with (first | (go_at_call 27; (with_reducible refine (c1.out _).mono ?_); rintro e w' ⟨rfl, hb'⟩; replace hb := Lib.hid (Tp.Below_seq hb.out hb'); clear hb') | (go_at_call 19; (with_reducible refine (c2.out _).mono ?_); rintro e w' ⟨rfl, hb'⟩; replace hb := Lib.hid (Tp.Below_seq hb.out hb'); clear hb') | (go_at_call 19; (with_reducible refine (c3.out _).mono ?_); rintro e w' ⟨rfl, hb'⟩; replace hb := Lib.hid (Tp.Below_seq hb.out hb'); clear hb'))
      go_meet
      exact ⟨rfl, hb.out⟩
  case rest =>
    obtain ⟨rfl, hb'⟩ := hcut
    replace hb := Lib.hid hb'
    clear hb'
    go_upto_region 5 with fail
    go_cut [36] (fun sv wx => sv = .bool false ∧ Below w.heap.size w wx)
    case first =>
      cases y1 <;> cases y2 <;> cases y3
      all_goals
        first | (exact absurd (l2.out rfl rfl) (by decide)) | skip
      all_goals
        go_wp2_with (first | (go_at_call 29; (with_reducible refine (c4.out _).mono ?_); rintro e w' ⟨rfl, rfl⟩) | (go_at_call 21; (with_reducible refine (c5.out _).mono ?_); rintro e w' ⟨rfl, rfl⟩) | (go_at_call 21; (with_reducible refine (c6.out _).mono ?_); rintro e w' ⟨rfl, rfl⟩))
        go_meet
        exact ⟨rfl, hb.out⟩
    case rest =>
      obtain ⟨rfl, hb'⟩ := hcut
      replace hb := Lib.hid hb'
      clear hb'
      cases z1 <;> cases z2 <;> cases z3
      all_goals
        first | (exact absurd (l3.out rfl rfl) (by decide)) | skip
      all_goals
        go_wp2_with (first | (go_at_call 31; (with_reducible refine (c7.out _).mono ?_); rintro e w' ⟨rfl, rfl⟩) | (go_at_call 23; (with_reducible refine (c8.out _).mono ?_); rintro e w' ⟨rfl, rfl⟩) | (go_at_call 23; (with_reducible refine (c9.out _).mono ?_); rintro e w' ⟨rfl, rfl⟩))
        go_ret
        exact ⟨rfl, hb.out⟩

theorem walk {H : Type} (enc : TypeId × Value → H) (W : World) (base : Nat) (args : Array Value) (ds : List (DataW H)) (p : List MemPlace)
    (hval0 : ∀ (j : Nat) t v, Try.f10.params[j]? = some t → args[j]? = some v → Value.okWide Try.prog W .any base t v)
    (hA : DataW.TrodAll enc Try.prog W 0 (fun _ => true) true Try.f10.params.toList args.toList ds p)
    (hsz : (DataW.weightsEach Try.prog Try.f10.params.toList ds).all (· ≤ reachBytes) = true) :
    Calls Try.prog 10 args W fun e w' => e = .returned (.bool true) ∧ Below W.heap.size W w' := by
  have hval : ∀ (j : Nat) t v, Try.f10.params[j]? = some t → args[j]? = some v → Value.okWide Try.prog W .any base t v := hval0
  rw [Try.params10] at hA hval hsz
  obtain ⟨v0, v1, v2, d0, d1, d2, p0, p1, p2, rfl, rfl, rfl, h0, h1, h2⟩ := trodAll_three hA
  obtain ⟨s0, rfl, rfl, rfl, hs0⟩ := open_string Try.underlying9 (hval 0 9 v0 rfl rfl) h0
  obtain ⟨s1, rfl, rfl, rfl, hs1⟩ := open_string Try.underlying9 (hval 1 9 v1 rfl rfl) h1
  obtain ⟨s2, rfl, rfl, rfl, hs2⟩ := open_string Try.underlying9 (hval 2 9 v2 rfl rfl) h2
  exact law3 s0 s1 s2 W hs0 hs1 hs2
end Go.Proofs.Ytndbnomhhfhdfaa.pathsWithin
