/- The walk of the law on the order of patterns: any three texts. -/
import Derived.Test.YtndbnomhhfhdfaaAwake
import Derived.Test.YtndbnomhhfhdfaaFrame
namespace Go.Proofs.Ytndbnomhhfhdfaa.pathsOrder
open Go.ChangeShapes Go.WideShapes Go.ChangeAt Go.RowKit
open Go.WideMaps Go.WideElems
open Go.ChangeMaps (open_string)
open Go.Pa
set_option linter.unusedVariables false

theorem le3 {x y z : Int} (h : x ≤ 0 → y ≤ 0 → z ≤ 0) : 0 < x ∨ (x ≤ 0 ∧ 0 < y) ∨ (x ≤ 0 ∧ y ≤ 0 ∧ decide (0 < z) = false) := by
  rcases Int.lt_or_le 0 x with h1 | h1
  · exact .inl h1
  · rcases Int.lt_or_le 0 y with h2 | h2
    · exact .inr (.inl ⟨h1, h2⟩)
    · exact .inr (.inr ⟨h1, h2, by have := h h1 h2; simp; omega⟩)
theorem pat3 {x y : Bool} {P : Prop} (h : x = true → y = false → P) : x = false ∨ (x = true ∧ y = true) ∨ (x = true ∧ y = false ∧ P) := by
  cases x
  · exact .inl rfl
  · cases y
    · exact .inr (.inr ⟨rfl, rfl, h rfl rfl⟩)
    · exact .inr (.inl ⟨rfl, rfl⟩)
theorem cov2 {x : Bool} {P : Prop} (h : x = true → P) : x = false ∨ (x = true ∧ P) := by
  cases x
  · exact .inl rfl
  · exact .inr ⟨rfl, h rfl⟩
theorem order_pats (a b : Bs) (h1 : hostPat a = true) (h2 : hostPat b = false) : orderH a b = -1 := order_none h1 h2
set_option maxHeartbeats 4000000 in
set_option maxRecDepth 100000 in
theorem law3 (a : ByteArray) (b : ByteArray) (c : ByteArray) (w : World) (ha : a.size ≤ maxLen) (hb : b.size ≤ maxLen) (hc : c.size ≤ maxLen) :
    Calls Try.prog 7 #[.string a, .string b, .string c] w fun e w' => e = .returned (.bool true) ∧ Below w.heap.size w w' := by
  have c1 := fun w => order33 a b w ha hb
  have c2 := fun w => order33 b a w hb ha
  have c3 := fun w => order33 a a w ha ha
  have c4 := fun w => order33 b c w hb hc
  have c5 := fun w => order33 a c w ha hc
  have c6 := fun w => hostpat13 a w ha
  have c7 := fun w => hostpat13 b w hb
  have c8 := fun w => covhost27 a b w ha hb
  have l1 := @order_trans a.data.toList b.data.toList c.data.toList
  have l2 := order_pats a.data.toList b.data.toList
  have l3 := @order_covers a.data.toList b.data.toList
  have l4 := order_vals b.data.toList a.data.toList
  simp only [order_self] at c3
  rw [order_anti a.data.toList b.data.toList] at l1 l2
  simp only [order_anti a.data.toList b.data.toList] at c1
  generalize orderH b.data.toList a.data.toList = y at *
  generalize orderH b.data.toList c.data.toList = o2 at *
  generalize orderH a.data.toList c.data.toList = o3 at *
  generalize hostPat a.data.toList = p1 at *
  generalize hostPat b.data.toList = p2 at *
  generalize hostCovers a.data.toList b.data.toList = x1 at *
  have y1 : -1 ≤ y := by omega
  have y2 : y ≤ 1 := by omega
  replace c1 := Lib.hid c1
  replace c2 := Lib.hid c2
  replace c3 := Lib.hid c3
  replace c4 := Lib.hid c4
  replace c5 := Lib.hid c5
  replace c6 := Lib.hid c6
  replace c7 := Lib.hid c7
  replace c8 := Lib.hid c8
  replace l1 := Lib.hid l1
  replace l2 := Lib.hid l2
  replace l3 := Lib.hid l3
  replace l4 := Lib.hid l4
  have hb := Lib.hid (Below.refl w.heap.size w)
  go_enter Try.func7, Try.ntmps7
  go_wp2_with fail
  refine (awake_any _).mono ?_
  rintro e w' ⟨rfl, hb'⟩
  replace hb := Lib.hid (Tp.Below_seq hb.out hb')
  clear hb'
  go_upto_region 3 with fail
  go_cut [22] (fun sv wx => sv = .bool false ∧ Below w.heap.size w wx)
  case first =>
    have en : ((-y) != (-y)) = false := by simp
    all_goals
      skip
    all_goals
      go_wp2_with (first | (go_at_call 33; (with_reducible refine (c1.out _).mono ?_); rintro e w' ⟨rfl, hb'⟩; replace hb := Lib.hid (Tp.Below_seq hb.out hb'); clear hb') | (go_at_call 33; (with_reducible refine (c2.out _).mono ?_); rintro e w' ⟨rfl, hb'⟩; replace hb := Lib.hid (Tp.Below_seq hb.out hb'); clear hb') | (go_at_call 33; (with_reducible refine (c3.out _).mono ?_); rintro e w' ⟨rfl, hb'⟩; replace hb := Lib.hid (Tp.Below_seq hb.out hb'); clear hb'))
      go_meet
      exact ⟨rfl, hb.out⟩
  case rest =>
    obtain ⟨rfl, hb'⟩ := hcut
    replace hb := Lib.hid hb'
    clear hb'
    go_upto_region 5 with fail
    go_cut [38] (fun sv wx => sv = .bool false ∧ Below w.heap.size w wx)
    case first =>
      rcases le3 l1.out with h | ⟨h, h2⟩ | ⟨h, h2, h3⟩
      all_goals
        skip
      all_goals
        go_wp2_with (first | (go_at_call 33; (with_reducible refine (c1.out _).mono ?_); rintro e w' ⟨rfl, hb'⟩; replace hb := Lib.hid (Tp.Below_seq hb.out hb'); clear hb') | (go_at_call 33; (with_reducible refine (c4.out _).mono ?_); rintro e w' ⟨rfl, hb'⟩; replace hb := Lib.hid (Tp.Below_seq hb.out hb'); clear hb') | (go_at_call 33; (with_reducible refine (c5.out _).mono ?_); rintro e w' ⟨rfl, hb'⟩; replace hb := Lib.hid (Tp.Below_seq hb.out hb'); clear hb'))
        go_meet
        exact ⟨rfl, hb.out⟩
    case rest =>
      obtain ⟨rfl, hb'⟩ := hcut
      replace hb := Lib.hid hb'
      clear hb'
      go_upto_region 7 with fail
      go_cut [51] (fun sv wx => sv = .bool false ∧ Below w.heap.size w wx)
      case first =>
        rcases pat3 l2.out with h | ⟨h, h2⟩ | ⟨h, h2, h3⟩ <;> subst_vars
        all_goals
          skip
        all_goals
          go_wp2_with (first | (go_at_call 13; (with_reducible refine (c6.out _).mono ?_); rintro e w' ⟨rfl, hb'⟩; replace hb := Lib.hid (Tp.Below_seq hb.out hb'); clear hb') | (go_at_call 13; (with_reducible refine (c7.out _).mono ?_); rintro e w' ⟨rfl, hb'⟩; replace hb := Lib.hid (Tp.Below_seq hb.out hb'); clear hb') | (go_at_call 33; (with_reducible refine (c1.out _).mono ?_); rintro e w' ⟨rfl, hb'⟩; replace hb := Lib.hid (Tp.Below_seq hb.out hb'); clear hb'))
          go_meet
          exact ⟨rfl, hb.out⟩
      case rest =>
        obtain ⟨rfl, hb'⟩ := hcut
        replace hb := Lib.hid hb'
        clear hb'
        rcases cov2 l3.out with h | ⟨h, h2⟩ <;> subst_vars
        all_goals
          skip
        all_goals
          go_wp2_with (first | (go_at_call 27; (with_reducible refine (c8.out _).mono ?_); rintro e w' ⟨rfl, hb'⟩; replace hb := Lib.hid (Tp.Below_seq hb.out hb'); clear hb') | (go_at_call 33; (with_reducible refine (c2.out _).mono ?_); rintro e w' ⟨rfl, hb'⟩; replace hb := Lib.hid (Tp.Below_seq hb.out hb'); clear hb'))
          go_ret
          exact ⟨rfl, hb.out⟩

theorem walk {H : Type} (enc : TypeId × Value → H) (W : World) (base : Nat) (args : Array Value) (ds : List (DataW H)) (p : List MemPlace)
    (hval0 : ∀ (j : Nat) t v, Try.f7.params[j]? = some t → args[j]? = some v → Value.okWide Try.prog W .any base t v)
    (hA : DataW.TrodAll enc Try.prog W 0 (fun _ => true) true Try.f7.params.toList args.toList ds p)
    (hsz : (DataW.weightsEach Try.prog Try.f7.params.toList ds).all (· ≤ reachBytes) = true) :
    Calls Try.prog 7 args W fun e w' => e = .returned (.bool true) ∧ Below W.heap.size W w' := by
  have hval : ∀ (j : Nat) t v, Try.f7.params[j]? = some t → args[j]? = some v → Value.okWide Try.prog W .any base t v := hval0
  rw [Try.params7] at hA hval hsz
  obtain ⟨v0, v1, v2, d0, d1, d2, p0, p1, p2, rfl, rfl, rfl, h0, h1, h2⟩ := trodAll_three hA
  obtain ⟨s0, rfl, rfl, rfl, hs0⟩ := open_string Try.underlying9 (hval 0 9 v0 rfl rfl) h0
  obtain ⟨s1, rfl, rfl, rfl, hs1⟩ := open_string Try.underlying9 (hval 1 9 v1 rfl rfl) h1
  obtain ⟨s2, rfl, rfl, rfl, hs2⟩ := open_string Try.underlying9 (hval 2 9 v2 rfl rfl) h2
  exact law3 s0 s1 s2 W hs0 hs1 hs2
end Go.Proofs.Ytndbnomhhfhdfaa.pathsOrder
