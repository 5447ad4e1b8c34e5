/- The walk of the law on chains of patterns: any three texts. -/
import Derived.Test.YtndbnomhhfhdfaaAwake
import Derived.Test.YtndbnomhhfhdfaaFrame
namespace Go.Proofs.Ytndbnomhhfhdfaa.pathsChain
open Go.ChangeShapes Go.WideShapes Go.ChangeAt Go.RowKit
open Go.WideMaps Go.WideElems
open Go.ChangeMaps (open_string)
open Go.Pa
set_option linter.unusedVariables false

theorem three {x y : Bool} {P : Prop} (h : x = true → y = true → P) : x = false ∨ (x = true ∧ y = false) ∨ (x = true ∧ y = true ∧ P) := by
  cases x
  · exact .inl rfl
  · cases y
    · exact .inr (.inl ⟨rfl, rfl⟩)
    · exact .inr (.inr ⟨rfl, rfl, h rfl rfl⟩)
theorem two {x : Bool} {P Q : Prop} (h : x = true → P ∧ Q) : x = false ∨ (x = true ∧ P ∧ Q) := by
  cases x
  · exact .inl rfl
  · exact .inr ⟨rfl, h rfl⟩
theorem chain_eq (a b : ByteArray) (h1 : pathCovers a.data.toList b.data.toList = true) (h2 : pathCovers b.data.toList a.data.toList = true) : (a.data.toList == b.data.toList) = true := beq_iff_eq.2 (pcovers_anti h1 h2)
theorem covers_pats (a b : Bs) (h : hostCovers a b = true) : hostPat a = true ∧ hostPat b = true := by
  obtain ⟨h1, h2, _⟩ := (covers_iff a b).1 h
  exact ⟨(hostPat_iff a).2 h1, (hostPat_iff b).2 h2⟩
set_option maxHeartbeats 4000000 in
set_option maxRecDepth 100000 in
theorem law3 (a : ByteArray) (b : ByteArray) (c : ByteArray) (w : World) (ha : a.size ≤ maxLen) (hb : b.size ≤ maxLen) (hc : c.size ≤ maxLen) :
    Calls Try.prog 9 #[.string a, .string b, .string c] w fun e w' => e = .returned (.bool true) ∧ Below w.heap.size w w' := by
  have c1 := fun w => covhost27 a a w ha ha
  have c2 := fun w => hostpat13 a w ha
  have c3 := fun w => covpath29 a a w ha ha
  have c4 := fun w => pathpat15 a w ha
  have c5 := fun w => covmeth31 a a w ha ha
  have c6 := fun w => methpat17 a w ha
  have d1 := fun w => covhost27 a b w ha hb
  have d2 := fun w => covhost27 b c w hb hc
  have d3 := fun w => covhost27 a c w ha hc
  have d4 := fun w => covpath29 a b w ha hb
  have d5 := fun w => covpath29 b c w hb hc
  have d6 := fun w => covpath29 a c w ha hc
  have f1 := fun w => covhost27 b a w hb ha
  have f2 := fun w => order33 a b w ha hb
  have f3 := fun w => covpath29 b a w hb ha
  have f4 := fun w => hostpat13 b w hb
  have l1 := @covers_trans a.data.toList b.data.toList c.data.toList
  have l2 := @pcovers_trans a.data.toList b.data.toList c.data.toList
  have l3 := @order_both a.data.toList b.data.toList
  have l4 := chain_eq a b
  have l5 := covers_pats a.data.toList b.data.toList
  have e4 := eq_lists a b
  simp only [covers_self, pcovers_self, mcovers_self] at c1 c3 c5
  generalize hostPat a.data.toList = p1 at *
  generalize pathPat a.data.toList = p2 at *
  generalize methPat a.data.toList = p3 at *
  generalize hostPat b.data.toList = p4 at *
  generalize hostCovers a.data.toList b.data.toList = x1 at *
  generalize hostCovers b.data.toList c.data.toList = x2 at *
  generalize hostCovers a.data.toList c.data.toList = x3 at *
  generalize pathCovers a.data.toList b.data.toList = y1 at *
  generalize pathCovers b.data.toList c.data.toList = y2 at *
  generalize pathCovers a.data.toList c.data.toList = y3 at *
  generalize hostCovers b.data.toList a.data.toList = x4 at *
  generalize pathCovers b.data.toList a.data.toList = y4 at *
  generalize orderH a.data.toList b.data.toList = o at *
  generalize (a.data.toList == b.data.toList) = q at *
  replace c1 := Lib.hid c1
  replace c2 := Lib.hid c2
  replace c3 := Lib.hid c3
  replace c4 := Lib.hid c4
  replace c5 := Lib.hid c5
  replace c6 := Lib.hid c6
  replace d1 := Lib.hid d1
  replace d2 := Lib.hid d2
  replace d3 := Lib.hid d3
  replace d4 := Lib.hid d4
  replace d5 := Lib.hid d5
  replace d6 := Lib.hid d6
  replace f1 := Lib.hid f1
  replace f2 := Lib.hid f2
  replace f3 := Lib.hid f3
  replace f4 := Lib.hid f4
  replace l1 := Lib.hid l1
  replace l2 := Lib.hid l2
  replace l3 := Lib.hid l3
  replace l4 := Lib.hid l4
  replace l5 := Lib.hid l5
  have hb := Lib.hid (Below.refl w.heap.size w)
  go_enter Try.func9, Try.ntmps9
  go_wp2_with fail
  refine (awake_any _).mono ?_
  rintro e w' ⟨rfl, hb'⟩
  replace hb := Lib.hid (Tp.Below_seq hb.out hb')
  clear hb'
  go_upto_region 3 with fail
  go_cut [30] (fun sv wx => sv = .bool false ∧ Below w.heap.size w wx)
  case first =>
    cases p1 <;> cases p2 <;> cases p3
    all_goals
      skip
    all_goals
      go_wp2_with (first | (go_at_call 27; (with_reducible refine (c1.out _).mono ?_); rintro e w' ⟨rfl, hb'⟩; replace hb := Lib.hid (Tp.Below_seq hb.out hb'); clear hb') | (go_at_call 13; (with_reducible refine (c2.out _).mono ?_); rintro e w' ⟨rfl, hb'⟩; replace hb := Lib.hid (Tp.Below_seq hb.out hb'); clear hb') | (go_at_call 29; (with_reducible refine (c3.out _).mono ?_); rintro e w' ⟨rfl, rfl⟩) | (go_at_call 15; (with_reducible refine (c4.out _).mono ?_); rintro e w' ⟨rfl, rfl⟩) | (go_at_call 31; (with_reducible refine (c5.out _).mono ?_); rintro e w' ⟨rfl, rfl⟩) | (go_at_call 17; (with_reducible refine (c6.out _).mono ?_); rintro e w' ⟨rfl, rfl⟩))
      go_meet
      exact ⟨rfl, hb.out⟩
  case rest =>
    obtain ⟨rfl, hb'⟩ := hcut
    replace hb := Lib.hid hb'
    clear hb'
    go_upto_region 5 with fail
    go_cut [60] (fun sv wx => sv = .bool false ∧ Below w.heap.size w wx)
    case first =>
      rcases three l1.out with h | ⟨h, h2⟩ | ⟨h, h2, h3⟩ <;> rcases three l2.out with k | ⟨k, k2⟩ | ⟨k, k2, k3⟩ <;> subst_vars
      all_goals
        skip
      all_goals
        go_wp2_with (first | (go_at_call 27; (with_reducible refine (d1.out _).mono ?_); rintro e w' ⟨rfl, hb'⟩; replace hb := Lib.hid (Tp.Below_seq hb.out hb'); clear hb') | (go_at_call 27; (with_reducible refine (d2.out _).mono ?_); rintro e w' ⟨rfl, hb'⟩; replace hb := Lib.hid (Tp.Below_seq hb.out hb'); clear hb') | (go_at_call 27; (with_reducible refine (d3.out _).mono ?_); rintro e w' ⟨rfl, hb'⟩; replace hb := Lib.hid (Tp.Below_seq hb.out hb'); clear hb') | (go_at_call 29; (with_reducible refine (d4.out _).mono ?_); rintro e w' ⟨rfl, rfl⟩) | (go_at_call 29; (with_reducible refine (d5.out _).mono ?_); rintro e w' ⟨rfl, rfl⟩) | (go_at_call 29; (with_reducible refine (d6.out _).mono ?_); rintro e w' ⟨rfl, rfl⟩))
        go_meet
        exact ⟨rfl, hb.out⟩
    case rest =>
      obtain ⟨rfl, hb'⟩ := hcut
      replace hb := Lib.hid hb'
      clear hb'
      go_upto_region 7 with fail
      go_cut [89] (fun sv wx => sv = .bool false ∧ Below w.heap.size w wx)
      case first =>
        rcases three l3.out with h | ⟨h, h2⟩ | ⟨h, h2, h3⟩ <;> rcases three l4.out with k | ⟨k, k2⟩ | ⟨k, k2, k3⟩ <;> subst_vars
        all_goals
          skip
        all_goals
          go_wp2_with (first | (go_at_call 27; (with_reducible refine (d1.out _).mono ?_); rintro e w' ⟨rfl, hb'⟩; replace hb := Lib.hid (Tp.Below_seq hb.out hb'); clear hb') | (go_at_call 27; (with_reducible refine (f1.out _).mono ?_); rintro e w' ⟨rfl, hb'⟩; replace hb := Lib.hid (Tp.Below_seq hb.out hb'); clear hb') | (go_at_call 33; (with_reducible refine (f2.out _).mono ?_); rintro e w' ⟨rfl, hb'⟩; replace hb := Lib.hid (Tp.Below_seq hb.out hb'); clear hb') | (go_at_call 29; (with_reducible refine (d4.out _).mono ?_); rintro e w' ⟨rfl, rfl⟩) | (go_at_call 29; (with_reducible refine (f3.out _).mono ?_); rintro e w' ⟨rfl, rfl⟩))
          go_meet
          exact ⟨rfl, hb.out⟩
      case rest =>
        obtain ⟨rfl, hb'⟩ := hcut
        replace hb := Lib.hid hb'
        clear hb'
        rcases two l5.out with h | ⟨h, h2, h3⟩ <;> subst_vars
        all_goals
          skip
        all_goals
          go_wp2_with (first | (go_at_call 27; (with_reducible refine (d1.out _).mono ?_); rintro e w' ⟨rfl, hb'⟩; replace hb := Lib.hid (Tp.Below_seq hb.out hb'); clear hb') | (go_at_call 13; (with_reducible refine (c2.out _).mono ?_); rintro e w' ⟨rfl, hb'⟩; replace hb := Lib.hid (Tp.Below_seq hb.out hb'); clear hb') | (go_at_call 13; (with_reducible refine (f4.out _).mono ?_); rintro e w' ⟨rfl, hb'⟩; replace hb := Lib.hid (Tp.Below_seq hb.out hb'); clear hb'))
          go_ret
          exact ⟨rfl, hb.out⟩

theorem walk {H : Type} (enc : TypeId × Value → H) (W : World) (base : Nat) (args : Array Value) (ds : List (DataW H)) (p : List MemPlace)
    (hval0 : ∀ (j : Nat) t v, Try.f9.params[j]? = some t → args[j]? = some v → Value.okWide Try.prog W .any base t v)
    (hA : DataW.TrodAll enc Try.prog W 0 (fun _ => true) true Try.f9.params.toList args.toList ds p)
    (hsz : (DataW.weightsEach Try.prog Try.f9.params.toList ds).all (· ≤ reachBytes) = true) :
    Calls Try.prog 9 args W fun e w' => e = .returned (.bool true) ∧ Below W.heap.size W w' := by
  have hval : ∀ (j : Nat) t v, Try.f9.params[j]? = some t → args[j]? = some v → Value.okWide Try.prog W .any base t v := hval0
  rw [Try.params9] at hA hval hsz
  obtain ⟨v0, v1, v2, d0, d1, d2, p0, p1, p2, rfl, rfl, rfl, h0, h1, h2⟩ := trodAll_three hA
  obtain ⟨s0, rfl, rfl, rfl, hs0⟩ := open_string Try.underlying9 (hval 0 9 v0 rfl rfl) h0
  obtain ⟨s1, rfl, rfl, rfl, hs1⟩ := open_string Try.underlying9 (hval 1 9 v1 rfl rfl) h1
  obtain ⟨s2, rfl, rfl, rfl, hs2⟩ := open_string Try.underlying9 (hval 2 9 v2 rfl rfl) h2
  exact law3 s0 s1 s2 W hs0 hs1 hs2
end Go.Proofs.Ytndbnomhhfhdfaa.pathsChain
