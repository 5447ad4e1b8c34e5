/- The walk of the law on places, for any weights and any two words. -/
import Derived.Test.YtfdmfihifjlidaaPlaces
import Derived.Test.YtfdmfihifjlidaaLent
import Derived.Test.YtfdmfihifjlidaaAwake
import Derived.Test.YtfdmfihifjlidaaOpen
namespace Go.Proofs.Ytfdmfihifjlidaa.drawPlaces
open Go.ChangeShapes Go.WideShapes Go.ChangeAt Go.RowKit
open Cum (outs good)
open drawUnits (U)

/-- The calls ahead of the tests: what holds behind them. -/
structure Ahead (ws : List Nat) (v : Value) (W w : World) : Prop where
  below : Below W.heap.size W w
  rdf : Tp.RdF w v ws
theorem Ahead.step {ws : List Nat} {v : Value} {W w w' : World} (h : Ahead ws v W w) (hb : Below w.heap.size w w') : Ahead ws v W w' := ⟨Tp.Below_seq h.below hb, h.rdf.below hb⟩

set_option maxHeartbeats 2000000 in
theorem places_bad (ws : List Nat) (hw : ∀ x ∈ ws, x < 18446744073709551616) (a b : Nat) (ha : a < 18446744073709551616) (hb : b < 18446744073709551616) (hg : good ws = false) (v : Value) (w : World) (hv : Tp.RdF w v ws) (hlen : ws.length * 8 ≤ 140737488351232) :
    Calls Try.prog 6 #[v, .int .u64 a, .int .u64 b] w fun e w' => e = .returned (.bool true) ∧ Below w.heap.size w w' := by
  have hpa : PickV a ws = .tuple #[.int .i64 0, .int .i64 2] := by unfold PickV; rw [hg]; rfl
  have hpb : PickV b ws = .tuple #[.int .i64 0, .int .i64 2] := by unfold PickV; rw [hg]; rfl
  go_enter Try.func6, Try.ntmps6
  go_wp2_with fail
  refine (awake_any w).mono ?_
  rintro e w1 ⟨rfl, hb1⟩
  have A1 : Ahead ws v w w1 := Ahead.step ⟨Below.refl _ _, hv⟩ hb1
  clear hb1 hv
  go_wp2_with fail
  refine (lent_any ws v w1 A1.rdf hlen).mono ?_
  rintro e w2 ⟨v2, rfl, hl2, hb2⟩
  have A2 := A1.step hb2
  clear A1 hb2
  go_wp2_with fail
  refine (cum_any ws hw v2 w2 hl2.rdf hlen).mono ?_
  rintro e w3 ⟨h, hb3⟩
  obtain ⟨_, rfl⟩ := h.resolve_right (by rintro ⟨h, _⟩; rw [hg] at h; cases h)
  have A3 := A2.step hb3
  clear A2 hb3 hl2 h
  go_wp2_with fail
  refine (lent_any ws v w3 A3.rdf hlen).mono ?_
  rintro e w4 ⟨v4, rfl, hl4, hb4⟩
  have A4 := A3.step hb4
  clear A3 hb4
  go_wp2_with fail
  refine (pick_any a ha ws hw v4 w4 hl4.rdf hlen).mono ?_
  rw [hpa]
  rintro e w5 ⟨rfl, hb5⟩
  have A5 := A4.step hb5
  clear A4 hb5 hl4
  go_wp2_with fail
  refine (lent_any ws v w5 A5.rdf hlen).mono ?_
  rintro e w6 ⟨v6, rfl, hl6, hb6⟩
  have A6 := A5.step hb6
  clear A5 hb6
  go_wp2_with fail
  refine (pick_any b hb ws hw v6 w6 hl6.rdf hlen).mono ?_
  rw [hpb]
  rintro e w7 ⟨rfl, hb7⟩
  have A7 := A6.step hb7
  clear A6 hb7 hl6
  go_wp2
  go_ret
  exact ⟨rfl, A7.below⟩

set_option maxHeartbeats 2000000 in
theorem places_good (ws : List Nat) (hw : ∀ x ∈ ws, x < 18446744073709551616) (a b i j : Nat) (ha : a < 18446744073709551616) (hb : b < 18446744073709551616) (hg : good ws = true)
    (hia : first (outs ws) (U a) = some i) (hi : Places.Picked ws (U a) i) (hjb : first (outs ws) (U b) = some j) (hj : Places.Picked ws (U b) j) (v : Value) (w : World) (hv : Tp.RdF w v ws) (hlen : ws.length * 8 ≤ 140737488351232) :
    Calls Try.prog 6 #[v, .int .u64 a, .int .u64 b] w fun e w' => e = .returned (.bool true) ∧ Below w.heap.size w w' := by
  have hpa : PickV a ws = .tuple #[.int .i64 i, .int .i64 0] := by unfold PickV; rw [hg]; unfold U at hia; rw [hia]; rfl
  have hpb : PickV b ws = .tuple #[.int .i64 j, .int .i64 0] := by unfold PickV; rw [hg]; unfold U at hjb; rw [hjb]; rfl
  have hil := hi.lt
  have hjl := hj.lt
  obtain ⟨ao, cap, hve, hvc⟩ := id hv
  have hne : ws ≠ [] := by rintro rfl; simp at hil
  obtain ⟨p, off, rfl, hpw, hpc⟩ := hvc.resolve_left hne
  subst hve
  clear hvc hpc hne hpw
  go_enter Try.func6, Try.ntmps6
  go_wp2_with fail
  refine (awake_any w).mono ?_
  rintro e w1 ⟨rfl, hb1⟩
  have A1 : Ahead ws (.slice (some ⟨p, off, none⟩) ws.length cap) w w1 := Ahead.step ⟨Below.refl _ _, hv⟩ hb1
  clear hb1 hv
  go_wp2_with fail
  refine (lent_any ws _ w1 A1.rdf hlen).mono ?_
  rintro e w2 ⟨v2, rfl, hl2, hb2⟩
  have A2 := A1.step hb2
  clear A1 hb2
  go_wp2_with fail
  refine (cum_any ws hw v2 w2 hl2.rdf hlen).mono ?_
  rintro e w3 ⟨h, hb3⟩
  obtain ⟨_, v3, rfl, hown3⟩ := h.resolve_left (by rintro ⟨h, _⟩; rw [hg] at h; cases h)
  have A3 := A2.step hb3
  have L3 : Tp.RdF w3 v3 (outs ws) := Tp.RdF.own (by rw [Cum.outs_length]; exact hown3)
  clear A2 hb3 hl2 h hown3
  go_wp2_with fail
  refine (lent_any ws _ w3 A3.rdf hlen).mono ?_
  rintro e w4 ⟨v4, rfl, hl4, hb4⟩
  have A4 := A3.step hb4
  have L4 := L3.below hb4
  clear A3 hb4 L3
  go_wp2_with fail
  refine (pick_any a ha ws hw v4 w4 hl4.rdf hlen).mono ?_
  rw [hpa]
  rintro e w5 ⟨rfl, hb5⟩
  have A5 := A4.step hb5
  have L5 := L4.below hb5
  clear A4 hb5 hl4 L4
  go_wp2_with fail
  refine (lent_any ws _ w5 A5.rdf hlen).mono ?_
  rintro e w6 ⟨v6, rfl, hl6, hb6⟩
  have A6 := A5.step hb6
  have L6 := L5.below hb6
  clear A5 hb6 L5
  go_wp2_with fail
  refine (pick_any b hb ws hw v6 w6 hl6.rdf hlen).mono ?_
  rw [hpb]
  rintro e w7 ⟨rfl, hb7⟩
  have A7 := A6.step hb7
  have L7 := L6.below hb7
  clear A6 hb7 hl6 L6
  have hbel := Lib.hid A7.below
  have cw : ∀ k, k < ws.length → w7.cell? ⟨p, off + k, none⟩ = some (.float .f64 (ws.getD k 0)) := by
    obtain ⟨ao, cap', e, h⟩ := A7.rdf
    cases e
    rcases h with rfl | ⟨b, o, e, _, h⟩
    · simp at hil
    · cases e; exact h
  have hlo := Cum.outs_length ws
  obtain ⟨lo, lcap, rfl, hl⟩ := id L7
  obtain ⟨q, off', rfl, hqw, cl⟩ := hl.resolve_left (by intro h; rw [h] at hlo; simp at hlo; omega)
  rw [hlo] at cl L7
  clear hl A7
  rw [hlo]
  have c1 := cw i hil
  have c2 := cw j hjl
  have c3 := cl i hil
  have p1 : (FloatKind.f64.format.order (ws.getD i 0) 0 == some Ordering.gt) = true := hi.pos
  have p2 : (FloatKind.f64.format.order (ws.getD j 0) 0 == some Ordering.gt) = true := hj.pos
  have p3 : (FloatKind.f64.format.order ((outs ws).getD i 0) (Fl.D (a / 2048) (-53)) == some Ordering.gt) = true := hi.above
  have c4 : 0 < i → w7.cell? ⟨q, off' + (i - 1), none⟩ = some (.float .f64 ((outs ws).getD (i - 1) 0)) := fun h => cl (i - 1) (by omega)
  have p4 : 0 < i → (FloatKind.f64.format.order ((outs ws).getD (i - 1) 0) (Fl.D (a / 2048) (-53)) == some Ordering.gt) = false := fun h => hi.before (i - 1) (by omega)
  have hord : a / 2048 ≤ b / 2048 → i ≤ j := fun h => Places.order ws a b ha hb h (fun k hk => Places.outs_le ws hw hg k hk) hi hj
  obtain ⟨x1, hx1⟩ : ∃ x, x = ws.getD i 0 := ⟨_, rfl⟩
  obtain ⟨x2, hx2⟩ : ∃ x, x = ws.getD j 0 := ⟨_, rfl⟩
  obtain ⟨x3, hx3⟩ : ∃ x, x = (outs ws).getD i 0 := ⟨_, rfl⟩
  obtain ⟨x4, hx4⟩ : ∃ x, x = (outs ws).getD (i - 1) 0 := ⟨_, rfl⟩
  rw [← hx1] at c1 p1
  rw [← hx2] at c2 p2
  rw [← hx3] at c3 p3
  rw [← hx4] at c4 p4
  have L8 := Lib.hid L7
  clear hx1 hx2 hx3 hx4 cw cl hpa hpb hia hjb hi hj hg L7 hlo hqw
  have hi0 : (0 : Int) ≤ (i : Int) := by omega
  have hi1 : (i : Int) < (ws.length : Int) := by omega
  have hj0 : (0 : Int) ≤ (j : Int) := by omega
  have hj1 : (j : Int) < (ws.length : Int) := by omega
  by_cases hipos : 0 < i
  · have c4 := c4 hipos
    have p4 := p4 hipos
    have hip : (0 : Int) < (i : Int) := by omega
    have him : (0 : Int) ≤ (i : Int) - 1 := by omega
    have him2 : (i : Int) - 1 < (ws.length : Int) := by omega
    go_wp2_with fail
    go_quiet ((go_at_call 13; exact Tp.quiet_same (unit_nat _ _ (by assumption))))
    have L9 := L8.out.drewN nq
    by_cases hab : b / 2048 < a / 2048
    · have hab' : (b : Int) / 2048 < (a : Int) / 2048 := by omega
      clear hord
      go_wp2
      go_ret
      exact ⟨rfl, below_drewN hbel.out _⟩
    · have hab' : ¬ (b : Int) / 2048 < (a : Int) / 2048 := by omega
      have hij : i ≤ j := hord (by omega)
      have hij' : (i : Int) ≤ (j : Int) := by omega
      have hri := Lib.hid (rises_any _ _ _ L9 (by rw [Cum.outs_length]; exact hlen))
      clear hord hij L9
      go_wp2_with (go_at_call 32; refine hri.out.mono ?_; rintro e w' ⟨⟨bb, rfl⟩, rfl⟩; cases bb)
      all_goals
        go_ret
        exact ⟨rfl, below_drewN hbel.out _⟩
  · obtain rfl : i = 0 := by omega
    clear c4 p4 hi0 hi1 hipos
    simp only [Nat.add_zero] at c1 c3
    have hi1 : (0 : Int) < (ws.length : Int) := by omega
    have hi2 : ¬ (ws.length : Int) ≤ 0 := by omega
    have hi3 : decide ((ws.length : Int) ≤ 0) = false := by simpa using hi2
    have hi4 : ws ≠ [] := by rintro rfl; simp at hil
    go_wp2_with fail
    go_quiet ((go_at_call 13; exact Tp.quiet_same (unit_nat _ _ (by assumption))))
    have L9 := L8.out.drewN nq
    by_cases hab : b / 2048 < a / 2048
    · have hab' : (b : Int) / 2048 < (a : Int) / 2048 := by omega
      clear hord
      go_wp2
      go_ret
      exact ⟨rfl, below_drewN hbel.out _⟩
    · have hab' : ¬ (b : Int) / 2048 < (a : Int) / 2048 := by omega
      have hij : 0 ≤ j := hord (by omega)
      have hij' : (0 : Int) ≤ (j : Int) := by omega
      have hri := Lib.hid (rises_any _ _ _ L9 (by rw [Cum.outs_length]; exact hlen))
      clear hord hij L9
      go_wp2_with (go_at_call 32; refine hri.out.mono ?_; rintro e w' ⟨⟨bb, rfl⟩, rfl⟩; cases bb)
      all_goals
        go_ret
        exact ⟨rfl, below_drewN hbel.out _⟩

theorem walk {H : Type} (enc : TypeId × Value → H) (W : World) (base : Nat) (args : Array Value) (ds : List (DataW H)) (p : List MemPlace)
    (hval0 : ∀ (j : Nat) t v, Try.f6.params[j]? = some t → args[j]? = some v → Value.okWide Try.prog W .any base t v)
    (hA : DataW.TrodAll enc Try.prog W 0 (fun _ => true) true Try.f6.params.toList args.toList ds p)
    (hsz : (DataW.weightsEach Try.prog Try.f6.params.toList ds).all (· ≤ reachBytes) = true) :
    Calls Try.prog 6 args W fun e w' => e = .returned (.bool true) ∧ Below W.heap.size W w' := by
  have hval : ∀ (j : Nat) t v, Try.f6.params[j]? = some t → args[j]? = some v → Value.okWide Try.prog W .any base t v := hval0
  rw [Try.params6] at hA hval hsz
  obtain ⟨v0, v1, v2, d0, d1, d2, p0, p1, p2, rfl, rfl, rfl, h0, h1, h2⟩ := trodAll_three hA
  obtain ⟨ws, hr, hw, hl⟩ := open_floats Try.underlying47 Try.underlying29 Try.cells29 Try.bytes29 (hval 0 47 v0 rfl rfl) h0 hsz (j := 0) rfl rfl
  obtain ⟨a1, rfl, rfl, rfl, w1⟩ := open_int Try.underlying22 (hval 1 22 v1 rfl rfl) h1
  obtain ⟨a2, rfl, rfl, rfl, w2⟩ := open_int Try.underlying22 (hval 2 22 v2 rfl rfl) h2
  have b1 := bounds_u64 w1
  have b2 := bounds_u64 w2
  obtain ⟨a, rfl⟩ := Int.eq_ofNat_of_zero_le b1.1
  obtain ⟨b, rfl⟩ := Int.eq_ofNat_of_zero_le b2.1
  by_cases hg : good ws = true
  · obtain ⟨i, hi1, hi2⟩ := Places.picked ws hw hg a (by omega)
    obtain ⟨j, hj1, hj2⟩ := Places.picked ws hw hg b (by omega)
    exact places_good ws hw a b i j (by omega) (by omega) hg hi1 hi2 hj1 hj2 v0 W hr hl
  · exact places_bad ws hw a b (by omega) (by omega) (by simpa using hg) v0 W hr hl
end Go.Proofs.Ytfdmfihifjlidaa.drawPlaces
