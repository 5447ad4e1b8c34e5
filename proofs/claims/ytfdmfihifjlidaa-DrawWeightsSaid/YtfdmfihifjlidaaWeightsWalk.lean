/- The walk of the law on weights: any word, any weights, any real. -/
import Derived.Test.YtfdmfihifjlidaaRefWalk
import Derived.Test.YtfdmfihifjlidaaLent
import Derived.Test.YtfdmfihifjlidaaOpen
namespace Go.Proofs.Ytfdmfihifjlidaa.drawWeights
open Go.ChangeShapes Go.WideShapes Go.ChangeAt Go.RowKit
open Cum (outs good)

theorem own_below {w w' : World} {base e size : Nat} {v : Value} {n : Nat} {xs : List Value} (h : w.ownsRow base e size v n xs) (hb : Below w.heap.size w w') : w'.ownsRow base e size v n xs :=
  h.kept (row := none) ⟨hb.os, hb.tape, hb.output, hb.size, fun k hk _ => hb.block k hk⟩ (by cases h : v.ownBlock <;> simp)

/-- An operation on any two doubles has some double for an answer. -/
theorem run_any (op : BinOp) (hop : op = .add ∨ op = .quo) (x y : Nat) (w : World) : ∃ r n, (binOp op 29 (.float .f64 x) (.float .f64 y)).run Try.prog w = .ok (.float .f64 r) (w.drewN n) ∧ r < 18446744073709551616 := by
  cases h : floatBits op .f64 x y with
  | some r =>
    refine ⟨r, 0, ?_, ?_⟩
    · exact run_float_arith w op 29 .f64 x y r h
    · have := floatBits_wf h
      simpa [Lit.wf] using this
  | none =>
    refine ⟨nanOf w x y, 1, ?_, (nanOf_lt w x y).2.2⟩
    have h2 : w.drewN 1 = w.drew := rfl
    rw [h2]
    rcases hop with rfl | rfl
    · have h3 : FloatKind.f64.format.add x y = none := h
      simp [binOp, Op.floatArith, h3, nanOf, Question.forced]
    · have h3 : FloatKind.f64.format.div x y = none := h
      simp [binOp, Op.floatArith, h3, nanOf, Question.forced]

def pickI (a : Nat) (ws : List Nat) : Int := if good ws then ((first (outs ws) (Fl.D (a / 2048) (-53))).getD 0 : Nat) else 0
theorem PickV_eq (a : Nat) (ws : List Nat) : PickV a ws = .tuple #[.int .i64 (pickI a ws), .int .i64 (cumE ws)] := by
  unfold PickV pickI cumE
  cases good ws <;> rfl
def placeI (l : List Nat) (x : Nat) : Int := ((first l x).getD 0 : Nat)
def placeB (l : List Nat) (x : Nat) : Bool := (first l x).isSome
theorem PlaceV_eq (l : List Nat) (x : Nat) : PlaceV l x = .tuple #[.int .i64 (placeI l x), .bool (placeB l x)] := by
  unfold PlaceV placeI placeB
  cases first l x <;> rfl

/-- The law's own memory of reals, with the mark behind them. -/
def At (ws : List Nat) (base : Nat) (w : World) (g cap : Nat) : Prop := w.ownsRow base 29 1 (.slice (some ⟨g, 0, none⟩) (ws.length + 1) cap) (ws.length + 1) ((ws ++ [mark]).map (Value.float .f64))
theorem At.is {ws : List Nat} {base : Nat} {w : World} {g cap : Nat} (h : At ws base w g cap) : LentIs ws base w (.slice (some ⟨g, 0, none⟩) ws.length cap) := ⟨g, cap, rfl, h⟩
theorem At.below {ws : List Nat} {base : Nat} {w w' : World} {g cap : Nat} (h : At ws base w g cap) (hb : Below w.heap.size w w') : At ws base w' g cap := own_below (w := w) h hb
theorem At.set {ws : List Nat} {base : Nat} {w : World} {g cap : Nat} (h : At ws base w g cap) (k r : Nat) (hk : k < ws.length) : At (ws.set k r) base (w.setCell ⟨g, k, none⟩ (.float .f64 r)) g cap := by
  have h2 := (h.stored k (.float .f64 r)).1
  unfold At
  rw [List.length_set]
  have e : (ws.set k r ++ [mark]).map (Value.float .f64) = ((ws ++ [mark]).map (Value.float .f64)).set k (.float .f64 r) := by
    rw [← List.map_set, List.set_append_left _ _ hk]
  rw [e]; exact h2
theorem set_lt {ws : List Nat} {k r : Nat} (hw : ∀ x ∈ ws, x < 18446744073709551616) (hr : r < 18446744073709551616) : ∀ x ∈ ws.set k r, x < 18446744073709551616 := by
  intro x hx
  rcases List.mem_or_eq_of_mem_set hx with h | h
  · exact hw x h
  · subst h; exact hr

set_option maxHeartbeats 4000000 in
set_option maxRecDepth 100000 in
theorem weights (a x : Nat) (n : Nat) (v0 : Value) (w : World) (ws0 : List Nat) (hn : ws0.length = n) (hw0 : ∀ x ∈ ws0, x < 18446744073709551616) (ha : a < 18446744073709551616) (hv : Tp.RdF w v0 ws0) (hlen : n * 8 ≤ 140737488351232) :
    Calls Try.prog 5 #[.int .u64 a, v0, .float .f64 x] w fun e w' => e = .returned (.bool true) ∧ Below w.heap.size w w' := by
  go_enter Try.func5, Try.ntmps5
  go_wp2_with fail
  refine (lent_any ws0 v0 w hv (by rw [hn]; exact hlen)).mono ?_
  rintro e w1 ⟨v1, rfl, ⟨g, cap, rfl, hat⟩, hb1⟩
  rw [hn]
  have hgb : w.heap.size ≤ g := (hat.lt g rfl).1
  have hrel0 : ∃ ws : List Nat, ws.length = n ∧ (∀ x ∈ ws, x < 18446744073709551616) ∧ At ws w.heap.size w1 g cap := ⟨ws0, hn, hw0, hat⟩
  clear hat hn hw0 hv
  go_wp2
  go_loopw [8] (fun t wr => ∃ j : Nat, j ≤ 2 ∧ t = .int .i64 j ∧ (∃ ws : List Nat, ws.length = n ∧ (∀ x ∈ ws, x < 18446744073709551616) ∧ At ws w.heap.size wr g cap) ∧ Below w.heap.size w wr) (fun t _ => 2 - (intOf t).toNat)
  case atStart => exact ⟨0, by omega, rfl, hrel0, hb1⟩
  case round =>
    obtain ⟨j, hj, rfl, ⟨ws, hn, hw, hat⟩, hbel⟩ := hrel
    clear hrel0 hb1
    by_cases hj2 : j < 2
    · have hgw : g < wr.heap.size := (hat.lt g rfl).2
      have hr0 := hat.is.rdf
      have hn8 : ws.length * 8 ≤ 140737488351232 := by rw [hn]; exact hlen
      rw [hn] at hr0
      go_wp2_with fail
      refine (lent_any ws _ wr hr0 hn8).mono ?_
      rintro e w2 ⟨v9, rfl, hl9, hb2⟩
      have hr2 := hr0.below hb2
      have hat2 := hat.below hb2
      have hbel2 := Tp.Below_seq hbel hb2
      have hgw2 : g < w2.heap.size := Nat.lt_of_lt_of_le hgw hb2.size
      clear hr0 hat hbel hb2
      go_wp2_with fail
      refine (cum_uni ws hw _ w2 hr2 hn8).mono ?_
      rintro e w3 ⟨v10, rfl, ho10, hb3⟩
      have hr3 := hr2.below hb3
      have hat3 := hat2.below hb3
      have hl9 := hl9.below hb3
      have hbel3 := Tp.Below_seq hbel2 hb3
      have hgw3 : g < w3.heap.size := Nat.lt_of_lt_of_le hgw2 hb3.size
      clear hr2 hat2 hbel2 hb3
      go_wp2_with fail
      refine (refcum_any ws hw v9 w3 hl9.rdf hn8).mono ?_
      rintro e w4 ⟨v12, rfl, ho12, hb4⟩
      have hr4 := hr3.below hb4
      have hat4 := hat3.below hb4
      have hl9 := hl9.below hb4
      have ho10 := own_below ho10 hb4
      have hbel4 := Tp.Below_seq hbel3 hb4
      clear hr3 hat3 hbel3 hb4
      go_wp2_with fail
      refine (pick_any a ha ws hw _ w4 hr4 hn8).mono ?_
      rw [PickV_eq]
      rintro e w5 ⟨rfl, hb5⟩
      have hr5 := hr4.below hb5
      have hat5 := hat4.below hb5
      have hl9 := hl9.below hb5
      have ho10 := own_below ho10 hb5
      have ho12 := own_below ho12 hb5
      have hbel5 := Tp.Below_seq hbel4 hb5
      clear hr4 hat4 hbel4 hb5
      go_wp2_with fail
      refine (refpick_any a ha ws hw v9 w5 hl9.rdf hn8).mono ?_
      rw [PickV_eq]
      rintro e w6 ⟨rfl, hb6⟩
      have hr6 := hr5.below hb6
      have hat6 := hat5.below hb6
      have hl9 := hl9.below hb6
      have ho10 := own_below ho10 hb6
      have ho12 := own_below ho12 hb6
      have hbel6 := Tp.Below_seq hbel5 hb6
      clear hr5 hat5 hbel5 hb6
      go_wp2_with fail
      refine (place_any ws x _ w6 hr6 hn8).mono ?_
      rw [PlaceV_eq]
      rintro e w7 ⟨rfl, rfl⟩
      go_wp2_with fail
      refine (refplace_any ws x v9 w6 hl9.rdf hn8).mono ?_
      rw [PlaceV_eq]
      rintro e w7 ⟨rfl, rfl⟩
      have hcl : (cumL ws).length * 8 ≤ 140737488355328 := by
        unfold cumL; split
        · rw [Cum.outs_length]; omega
        · simp
      go_wp2_with fail
      refine (reals_any (cumL ws) (cumL ws) v10 v12 w6 (Tp.RdF.own ho10) (Tp.RdF.own ho12) hcl).mono ?_
      rw [realsB_self]
      rintro e w7 ⟨rfl, q, rfl⟩
      have hkp := kept_any ws ws w.heap.size (.slice (some ⟨g, 0, none⟩) n cap) v9 (w6.drewN q) ((hn ▸ hat6.is : LentIs ws w.heap.size w6 (.slice (some ⟨g, 0, none⟩) n cap)).below (Tp.Below_drewN q)) (hl9.rdf.drewN q) hn8
      rw [realsB_self] at hkp
      replace hkp := Lib.hid hkp
      go_wp2_with (go_at_call 30; refine hkp.out.mono ?_; rintro e w8 ⟨rfl, q2, rfl⟩)
      have B8 : Below w6.heap.size w6 ((w6.drewN q).drewN q2) := below_drewN (Tp.Below_drewN q) q2
      have hat8 := hat6.below B8
      have ho10 := own_below ho10 B8
      have ho12 := own_below ho12 B8
      have hbel8 := Tp.Below_seq hbel6 B8
      clear hkp hl9 hr6 hat6 hbel6 B8
      have hg2 : g < w2.heap.size := hgw2
      have hg3 : g < w3.heap.size := hgw3
      generalize hw8 : (w6.drewN q).drewN q2 = w8 at hat8 ho10 ho12 hbel8
      have hw8' : w6.drewN (q + q2) = w8 := by rw [← hw8, World.drewN_drewN]
      rw [hw8']
      clear hw8 hw8'
      go_loopw [22] (fun i wi => ∃ k : Nat, k ≤ n ∧ i = .int .i64 k ∧ (∃ ws : List Nat, ws.length = n ∧ (∀ x ∈ ws, x < 18446744073709551616) ∧ At ws w.heap.size wi g cap) ∧
          wi.ownsRow w2.heap.size 29 1 v10 (cumL ws).length ((cumL ws).map (Value.float .f64)) ∧ wi.ownsRow w3.heap.size 29 1 v12 (cumL ws).length ((cumL ws).map (Value.float .f64)) ∧ Below w.heap.size w wi)
        (fun i _ => n - (intOf i).toNat)
      case atStart => exact ⟨0, by omega, rfl, ⟨ws, hn, hw, hat8⟩, ho10, ho12, hbel8⟩
      case round =>
        obtain ⟨k, hk, rfl, ⟨wq, hnq, hwq, hatq⟩, hoq10, hoq12, hbelq⟩ := hrel
        clear hat8 ho10 ho12 hbel8
        by_cases hkn : k < n
        · have hcx : wr.cell? ⟨g, k, none⟩ = some (.float .f64 (wq.getD k 0)) := by
            have h := hatq
            unfold At at h
            rw [h.cellAt k (by omega)]
            simp [List.getD, hnq, hkn, List.getElem?_append_left]
          have hfr : wr.frozen? ⟨g, k, none⟩ = false := hatq.frozenAt k
          obtain ⟨y, hy⟩ : ∃ y, y = wq.getD k 0 := ⟨_, rfl⟩
          rw [← hy] at hcx
          obtain ⟨r1, m1, h1, hr1⟩ := run_any .quo (.inr rfl) y 4611686018427387904 wr
          obtain ⟨r2, m2, h2, hr2⟩ := run_any .add (.inl rfl) r1 4607182418800017408 (wr.drewN m1)
          have D : Below wr.heap.size wr ((wr.drewN m1).drewN m2) := below_drewN (Tp.Below_drewN m1) m2
          have hA := Lib.hid ((hatq.below D).set k r2 (by omega))
          have h10 := Lib.hid (ownsRow_setCell_below (own_below hoq10 D) (a := ⟨g, k, none⟩) hg2 (.float .f64 r2))
          have h12 := Lib.hid (ownsRow_setCell_below (own_below hoq12 D) (a := ⟨g, k, none⟩) hg3 (.float .f64 r2))
          have hB := Lib.hid (Below.setCell (below_drewN (below_drewN hbelq m1) m2) (p := ⟨g, k, none⟩) hgb (.float .f64 r2))
          have hsf := @Tp.run_store_float Try.prog
          clear hy hatq hoq10 hoq12 hbelq hw hn D
          go_wp2
          have e12 : (wr.drewN m1).drewN m2 = wr.drewN (m1 + m2) := World.drewN_drewN _ _ _
          rw [e12] at hA h10 h12 hB
          go_roundw
          case rel => exact ⟨k + 1, by omega, by go_num, ⟨wq.set k r2, by rw [List.length_set]; exact hnq, set_lt hwq hr2, hA.out⟩, h10.out, h12.out, hB.out⟩
          case measure => simp [intOf]; omega
        · obtain rfl : k = n := by omega
          clear hw hn
          go_wp2_with fail
          refine (reals_any (cumL ws) (cumL ws) v10 v12 wr (Tp.RdF.own hoq10) (Tp.RdF.own hoq12) hcl).mono ?_
          rw [realsB_self]
          rintro e w9 ⟨rfl, q3, rfl⟩
          have D := Tp.Below_drewN (B := wr.heap.size) (w := wr) q3
          have hA := Lib.hid (hatq.below D)
          have hB := Lib.hid (below_drewN hbelq q3)
          clear hatq hoq10 hoq12 hbelq D
          go_wp2
          go_roundw
          case rel => exact ⟨j + 1, by omega, by go_num, ⟨wq, hnq, hwq, hA.out⟩, hB.out⟩
          case measure => simp [intOf]; omega
    · obtain rfl : j = 2 := by omega
      go_wp2
      go_ret
      exact ⟨rfl, hbel⟩

theorem walk {H : Type} (enc : TypeId × Value → H) (W : World) (base : Nat) (args : Array Value) (ds : List (DataW H)) (p : List MemPlace)
    (hval0 : ∀ (j : Nat) t v, Try.f5.params[j]? = some t → args[j]? = some v → Value.okWide Try.prog W .any base t v)
    (hA : DataW.TrodAll enc Try.prog W 0 (fun _ => true) true Try.f5.params.toList args.toList ds p)
    (hsz : (DataW.weightsEach Try.prog Try.f5.params.toList ds).all (· ≤ reachBytes) = true) :
    Calls Try.prog 5 args W fun e w' => e = .returned (.bool true) ∧ Below W.heap.size W w' := by
  have hval : ∀ (j : Nat) t v, Try.f5.params[j]? = some t → args[j]? = some v → Value.okWide Try.prog W .any base t v := hval0
  rw [Try.params5] at hA hval hsz
  obtain ⟨v0, v1, v2, d0, d1, d2, p0, p1, p2, rfl, rfl, rfl, h0, h1, h2⟩ := trodAll_three hA
  obtain ⟨a0, rfl, rfl, rfl, w0⟩ := open_int Try.underlying22 (hval 0 22 v0 rfl rfl) h0
  obtain ⟨ws, hr, hw, hl⟩ := open_floats Try.underlying47 Try.underlying29 Try.cells29 Try.bytes29 (hval 1 47 v1 rfl rfl) h1 hsz (j := 1) rfl rfl
  obtain ⟨x, rfl, rfl, rfl, w2⟩ := open_float Try.underlying29 (hval 2 29 v2 rfl rfl) h2
  have b0 := bounds_u64 w0
  obtain ⟨a, rfl⟩ := Int.eq_ofNat_of_zero_le b0.1
  exact weights a x ws.length v1 W ws rfl hw (by omega) hr hl
end Go.Proofs.Ytfdmfihifjlidaa.drawWeights
