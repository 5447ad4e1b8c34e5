/- The walk of the law on sums of their own. -/
import Derived.Test.YtfdmfihifjlidaaFam
import Derived.Test.YtfdmfihifjlidaaAwake
import Derived.Test.YtfdmfihifjlidaaOpen
import Derived.Outline
import Derived.Deep.LoopGhost
import Derived.Deep.Cut
namespace Go.Proofs.Ytfdmfihifjlidaa.drawOwn
open Go.ChangeShapes Go.WideShapes Go.ChangeAt Go.RowKit
open Go.Tp
open Cum (outs outs_length good)
set_option linter.unusedVariables false
def mark (j : Nat) : Nat := floatOfInt FloatKind.f64 (-(j : Int) - 1)
def tl (j : Nat) : Nat := floatOfInt FloatKind.f64 (100 + (j : Int))
theorem mark_eq (j : Nat) (hj : j < 3) : (FloatKind.f64.format.order (mark j) (mark j) == some Ordering.eq) = true := by
  rcases (show j = 0 ∨ j = 1 ∨ j = 2 by omega) with rfl | rfl | rfl <;> decide +kernel
theorem tl_eq (j : Nat) (hj : j < 3) : (FloatKind.f64.format.order (tl j) (tl j) == some Ordering.eq) = true := by
  rcases (show j = 0 ∨ j = 1 ∨ j = 2 by omega) with rfl | rfl | rfl <;> decide +kernel
theorem info47 : (Try.prog.info? 47).map (fun i => (i.zero, i.size, i.bytes)) = some (some (.slice none 0 0), 1, 24) := by kernel_rfl
/-- Cumulate's answer, as a piece of memory. -/
def CV (ws : List Nat) (W : World) (e : Ending) (w' : World) : Prop :=
  ∃ (l : Value) (er : Int) (ys : List Value), e = .returned (.tuple #[l, .int .i64 er]) ∧ viewRow w' W.heap.size 29 l ys.length ys ∧ ys.length ≤ ws.length ∧ Below W.heap.size W w'
theorem cv_any (ws : List Nat) (hw : ∀ x ∈ ws, x < 18446744073709551616) (v : Value) (w : World) (hv : Tp.RdF w v ws) (hlen : ws.length * 8 ≤ 140737488351232) : Calls Try.prog 23 #[v] w (CV ws w) := by
  refine (cum_any ws hw v w hv hlen).mono ?_
  rintro e w' ⟨h | ⟨_, l, rfl, ho⟩, hb⟩
  · exact ⟨_, 2, [], h.2, ⟨rfl, .inl ⟨rfl, rfl⟩⟩, by simp, hb⟩
  · have hl : ((outs ws).map (Value.float .f64)).length = ws.length := by rw [List.length_map, outs_length]
    refine ⟨l, 0, (outs ws).map (Value.float .f64), rfl, ?_, by omega, hb⟩
    rw [hl]
    exact viewRow_own ho
def Full (X : Nat → List Value) (j : Nat) : Prop := ∀ q, q < (X j).length → (X j)[q]? = some (.float .f64 (mark j))
set_option maxHeartbeats 40000000 in
set_option maxRecDepth 100000 in
theorem owns (one two : List Nat) (h1 : ∀ x ∈ one, x < 18446744073709551616) (h2 : ∀ x ∈ two, x < 18446744073709551616) (v1 v2 : Value) (w : World) (hr1 : Tp.RdF w v1 one) (hr2 : Tp.RdF w v2 two) (l1 : one.length * 8 ≤ 140737488351232) (l2 : two.length * 8 ≤ 140737488351232) :
    Calls Try.prog 9 #[v1, v2] w fun e w' => e = .returned (.bool true) ∧ Below w.heap.size w w' := by
  obtain ⟨i0, hi, hz0, hz1, hz2⟩ := info_parts Try.info29
  obtain ⟨j0, hj, hy0, hy1, hy2⟩ := info_parts info47
  have cv1 : ∀ w', Below w.heap.size w w' → Calls Try.prog 23 #[v1] w' (CV one w') := fun w' hb => cv_any one h1 v1 w' (hr1.below hb) l1
  have cv2 : ∀ w', Below w.heap.size w w' → Calls Try.prog 23 #[v2] w' (CV two w') := fun w' hb => cv_any two h2 v2 w' (hr2.below hb) l2
  replace cv1 := Lib.hid cv1
  replace cv2 := Lib.hid cv2
  replace h1 := Lib.hid h1
  replace h2 := Lib.hid h2
  replace hr1 := Lib.hid hr1
  replace hr2 := Lib.hid hr2
  go_enter Try.func9, Try.ntmps9
  go_wp2_with fail
  refine (awake_any _).mono ?_
  rintro e w1 ⟨rfl, hb1⟩
  replace hb1 := Lib.hid hb1
  go_wp2_with fail
  go_loopg [5, 6] 3 (fun g sa ic wr => ∃ (i : Nat) (L : Nat → Value) (X : Nat → List Value), i ≤ 3 ∧ g = 3 - i ∧ ic = .int .i64 i ∧ S1 w1.heap.size i sa L X wr ∧ Below w1.heap.size w1 wr)
  case atStart => exact ⟨0, fun _ => .slice none 0 0, fun _ => [], by omega, rfl, rfl, ⟨Nat.le_refl _, ⟨rfl, .inl ⟨rfl, rfl⟩⟩, fun j hj => by omega, fun j k hj => by omega, fun j hj => by omega⟩, Below.refl _ _⟩
  case round =>
    obtain ⟨i, L, X, hi3, rfl, rfl, hS, hbel⟩ := hrel
    by_cases hlt : i < 3
    · have hlt2 : (i : Int) < 3 := by omega
      have hbw := Tp.Below_seq hb1.out hbel
      replace hS := Lib.hid hS
      replace hbel := Lib.hid hbel
      have hboth : ∀ (vv : Value) (ws : List Nat), ws.length * 8 ≤ 140737488351232 → (∀ w', Below w.heap.size w w' → Calls Try.prog 23 #[vv] w' (CV ws w')) → Calls Try.prog 23 #[vv] wr (CV ws wr) := fun vv ws _ h => h wr hbw
      have k1 := Lib.hid (hboth v1 one l1 cv1.out)
      have k2 := Lib.hid (hboth v2 two l2 cv2.out)
      clear hboth hbw
      rcases (show ((i : Int) == 1) = true ∨ ((i : Int) == 1) = false from by cases ((i : Int) == 1) <;> simp) with e1 | e1
      all_goals
        go_wp2_with fail
        first | with_reducible refine k2.out.mono ?_ | with_reducible refine k1.out.mono ?_
        rintro e w2 ⟨l, er, ys, rfl, hl, hys, hb2⟩
        obtain ⟨la, lc, rfl⟩ := viewRow_shape hl
        have hrow := viewRow_below (viewRow_below hS.out.row hb2) (Tp.Below_alloc w2 (.cells #[.slice la ys.length lc] 47))
        have hbase : w1.heap.size ≤ w2.heap.size := Nat.le_trans hS.out.base hb2.size
        have hl1 : (Value.slice la ys.length lc).oneCell' = true := rfl
        have hys2 : ys.length ≤ 17592186043904 := by omega
        replace hl := Lib.hid hl
        replace hb2 := Lib.hid hb2
        clear hys
        go_upto_region 11 with fail
        go_wp2_with (at_builtin; (refine wpList_append_view1 rfl _ _ 64 rfl w1.heap.size 47 j0 (.slice none 0 0) 24 Try.underlying64 hj hy0 hy1 hy2 rfl _ i _ (by rfl) hrow 1 (by rfl) hl1 (by unfold maxLen; omega) (by omega) hbase ?_))
        intro va' w3 hrow' hg
        have hS' := Lib.hid (hS.out.more hb2.out hl.out hys2 hrow' hg)
        have hbel' := Lib.hid ((Tp.Below_seq (Tp.Below_seq hbel.out hb2.out) (Tp.Below_alloc w2 (.cells #[.slice la ys.length lc] 47))).trans (grew_below hrow hg (Nat.le_trans hbase (by simp))))
        clear hrow hrow' hg
        go_wp2
        go_roundg (3 - (i + 1))
        case measure => omega
        case rel => exact ⟨i + 1, _, _, by omega, rfl, by go_num, hS'.out, hbel'.out⟩
    · obtain rfl : i = 3 := by omega
      obtain ⟨ga, oa, ca, rfl, _, _⟩ := viewRow_at hS.row (q := 0) (u := L 0) rfl
      replace hS := Lib.hid hS
      replace hbel := Lib.hid hbel
      have hrowc : ∀ (Y : Nat → List Value) wx, S1 w1.heap.size 3 (.slice (some ⟨ga, oa, none⟩) 3 ca) L Y wx → ∀ j, j < 3 → wx.cell? ⟨ga, oa + j, none⟩ = some (L j) := fun Y wx h j hj => by
        obtain ⟨g', o', c', e1, e2, _⟩ := viewRow_at h.row (q := j) (u := L j) (by rw [List.getElem?_map, List.getElem?_range hj]; rfl)
        cases e1
        exact e2
      replace hrowc := Lib.hid hrowc
      go_wp2_with fail
      go_loopg [10] 3 (fun g ic wx => ∃ (i : Nat) (Y : Nat → List Value), i ≤ 3 ∧ g = 3 - i ∧ ic = .int .i64 i ∧ S1 w1.heap.size 3 (.slice (some ⟨ga, oa, none⟩) 3 ca) L Y wx ∧ (∀ j, j < i → Full Y j) ∧ Below w1.heap.size w1 wx)
      case atStart => exact ⟨0, X, by omega, rfl, rfl, hS.out, fun j hj => by omega, hbel.out⟩
      case round =>
        obtain ⟨i, Y, hi3', rfl, rfl, hS2, hF, hbel2⟩ := hrel
        clear hS hbel
        by_cases hlt' : i < 3
        · have hlt2 : (i : Int) < 3 := by omega
          obtain ⟨la, lc, hL⟩ := viewRow_shape (hS2.view i hlt')
          have hyl := hS2.len i hlt'
          obtain ⟨N, hN⟩ : ∃ N, N = (Y i).length := ⟨_, rfl⟩
          rw [← hN] at hL hyl
          replace hS2 := Lib.hid hS2
          replace hbel2 := Lib.hid hbel2
          replace hF := Lib.hid hF
          replace hL := Lib.hid hL
          replace hN := Lib.hid hN
          go_wp2_with fail
          go_loopg [11] N (fun g kc wy => ∃ (k : Nat) (Z : Nat → List Value), k ≤ N ∧ g = N - k ∧ kc = .int .i64 k ∧ S1 w1.heap.size 3 (.slice (some ⟨ga, oa, none⟩) 3 ca) L Z wy ∧ (Z i).length = N ∧ (∀ j, j < i → Full Z j) ∧ (∀ q, q < k → (Z i)[q]? = some (.float .f64 (mark i))) ∧ Below w1.heap.size w1 wy)
          case atStart => exact ⟨0, Y, by omega, rfl, rfl, hS2.out, hN.out.symm, hF.out, fun q hq => by omega, hbel2.out⟩
          case round =>
            obtain ⟨k, Z, hk, rfl, rfl, hS3, hZ, hF3, hM, hbel3⟩ := hrel
            clear hS2 hbel2 hF
            have hc := hrowc.out Z wr hS3 i hlt'
            rw [hL.out] at hc
            by_cases hkl : k < N
            · have hkl2 : (k : Int) < (N : Int) := by omega
              have hZk : (Z i)[k]? = some ((Z i)[k]'(by omega)) := List.getElem?_eq_getElem (by omega)
              obtain ⟨g', o', c', e1, e2, e3⟩ := viewRow_at (hS3.view i hlt') hZk
              have e1' := e1
              rw [hL.out] at e1'
              cases e1'
              have hset := hS3.set hlt' e1 (k := k) (m := .float .f64 (mark i)) (by omega)
              have hst := @Tp.run_store_float Try.prog
              replace hset := Lib.hid hset
              replace hbel3 := Lib.hid hbel3
              replace hF3 := Lib.hid hF3
              replace hM := Lib.hid hM
              replace hS3 := Lib.hid hS3
              replace e1 := Lib.hid e1
              clear hZk
              go_wp2_with fail
              go_roundg ((Z i).length - (k + 1))
              case measure => omega
              case rel =>
                have h := hset.out
                refine ⟨k + 1, _, by omega, rfl, rfl, h.1, by simp only [↓reduceIte]; rw [List.length_set], fun j hj q hq => ?_, fun q hq => ?_, hbel3.out.trans (h.2.mono (Nat.le_refl _))⟩
                · have hji : j ≠ i := by omega
                  simp only [if_neg hji] at hq ⊢
                  exact hF3.out j hj q hq
                · simp only [↓reduceIte]
                  by_cases hqk : q = k
                  · subst hqk
                    exact List.getElem?_set_self (by omega)
                  · rw [List.getElem?_set_ne (by omega)]
                    exact hM.out q (by omega)
            · have hkl2 : (N : Int) ≤ (k : Int) := by omega
              have hFi : ∀ j, j < i + 1 → Full Z j := fun j hj q hq => by
                by_cases hji : j = i
                · subst hji; exact hM q (by omega)
                · exact hF3 j (by omega) q hq
              replace hbel3 := Lib.hid hbel3
              replace hS3 := Lib.hid hS3
              replace hFi := Lib.hid hFi
              clear hM hF3
              go_wp2
              go_roundg (3 - (i + 1))
              case measure => omega
              case rel => exact ⟨i + 1, Z, by omega, rfl, by go_num, hS3.out, hFi.out, hbel3.out⟩
        · obtain rfl : i = 3 := by omega
          replace hS2 := Lib.hid hS2
          replace hbel2 := Lib.hid hbel2
          replace hF := Lib.hid hF
          go_wp2_with fail
          go_loopg [12, 13] 3 (fun g sg ic wx => ∃ (i : Nat) (G : Nat → Value), i ≤ 3 ∧ g = 3 - i ∧ ic = .int .i64 i ∧ S3 w1.heap.size i (.slice (some ⟨ga, oa, none⟩) 3 ca) sg L G Y (fun j => List.replicate 20 (.float .f64 (tl j))) wx ∧ Below w1.heap.size w1 wx)
          case atStart => exact ⟨0, fun _ => .slice none 0 0, by omega, rfl, rfl, ⟨hS2.out, ⟨rfl, .inl ⟨rfl, rfl⟩⟩, fun j hj => by omega, fun j k hj => by omega, fun j k hj => by omega, by intro g _ h; cases h⟩, hbel2.out⟩
          case round =>
            obtain ⟨i, G, hi3'', rfl, rfl, hS3, hbel3⟩ := hrel
            clear hS2 hbel2
            have hc := fun j hj => hrowc.out Y wr hS3.s1 j hj
            by_cases hlt' : i < 3
            · have hlt2 : (i : Int) < 3 := by omega
              have hcc := hc i hlt'
              have hsh := viewRow_shape (hS3.s1.view i hlt')
              have hS4 := Lib.hid (S4.start hS3 hlt')
              have hyl := hS3.s1.len i hlt'
              replace hS3 := Lib.hid hS3
              replace hbel3 := Lib.hid hbel3
              clear hc
              go_wp2_with fail
              go_loopg [14, 15] 20 (fun g sl kc wy => ∃ k : Nat, k ≤ 20 ∧ g = 20 - k ∧ kc = .int .i64 k ∧ S4 w1.heap.size i (.slice (some ⟨ga, oa, none⟩) 3 ca) u12 L G Y (fun j => List.replicate 20 (.float .f64 (tl j))) sl k (List.replicate k (.float .f64 (tl i))) wy ∧ Below w1.heap.size w1 wy)
              case atStart => exact ⟨0, by omega, rfl, rfl, hS4.out, hbel3.out⟩
              case round =>
                obtain ⟨k, hk, rfl, rfl, hS5, hbel5⟩ := hrel
                clear hS4 hS3 hbel3
                by_cases hkl : k < 20
                · have hkl2 : (k : Int) < 20 := by omega
                  have hown := viewRow_below hS5.view (Tp.Below_alloc wr (.cells #[.float .f64 (floatOfInt .f64 (100 + (i : Int)))] 29))
                  have hbase : w1.heap.size ≤ wr.heap.size := hS5.s3.s1.base
                  replace hS5 := Lib.hid hS5
                  replace hbel5 := Lib.hid hbel5
                  go_wp2_with (at_builtin; (refine wpList_append_view1 rfl _ _ 47 rfl w1.heap.size 29 i0 (.float .f64 0) 8 Try.underlying47 hi hz0 hz1 hz2 rfl _ ((Y i).length + k) _ (by rfl) hown 1 (by rfl) rfl (by unfold maxLen; omega) (by omega) hbase ?_))
                  intro l' w3 hrow' hg
                  rw [← List.append_assoc] at hrow'
                  have hS6 := hS5.out.grow hlt' hrow' hg
                  rw [show List.replicate k (Value.float .f64 (tl i)) ++ [Value.float .f64 (floatOfInt .f64 (100 + (i : Int)))] = List.replicate (k + 1) (Value.float .f64 (tl i)) from (List.replicate_succ').symm] at hS6
                  have hbel6 := Lib.hid ((Tp.Below_seq hbel5.out (Tp.Below_alloc wr (.cells #[.float .f64 (floatOfInt .f64 (100 + (i : Int)))] 29))).trans (grew_below hown hg (Nat.le_trans hbase (by simp))))
                  replace hS6 := Lib.hid hS6
                  clear hown hrow' hg
                  go_wp2
                  go_roundg (20 - (k + 1))
                  case measure => omega
                  case rel => exact ⟨k + 1, by omega, rfl, by go_num, hS6.out, hbel6.out⟩
                · obtain rfl : k = 20 := by omega
                  obtain ⟨la, lc, rfl⟩ := viewRow_shape hS5.view
                  have hown := viewRow_below hS5.s3.row (Tp.Below_alloc wr (.cells #[.slice la ((Y i).length + 20) lc] 47))
                  have hbase : w1.heap.size ≤ wr.heap.size := hS5.s3.s1.base
                  replace hS5 := Lib.hid hS5
                  replace hbel5 := Lib.hid hbel5
                  go_wp2_with (at_builtin; (refine wpList_append_view1 rfl _ _ 64 rfl w1.heap.size 47 j0 (.slice none 0 0) 24 Try.underlying64 hj hy0 hy1 hy2 rfl _ i _ (by rfl) hown 1 (by rfl) rfl (by unfold maxLen; omega) (by omega) hbase ?_))
                  intro vg' w3 hrow' hg
                  have hS6 := Lib.hid (hS5.out.done hlt' hrow' hg)
                  have hbel6 := Lib.hid ((Tp.Below_seq hbel5.out (Tp.Below_alloc wr (.cells #[.slice la ((Y i).length + 20) lc] 47))).trans (grew_below hown hg (Nat.le_trans hbase (by simp))))
                  clear hown hrow' hg
                  go_wp2
                  go_roundg (3 - (i + 1))
                  case measure => omega
                  case rel => exact ⟨i + 1, _, by omega, rfl, by go_num, hS6.out, hbel6.out⟩
            · obtain rfl : i = 3 := by omega
              obtain ⟨gb, ob, cb, rfl, _, _⟩ := viewRow_at hS3.row (q := 0) (u := G 0) rfl
              have hfin := Lib.hid (Tp.Below_seq hb1.out hbel3)
              have hgc : ∀ j, j < 3 → wr.cell? ⟨gb, ob + j, none⟩ = some (G j) := fun j hj => by
                obtain ⟨g', o', c', e1, e2, _⟩ := viewRow_at hS3.row (q := j) (u := G j) (by rw [List.getElem?_map, List.getElem?_range hj]; rfl)
                cases e1
                exact e2
              replace hc := Lib.hid hc
              replace hgc := Lib.hid hgc
              replace hS3 := Lib.hid hS3
              clear hbel3
              go_wp2_with fail
              go_loopg [16] 3 (fun g ic wx => ∃ i : Nat, i ≤ 3 ∧ g = 3 - i ∧ ic = .int .i64 i ∧ wr = wx)
              case atStart => exact ⟨0, by omega, rfl, rfl, rfl⟩
              case round =>
                obtain ⟨i, hi3', rfl, rfl, rfl⟩ := hrel
                by_cases hlt' : i < 3
                · have hlt2 : (i : Int) < 3 := by omega
                  have hc1 := hc.out i hlt'
                  have hc2 := hgc.out i hlt'
                  have hv1 := hS3.out.s1.view i hlt'
                  have hv2 := hS3.out.view i hlt'
                  have hyl := hS3.out.s1.len i hlt'
                  have hFi := hF.out i hlt'
                  have he1 : FloatKind.f64.format.order (floatOfInt FloatKind.f64 (-(i : Int) - 1)) (floatOfInt FloatKind.f64 (-(i : Int) - 1)) = some Ordering.eq := eq_of_beq (mark_eq i hlt')
                  have he2 : FloatKind.f64.format.order (floatOfInt FloatKind.f64 (100 + (i : Int))) (floatOfInt FloatKind.f64 (100 + (i : Int))) = some Ordering.eq := eq_of_beq (tl_eq i hlt')
                  obtain ⟨la, lc, hL⟩ := viewRow_shape hv1
                  obtain ⟨ma, mc, hG⟩ := viewRow_shape hv2
                  rw [hL] at hc1 hv1
                  rw [hG] at hc2 hv2
                  clear hL hG
                  obtain ⟨xs, hxs⟩ : ∃ xs, xs = Y i := ⟨_, rfl⟩
                  unfold Full at hFi
                  rw [← hxs] at hc1 hc2 hv1 hv2 hyl hFi
                  clear hxs
                  have hk1 : ∀ k, k < xs.length → ∃ g o, la = some ⟨g, o, none⟩ ∧ wr.cell? ⟨g, o + k, none⟩ = some (.float .f64 (floatOfInt FloatKind.f64 (-(i : Int) - 1))) := fun k hk => by
                    obtain ⟨g', o', c', e1, e2, _⟩ := viewRow_at hv1 (hFi k hk)
                    cases e1
                    exact ⟨_, _, rfl, e2⟩
                  have hk2 : ∀ k, k < xs.length → ∃ g o, ma = some ⟨g, o, none⟩ ∧ wr.cell? ⟨g, o + k, none⟩ = some (.float .f64 (floatOfInt FloatKind.f64 (-(i : Int) - 1))) := fun k hk => by
                    obtain ⟨g', o', c', e1, e2, _⟩ := viewRow_at hv2 (q := k) ((List.getElem?_append_left hk).trans (hFi k hk))
                    cases e1
                    exact ⟨_, _, rfl, e2⟩
                  have hk3 : ∀ k, xs.length ≤ k → k < xs.length + 20 → ∃ g o, ma = some ⟨g, o, none⟩ ∧ wr.cell? ⟨g, o + k, none⟩ = some (.float .f64 (floatOfInt FloatKind.f64 (100 + (i : Int)))) := fun k hk hkl => by
                    obtain ⟨g', o', c', e1, e2, _⟩ := viewRow_at hv2 (q := k) (u := .float .f64 (tl i)) (by
                      rw [List.getElem?_append_right hk, List.getElem?_replicate, if_pos (by omega)])
                    cases e1
                    exact ⟨_, _, rfl, e2⟩
                  replace hk1 := Lib.hid hk1
                  replace hk2 := Lib.hid hk2
                  replace hk3 := Lib.hid hk3
                  clear hv1 hv2 hFi
                  go_wp2_with fail
                  go_loopg [17] (xs.length + 20) (fun g kc wx => ∃ k : Nat, k ≤ xs.length + 20 ∧ g = xs.length + 20 - k ∧ kc = .int .i64 k ∧ wr = wx)
                  case atStart => exact ⟨0, by omega, rfl, rfl, rfl⟩
                  case round =>
                    obtain ⟨k, hk, rfl, rfl, rfl⟩ := hrel
                    by_cases hkl : k < xs.length + 20
                    · have hkl2 : (k : Int) < (xs.length : Int) + 20 := by omega
                      by_cases hkx : k < xs.length
                      · have hkx2 : (k : Int) < (xs.length : Int) := by omega
                        obtain ⟨g, o, rfl, d1⟩ := hk1.out k hkx
                        obtain ⟨g', o', rfl, d2⟩ := hk2.out k hkx
                        clear hkx
                        go_wp2_with fail
                        go_roundg (xs.length + 20 - (k + 1))
                        case measure => omega
                        case rel => exact ⟨k + 1, by omega, rfl, by go_num, rfl⟩
                      · have hkx2 : (xs.length : Int) ≤ (k : Int) := by omega
                        obtain ⟨g', o', rfl, d2⟩ := hk3.out k (by omega) hkl
                        clear hkx
                        go_wp2_with fail
                        go_roundg (xs.length + 20 - (k + 1))
                        case measure => omega
                        case rel => exact ⟨k + 1, by omega, rfl, by go_num, rfl⟩
                    · have hkl2 : (xs.length : Int) + 20 ≤ (k : Int) := by omega
                      go_wp2_with fail
                      go_roundg (3 - (i + 1))
                      case measure => omega
                      case rel => exact ⟨i + 1, by omega, rfl, by go_num, rfl⟩
                · obtain rfl : i = 3 := by omega
                  go_wp2_with fail
                  go_ret
                  exact ⟨rfl, hfin.out⟩

theorem walk {H : Type} (enc : TypeId × Value → H) (W : World) (base : Nat) (args : Array Value) (ds : List (DataW H)) (p : List MemPlace)
    (hval0 : ∀ (j : Nat) t v, Try.f9.params[j]? = some t → args[j]? = some v → Value.okWide Try.prog W .any base t v)
    (hA : DataW.TrodAll enc Try.prog W 0 (fun _ => true) true Try.f9.params.toList args.toList ds p)
    (hsz : (DataW.weightsEach Try.prog Try.f9.params.toList ds).all (· ≤ reachBytes) = true) :
    Calls Try.prog 9 args W fun e w' => e = .returned (.bool true) ∧ Below W.heap.size W w' := by
  have hval : ∀ (j : Nat) t v, Try.f9.params[j]? = some t → args[j]? = some v → Value.okWide Try.prog W .any base t v := hval0
  rw [Try.params9] at hA hval hsz
  obtain ⟨v0, v1, d0, d1, p0, p1, rfl, rfl, rfl, h0, h1⟩ := trodAll_two hA
  obtain ⟨one, hr1, hw1, hl1⟩ := open_floats Try.underlying47 Try.underlying29 (by kernel_rfl) (by kernel_rfl) (hval 0 47 v0 rfl rfl) h0 hsz (j := 0) rfl rfl
  obtain ⟨two, hr2, hw2, hl2⟩ := open_floats Try.underlying47 Try.underlying29 (by kernel_rfl) (by kernel_rfl) (hval 1 47 v1 rfl rfl) h1 hsz (j := 1) rfl rfl
  exact owns one two hw1 hw2 v0 v1 W hr1 hr2 hl1 hl2
end Go.Proofs.Ytfdmfihifjlidaa.drawOwn
