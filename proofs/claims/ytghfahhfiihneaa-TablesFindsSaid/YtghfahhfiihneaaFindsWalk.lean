/- The walk of the law on finds; its arguments opened. -/
import Derived.Test.YtghfahhfiihneaaRefTab
import Derived.Carry
namespace Go.Proofs.Ytghfahhfiihneaa.tablesFinds
open Go.ChangeShapes Go.WideShapes Go.ChangeAt Go.RowKit
open Go.Tb
set_option linter.unusedVariables false
set_option maxRecDepth 100000
set_option maxHeartbeats 40000000 in
theorem finds (x y : Go.Tb.Tables) (name : ByteArray) (v v' u u' : Value) (w : World) (hnm : name.size ≤ maxLen) (hx : Rd.SliceOf hostE w v x.2.1) (hx' : Rd.SliceOf Rd.str w v' x.2.2.1) (hy : Rd.SliceOf hostE w u y.2.1) (hy' : Rd.SliceOf Rd.str w u' y.2.2.1) :
    Calls Try.prog 3 #[.agg #[.int .i64 x.1, v, v'], .agg #[.int .i64 y.1, u, u'], .string name] w fun e w' => e = .returned (.bool true) ∧ Below w.heap.size w w' := by
  obtain ⟨a1, k1, hv⟩ := slice_shape hx
  subst hv
  obtain ⟨a2, k2, hv⟩ := slice_shape hx'
  subst hv
  obtain ⟨b1, l1, hv⟩ := slice_shape hy
  subst hv
  obtain ⟨b2, l2, hv⟩ := slice_shape hy'
  subst hv
  obtain ⟨W, hW⟩ : ∃ W, W = (w.alloc (.cells #[.int .i64 x.1, .slice a1 x.2.1.length k1, .slice a2 x.2.2.1.length k2] 25)).alloc (.cells #[.int .i64 y.1, .slice b1 y.2.1.length l1, .slice b2 y.2.2.1.length l2] 25) := ⟨_, rfl⟩
  have hbb : Below w.heap.size w W := by
    rw [hW]
    exact Tp.Below_seq (Tp.Below_alloc w _) (Tp.Below_alloc _ _)
  have hB : W.heap[w.heap.size]? = some (.cells #[.int .i64 x.1, .slice a1 x.2.1.length k1, .slice a2 x.2.2.1.length k2] 25) ∧ W.heap[w.heap.size + 1]? = some (.cells #[.int .i64 y.1, .slice b1 y.2.1.length l1, .slice b2 y.2.2.1.length l2] 25) := by
    rw [hW]
    refine ⟨?_, ?_⟩
    all_goals
      simp only [alloc_heap, alloc_size]
      repeat first
        | rw [if_pos trivial]
        | rw [if_pos rfl]
        | rw [if_neg (by omega)]
  obtain ⟨hBx, hBy⟩ := hB
  have hS : ∀ w', Below W.heap.size W w' → (w'.cell? ⟨w.heap.size, 0, none⟩ = some (.int .i64 x.1) ∧ w'.cell? ⟨w.heap.size, 1, none⟩ = some (.slice a1 x.2.1.length k1) ∧ w'.cell? ⟨w.heap.size, 2, none⟩ = some (.slice a2 x.2.2.1.length k2)) ∧ w'.cell? ⟨w.heap.size + 1, 0, none⟩ = some (.int .i64 y.1) ∧ w'.cell? ⟨w.heap.size + 1, 1, none⟩ = some (.slice b1 y.2.1.length l1) ∧ w'.cell? ⟨w.heap.size + 1, 2, none⟩ = some (.slice b2 y.2.2.1.length l2) := fun w' hb => by
    have h1 := (hb.block _ (Array.getElem?_eq_some_iff.1 hBx).1).trans hBx
    have h2 := (hb.block _ (Array.getElem?_eq_some_iff.1 hBy).1).trans hBy
    exact ⟨⟨(cell_of_row _ _ 0 _ _ _ h1).trans rfl, (cell_of_row _ _ 1 _ _ _ h1).trans rfl, (cell_of_row _ _ 2 _ _ _ h1).trans rfl⟩, (cell_of_row _ _ 0 _ _ _ h2).trans rfl, (cell_of_row _ _ 1 _ _ _ h2).trans rfl, (cell_of_row _ _ 2 _ _ _ h2).trans rfl⟩
  obtain ⟨⟨c0, c1, c2⟩, d0, d1, d2⟩ := hS W (Below.refl _ _)
  have k11 := Lib.hid (find11 x.1 _ (.slice a2 x.2.2.1.length k2) x.2.1 name W hnm (hx.below hbb))
  have k12 := Lib.hid (fun wz (hz : Below W.heap.size W wz) => find12 x.1 _ (.slice a2 x.2.2.1.length k2) x.2.1 name wz hnm ((hx.below hbb).below hz))
  have mk : ∀ wz, Below W.heap.size W wz → Below w.heap.size w wz := fun wz hz => Tp.Below_seq hbb hz
  have k13 := Lib.hid (fun wz (hz : Below W.heap.size W wz) => (same13 x y _ _ _ _ wz (hx.below (mk wz hz)) (hx'.below (mk wz hz)) (hy.below (mk wz hz)) (hy'.below (mk wz hz))).mono fun e w' h => (⟨h.1, Tp.Below_seq hz h.2⟩ : _ ∧ Below W.heap.size W w'))
  have k14 := Lib.hid (fun wz (hz : Below W.heap.size W wz) => (refsame14 x y _ _ _ _ wz (hx.below (mk wz hz)) (hx'.below (mk wz hz)) (hy.below (mk wz hz)) (hy'.below (mk wz hz))).mono fun e w' h => (⟨h.1, Tp.Below_seq hz h.2⟩ : _ ∧ Below W.heap.size W w'))
  have k13x := Lib.hid (fun wz (hz : Below W.heap.size W wz) => (same13 x x _ _ _ _ wz (hx.below (mk wz hz)) (hx'.below (mk wz hz)) (hx.below (mk wz hz)) (hx'.below (mk wz hz))).mono fun e w' h => (⟨h.1, Tp.Below_seq hz h.2⟩ : _ ∧ Below W.heap.size W w'))
  have k14x := Lib.hid (fun wz (hz : Below W.heap.size W wz) => (refsame14 x x _ _ _ _ wz (hx.below (mk wz hz)) (hx'.below (mk wz hz)) (hx.below (mk wz hz)) (hx'.below (mk wz hz))).mono fun e w' h => (⟨h.1, Tp.Below_seq hz h.2⟩ : _ ∧ Below W.heap.size W w'))
  obtain ⟨fi, fb, hfv⟩ : ∃ fi fb, findV (firstI (takesH name.data.toList) x.2.1) = .tuple #[.int .i64 fi, .bool fb] := ⟨_, _, rfl⟩
  rw [hfv] at k11 k12
  generalize tablesEq x y = r at *
  generalize tablesEq x x = r' at *
  have g1 : (fi == fi) = true := by simp
  have g2 : (fb == fb) = true := by simp
  have g3 : (r == r) = true := by simp
  have g4 : (r' == r') = true := by simp
  replace hS := Lib.hid hS
  replace hbb := Lib.hid hbb
  replace hfv := Lib.hid hfv
  clear hx hy hx' hy' hBx hBy mk
  go_enter Try.func3, Try.ntmps3
  go_upto_region 1 with fail
  change Code.wp _ _ _ _ ((w.alloc (.cells #[.int .i64 x.1, .slice a1 x.2.1.length k1, .slice a2 x.2.2.1.length k2] 25)).alloc (.cells #[.int .i64 y.1, .slice b1 y.2.1.length l1, .slice b2 y.2.2.1.length l2] 25))
  rw [← hW]
  replace hW := Lib.hid hW
  go_wp2_with fail
  refine k11.out.mono ?_
  rintro e w1 ⟨rfl, hb1⟩
  clear c0 c1 c2 d0 d1 d2
  obtain ⟨⟨c0, c1, c2⟩, d0, d1, d2⟩ := hS.out w1 hb1
  replace hb1 := Lib.hid hb1
  go_wp2_with fail
  refine (k12.out _ hb1.out).mono ?_
  rintro e w2 ⟨rfl, hb2⟩
  have hb3 := Lib.hid (Tp.Below_seq hb1.out hb2)
  clear c0 c1 c2 d0 d1 d2 hb2
  have hbd : Below W.heap.size W w2.drew := Tp.Below_seq hb3.out (below_drewN (Below.refl _ _) 1)
  replace hbd := Lib.hid hbd
  go_upto_region 3 with fail
  go_region_held3 (fun w' => Below W.heap.size W w' ∧ (w'.cell? ⟨w.heap.size, 0, none⟩ = some (.int .i64 x.1) ∧ w'.cell? ⟨w.heap.size, 1, none⟩ = some (.slice a1 x.2.1.length k1) ∧ w'.cell? ⟨w.heap.size, 2, none⟩ = some (.slice a2 x.2.2.1.length k2)) ∧ w'.cell? ⟨w.heap.size + 1, 0, none⟩ = some (.int .i64 y.1) ∧ w'.cell? ⟨w.heap.size + 1, 1, none⟩ = some (.slice b1 y.2.1.length l1) ∧ w'.cell? ⟨w.heap.size + 1, 2, none⟩ = some (.slice b2 y.2.2.1.length l2))
    (first | exact ⟨hbd.out, hS.out _ hbd.out⟩ | exact ⟨hb7, hS.out _ hb7⟩ | exact ⟨hb6, hS.out _ hb6⟩ | exact ⟨hb5, hS.out _ hb5⟩ | exact ⟨hb4, hS.out _ hb4⟩ | fail)
    (first | (go_at_call 13; with_reducible refine (k13.out _ hbd.out).mono ?_; rintro e w4 ⟨rfl, hb4⟩) | (go_at_call 14; with_reducible refine (k14.out _ hb4).mono ?_; rintro e w5 ⟨rfl, hb5⟩) | (go_at_call 13; with_reducible refine (k13x.out _ hb5).mono ?_; rintro e w6 ⟨rfl, hb6⟩) | (go_at_call 14; with_reducible refine (k14x.out _ hb6).mono ?_; rintro e w7 ⟨rfl, hb7⟩) | fail)
  go_wp2
  go_ret
  exact ⟨rfl, Tp.Below_seq hbb.out hb7⟩
theorem co3 : Try.prog.cellsOf 3 = 1 := by kernel_rfl
theorem co4 : Try.prog.cellsOf 4 = 1 := by kernel_rfl
theorem co9 : Try.prog.cellsOf 9 = 1 := by kernel_rfl
theorem co22 : Try.prog.cellsOf 22 = 1 := by kernel_rfl
theorem co23 : Try.prog.cellsOf 23 = 1 := by kernel_rfl
theorem co25 : Try.prog.cellsOf 25 = 3 := by kernel_rfl
theorem co31 : Try.prog.cellsOf 31 = 1 := by kernel_rfl
theorem co38 : Try.prog.cellsOf 38 = 1 := by kernel_rfl
theorem co40 : Try.prog.cellsOf 40 = 2 := by kernel_rfl
theorem co53 : Try.prog.cellsOf 53 = 1 := by kernel_rfl
theorem co54 : Try.prog.cellsOf 54 = 1 := by kernel_rfl
theorem co56 : Try.prog.cellsOf 56 = 4 := by kernel_rfl
theorem co58 : Try.prog.cellsOf 58 = 3 := by kernel_rfl
theorem co74 : Try.prog.cellsOf 74 = 3 := by kernel_rfl
theorem oShare : Rd.Opens Try.prog shareE 40 := Rd.opens_struct Try.underlying40 (Rd.opensF_cons rfl co9 (Rd.opens_str Try.underlying9) (Rd.opensF_cons rfl co38 (Rd.opens_float Try.underlying38) (Rd.opensF_nil _)))
theorem oEntry : Rd.Opens Try.prog entryE 58 := Rd.opens_struct Try.underlying58 (Rd.opensF_cons rfl co9 (Rd.opens_str Try.underlying9) (Rd.opensF_cons rfl co9 (Rd.opens_str Try.underlying9) (Rd.opensF_cons rfl co31 (Rd.opens_slice Try.underlying31 co40 (show Try.prog.bytesOf 40 = 24 by kernel_rfl) (by decide) (by decide) oShare) (Rd.opensF_nil _))))
theorem oPermit : Rd.Opens Try.prog permitE 74 := Rd.opens_struct Try.underlying74 (Rd.opensF_cons rfl co9 (Rd.opens_str Try.underlying9) (Rd.opensF_cons rfl co9 (Rd.opens_str Try.underlying9) (Rd.opensF_cons rfl co4 (Rd.opens_bool Try.underlying4) (Rd.opensF_nil _))))
theorem oHost : Rd.Opens Try.prog hostE 56 := Rd.opens_struct Try.underlying56 (Rd.opensF_cons rfl co9 (Rd.opens_str Try.underlying9) (Rd.opensF_cons rfl co9 (Rd.opens_str Try.underlying9) (Rd.opensF_cons rfl co53 (Rd.opens_slice Try.underlying53 co58 (show Try.prog.bytesOf 58 = 56 by kernel_rfl) (by decide) (by decide) oEntry) (Rd.opensF_cons rfl co54 (Rd.opens_slice Try.underlying54 co74 (show Try.prog.bytesOf 74 = 40 by kernel_rfl) (by decide) (by decide) oPermit) (Rd.opensF_nil _)))))
theorem oTables : Rd.Opens Try.prog tablesE 25 := Rd.opens_struct Try.underlying25 (Rd.opensF_cons rfl co3 (Rd.opens_int Try.underlying3) (Rd.opensF_cons rfl co22 (Rd.opens_slice Try.underlying22 co56 (show Try.prog.bytesOf 56 = 80 by kernel_rfl) (by decide) (by decide) oHost) (Rd.opensF_cons rfl co23 (Rd.opens_slice Try.underlying23 co9 (show Try.prog.bytesOf 9 = 16 by kernel_rfl) (by decide) (by decide) (Rd.opens_str Try.underlying9)) (Rd.opensF_nil _))))
section
variable {H : Type} {enc : TypeId × Value → H} {W : World} {v : Value} {d : DataW H} {pl : List MemPlace} {ts : List TypeId} {ds : List (DataW H)} {j base : Nat}
theorem open_tables (hval : Value.okWide Try.prog W .any base 25 v) (hd : DataW.Trod enc Try.prog W 0 (fun _ => true) true 25 v d pl) (hsz : (DataW.weightsEach Try.prog ts ds).all (· ≤ reachBytes) = true) (hts : ts[j]? = some 25) (hds : ds[j]? = some d) :
    ∃ (t : Go.Tb.Tables) (v1 v2 : Value), v = .agg #[.int .i64 t.1, v1, v2] ∧ Rd.SliceOf hostE W v1 t.2.1 ∧ Rd.SliceOf Rd.str W v2 t.2.2.1 := by
  obtain ⟨cs, rfl, hcsz⟩ := okWide_struct Try.underlying25 hval
  obtain ⟨t, ⟨q0, b0⟩, ⟨v1, q1, r1⟩, ⟨v2, q2, r2⟩, _⟩ := Rd.open_arg oTables hd hsz hts hds
  obtain ⟨l⟩ := cs
  match l, hcsz.trans co25 with
  | [c0, c1, c2], _ =>
    replace q0 : some c0 = some (.int .i64 t.1) := q0
    replace q1 : some c1 = some v1 := q1
    replace q2 : some c2 = some v2 := q2
    cases q0; cases q1; cases q2
    exact ⟨t, _, _, rfl, r1, r2⟩
end
theorem walk {H : Type} (enc : TypeId × Value → H) (W : World) (base : Nat) (args : Array Value) (ds : List (DataW H)) (p : List MemPlace)
    (hval0 : ∀ (j : Nat) t v, Try.f3.params[j]? = some t → args[j]? = some v → Value.okWide Try.prog W .any base t v)
    (hA : DataW.TrodAll enc Try.prog W 0 (fun _ => true) true Try.f3.params.toList args.toList ds p)
    (hsz : (DataW.weightsEach Try.prog Try.f3.params.toList ds).all (· ≤ reachBytes) = true) :
    Calls Try.prog 3 args W fun e w' => e = .returned (.bool true) ∧ Below W.heap.size W w' := by
  have hval : ∀ (j : Nat) t v, Try.f3.params[j]? = some t → args[j]? = some v → Value.okWide Try.prog W .any base t v := hval0
  rw [Try.params3] at hA hval hsz
  obtain ⟨v0, v1, v2, d0, d1, d2, p0, p1, p2, rfl, rfl, rfl, h0, h1, h2⟩ := trodAll_three hA
  obtain ⟨t, a1, a2, rfl, r1, r2⟩ := open_tables (hval 0 25 v0 rfl rfl) h0 hsz (j := 0) rfl rfl
  obtain ⟨s, b1, b2, rfl, r3, r4⟩ := open_tables (hval 1 25 v1 rfl rfl) h1 hsz (j := 1) rfl rfl
  obtain ⟨nm, rfl, _, _, hmax⟩ := Go.ChangeMaps.open_string Try.underlying9 (hval 2 9 v2 rfl rfl) h2
  exact finds t s nm a1 a2 b1 b2 W hmax r1 r2 r3 r4
end Go.Proofs.Ytghfahhfiihneaa.tablesFinds
