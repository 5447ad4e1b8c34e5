/- The walk of the law on the slower of two: any two runs. -/
import Derived.Test.YteedjgkinmkmoaaIs
import Derived.Test.YteedjgkinmkmoaaOpen2
import Derived.Outline
namespace Go.Proofs.Yteedjgkinmkmoaa.healthSlower
open Go.ChangeShapes Go.WideShapes Go.ChangeAt Go.RowKit
open Go.Tp
set_option linter.unusedVariables false

theorem both_opt {rise fall : Int} {ps : List (Bool × Nat)} {none : Bool} {base : Nat} {w : World} {sv dv : Value} (hps : ∀ p ∈ ps, p.2 < 18446744073709551616) (h : BothIs rise fall ps none base w sv dv) :
    ∃ o : Option St, PtrIs w sv o ∧ DocP w dv o ∧ ∀ s, o = some s → s.took < Fl.INF := by
  rcases h with ⟨rfl, rfl, _⟩ | ⟨hv, _, bs, bd, pv, rfl, rfl, _, _, hs, hr⟩
  · exact ⟨.none, rfl, rfl, fun s h => by cases h⟩
  · have hp2 : ∀ p ∈ ps.take 200, p.2 < 18446744073709551616 := fun p hp => hps p (List.mem_of_mem_take hp)
    refine ⟨some (runS (newS rise fall) (ps.take 200)), ⟨bs, rfl, hs⟩, ⟨bd, rise, fall, ps.take 200, pv, rfl, hv, hp2, hr.blk, rst_rdp hr, by rw [List.length_take]; omega, rfl⟩, ?_⟩
    intro s hse
    cases hse
    have h : ∀ (l : List (Bool × Nat)) (s : St) (n : Int), Ok s n → (∀ p ∈ l, p.2 < 18446744073709551616) → (runS s l).took < Fl.INF := by
      intro l
      induction l with
      | nil => intro s n h _; exact h.took
      | cons p r ih => intro s n h hl; exact ih _ _ (probeS_ok h p.1 p.2 (hl p (by simp))) (fun q hq => hl q (by simp [hq]))
    exact h _ _ 0 (newS_ok hv.1 hv.2) hp2
theorem slower_self (o : Option St) (h : ∀ s, o = some s → s.took < Fl.INF) : slowerB o o = false := by
  rw [slower_eq]
  have : (FloatKind.f64.format.order (tookOf o) (tookOf o) == some Ordering.gt) = false := by
    cases o with
    | none => decide +kernel
    | some s =>
      show (Fl.dbl.order s.took s.took == _) = false
      rw [Fl.order_eq _ _ (h s rfl) (h s rfl)]
      have : compare s.took s.took = .eq := Nat.compare_eq_eq.2 rfl
      rw [this]; rfl
  rw [this]; simp

set_option maxHeartbeats 4000000 in
set_option maxRecDepth 100000 in
theorem slower (ra fa ca rb fb cb : Int) (na nb : Bool) (va vb : Value) (psa psb : List (Bool × Nat)) (hpa : ∀ p ∈ psa, p.2 < 18446744073709551616) (hpb : ∀ p ∈ psb, p.2 < 18446744073709551616) (w : World)
    (hra : RdP w va psa) (hrb : RdP w vb psb) (hla : psa.length ≤ 100000000000000) (hlb : psb.length ≤ 100000000000000) :
    Calls Try.prog 6 #[.agg #[.int .i64 ra, .int .i64 fa, va, .int .i64 ca, .bool na], .agg #[.int .i64 rb, .int .i64 fb, vb, .int .i64 cb, .bool nb]] w fun e w' => e = .returned (.bool true) ∧ Below w.heap.size w w' := by
  have hb0 := Tp.Below_seq (Tp.Below_alloc w (xblk ra fa va ca na)) (Tp.Below_alloc _ (xblk rb fb vb cb nb))
  have hxa : ((w.alloc (xblk ra fa va ca na)).alloc (xblk rb fb vb cb nb)).heap[w.heap.size]? = some (xblk ra fa va ca na) := (Below.heap_alloc _ _ _ (by simp)).trans (heap_alloc_new w _)
  have hxb : ((w.alloc (xblk ra fa va ca na)).alloc (xblk rb fb vb cb nb)).heap[w.heap.size + 1]? = some (xblk rb fb vb cb nb) := by
    have h := heap_alloc_new (w.alloc (xblk ra fa va ca na)) (xblk rb fb vb cb nb)
    simpa using h
  have hra1 := rdp_below hra hb0
  have hrb1 := Lib.hid (rdp_below hrb hb0)
  have hboth := both_any ra fa ca na psa hpa va _ hra1 hla
  have x0 : ((w.alloc (xblk ra fa va ca na)).alloc (xblk rb fb vb cb nb)).cell? ⟨w.heap.size, 0, none⟩ = some (.int .i64 ra) := (cell_of_row _ _ 0 _ _ _ hxa).trans rfl
  have x1 : ((w.alloc (xblk ra fa va ca na)).alloc (xblk rb fb vb cb nb)).cell? ⟨w.heap.size, 1, none⟩ = some (.int .i64 fa) := (cell_of_row _ _ 1 _ _ _ hxa).trans rfl
  have x2 : ((w.alloc (xblk ra fa va ca na)).alloc (xblk rb fb vb cb nb)).cell? ⟨w.heap.size, 2, none⟩ = some va := (cell_of_row _ _ 2 _ _ _ hxa).trans rfl
  have x3 : ((w.alloc (xblk ra fa va ca na)).alloc (xblk rb fb vb cb nb)).cell? ⟨w.heap.size, 3, none⟩ = some (.int .i64 ca) := (cell_of_row _ _ 3 _ _ _ hxa).trans rfl
  have x4 : ((w.alloc (xblk ra fa va ca na)).alloc (xblk rb fb vb cb nb)).cell? ⟨w.heap.size, 4, none⟩ = some (.bool na) := (cell_of_row _ _ 4 _ _ _ hxa).trans rfl
  have lb := (Array.getElem?_eq_some_iff.1 hxb).1
  replace hboth := Lib.hid hboth
  replace hxb := Lib.hid hxb
  replace hb0 := Lib.hid hb0
  replace lb := Lib.hid lb
  clear hxa hra hrb hra1
  go_enter Try.func6, Try.ntmps6
  go_wp2_with fail
  refine hboth.out.mono ?_
  rintro e w2 ⟨sv, dv, rfl, hB, hb2⟩
  have hbx2 := (hb2.block _ lb.out).trans hxb.out
  have hbel2 := Tp.Below_seq hb0.out hb2
  have hboth2 := Lib.hid (both_any rb fb cb nb psb hpb vb w2 (rdp_below hrb1.out hb2) hlb)
  have y0 : w2.cell? ⟨w.heap.size + 1, 0, none⟩ = some (.int .i64 rb) := (cell_of_row _ _ 0 _ _ _ hbx2).trans rfl
  have y1 : w2.cell? ⟨w.heap.size + 1, 1, none⟩ = some (.int .i64 fb) := (cell_of_row _ _ 1 _ _ _ hbx2).trans rfl
  have y2 : w2.cell? ⟨w.heap.size + 1, 2, none⟩ = some vb := (cell_of_row _ _ 2 _ _ _ hbx2).trans rfl
  have y3 : w2.cell? ⟨w.heap.size + 1, 3, none⟩ = some (.int .i64 cb) := (cell_of_row _ _ 3 _ _ _ hbx2).trans rfl
  have y4 : w2.cell? ⟨w.heap.size + 1, 4, none⟩ = some (.bool nb) := (cell_of_row _ _ 4 _ _ _ hbx2).trans rfl
  obtain ⟨o, hs, hd, ho⟩ := both_opt hpa hB
  replace hs := Lib.hid hs
  replace hd := Lib.hid hd
  replace ho := Lib.hid ho
  replace hbel2 := Lib.hid hbel2
  clear hboth hxb lb hb0 hrb1 hb2 hbx2 hB x0 x1 x2 x3 x4
  go_wp2_with fail
  refine hboth2.out.mono ?_
  rintro e w3 ⟨tv, uv, rfl, hB2, hb3⟩
  obtain ⟨o2, hs2, hd2, ho2⟩ := both_opt hpb hB2
  have hs1 := ptris_below hs.out hb3
  have hd1 := docp_below hd.out hb3
  have hbel3 := Tp.Below_seq hbel2.out hb3
  have e1 := slower_self o ho.out
  clear hs hd ho hbel2 hb3 hB2 hboth2 y0 y1 y2 y3 y4 ho2
  -- the five calls, each from whatever later world
  have c1 := Lib.hid (fun (wx : World) (h : Below w3.heap.size w3 wx) => slower_ptr (w := wx) (ptris_below hs1 h) (ptris_below hs2 h))
  have c2 := Lib.hid (fun (wx : World) (h : Below w3.heap.size w3 wx) => refslower_ptr (w := wx) (docp_below hd1 h) (docp_below hd2 h))
  have c3 := Lib.hid (fun (wx : World) (h : Below w3.heap.size w3 wx) => slower_ptr (w := wx) (ptris_below hs2 h) (ptris_below hs1 h))
  have c4 := Lib.hid (fun (wx : World) (h : Below w3.heap.size w3 wx) => refslower_ptr (w := wx) (docp_below hd2 h) (docp_below hd1 h))
  have c5 := Lib.hid (fun (wx : World) (h : Below w3.heap.size w3 wx) => slower_ptr (w := wx) (ptris_below hs1 h) (ptris_below hs1 h))
  have c6 := Lib.hid (fun (wx : World) (h : Below w3.heap.size w3 wx) => is_ptr (w := wx) (ptris_below hs1 h) (docp_below hd1 h))
  have c7 := Lib.hid (fun (wx : World) (h : Below w3.heap.size w3 wx) => is_ptr (w := wx) (ptris_below hs2 h) (docp_below hd2 h))
  rw [e1] at c5
  generalize slowerB o o2 = B1 at *
  generalize slowerB o2 o = B2 at *
  have hb := Lib.hid (Below.refl w3.heap.size w3)
  replace hbel3 := Lib.hid hbel3
  clear hs1 hs2 hd1 hd2 e1
  go_wp2_with fail
  refine (c1.out _ hb.out).mono ?_
  rintro e w4 ⟨rfl, m, hm⟩
  replace hb := Lib.hid (show Below w3.heap.size w3 w4 by rw [← hm]; exact below_drewN hb.out m)
  clear hm c1
  go_wp2_with fail
  refine (c2.out _ hb.out).mono ?_
  rintro e w5 ⟨rfl, hm⟩
  replace hb := Lib.hid (hb.out.trans (hm.mono hb.out.size))
  clear hm c2
  go_wp2_with fail
  refine (c3.out _ hb.out).mono ?_
  rintro e w6 ⟨rfl, m, hm⟩
  replace hb := Lib.hid (show Below w3.heap.size w3 w6 by rw [← hm]; exact below_drewN hb.out m)
  clear hm c3
  go_wp2_with fail
  refine (c4.out _ hb.out).mono ?_
  rintro e w7 ⟨rfl, hm⟩
  replace hb := Lib.hid (hb.out.trans (hm.mono hb.out.size))
  clear hm c4
  go_wp2_with fail
  refine (c5.out _ hb.out).mono ?_
  rintro e w8 ⟨rfl, m, hm⟩
  replace hb := Lib.hid (show Below w3.heap.size w3 w8 by rw [← hm]; exact below_drewN hb.out m)
  clear hm c5
  go_wp2_with fail
  refine (c6.out _ hb.out).mono ?_
  rintro e w9 ⟨rfl, hm⟩
  replace hb := Lib.hid (hb.out.trans (hm.mono hb.out.size))
  clear hm c6
  go_wp2_with fail
  refine (c7.out _ hb.out).mono ?_
  rintro e w10 ⟨rfl, hm⟩
  replace hb := Lib.hid (hb.out.trans (hm.mono hb.out.size))
  clear hm c7
  go_wp2
  go_ret
  exact ⟨rfl, Tp.Below_seq hbel3.out hb.out⟩

theorem walk {H : Type} (enc : TypeId × Value → H) (W : World) (base : Nat) (args : Array Value) (ds : List (DataW H)) (p : List MemPlace)
    (hval0 : ∀ (j : Nat) t v, Try.f6.params[j]? = some t → args[j]? = some v → Value.okWide Try.prog W .any base t v)
    (hA : DataW.TrodAll enc Try.prog W 0 (fun _ => true) true Try.f6.params.toList args.toList ds p)
    (hsz : (DataW.weightsEach Try.prog Try.f6.params.toList ds).all (· ≤ reachBytes) = true) :
    Calls Try.prog 6 args W fun e w' => e = .returned (.bool true) ∧ Below W.heap.size W w' := by
  have hval : ∀ (j : Nat) t v, Try.f6.params[j]? = some t → args[j]? = some v → Value.okWide Try.prog W .any base t v := hval0
  rw [Try.params6] at hA hval hsz
  obtain ⟨v0, v1, d0, d1, p0, p1, rfl, rfl, rfl, h0, h1⟩ := trodAll_two hA
  obtain ⟨ra, fa, ca, na, va, psa, rfl, ha1, ha2, ha3, _⟩ := open_run (hval 0 37 v0 rfl rfl) h0 hsz (j := 0) rfl rfl
  obtain ⟨rb, fb, cb, nb, vb, psb, rfl, hb1, hb2, hb3, _⟩ := open_run (hval 1 37 v1 rfl rfl) h1 hsz (j := 1) rfl rfl
  exact slower ra fa ca rb fb cb na nb va vb psa psb ha2 hb2 W ha1 hb1 (by omega) (by omega)
end Go.Proofs.Yteedjgkinmkmoaa.healthSlower
