/- The walk of the law on states apart: any two runs. -/
import Derived.Test.YteedjgkinmkmoaaTell
import Derived.Test.YteedjgkinmkmoaaOpen2
import Derived.Test.YteedjgkinmkmoaaBoth
namespace Go.Proofs.Yteedjgkinmkmoaa.healthApart
open Go.ChangeShapes Go.WideShapes Go.ChangeAt Go.RowKit
open Go.Tp
set_option linter.unusedVariables false

theorem RdP.below {w w' : World} {v : Value} {ps : List (Bool × Nat)} (h : RdP w v ps) (hb : Below w.heap.size w w') : RdP w' v ps := by
  obtain ⟨ao, cap, rfl, h⟩ := h
  refine ⟨ao, cap, rfl, ?_⟩
  rcases h with h | ⟨b, off, rfl, hb', hp⟩
  · exact .inl h
  · exact .inr ⟨b, off, rfl, Nat.lt_of_lt_of_le hb' hb.size, hp.below hb' hb⟩

/-- A run's box, read cell by cell. -/
structure XCells (w : World) (b : Nat) (r f : Int) (v : Value) (c : Int) (n : Bool) : Prop where
  x0 : w.cell? ⟨b, 0, none⟩ = some (.int .i64 r)
  x1 : w.cell? ⟨b, 1, none⟩ = some (.int .i64 f)
  x2 : w.cell? ⟨b, 2, none⟩ = some v
  x3 : w.cell? ⟨b, 3, none⟩ = some (.int .i64 c)
  x4 : w.cell? ⟨b, 4, none⟩ = some (.bool n)
theorem xcells_of {w : World} {b : Nat} {r f c : Int} {v : Value} {n : Bool} (h : w.heap[b]? = some (xblk r f v c n)) : XCells w b r f v c n := by
  unfold xblk at h
  refine ⟨?_, ?_, ?_, ?_, ?_⟩ <;> (rw [cell_of_row w b _ _ _ _ h]; rfl)

theorem runS_ok {s : St} {n : Int} (h : Ok s n) (ps : List (Bool × Nat)) (hp : ∀ p ∈ ps, p.2 < 18446744073709551616) : Ok (runS s ps) (n + ps.length) := by
  induction ps generalizing s n with
  | nil => simpa [runS] using h
  | cons p r ih =>
    have h1 := probeS_ok h p.1 p.2 (hp p (by simp))
    have h2 := ih h1 (fun q hq => hp q (by simp [hq]))
    have e : n + ((p :: r).length : Int) = n + 1 + (r.length : Int) := by simp; omega
    rw [e]
    exact h2
theorem ok_mono {s : St} {n m : Int} (h : Ok s n) (hm : n ≤ m) : Ok s m := ⟨h.rise, h.fall, h.pl, h.row, h.took, ⟨h.timed.1, by have := h.timed.2; omega⟩, ⟨h.turns.1, by have := h.turns.2; omega⟩⟩

/-- What a round of the probes on the copy keeps. -/
structure AInv (w2 : World) (S : St) (ps : List (Bool × Nat)) (i : Nat) (wr : World) : Prop where
  cblk : wr.heap[w2.heap.size]? = some (blk (runS S (ps.take i)))
  ok : Ok (runS S (ps.take i)) (200 + i)
  below : Below w2.heap.size w2 wr
  size : wr.heap.size = w2.heap.size + 1

set_option maxHeartbeats 4000000 in
set_option maxRecDepth 100000 in
theorem apart (ra fa ca rb fb cb : Int) (na nb : Bool) (va vb : Value) (psa psb : List (Bool × Nat)) (hpa : ∀ p ∈ psa, p.2 < 18446744073709551616) (hpb : ∀ p ∈ psb, p.2 < 18446744073709551616) (w : World)
    (hra : RdP w va psa) (hrb : RdP w vb psb) (hla : psa.length ≤ 100000000000000) (hlb : psb.length ≤ 100000000000000) :
    Calls Try.prog 8 #[.agg #[.int .i64 ra, .int .i64 fa, va, .int .i64 ca, .bool na], .agg #[.int .i64 rb, .int .i64 fb, vb, .int .i64 cb, .bool nb]] w fun e w' => e = .returned (.bool true) ∧ Below w.heap.size w w' := by
  have hb0 := Tp.Below_seq (Tp.Below_alloc w (xblk ra fa va ca na)) (Tp.Below_alloc _ (xblk rb fb vb cb nb))
  have hxa : ((w.alloc (xblk ra fa va ca na)).alloc (xblk rb fb vb cb nb)).heap[w.heap.size]? = some (xblk ra fa va ca na) := (Below.heap_alloc _ _ _ (by simp)).trans (heap_alloc_new w _)
  have hxb : ((w.alloc (xblk ra fa va ca na)).alloc (xblk rb fb vb cb nb)).heap[w.heap.size + 1]? = some (xblk rb fb vb cb nb) := by
    have h := heap_alloc_new (w.alloc (xblk ra fa va ca na)) (xblk rb fb vb cb nb)
    simpa using h
  have haw := awake_any ((w.alloc (xblk ra fa va ca na)).alloc (xblk rb fb vb cb nb))
  replace hxa := Lib.hid hxa
  replace hxb := Lib.hid hxb
  replace haw := Lib.hid haw
  go_enter Try.func8, Try.ntmps8
  go_wp2_with fail
  refine haw.out.mono ?_
  rintro e w1 ⟨rfl, hb1⟩
  have hbel1 := Tp.Below_seq hb0 hb1
  have la := (Array.getElem?_eq_some_iff.1 hxa.out).1
  have lb := (Array.getElem?_eq_some_iff.1 hxb.out).1
  have ha1 := (hb1.block _ la).trans hxa.out
  have hbx1 := (hb1.block _ lb).trans hxb.out
  have hra1 := RdP.below hra hbel1
  have hrb1 := RdP.below hrb hbel1
  obtain ⟨x0, x1, x2, x3, x4⟩ := xcells_of ha1
  have hboth := Lib.hid (both_any ra fa ca na psa hpa va w1 hra1 hla)
  clear hb0 hb1 hxa hxb haw la lb hra hra1
  go_wp2_with fail
  refine hboth.out.mono ?_
  rintro e w2 ⟨sv, dv, rfl, hB, hb2⟩
  have hbel2 := Tp.Below_seq hbel1 hb2
  clear x0 x1 x2 x3 x4 hboth
  rcases hB with ⟨rfl, rfl, _⟩ | ⟨hv, rfl, bs, bd, pv, rfl, rfl, hbs, hbd, hsb, hrst⟩
  · have h00 : (FloatKind.f64.format.order 0 0 == some Ordering.eq) = true := by decide +kernel
    have hsl : slowerB none none = false := rfl
    have hs := slower_ptr (w := w2) (u := .pointer none) (v := .pointer none) (a := none) (b := none) rfl rfl
    rw [hsl] at hs
    replace hs := Lib.hid hs
    replace hsl := trivial
    go_wp2_with (first | (go_at_call 13; refine (probe_nil _ _ _).mono ?_; rintro e w' ⟨rfl, rfl⟩) | (go_at_call 11; refine (healthy_nil _).mono ?_; rintro e w' ⟨rfl, rfl⟩) | (go_at_call 14; refine (row_nil _).mono ?_; rintro e w' ⟨rfl, rfl⟩) | (go_at_call 15; refine (took_nil _).mono ?_; rintro e w' ⟨rfl, rfl⟩) | (go_at_call 16; refine (timed_nil _).mono ?_; rintro e w' ⟨rfl, rfl⟩) | (go_at_call 12; refine (turns_nil _).mono ?_; rintro e w' ⟨rfl, rfl⟩) | (go_at_call 23; refine (copy_nil _).mono ?_; rintro e w' ⟨rfl, rfl⟩) | (go_at_call 18; refine hs.out.mono ?_; rintro e w' ⟨rfl, m, rfl⟩))
    go_ret
    exact ⟨rfl, below_drewN hbel2 _⟩
  · obtain ⟨S, hS⟩ : ∃ S, S = runS (newS ra fa) (psa.take 200) := ⟨_, rfl⟩
    have hSok : Ok S 200 := by
      rw [hS]
      refine ok_mono (runS_ok (newS_ok hv.1 hv.2) _ (fun p hp => hpa p (List.mem_of_mem_take hp))) ?_
      rw [List.length_take]; omega
    rw [← hS] at hsb
    clear hS hrst hbd
    have hcopy := copy_any bs S w2 hsb
    have hbel3 := Tp.Below_seq hbel2 (Tp.Below_alloc w2 (blk S))
    have hlts : bs < w2.heap.size := (Array.getElem?_eq_some_iff.1 hsb).1
    have hI0 : AInv w2 S psb 0 (w2.alloc (blk S)) := ⟨heap_alloc_new w2 _, by simpa [runS] using hSok, Below_alloc w2 _, by simp⟩
    have hltb := (Array.getElem?_eq_some_iff.1 hbx1).1
    have hbx2 := (hb2.block _ hltb).trans hbx1
    replace hbx2 := Lib.hid hbx2
    replace hcopy := Lib.hid hcopy
    replace hsb := Lib.hid hsb
    replace hb2 := Lib.hid hb2
    replace hbel1 := Lib.hid hbel1
    replace hbel2 := Lib.hid hbel2
    go_wp2_with fail
    refine hcopy.out.mono ?_
    rintro e w3 ⟨rfl, rfl⟩
    have hs3 : (w2.alloc (blk S)).heap[bs]? = some (blk S) := (Below.heap_alloc _ _ _ hlts).trans hsb.out
    generalize w2.alloc (blk S) = w3 at *
    have g1 := healthy_any bs S w3 hs3
    have g2 := row_any bs S w3 hs3
    have g3 := took_any bs S w3 hs3
    replace g1 := Lib.hid g1
    replace g2 := Lib.hid g2
    replace g3 := Lib.hid g3
    replace hI0 := Lib.hid hI0
    go_wp2_with (first | (go_at_call 11; refine g1.out.mono ?_; rintro e w' ⟨rfl, rfl⟩) | (go_at_call 14; refine g2.out.mono ?_; rintro e w' ⟨rfl, rfl⟩) | (go_at_call 15; refine g3.out.mono ?_; rintro e w' ⟨rfl, rfl⟩))
    clear g1 g2 g3
    obtain ⟨ao, cap, rfl, hvr⟩ := id hrb1
    replace hvr := Lib.hid hvr
    go_loopw [11] (fun ic wr => ∃ i : Nat, i ≤ psb.length ∧ i ≤ 200 ∧ ic = .int .i64 i ∧ AInv w2 S psb i wr) (fun i _ => 200 - (intOf i).toNat)
    case atStart => exact ⟨0, by omega, by omega, rfl, hI0.out⟩
    case round =>
      obtain ⟨i, hi, hi2, rfl, I⟩ := hrel
      clear hI0
      have hxr : wr.heap[w.heap.size + 1]? = some (xblk rb fb (.slice ao psb.length cap) cb nb) := (I.below.block _ (Array.getElem?_eq_some_iff.1 hbx2.out).1).trans hbx2.out
      have hsr : wr.heap[bs]? = some (blk S) := (I.below.block _ hlts).trans hsb.out
      have hbr := Tp.Below_seq hb2.out I.below
      have hbelr : Below w.heap.size w wr := Tp.Below_seq hbel2.out I.below
      by_cases hlt : i < psb.length ∧ i < 200
      · obtain ⟨hl1, hl2⟩ := hlt
        obtain ⟨b, off, hao, hbw, hpr⟩ := hvr.out.resolve_left (by rintro rfl; simp at hl1)
        subst hao
        have y2 : wr.cell? ⟨w.heap.size + 1, 2, none⟩ = some (.slice (some ⟨b, off, none⟩) psb.length cap) := by rw [cell_of_row _ _ _ _ _ _ hxr]; rfl
        have hpr := hpr.below hbw hbr
        have hok := hpr.ok i hl1
        have htk := hpr.took i hl1
        have hp2 : (psb.getD i (false, 0)).2 < 18446744073709551616 := by
          have : psb.getD i (false, 0) = psb[i] := by simp [List.getD, hl1]
          rw [this]; exact hpb _ (List.getElem_mem hl1)
        have htake := take_snoc psb (false, 0) i hl1
        obtain ⟨p, hpe⟩ : ∃ p, p = psb.getD i (false, 0) := ⟨_, rfl⟩
        rw [← hpe] at hok htk hp2 htake
        obtain ⟨ok, t⟩ := p
        dsimp only at hok htk hp2
        have hi0 : (0 : Int) ≤ (i : Int) := by omega
        have hi1 : (i : Int) < (psb.length : Int) := by omega
        have hprobe := Lib.hid (probe_any w2.heap.size _ ok t (200 + i) wr.drew I.cblk hp2 I.ok (by omega))
        have II := Lib.hid I
        replace htake := Lib.hid htake
        clear I hpe hpr hxr hsr hbr hbelr
        go_wp2_with fail
        go_still_tail 13, (by kernel_rfl)
        change wpList _ _ _ _ _ wr.drew
        go_wp2_with fail
        refine hprobe.out.mono ?_
        rintro e w4 ⟨rfl, hs4, ho4⟩
        have ho4' : Only w2.heap.size wr w4 := (Only.drewN _ wr 1).trans ho4
        have hrun : runS S (psb.take (i + 1)) = probeS (runS S (psb.take i)) ok t := by rw [htake.out, runS_snoc]
        have IN : AInv w2 S psb (i + 1) w4 := by
          refine ⟨by rw [hrun]; exact hs4, ?_, II.out.below.trans (ho4'.below (Nat.le_refl _)), ho4'.size.trans II.out.size⟩
          rw [hrun]
          have h := probeS_ok II.out.ok ok t hp2
          rw [show (200 : Int) + ((i + 1 : Nat) : Int) = 200 + (i : Int) + 1 from by omega]
          exact h
        replace IN := Lib.hid IN
        clear hs4 ho4 ho4' hrun hprobe
        go_wp2
        go_roundw
        case rel => exact ⟨i + 1, by omega, by omega, by go_num, IN.out⟩
        case measure => simp only [intOf]; omega
      · have hrbr := RdP.below hrb1 hbr
        have hboth2 := Lib.hid (both_any rb fb cb nb psb hpb (.slice ao psb.length cap) wr hrbr hlb)
        obtain ⟨z0, z1, z2, z3, z4⟩ := xcells_of hxr
        replace hsr := Lib.hid hsr
        clear hxr I hbr hrb1 hrbr
        rcases (show (200 : Int) ≤ (i : Int) ∧ (i : Int) < (psb.length : Int) ∨ (psb.length : Int) ≤ (i : Int) from by omega) with ⟨h4, h5⟩ | h5
        all_goals
          go_wp2_with fail
          refine hboth2.out.mono ?_
          rintro e w5 ⟨sv, dv, rfl, _, hb5⟩
          have hs5 : w5.heap[bs]? = some (blk S) := (hb5.block _ (Array.getElem?_eq_some_iff.1 hsr.out).1).trans hsr.out
          have hbel5 := Lib.hid ((Tp.Below_seq hbelr hb5).trans ((Tp.Below_alloc w5 (blk S)).mono (Nat.le_trans hbelr.size hb5.size)))
          have hcp5 := Lib.hid (copy_any bs S w5 hs5)
          have hs6 : (w5.alloc (blk S)).heap[bs]? = some (blk S) := (Below.heap_alloc _ _ _ (Array.getElem?_eq_some_iff.1 hs5).1).trans hs5
          have hd6 : (w5.alloc (blk S)).heap[w5.heap.size]? = some (blk S) := heap_alloc_new w5 _
          clear hb5 hboth2 hbelr z0 z1 z2 z3 z4 hs5
          go_wp2_with fail
          refine hcp5.out.mono ?_
          rintro e w6 ⟨rfl, rfl⟩
          generalize w5.alloc (blk S) = w6 at *
          generalize w5.heap.size = bd6 at *
          have g1 := Lib.hid (healthy_any bs S w6 hs6)
          have g2 := Lib.hid (row_any bs S w6 hs6)
          have g3 := Lib.hid (took_any bs S w6 hs6)
          have k1 := Lib.hid (healthy_any bd6 S w6 hd6)
          have k2 := Lib.hid (row_any bd6 S w6 hd6)
          have k3 := Lib.hid (took_any bd6 S w6 hd6)
          clear hs6 hd6 hcp5
          go_wp2_with (first | (go_at_call 25; refine (alike_same _ _).mono ?_; rintro e w' ⟨rfl, rfl⟩) | (go_at_call 11; (with_reducible refine g1.out.mono ?_); rintro e w' ⟨rfl, rfl⟩) | (go_at_call 14; (with_reducible refine g2.out.mono ?_); rintro e w' ⟨rfl, rfl⟩) | (go_at_call 15; (with_reducible refine g3.out.mono ?_); rintro e w' ⟨rfl, rfl⟩) | (go_at_call 11; (with_reducible refine k1.out.mono ?_); rintro e w' ⟨rfl, rfl⟩) | (go_at_call 14; (with_reducible refine k2.out.mono ?_); rintro e w' ⟨rfl, rfl⟩) | (go_at_call 15; (with_reducible refine k3.out.mono ?_); rintro e w' ⟨rfl, rfl⟩))
          go_ret
          exact ⟨rfl, hbel5.out⟩

theorem walk {H : Type} (enc : TypeId × Value → H) (W : World) (base : Nat) (args : Array Value) (ds : List (DataW H)) (p : List MemPlace)
    (hval0 : ∀ (j : Nat) t v, Try.f8.params[j]? = some t → args[j]? = some v → Value.okWide Try.prog W .any base t v)
    (hA : DataW.TrodAll enc Try.prog W 0 (fun _ => true) true Try.f8.params.toList args.toList ds p)
    (hsz : (DataW.weightsEach Try.prog Try.f8.params.toList ds).all (· ≤ reachBytes) = true) :
    Calls Try.prog 8 args W fun e w' => e = .returned (.bool true) ∧ Below W.heap.size W w' := by
  have hval : ∀ (j : Nat) t v, Try.f8.params[j]? = some t → args[j]? = some v → Value.okWide Try.prog W .any base t v := hval0
  rw [Try.params8] at hA hval hsz
  obtain ⟨v0, v1, d0, d1, p0, p1, rfl, rfl, rfl, h0, h1⟩ := trodAll_two hA
  obtain ⟨ra, fa, ca, na, va, psa, rfl, ha1, ha2, ha3, _⟩ := open_run (hval 0 37 v0 rfl rfl) h0 hsz (j := 0) rfl rfl
  obtain ⟨rb, fb, cb, nb, vb, psb, rfl, hb1, hb2, hb3, _⟩ := open_run (hval 1 37 v1 rfl rfl) h1 hsz (j := 1) rfl rfl
  exact apart ra fa ca rb fb cb na nb va vb psa psb ha2 hb2 W ha1 hb1 (by omega) (by omega)
end Go.Proofs.Yteedjgkinmkmoaa.healthApart
