/- The walk of the law on states that meet: any two runs. -/
import Derived.Test.YteedjgkinmkmoaaTell
import Derived.Test.YteedjgkinmkmoaaMeets
import Derived.Test.YteedjgkinmkmoaaOpen2
import Derived.Deep.LoopGhost
import Derived.Deep.DeepCutAuto
import Derived.Outline
namespace Go.Proofs.Yteedjgkinmkmoaa.healthMeets
open Go.ChangeShapes Go.WideShapes Go.ChangeAt Go.RowKit
open Go.Tp
set_option linter.unusedVariables false

theorem rdp_below {w w' : World} {v : Value} {ps : List (Bool × Nat)} {B : Nat} (h : RdP w v ps) (hB : w.heap.size ≤ B) (hb : Below B w w') : RdP w' v ps := by
  obtain ⟨ao, cap, rfl, h⟩ := h
  refine ⟨ao, cap, rfl, ?_⟩
  rcases h with h | ⟨b, off, rfl, hb', hp⟩
  · exact .inl h
  · exact .inr ⟨b, off, rfl, Nat.lt_of_lt_of_le hb' hb.size, hp.below (Nat.lt_of_lt_of_le hb' hB) hb⟩
structure LInv (N : Int) (w4 : World) (bs bt : Nat) (S T : St) (ok : Bool) (k : Nat) (wr : World) : Prop where
  sblk : wr.heap[bs]? = some (blk (many S ok k))
  tblk : wr.heap[bt]? = some (blk (many T ok k))
  oth : ∀ j, j ≠ bs → j ≠ bt → wr.heap[j]? = w4.heap[j]?
  os : wr.os = w4.os
  tape : wr.tape = w4.tape
  output : wr.output = w4.output
  size : wr.heap.size = w4.heap.size
  oks : Ok (many S ok k) (N + k)
  okt : Ok (many T ok k) (N + k)
theorem LInv.below {N : Int} {w4 wr : World} {bs bt : Nat} {S T : St} {ok : Bool} {k B : Nat} (h : LInv N w4 bs bt S T ok k wr) (h1 : B ≤ bs) (h2 : B ≤ bt) : Below B w4 wr :=
  ⟨h.os, h.tape, h.output, Nat.le_of_eq h.size.symm, fun j hj => h.oth j (by omega) (by omega)⟩
theorem LInv.step {N : Int} {w4 wr w1 w2 : World} {bs bt : Nat} {S T : St} {ok : Bool} {k : Nat} (h : LInv N w4 bs bt S T ok k wr) (hne : bs ≠ bt) (hs : w1.heap[bs]? = some (blk (probeS (many S ok k) ok 4607182418800017408))) (ho1 : Only bs wr w1)
    (ht : w2.heap[bt]? = some (blk (probeS (many T ok k) ok 4607182418800017408))) (ho2 : Only bt w1 w2) : LInv N w4 bs bt S T ok (k + 1) w2 := by
  refine ⟨by rw [many_succ]; exact (ho2.block _ hne).trans hs, by rw [many_succ]; exact ht, fun j h1 h2 => (ho2.block _ h2).trans ((ho1.block _ h1).trans (h.oth j h1 h2)), ho2.os.trans (ho1.os.trans h.os), ho2.tape.trans (ho1.tape.trans h.tape), ho2.output.trans (ho1.output.trans h.output), ho2.size.trans (ho1.size.trans h.size), ?_, ?_⟩
  · rw [many_succ]
    have := probeS_ok h.oks ok 4607182418800017408 (by decide)
    rw [show N + ((k + 1 : Nat) : Int) = N + (k : Int) + 1 from by omega]; exact this
  · rw [many_succ]
    have := probeS_ok h.okt ok 4607182418800017408 (by decide)
    rw [show N + ((k + 1 : Nat) : Int) = N + (k : Int) + 1 from by omega]; exact this
theorem ok_up {s : St} {n m : Int} (h : Ok s n) (hm : n ≤ m) : Ok s m := ⟨h.rise, h.fall, h.pl, h.row, h.took, ⟨h.timed.1, by have := h.timed.2; omega⟩, ⟨h.turns.1, by have := h.turns.2; omega⟩⟩
theorem run_ok {s : St} {n : Int} (h : Ok s n) (ps : List (Bool × Nat)) (hp : ∀ p ∈ ps, p.2 < 18446744073709551616) : Ok (runS s ps) (n + ps.length) := by
  induction ps generalizing s n with
  | nil => simpa [runS] using h
  | cons p r ih =>
    have h1 := probeS_ok h p.1 p.2 (hp p (by simp))
    have h2 := ih h1 (fun q hq => hp q (by simp [hq]))
    have e : n + ((p :: r).length : Int) = n + 1 + (r.length : Int) := by simp; omega
    rw [e]
    exact h2

set_option maxHeartbeats 8000000 in
set_option maxRecDepth 100000 in
theorem meets (ra fa ca rb fb cb : Int) (na nb : Bool) (va vb : Value) (psa psb : List (Bool × Nat)) (hpa : ∀ p ∈ psa, p.2 < 18446744073709551616) (hpb : ∀ p ∈ psb, p.2 < 18446744073709551616) (w : World)
    (hra : RdP w va psa) (hrb : RdP w vb psb) (hla : psa.length ≤ 100000000000000) (hlb : psb.length ≤ 100000000000000) :
    Calls Try.prog 5 #[.agg #[.int .i64 ra, .int .i64 fa, va, .int .i64 ca, .bool na], .agg #[.int .i64 rb, .int .i64 fb, vb, .int .i64 cb, .bool nb]] w fun e w' => e = .returned (.bool true) ∧ Below w.heap.size w w' := by
  have hb0 := Tp.Below_seq (Tp.Below_alloc w (xblk ra fa va ca na)) (Tp.Below_alloc _ (xblk rb fb vb cb nb))
  have hxa : ((w.alloc (xblk ra fa va ca na)).alloc (xblk rb fb vb cb nb)).heap[w.heap.size]? = some (xblk ra fa va ca na) := (Below.heap_alloc _ _ _ (by simp)).trans (heap_alloc_new w _)
  have hxb : ((w.alloc (xblk ra fa va ca na)).alloc (xblk rb fb vb cb nb)).heap[w.heap.size + 1]? = some (xblk rb fb vb cb nb) := by
    have h := heap_alloc_new (w.alloc (xblk ra fa va ca na)) (xblk rb fb vb cb nb)
    simpa using h
  have haw := awake_any ((w.alloc (xblk ra fa va ca na)).alloc (xblk rb fb vb cb nb))
  have la := (Array.getElem?_eq_some_iff.1 hxa).1
  have lb := (Array.getElem?_eq_some_iff.1 hxb).1
  replace hxa := Lib.hid hxa
  replace hxb := Lib.hid hxb
  replace haw := Lib.hid haw
  replace hb0 := Lib.hid hb0
  replace hra := Lib.hid hra
  replace hrb := Lib.hid hrb
  replace la := Lib.hid la
  replace lb := Lib.hid lb
  go_enter Try.func5, Try.ntmps5
  go_wp2_with fail
  refine haw.out.mono ?_
  rintro e w1 ⟨rfl, hb1⟩
  have ha1 := (hb1.block _ la.out).trans hxa.out
  have hbx1 := (hb1.block _ lb.out).trans hxb.out
  have hbel1 := Tp.Below_seq hb0.out hb1
  unfold xblk at ha1 hbx1
  have x0 : w1.cell? ⟨w.heap.size, 0, none⟩ = some (.int .i64 ra) := (cell_of_row _ _ 0 _ _ _ ha1).trans rfl
  have x1 : w1.cell? ⟨w.heap.size, 1, none⟩ = some (.int .i64 fa) := (cell_of_row _ _ 1 _ _ _ ha1).trans rfl
  have x2 : w1.cell? ⟨w.heap.size, 2, none⟩ = some va := (cell_of_row _ _ 2 _ _ _ ha1).trans rfl
  have x3 : w1.cell? ⟨w.heap.size, 3, none⟩ = some (.int .i64 ca) := (cell_of_row _ _ 3 _ _ _ ha1).trans rfl
  have x4 : w1.cell? ⟨w.heap.size, 4, none⟩ = some (.bool na) := (cell_of_row _ _ 4 _ _ _ ha1).trans rfl
  have y0 : w1.cell? ⟨w.heap.size + 1, 0, none⟩ = some (.int .i64 rb) := (cell_of_row _ _ 0 _ _ _ hbx1).trans rfl
  have y1 : w1.cell? ⟨w.heap.size + 1, 1, none⟩ = some (.int .i64 fb) := (cell_of_row _ _ 1 _ _ _ hbx1).trans rfl
  have y4 : w1.cell? ⟨w.heap.size + 1, 4, none⟩ = some (.bool nb) := (cell_of_row _ _ 4 _ _ _ hbx1).trans rfl
  have z4 : w1.frozen? ⟨w.heap.size, 4, none⟩ = false := frozen_of_row w1 _ _ _ _ ha1
  have u0 : w1.frozen? ⟨w.heap.size + 1, 0, none⟩ = false := frozen_of_row w1 _ _ _ _ hbx1
  have u1 : w1.frozen? ⟨w.heap.size + 1, 1, none⟩ = false := frozen_of_row w1 _ _ _ _ hbx1
  have u4 : w1.frozen? ⟨w.heap.size + 1, 4, none⟩ = false := frozen_of_row w1 _ _ _ _ hbx1
  obtain ⟨w2, hw2⟩ : ∃ w2, w2 = (((w1.setCell ⟨w.heap.size + 1, 0, none⟩ (.int .i64 ra)).setCell ⟨w.heap.size + 1, 1, none⟩ (.int .i64 fa)).setCell ⟨w.heap.size, 4, none⟩ (.bool false)).setCell ⟨w.heap.size + 1, 4, none⟩ (.bool false) := ⟨_, rfl⟩
  have hbel2 : Below w.heap.size w w2 := by
    rw [hw2]
    exact (((hbel1.setCell (by show w.heap.size ≤ w.heap.size + 1; omega) _).setCell (by show w.heap.size ≤ w.heap.size + 1; omega) _).setCell (Nat.le_refl _) _).setCell (by show w.heap.size ≤ w.heap.size + 1; omega) _
  have ha2 : w2.heap[w.heap.size]? = some (xblk ra fa va ca false) := by
    rw [hw2]
    have h1 := (Below.heap_setCell w1 ⟨w.heap.size + 1, 0, none⟩ (.int .i64 ra) w.heap.size (by show w.heap.size ≠ w.heap.size + 1; omega)).trans ha1
    have h2 := (Below.heap_setCell (w1.setCell ⟨w.heap.size + 1, 0, none⟩ (.int .i64 ra)) ⟨w.heap.size + 1, 1, none⟩ (.int .i64 fa) w.heap.size (by show w.heap.size ≠ w.heap.size + 1; omega)).trans h1
    have h3 := heap_set (i := 4) (.bool false) h2
    exact (Below.heap_setCell _ ⟨w.heap.size + 1, 4, none⟩ (.bool false) w.heap.size (by show w.heap.size ≠ w.heap.size + 1; omega)).trans h3
  have hb2 : w2.heap[w.heap.size + 1]? = some (xblk ra fa vb cb false) := by
    rw [hw2]
    have h1 := heap_set (i := 1) (.int .i64 fa) (heap_set (i := 0) (.int .i64 ra) hbx1)
    have h2 := (Below.heap_setCell _ ⟨w.heap.size, 4, none⟩ (.bool false) (w.heap.size + 1) (by show w.heap.size + 1 ≠ w.heap.size; omega)).trans h1
    exact heap_set (i := 4) (.bool false) h2
  have l2 : w.heap.size + 1 < w2.heap.size := (Array.getElem?_eq_some_iff.1 hb2).1
  replace hbel2 := Lib.hid hbel2
  replace ha2 := Lib.hid ha2
  replace hb2 := Lib.hid hb2
  clear hb0 hxa hxb haw la lb hb1 ha1 hbx1 hbel1
  go_upto_region 7 with fail
  change Code.wp _ _ _ _ ((((w1.setCell ⟨w.heap.size + 1, 0, none⟩ (.int .i64 ra)).setCell ⟨w.heap.size + 1, 1, none⟩ (.int .i64 fa)).setCell ⟨w.heap.size, 4, none⟩ (.bool false)).setCell ⟨w.heap.size + 1, 4, none⟩ (.bool false))
  rw [← hw2]
  clear hw2 x0 x1 x2 x3 x4 y0 y1 y4 z4 u0 u1 u4
  have x0 : w2.cell? ⟨w.heap.size, 0, none⟩ = some (.int .i64 ra) := (cell_of_row _ _ 0 _ _ _ ha2.out).trans rfl
  have x1 : w2.cell? ⟨w.heap.size, 1, none⟩ = some (.int .i64 fa) := (cell_of_row _ _ 1 _ _ _ ha2.out).trans rfl
  have x2 : w2.cell? ⟨w.heap.size, 2, none⟩ = some va := (cell_of_row _ _ 2 _ _ _ ha2.out).trans rfl
  have x3 : w2.cell? ⟨w.heap.size, 3, none⟩ = some (.int .i64 ca) := (cell_of_row _ _ 3 _ _ _ ha2.out).trans rfl
  have x4 : w2.cell? ⟨w.heap.size, 4, none⟩ = some (.bool false) := (cell_of_row _ _ 4 _ _ _ ha2.out).trans rfl
  have hboth := Lib.hid (both_any ra fa ca false psa hpa va w2 (rdp_below hra.out (Nat.le_refl _) hbel2.out) hla)
  go_wp2_with fail
  refine hboth.out.mono ?_
  rintro e w3 ⟨sv, dv, rfl, hB, hbe3⟩
  have hb3 := (hbe3.block _ l2).trans hb2.out
  have ha3 := (hbe3.block _ (Nat.lt_of_succ_lt l2)).trans ha2.out
  have hbel3 := hbel2.out.trans (hbe3.mono hbel2.out.size)
  have y0 : w3.cell? ⟨w.heap.size + 1, 0, none⟩ = some (.int .i64 ra) := (cell_of_row _ _ 0 _ _ _ hb3).trans rfl
  have y1 : w3.cell? ⟨w.heap.size + 1, 1, none⟩ = some (.int .i64 fa) := (cell_of_row _ _ 1 _ _ _ hb3).trans rfl
  have y2 : w3.cell? ⟨w.heap.size + 1, 2, none⟩ = some vb := (cell_of_row _ _ 2 _ _ _ hb3).trans rfl
  have y3 : w3.cell? ⟨w.heap.size + 1, 3, none⟩ = some (.int .i64 cb) := (cell_of_row _ _ 3 _ _ _ hb3).trans rfl
  have y4 : w3.cell? ⟨w.heap.size + 1, 4, none⟩ = some (.bool false) := (cell_of_row _ _ 4 _ _ _ hb3).trans rfl
  have hboth2 := Lib.hid (both_any ra fa cb false psb hpb vb w3 (rdp_below hrb.out (Nat.le_refl _) hbel3) hlb)
  have hs3 := hbe3.size
  replace hB := Lib.hid hB
  replace hbel3 := Lib.hid hbel3
  replace ha3 := Lib.hid ha3
  clear x0 x1 x2 x3 x4 hboth hb3 hbe3 ha2 hb2 hbel2 hra hrb
  go_wp2_with fail
  refine hboth2.out.mono ?_
  rintro e w4 ⟨tv, uv, rfl, hB2, hbe4⟩
  have hbel4 := hbel3.out.trans (hbe4.mono hbel3.out.size)
  have ha4 := (hbe4.block _ (Nat.lt_of_lt_of_le (Nat.lt_of_succ_lt l2) hs3)).trans ha3.out
  have hB1 := hB.out
  replace hbel4 := Lib.hid hbel4
  clear y0 y1 y2 y3 y4 hboth2 hbel3 ha3 hB
  rcases hB1 with ⟨rfl, rfl, hn1⟩ | ⟨hv, _, bs, bd, pv, rfl, rfl, hbs, hbd, hsb, _⟩
  · rcases hB2 with ⟨rfl, rfl, hn2⟩ | ⟨hv2, _⟩
    · clear hn1 hn2 hbe4 ha4
      go_wp2
      go_ret
      exact ⟨rfl, hbel4.out⟩
    · rcases hn1 with h | h
      · cases h
      · exact absurd hv2 h
  · rcases hB2 with ⟨rfl, rfl, hn2⟩ | ⟨_, _, bt, bu, pv2, rfl, rfl, hbt, hbu, htb, _⟩
    · rcases hn2 with h | h
      · cases h
      · exact absurd hv h
    · have lbs : bs < w3.heap.size := (Array.getElem?_eq_some_iff.1 hsb).1
      have hsb4 := (hbe4.block _ lbs).trans hsb
      have hne : bs ≠ bt := by omega
      have iS := inv_run (inv_new hv) (psa.take 200)
      have iT := inv_run (inv_new hv) (psb.take 200)
      have kS := ok_up (run_ok (newS_ok hv.1 hv.2) (psa.take 200) (fun p hp => hpa p (List.mem_of_mem_take hp))) (m := 1000) (by rw [List.length_take]; omega)
      have kT := ok_up (run_ok (newS_ok hv.1 hv.2) (psb.take 200) (fun p hp => hpb p (List.mem_of_mem_take hp))) (m := 1000) (by rw [List.length_take]; omega)
      have limS : (runS (newS ra fa) (psa.take 200)).rise = ra ∧ (runS (newS ra fa) (psa.take 200)).fall = fa := run_lim _ _
      have limT : (runS (newS ra fa) (psb.take 200)).rise = ra ∧ (runS (newS ra fa) (psb.take 200)).fall = fa := run_lim _ _
      generalize runS (newS ra fa) (psa.take 200) = S at *
      generalize runS (newS ra fa) (psb.take 200) = T at *
      obtain ⟨⟨hr1, hr2⟩, hf1, hf2⟩ := hv
      have hL0 : LInv 1000 w4 bs bt S T true 0 w4 := ⟨hsb4, htb, fun _ _ _ => rfl, rfl, rfl, rfl, rfl, ok_up kS (by omega), ok_up kT (by omega)⟩
      have x0 : ∀ wr, LInv 1000 w4 bs bt S T true 0 wr → True := fun _ _ => trivial
      replace hL0 := Lib.hid hL0
      replace ha4 := Lib.hid ha4
      replace hne := Lib.hid hne
      replace limS := Lib.hid limS
      replace limT := Lib.hid limT
      clear hsb hsb4 htb hbe4 kS kT x0
      go_wp2_with fail
      go_loopg [9] ra.toNat (fun g ic wr => ∃ k : Nat, (k : Int) ≤ ra ∧ g = ra.toNat - k ∧ ic = .int .i64 k ∧ LInv 1000 w4 bs bt S T true k wr)
      case atStart => exact ⟨0, by omega, rfl, rfl, hL0.out⟩
      case round =>
        obtain ⟨k, hk, rfl, rfl, I⟩ := hrel
        clear hL0
        have har : wr.heap[w.heap.size]? = some (xblk ra fa va ca false) := (I.oth _ (by omega) (by omega)).trans ha4.out
        have x0 : wr.cell? ⟨w.heap.size, 0, none⟩ = some (.int .i64 ra) := (cell_of_row _ _ 0 _ _ _ har).trans rfl
        by_cases hlt : (k : Int) < ra
        · have hp1 := Lib.hid (probe_any bs _ true 4607182418800017408 _ wr I.sblk (by decide) I.oks (by omega))
          have II := Lib.hid I
          clear I har
          go_wp2_with fail
          refine hp1.out.mono ?_
          rintro e w5 ⟨rfl, hs5, ho5⟩
          have ht5 := (ho5.block _ (fun e => hne.out e.symm)).trans II.out.tblk
          have hp2 := Lib.hid (probe_any bt _ true 4607182418800017408 _ w5 ht5 (by decide) II.out.okt (by omega))
          replace hs5 := Lib.hid hs5
          replace ho5 := Lib.hid ho5
          clear ht5 hp1
          go_wp2_with fail
          refine hp2.out.mono ?_
          rintro e w6 ⟨rfl, ht6, ho6⟩
          have IN := Lib.hid (II.out.step hne.out hs5.out ho5.out ht6 ho6)
          clear ht6 ho6 hp2 hs5 ho5 x0
          go_wp2
          go_roundg (ra.toNat - (k + 1))
          case measure => omega
          case rel => exact ⟨k + 1, by omega, rfl, by go_num, IN.out⟩
        · have hk2 : (k : Int) = ra := by omega
          obtain ⟨s1, s2, s3, s4⟩ := good_up iS (k := k) (by rw [limS.out.1]; exact hk2)
          obtain ⟨t1, t2, t3, t4⟩ := good_up iT (k := k) (by rw [limT.out.1]; exact hk2)
          have hsr := I.sblk
          have htr := I.tblk
          have okS := I.oks
          have okT := I.okt
          have hbelr := Lib.hid (hbel4.out.trans (I.below (B := w.heap.size) (by omega) (by omega)))
          have hsr' := hsr
          have fS : (many S true k).fall = fa := by rw [s4, limS.out.2]
          have fT : (many T true k).fall = fa := by rw [t4, limT.out.2]
          generalize many S true k = S1 at *
          generalize many T true k = T1 at *
          have g1 := healthy_any bs S1 wr hsr
          have g2 := healthy_any bt T1 wr htr
          rw [s1] at g1
          rw [t1] at g2
          replace g1 := Lib.hid g1
          replace g2 := Lib.hid g2
          have hL1 : LInv 2000 wr bs bt S1 T1 false 0 wr := ⟨hsr, htr, fun _ _ _ => rfl, rfl, rfl, rfl, rfl, ok_up okS (by omega), ok_up okT (by omega)⟩
          have har' := Lib.hid har
          replace hL1 := Lib.hid hL1
          replace fS := Lib.hid fS
          replace fT := Lib.hid fT
          replace s1 := Lib.hid s1
          replace t1 := Lib.hid t1
          replace hk2 := Lib.hid hk2
          clear I har hsr htr hsr' okS okT limS limT ha4 hbel4 s4 t4
          have hge : ra ≤ (k : Int) := by omega
          go_wp2_with (first | (go_at_call 11; (with_reducible refine g1.out.mono ?_); rintro e w' ⟨rfl, rfl⟩) | (go_at_call 11; (with_reducible refine g2.out.mono ?_); rintro e w' ⟨rfl, rfl⟩))
          obtain ⟨wo, rfl⟩ : ∃ wo : World, wo = wr := ⟨_, rfl⟩
          go_loopg [10] fa.toNat (fun g ic wx => ∃ k : Nat, (k : Int) ≤ fa ∧ g = fa.toNat - k ∧ ic = .int .i64 k ∧ LInv 2000 wo bs bt S1 T1 false k wx)
          case atStart => exact ⟨0, by omega, rfl, rfl, hL1.out⟩
          case round =>
            obtain ⟨m, hm, rfl, rfl, I⟩ := hrel
            clear hL1 g1 g2 x0
            have har : wr.heap[w.heap.size]? = some (xblk ra fa va ca false) := (I.oth _ (by omega) (by omega)).trans har'.out
            have x1 : wr.cell? ⟨w.heap.size, 1, none⟩ = some (.int .i64 fa) := (cell_of_row _ _ 1 _ _ _ har).trans rfl
            by_cases hlt2 : (m : Int) < fa
            · have hp1 := Lib.hid (probe_any bs _ false 4607182418800017408 _ wr I.sblk (by decide) I.oks (by omega))
              have II := Lib.hid I
              clear I har
              go_wp2_with fail
              refine hp1.out.mono ?_
              rintro e w5 ⟨rfl, hs5, ho5⟩
              have ht5 := (ho5.block _ (fun e => hne.out e.symm)).trans II.out.tblk
              have hp2 := Lib.hid (probe_any bt _ false 4607182418800017408 _ w5 ht5 (by decide) II.out.okt (by omega))
              replace hs5 := Lib.hid hs5
              replace ho5 := Lib.hid ho5
              clear ht5 hp1
              go_wp2_with fail
              refine hp2.out.mono ?_
              rintro e w6 ⟨rfl, ht6, ho6⟩
              have IN := Lib.hid (II.out.step hne.out hs5.out ho5.out ht6 ho6)
              clear ht6 ho6 hp2 hs5 ho5 x1
              go_wp2
              go_roundg (fa.toNat - (m + 1))
              case measure => omega
              case rel => exact ⟨m + 1, by omega, rfl, by go_num, IN.out⟩
            · have hm2 : (m : Int) = fa := by omega
              obtain ⟨e1, e2⟩ := bad_down s3 s1.out s2 (k := m) (by rw [fS.out]; exact hm2)
              obtain ⟨e3, e4⟩ := bad_down t3 t1.out t2 (k := m) (by rw [fT.out]; exact hm2)
              have hsr := I.sblk
              have htr := I.tblk
              have hfin := Lib.hid (hbelr.out.trans (I.below (B := w.heap.size) (by omega) (by omega)))
              generalize many S1 false m = S2 at *
              generalize many T1 false m = T2 at *
              have g1 := healthy_any bs S2 wr hsr
              have g2 := healthy_any bt T2 wr htr
              have g3 := row_any bs S2 wr hsr
              have g4 := row_any bt T2 wr htr
              rw [e1] at g1
              rw [e3] at g2
              rw [e2] at g3
              rw [e4] at g4
              replace g1 := Lib.hid g1
              replace g2 := Lib.hid g2
              replace g3 := Lib.hid g3
              replace g4 := Lib.hid g4
              have hge2 : fa ≤ (m : Int) := by omega
              clear I har hsr htr e1 e2 e3 e4 hm2
              go_wp2_with (first | (go_at_call 11; (with_reducible refine g1.out.mono ?_); rintro e w' ⟨rfl, rfl⟩) | (go_at_call 11; (with_reducible refine g2.out.mono ?_); rintro e w' ⟨rfl, rfl⟩) | (go_at_call 14; (with_reducible refine g3.out.mono ?_); rintro e w' ⟨rfl, rfl⟩) | (go_at_call 14; (with_reducible refine g4.out.mono ?_); rintro e w' ⟨rfl, rfl⟩))
              go_ret
              exact ⟨rfl, hfin.out⟩

theorem walk {H : Type} (enc : TypeId × Value → H) (W : World) (base : Nat) (args : Array Value) (ds : List (DataW H)) (p : List MemPlace)
    (hval0 : ∀ (j : Nat) t v, Try.f5.params[j]? = some t → args[j]? = some v → Value.okWide Try.prog W .any base t v)
    (hA : DataW.TrodAll enc Try.prog W 0 (fun _ => true) true Try.f5.params.toList args.toList ds p)
    (hsz : (DataW.weightsEach Try.prog Try.f5.params.toList ds).all (· ≤ reachBytes) = true) :
    Calls Try.prog 5 args W fun e w' => e = .returned (.bool true) ∧ Below W.heap.size W w' := by
  have hval : ∀ (j : Nat) t v, Try.f5.params[j]? = some t → args[j]? = some v → Value.okWide Try.prog W .any base t v := hval0
  rw [Try.params5] at hA hval hsz
  obtain ⟨v0, v1, d0, d1, p0, p1, rfl, rfl, rfl, h0, h1⟩ := trodAll_two hA
  obtain ⟨ra, fa, ca, na, va, psa, rfl, ha1, ha2, ha3, _⟩ := open_run (hval 0 37 v0 rfl rfl) h0 hsz (j := 0) rfl rfl
  obtain ⟨rb, fb, cb, nb, vb, psb, rfl, hb1, hb2, hb3, _⟩ := open_run (hval 1 37 v1 rfl rfl) h1 hsz (j := 1) rfl rfl
  exact meets ra fa ca rb fb cb na nb va vb psa psb ha2 hb2 W ha1 hb1 (by omega) (by omega)
end Go.Proofs.Yteedjgkinmkmoaa.healthMeets
