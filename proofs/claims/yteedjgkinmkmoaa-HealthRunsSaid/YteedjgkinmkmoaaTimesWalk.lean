/- The walk of the law on times: any probes. -/
import Derived.Test.YteedjgkinmkmoaaTimes
import Derived.Test.YteedjgkinmkmoaaOpen
namespace Go.Proofs.Yteedjgkinmkmoaa.healthTimes
open Go.ChangeShapes Go.WideShapes Go.ChangeAt Go.RowKit
open Go.Tp
set_option linter.unusedVariables false

def nanOf (w : World) (x y : Nat) : Nat := (Question.nanBits .f64 x y).cut (w.tape w.drawn (.nanBits .f64 x y))
theorem sub_inf (w : World) : (binOp .sub 30 (.float .f64 Fl.INF) (.float .f64 Fl.INF)).run Try.prog w = .ok (.float .f64 (nanOf w Fl.INF Fl.INF)) w.drew := by
  have h2 : FloatKind.f64.format.sub Fl.INF Fl.INF = none := by decide +kernel
  simp [binOp, Op.floatArith, h2, nanOf, Question.forced]
theorem nan_ne (w : World) : (FloatKind.f64.format.order (nanOf w Fl.INF Fl.INF) 0 != some Ordering.eq) = true := by
  obtain ⟨x, hx⟩ : ∃ x, nanOf w Fl.INF Fl.INF = x := ⟨_, rfl⟩
  have hr : ∃ s t, Fl.dbl.read x = .nan s t := by
    rw [← hx]
    unfold nanOf Question.cut
    simp only []
    generalize w.tape w.drawn (Question.nanBits FloatKind.f64 Fl.INF Fl.INF) = t
    have h2 := Nat.mod_lt (t / 2) (show 0 < 4503599627370495 by decide)
    have e1 : (2 : Nat) ^ 63 = 9223372036854775808 := by decide
    have e2 : (2 : Nat) ^ 52 - 1 = 4503599627370495 := by decide
    rw [e1, e2]
    generalize t / 2 % 4503599627370495 = b at h2
    have hm : t % 2 = 0 ∨ t % 2 = 1 := by omega
    unfold Ieee.Format.read
    simp only [Fl.eb, Fl.ei, Fl.es, Fl.el]
    have k2 : (t % 2 * 9223372036854775808 + 9218868437227405312 + 1 + b) % 9223372036854775808 = 9218868437227405312 + 1 + b := by omega
    rw [k2, if_neg (by omega), if_neg (by omega), if_neg (by omega)]
    exact ⟨_, _, rfl⟩
  rw [hx]
  obtain ⟨s, t, e⟩ := hr
  show (Fl.dbl.order x 0 != some Ordering.eq) = true
  unfold Ieee.Format.order
  rw [e]; rfl
theorem sub_fin {t : Nat} (h : t < 18446744073709551616) (hc : counts t) (w : World) : (binOp .sub 30 (.float .f64 t) (.float .f64 t)).run Try.prog w = .ok (.float .f64 0) w := by
  refine run_float_arith w .sub 30 .f64 _ _ _ ?_
  obtain ⟨s, m, r, e, _⟩ := read_nz h hc
  show Fl.dbl.sub t t = some 0
  unfold Ieee.Format.sub
  rw [e]
  simp only [Ieee.Datum.opposite, Ieee.Datum.sum, Option.map_some]
  have hs : ∀ k, Ieee.signed s m k + Ieee.signed (!s) m k = 0 := by
    intro k; cases s <;> simp [Ieee.signed] <;> omega
  have e2 : ((r : Int) - 1074 - min ((r : Int) - 1074) ((r : Int) - 1074)).toNat = 0 := by omega
  rw [e2, hs 0]
  cases s <;> simp [Ieee.Format.write, Ieee.Format.nearest, Ieee.Format.word]
theorem zero_eq : (FloatKind.f64.format.order 0 0 != some Ordering.eq) = false := by decide +kernel

/-- The tests on orders of words that count, by their plain numbers. -/
theorem t_ge {x y : Nat} (hx : x < 18446744073709551616) (hy : y < 18446744073709551616) (cx : counts x) (cy : counts y) : (FloatKind.f64.format.order x y == some Ordering.gt || FloatKind.f64.format.order x y == some Ordering.eq) = decide (nz y ≤ nz x) := by
  show (Fl.dbl.order x y == some Ordering.gt || Fl.dbl.order x y == some Ordering.eq) = _
  rw [order_nz hx hy cx cy]
  simp only [compare, compareOfLessAndEq]
  by_cases h1 : nz x < nz y
  · rw [if_pos h1, decide_eq_false (by omega)]; rfl
  · rw [if_neg h1, decide_eq_true (by omega)]
    split <;> rfl
theorem t_le {x y : Nat} (hx : x < 18446744073709551616) (hy : y < 18446744073709551616) (cx : counts x) (cy : counts y) : (FloatKind.f64.format.order x y == some Ordering.lt || FloatKind.f64.format.order x y == some Ordering.eq) = decide (nz x ≤ nz y) := by
  show (Fl.dbl.order x y == some Ordering.lt || Fl.dbl.order x y == some Ordering.eq) = _
  rw [order_nz hx hy cx cy]
  simp only [compare, compareOfLessAndEq]
  by_cases h1 : nz x < nz y
  · rw [if_pos h1, decide_eq_true (by omega)]; rfl
  · rw [if_neg h1]
    by_cases h2 : nz x = nz y
    · rw [if_pos h2, decide_eq_true (by omega)]; rfl
    · rw [if_neg h2, decide_eq_false (by omega)]; rfl
theorem t_lt {x y : Nat} (hx : x < 18446744073709551616) (hy : y < 18446744073709551616) (cx : counts x) (cy : counts y) : (FloatKind.f64.format.order x y == some Ordering.lt) = decide (nz x < nz y) := by
  show (Fl.dbl.order x y == some Ordering.lt) = _
  rw [order_nz hx hy cx cy]
  simp only [compare, compareOfLessAndEq]
  by_cases h1 : nz x < nz y
  · rw [if_pos h1, decide_eq_true h1]; rfl
  · rw [if_neg h1, decide_eq_false h1]
    split <;> rfl
theorem t_gt {x y : Nat} (hx : x < 18446744073709551616) (hy : y < 18446744073709551616) (cx : counts x) (cy : counts y) : (FloatKind.f64.format.order x y == some Ordering.gt) = decide (nz y < nz x) := by
  show (Fl.dbl.order x y == some Ordering.gt) = _
  rw [order_nz hx hy cx cy]
  simp only [compare, compareOfLessAndEq]
  by_cases h1 : nz x < nz y
  · rw [if_pos h1, decide_eq_false (by omega)]; rfl
  · rw [if_neg h1]
    by_cases h2 : nz x = nz y
    · rw [if_pos h2, decide_eq_false (by omega)]; rfl
    · rw [if_neg h2, decide_eq_true (by omega)]; rfl
theorem t_same {x : Nat} (hx : x < Fl.INF) : (FloatKind.f64.format.order x x != some Ordering.eq) = false := by
  show (Fl.dbl.order x x != some Ordering.eq) = false
  rw [Fl.order_eq x x hx hx]
  simp [compare, compareOfLessAndEq]

/-- What stands at the head of a round. -/
structure Inv (bs : Nat) (w : World) (i n : Nat) (low high : Nat) (s : St) (wr : World) : Prop where
  blk : wr.heap[bs]? = some (blk s)
  ok : Ok s i
  span : Span s n low high
  le : n ≤ i
  below : Below w.heap.size w wr

set_option maxHeartbeats 4000000 in
set_option maxRecDepth 100000 in
theorem times_some (ps : List (Bool × Nat)) (hps : ∀ p ∈ ps, p.2 < 18446744073709551616) (b off cap : Nat) (w : World) (hb : b < w.heap.size) (hc : Pr w b off ps) (hlen : ps.length ≤ 100000000000000) :
    Calls Try.prog 4 #[.slice (some ⟨b, off, none⟩) ps.length cap] w fun e w' => e = .returned (.bool true) ∧ Below w.heap.size w w' := by
  go_enter Try.func4, Try.ntmps4
  go_wp2_with fail
  refine (awake_any w).mono ?_
  rintro e w1 ⟨rfl, hb1⟩
  go_wp2_with fail
  refine (new_ok 1 1 w1 (by decide) (by decide)).mono ?_
  rintro e w2 ⟨rfl, rfl⟩
  have I0 : Inv w1.heap.size w 0 0 0 0 (newS 1 1) (w1.alloc (blk (newS 1 1))) :=
    ⟨heap_alloc_new w1 _, newS_ok (by decide) (by decide), ⟨rfl, by decide, by decide, counts_lt (by decide), counts_lt (by decide), .inl ⟨rfl, rfl⟩⟩, Nat.le_refl _, Tp.Below_seq hb1 (Tp.Below_alloc _ _)⟩
  have hbs : w.heap.size ≤ w1.heap.size := hb1.size
  generalize w1.alloc (blk (newS 1 1)) = w2 at *
  generalize w1.heap.size = bs at *
  clear hb1
  go_wp2
  go_loopw [5, 6, 7, 8] (fun lc hc nc ic wr => ∃ (i n low high : Nat) (s : St), i ≤ ps.length ∧ i ≤ 400 ∧ ic = .int .i64 i ∧ nc = .int .i64 n ∧ lc = .float .f64 low ∧ hc = .float .f64 high ∧ Inv bs w i n low high s wr) (fun _ _ _ i _ => 400 - (intOf i).toNat)
  case atStart => exact ⟨0, 0, 0, 0, _, by omega, by omega, rfl, rfl, rfl, rfl, I0⟩
  case round =>
    obtain ⟨i, n, low, high, s, hi, hi4, rfl, rfl, rfl, rfl, I⟩ := hrel
    clear I0
    by_cases hlt : i < ps.length ∧ i < 400
    · obtain ⟨hlt1, hlt2⟩ := hlt
      have hpr := hc.below hb I.below
      have hok := hpr.ok i hlt1
      have htk := hpr.took i hlt1
      have hp2 : (ps.getD i (false, 0)).2 < 18446744073709551616 := by
        have : ps.getD i (false, 0) = ps[i] := by simp [List.getD, hlt1]
        rw [this]; exact hps _ (List.getElem_mem hlt1)
      obtain ⟨ok, hoke⟩ : ∃ ok, ok = (ps.getD i (false, 0)).1 := ⟨_, rfl⟩
      obtain ⟨t, htke⟩ : ∃ tk, tk = (ps.getD i (false, 0)).2 := ⟨_, rfl⟩
      rw [← hoke] at hok
      rw [← htke] at htk hp2
      clear hoke htke hpr
      have hi0 : (0 : Int) ≤ (i : Int) := by omega
      have hi1 : (i : Int) < (ps.length : Int) := by omega
      have hbw : bs < wr.heap.size := (Array.getElem?_eq_some_iff.1 I.blk).1
      have II := Lib.hid I
      have hsz := I.below.size
      clear I
      have hba : (wr.alloc (.cells #[.bool ok, .float .f64 t] 32)).heap[bs]? = some (blk s) := (Below.heap_alloc wr _ _ hbw).trans II.out.blk
      have ca0 : (wr.alloc (.cells #[.bool ok, .float .f64 t] 32)).cell? ⟨wr.heap.size, 0, none⟩ = some (.bool ok) := by
        rw [cell_of_row _ _ _ _ _ _ (heap_alloc_new wr _)]; rfl
      have ca1 : (wr.alloc (.cells #[.bool ok, .float .f64 t] 32)).cell? ⟨wr.heap.size, 1, none⟩ = some (.float .f64 t) := by
        rw [cell_of_row _ _ _ _ _ _ (heap_alloc_new wr _)]; rfl
      have hbela := Tp.Below_seq II.out.below (Tp.Below_alloc wr (.cells #[.bool ok, .float .f64 t] 32))
      have hok' := probeS_ok II.out.ok ok t hp2
      have htook := took_any bs s _ hba
      have hprobe := probe_any bs s ok t i _ hba hp2 II.out.ok (by omega)
      have hsame := t_same II.out.ok.took
      replace htook := Lib.hid htook
      replace hprobe := Lib.hid hprobe
      replace hsame := Lib.hid hsame
      replace hok' := Lib.hid hok'
      have hbsn : bs ≠ wr.heap.size := by omega
      go_wp2_with (go_at_call 15; refine htook.out.mono ?_; rintro e w' ⟨rfl, rfl⟩)
      refine hprobe.out.mono ?_
      rintro e w3 ⟨rfl, hb3, ho3⟩
      have hbel3 := Lib.hid (hbela.trans (ho3.below hbs))
      have c0 : w3.cell? ⟨wr.heap.size, 0, none⟩ = some (.bool ok) := (World.cell?_of_block (ho3.block _ (Ne.symm hbsn))).trans ca0
      have c1 : w3.cell? ⟨wr.heap.size, 1, none⟩ = some (.float .f64 t) := (World.cell?_of_block (ho3.block _ (Ne.symm hbsn))).trans ca1
      clear hprobe htook ho3 hba ca0 ca1 hbela hbsn hok htk
      have hle := II.out.le
      have g1 := took_any bs _ w3 hb3
      have g2 := timed_any bs _ w3 hb3
      replace hb3 := Lib.hid hb3
      by_cases hcnt : ok = true ∧ counts t
      · obtain ⟨rfl, hct⟩ := hcnt
        have hst := span_step II.out.span hp2 hct II.out.ok.took (by omega)
        have hsub := sub_fin hp2 hct
        have hzz := zero_eq
        have hge : (FloatKind.f64.format.order t 0 == some Ordering.gt) = true ∨ (FloatKind.f64.format.order t 0 == some Ordering.gt) = false ∧ (FloatKind.f64.format.order t 0 == some Ordering.eq) = true := by
          have h2 := hct.1
          unfold Fl.ge at h2
          rw [Bool.or_eq_true] at h2
          by_cases h3 : (FloatKind.f64.format.order t 0 == some Ordering.gt) = true
          · exact .inl h3
          · exact .inr ⟨Bool.eq_false_iff.2 h3, h2.resolve_left h3⟩
        have hl64 := II.out.span.low64
        have hh64 := II.out.span.high64
        have hlt := t_lt hp2 hl64 hct II.out.span.lowc
        have hgt := t_gt hp2 hh64 hct II.out.span.highc
        have hk' : (probeS s true t).took < Fl.INF := hok'.out.took
        rw [hst.num] at g2
        have hst1 := hst.between.resolve_left (by omega)
        obtain ⟨_, hst2, hst3⟩ := hst1
        rw [← nz_id hk'] at hst2 hst3
        have hge2 := t_ge (lt64 hk') hst.low64 (counts_lt hk') hst.lowc
        have hle2 := t_le (lt64 hk') hst.high64 (counts_lt hk') hst.highc
        rw [decide_eq_true hst2] at hge2
        rw [decide_eq_true hst3] at hle2
        have hIn : Inv bs w (i + 1) (n + 1) _ _ (probeS s true t) w3 := ⟨hb3.out, hok'.out, hst, by omega, hbel3.out⟩
        replace g1 := Lib.hid g1
        replace g2 := Lib.hid g2
        replace hIn := Lib.hid hIn
        clear hst hst2 hst3 hk' hl64 hh64 hct
        generalize (probeS s true t).took = tk' at *
        by_cases hn : n = 0
        · have hn' : (n : Int) = 0 := by omega
          have e1 : (if (n : Int) = 0 ∨ nz t < nz low then t else low) = t := if_pos (.inl (by omega))
          have e2 : (if (n : Int) = 0 ∨ nz high < nz t then t else high) = t := if_pos (.inl (by omega))
          rw [e1] at hge2 hIn
          rw [e2] at hle2 hIn
          have hn0 : ((n : Int) == 0) = true := by rw [beq_iff_eq]; omega
          clear e1 e2 hlt hgt
          rcases hge with hA | ⟨hA, hB⟩
          all_goals
            go_wp2_with (first | (go_at_call 15; refine g1.out.mono ?_; rintro e w' ⟨rfl, rfl⟩) | (go_at_call 16; refine g2.out.mono ?_; rintro e w' ⟨rfl, rfl⟩))
            go_roundw
            case rel => exact ⟨i + 1, n + 1, _, _, _, by omega, by omega, by go_num, by go_num, rfl, rfl, hIn.out⟩
            case measure => simp only [intOf]; omega
        · have hn' : ¬ (n : Int) = 0 := by omega
          by_cases hL : nz t < nz low
          · by_cases hH : nz high < nz t
            · have e1 : (if (n : Int) = 0 ∨ nz t < nz low then t else low) = t := if_pos (.inr hL)
              have e2 : (if (n : Int) = 0 ∨ nz high < nz t then t else high) = t := if_pos (.inr hH)
              rw [e1] at hge2 hIn
              rw [e2] at hle2 hIn
              have hn0 : ((n : Int) == 0) = false := by rw [beq_eq_false_iff_ne]; omega
              rw [decide_eq_true hL] at hlt
              rw [decide_eq_true hH] at hgt
              clear e1 e2 hL hH
              rcases hge with hA | ⟨hA, hB⟩
              all_goals
                go_wp2_with (first | (go_at_call 15; refine g1.out.mono ?_; rintro e w' ⟨rfl, rfl⟩) | (go_at_call 16; refine g2.out.mono ?_; rintro e w' ⟨rfl, rfl⟩))
                go_roundw
                case rel => exact ⟨i + 1, n + 1, _, _, _, by omega, by omega, by go_num, by go_num, rfl, rfl, hIn.out⟩
                case measure => simp only [intOf]; omega
            · have e1 : (if (n : Int) = 0 ∨ nz t < nz low then t else low) = t := if_pos (.inr hL)
              have e2 : (if (n : Int) = 0 ∨ nz high < nz t then t else high) = high := if_neg (by omega)
              rw [e1] at hge2 hIn
              rw [e2] at hle2 hIn
              have hn0 : ((n : Int) == 0) = false := by rw [beq_eq_false_iff_ne]; omega
              rw [decide_eq_true hL] at hlt
              rw [decide_eq_false hH] at hgt
              clear e1 e2 hL hH
              rcases hge with hA | ⟨hA, hB⟩
              all_goals
                go_wp2_with (first | (go_at_call 15; refine g1.out.mono ?_; rintro e w' ⟨rfl, rfl⟩) | (go_at_call 16; refine g2.out.mono ?_; rintro e w' ⟨rfl, rfl⟩))
                go_roundw
                case rel => exact ⟨i + 1, n + 1, _, _, _, by omega, by omega, by go_num, by go_num, rfl, rfl, hIn.out⟩
                case measure => simp only [intOf]; omega
          · by_cases hH : nz high < nz t
            · have e1 : (if (n : Int) = 0 ∨ nz t < nz low then t else low) = low := if_neg (by omega)
              have e2 : (if (n : Int) = 0 ∨ nz high < nz t then t else high) = t := if_pos (.inr hH)
              rw [e1] at hge2 hIn
              rw [e2] at hle2 hIn
              have hn0 : ((n : Int) == 0) = false := by rw [beq_eq_false_iff_ne]; omega
              rw [decide_eq_false hL] at hlt
              rw [decide_eq_true hH] at hgt
              clear e1 e2 hL hH
              rcases hge with hA | ⟨hA, hB⟩
              all_goals
                go_wp2_with (first | (go_at_call 15; refine g1.out.mono ?_; rintro e w' ⟨rfl, rfl⟩) | (go_at_call 16; refine g2.out.mono ?_; rintro e w' ⟨rfl, rfl⟩))
                go_roundw
                case rel => exact ⟨i + 1, n + 1, _, _, _, by omega, by omega, by go_num, by go_num, rfl, rfl, hIn.out⟩
                case measure => simp only [intOf]; omega
            · have e1 : (if (n : Int) = 0 ∨ nz t < nz low then t else low) = low := if_neg (by omega)
              have e2 : (if (n : Int) = 0 ∨ nz high < nz t then t else high) = high := if_neg (by omega)
              rw [e1] at hge2 hIn
              rw [e2] at hle2 hIn
              have hn0 : ((n : Int) == 0) = false := by rw [beq_eq_false_iff_ne]; omega
              rw [decide_eq_false hL] at hlt
              rw [decide_eq_false hH] at hgt
              clear e1 e2 hL hH
              rcases hge with hA | ⟨hA, hB⟩
              all_goals
                go_wp2_with (first | (go_at_call 15; refine g1.out.mono ?_; rintro e w' ⟨rfl, rfl⟩) | (go_at_call 16; refine g2.out.mono ?_; rintro e w' ⟨rfl, rfl⟩))
                go_roundw
                case rel => exact ⟨i + 1, n + 1, _, _, _, by omega, by omega, by go_num, by go_num, rfl, rfl, hIn.out⟩
                case measure => simp only [intOf]; omega
      · have hun : ok = false ∨ ¬ counts t := by
          cases ok with
          | false => exact .inl rfl
          | true => exact .inr fun h => hcnt ⟨rfl, h⟩
        obtain ⟨u1, u2⟩ := probe_uncounted s ok t hun
        rw [u1] at g1
        rw [u2, II.out.span.num] at g2
        have hIn : Inv bs w (i + 1) n low high (probeS s ok t) w3 := by
          refine ⟨hb3.out, hok'.out, ⟨by rw [u2]; exact II.out.span.num, II.out.span.low64, II.out.span.high64, II.out.span.lowc, II.out.span.highc, by rw [u1]; exact II.out.span.between⟩, by omega, hbel3.out⟩
        have hIn2 : Inv bs w (i + 1) n low high (probeS s ok t) w3.drew := ⟨hIn.blk, hIn.ok, hIn.span, hIn.le, hIn.below.drew⟩
        have g1' := took_any bs (probeS s ok t) w3.drew hIn2.blk
        have g2' := timed_any bs (probeS s ok t) w3.drew hIn2.blk
        rw [u1] at g1'
        rw [u2, II.out.span.num] at g2'
        have hsm := hsame.out
        replace g1 := Lib.hid g1
        replace g2 := Lib.hid g2
        replace g1' := Lib.hid g1'
        replace g2' := Lib.hid g2'
        replace hIn := Lib.hid hIn
        replace hIn2 := Lib.hid hIn2
        clear u1 u2
        cases ok with
        | false =>
          go_wp2_with (first | (go_at_call 15; refine g1.out.mono ?_; rintro e w' ⟨rfl, rfl⟩) | (go_at_call 16; refine g2.out.mono ?_; rintro e w' ⟨rfl, rfl⟩))
          go_roundw
          case rel => exact ⟨i + 1, n, _, _, _, by omega, by omega, by go_num, rfl, rfl, rfl, hIn.out⟩
          case measure => simp only [intOf]; omega
        | true =>
          by_cases hge : Fl.ge t = true
          · have hinf : t = Fl.INF := by
              by_cases h : t = Fl.INF
              · exact h
              · exact absurd ⟨rfl, hge, h⟩ hcnt
            subst hinf
            have hsub := sub_inf
            have hnan := nan_ne
            have hA : (FloatKind.f64.format.order Fl.INF 0 == some Ordering.gt) = true := by decide +kernel
            clear hge hcnt hun
            go_wp2_with (first | (go_at_call 15; refine g1'.out.mono ?_; rintro e w' ⟨rfl, rfl⟩) | (go_at_call 16; refine g2'.out.mono ?_; rintro e w' ⟨rfl, rfl⟩))
            go_roundw
            case rel => exact ⟨i + 1, n, _, _, _, by omega, by omega, by go_num, rfl, rfl, rfl, hIn2.out⟩
            case measure => simp only [intOf]; omega
          · have hg0 : Fl.ge t = false := by simpa using hge
            unfold Fl.ge at hg0
            rw [Bool.or_eq_false_iff] at hg0
            have hA : (FloatKind.f64.format.order t 0 == some Ordering.gt) = false := hg0.1
            have hB : (FloatKind.f64.format.order t 0 == some Ordering.eq) = false := hg0.2
            clear hge hcnt hun hg0
            go_wp2_with (first | (go_at_call 15; refine g1.out.mono ?_; rintro e w' ⟨rfl, rfl⟩) | (go_at_call 16; refine g2.out.mono ?_; rintro e w' ⟨rfl, rfl⟩))
            go_roundw
            case rel => exact ⟨i + 1, n, _, _, _, by omega, by omega, by go_num, rfl, rfl, rfl, hIn.out⟩
            case measure => simp only [intOf]; omega
    · have hfin : ps.length ≤ i ∨ 400 ≤ i := by omega
      have hbel := Lib.hid I.below
      have ht := took_any bs s wr I.blk
      have hbt := I.span.between
      have h00 : (FloatKind.f64.format.order 0 0 == some Ordering.eq) = true := by decide +kernel
      by_cases hn : n = 0
      · have h0 : s.took = 0 := by
          rcases hbt with h | h
          · exact h.2
          · have := h.1; omega
        rw [h0] at ht
        replace ht := Lib.hid ht
        subst hn
        clear I hbt h0
        by_cases hlt1 : i < ps.length
        · have h4 : (400 : Int) ≤ (i : Int) := by omega
          have h5 : (i : Int) < (ps.length : Int) := by omega
          go_wp2_with (go_at_call 15; refine ht.out.mono ?_; rintro e w' ⟨rfl, rfl⟩)
          go_ret
          exact ⟨rfl, hbel.out⟩
        · have h5 : (ps.length : Int) ≤ (i : Int) := by omega
          go_wp2_with (go_at_call 15; refine ht.out.mono ?_; rintro e w' ⟨rfl, rfl⟩)
          go_ret
          exact ⟨rfl, hbel.out⟩
      · have hnp : (0 : Int) < (n : Int) := by omega
        clear I hbt ht
        by_cases hlt1 : i < ps.length
        · have h4 : (400 : Int) ≤ (i : Int) := by omega
          have h5 : (i : Int) < (ps.length : Int) := by omega
          go_wp2
          go_ret
          exact ⟨rfl, hbel.out⟩
        · have h5 : (ps.length : Int) ≤ (i : Int) := by omega
          go_wp2
          go_ret
          exact ⟨rfl, hbel.out⟩

theorem times_zero (ao : Option Addr) (cap : Nat) (w : World) :
    Calls Try.prog 4 #[.slice ao 0 cap] w fun e w' => e = .returned (.bool true) ∧ Below w.heap.size w w' := by
  go_enter Try.func4, Try.ntmps4
  go_wp2_with fail
  refine (awake_any w).mono ?_
  rintro e w1 ⟨rfl, hb1⟩
  go_wp2_with fail
  refine (new_ok 1 1 w1 (by decide) (by decide)).mono ?_
  rintro e w2 ⟨rfl, rfl⟩
  have hb2 := Tp.Below_seq hb1 (Tp.Below_alloc _ (blk (newS 1 1)))
  have hbk : (w1.alloc (blk (newS 1 1))).heap[w1.heap.size]? = some (blk (newS 1 1)) := heap_alloc_new w1 _
  generalize w1.alloc (blk (newS 1 1)) = w2 at *
  generalize w1.heap.size = bs at *
  have ht := took_any bs (newS 1 1) w2 hbk
  have h0 : (newS 1 1).took = 0 := rfl
  rw [h0] at ht
  replace ht := Lib.hid ht
  have h00 : (FloatKind.f64.format.order 0 0 == some Ordering.eq) = true := by decide +kernel
  clear hb1 hbk h0
  go_wp2
  refine wp_loop_rounds 1 ?_
  rw [rounds_succ]
  go_wp2_with (go_at_call 15; refine ht.out.mono ?_; rintro e w' ⟨rfl, rfl⟩)
  go_ret
  exact ⟨rfl, hb2⟩

theorem walk {H : Type} (enc : TypeId × Value → H) (W : World) (base : Nat) (args : Array Value) (ds : List (DataW H)) (p : List MemPlace)
    (hval0 : ∀ (j : Nat) t v, Try.f4.params[j]? = some t → args[j]? = some v → Value.okWide Try.prog W .any base t v)
    (hA : DataW.TrodAll enc Try.prog W 0 (fun _ => true) true Try.f4.params.toList args.toList ds p)
    (hsz : (DataW.weightsEach Try.prog Try.f4.params.toList ds).all (· ≤ reachBytes) = true) :
    Calls Try.prog 4 args W fun e w' => e = .returned (.bool true) ∧ Below W.heap.size W w' := by
  have hval : ∀ (j : Nat) t v, Try.f4.params[j]? = some t → args[j]? = some v → Value.okWide Try.prog W .any base t v := hval0
  rw [Try.params4] at hA hval hsz
  obtain ⟨v0, d0, rfl, rfl, h0⟩ := trodAll_one hA
  obtain ⟨ps, ⟨ao, cap, rfl, hr⟩, hp, hl⟩ := open_probes (hval 0 22 v0 rfl rfl) h0 hsz (j := 0) rfl rfl
  rcases hr with rfl | ⟨b, off, rfl, hb, hpr⟩
  · exact times_zero ao cap W
  · by_cases hn : ps = []
    · subst hn; exact times_zero _ cap W
    · exact times_some ps hp b off cap W hb hpr (by omega)
end Go.Proofs.Yteedjgkinmkmoaa.healthTimes
