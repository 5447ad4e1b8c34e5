/- The walk of the laws' own both: a run gone through by the program's state and the document's. -/
import Derived.Test.YteedjgkinmkmoaaRef
import Derived.StillTailTactics
namespace Go.Proofs.Yteedjgkinmkmoaa
open Go.ChangeShapes Go.WideShapes Go.ChangeAt Go.RowKit
open Go.Tp
set_option linter.unusedVariables false

/-- A state behind probes. -/
def runS (s : St) (ps : List (Bool × Nat)) : St := ps.foldl (fun s p => probeS s p.1 p.2) s
theorem runS_snoc (s : St) (ps : List (Bool × Nat)) (p : Bool × Nat) : runS s (ps ++ [p]) = probeS (runS s ps) p.1 p.2 := by simp [runS]
def validT (rise fall : Int) : Prop := (1 ≤ rise ∧ rise ≤ 100) ∧ (1 ≤ fall ∧ fall ≤ 100)

/-- What both hands back. -/
def BothIs (rise fall : Int) (ps : List (Bool × Nat)) (none : Bool) (base : Nat) (w : World) (sv dv : Value) : Prop :=
  (sv = .pointer .none ∧ dv = .pointer .none ∧ (none = true ∨ ¬ validT rise fall)) ∨
  (validT rise fall ∧ none = false ∧ ∃ bs bd pv, sv = .pointer (some ⟨bs, 0, .none⟩) ∧ dv = .pointer (some ⟨bd, 0, .none⟩) ∧ base ≤ bs ∧ base ≤ bd ∧
    w.heap[bs]? = some (blk (runS (newS rise fall) (ps.take 200))) ∧ RSt w base bd rise fall (ps.take 200) pv)
def BothPost (rise fall : Int) (ps : List (Bool × Nat)) (none : Bool) (w : World) (e : Ending) (w' : World) : Prop :=
  ∃ sv dv, e = .returned (.tuple #[sv, dv]) ∧ BothIs rise fall ps none w.heap.size w' sv dv ∧ Below w.heap.size w w'

theorem take_snoc {α : Type} [Inhabited α] (ps : List α) (d : α) (i : Nat) (h : i < ps.length) : ps.take (i + 1) = ps.take i ++ [ps.getD i d] := by
  rw [List.take_succ_eq_append_getElem h]
  simp [List.getD, h]

theorem own_mono {w : World} {b b' e size : Nat} {v : Value} {n : Nat} {xs : List Value} (h : w.ownsRow b e size v n xs) (hb : b' ≤ b) : w.ownsRow b' e size v n xs := by
  refine ⟨h.1, ?_⟩
  rcases h.2 with h2 | ⟨g, cap, cur, hv, hg, r⟩
  · exact .inl h2
  · exact .inr ⟨g, cap, cur, hv, Nat.le_trans hb hg, r⟩
theorem own_below {w w' : World} {base e size : Nat} {v : Value} {n : Nat} {xs : List Value} (h : w.ownsRow base e size v n xs) (hb : Below w.heap.size w w') : w'.ownsRow base e size v n xs :=
  h.kept (row := none) ⟨hb.os, hb.tape, hb.output, hb.size, fun k hk _ => hb.block k hk⟩ (by cases h : v.ownBlock <;> simp)

/-- The run's own box. -/
def xblk (rise fall : Int) (v : Value) (cp : Int) (none : Bool) : Obj := .cells #[.int .i64 rise, .int .i64 fall, v, .int .i64 cp, .bool none] 37 (0, 0)

set_option maxHeartbeats 4000000 in
set_option maxRecDepth 100000 in
theorem both_none (rise fall cp : Int) (v : Value) (w : World) (ps : List (Bool × Nat)) : Calls Try.prog 17 #[.agg #[.int .i64 rise, .int .i64 fall, v, .int .i64 cp, .bool true]] w (BothPost rise fall ps true w) := by
  have hbx := Tp.Below_alloc w (xblk rise fall v cp true)
  have hx : (w.alloc (xblk rise fall v cp true)).heap[w.heap.size]? = some (xblk rise fall v cp true) := heap_alloc_new w _
  by_cases hv : validT rise fall
  · have h1 := new_ok rise fall (w.alloc (xblk rise fall v cp true)) hv.1 hv.2
    go_enter Try.func17, Try.ntmps17
    go_wp2_with fail
    refine h1.mono ?_
    rintro e w1 ⟨rfl, rfl⟩
    have hb2 := Tp.Below_seq hbx (Tp.Below_alloc _ (blk (newS rise fall)))
    have hlt : w.heap.size < (w.alloc (xblk rise fall v cp true)).heap.size := by simp
    have hx2 := (Below.heap_alloc (w.alloc (xblk rise fall v cp true)) (blk (newS rise fall)) _ hlt).trans hx
    generalize (w.alloc (xblk rise fall v cp true)).alloc (blk (newS rise fall)) = w2 at *
    generalize (w.alloc (xblk rise fall v cp true)).heap.size = bs at *
    have x0 : w2.cell? ⟨w.heap.size, 0, none⟩ = some (.int .i64 rise) := by rw [cell_of_row _ _ _ _ _ _ hx2]; rfl
    have x1 : w2.cell? ⟨w.heap.size, 1, none⟩ = some (.int .i64 fall) := by rw [cell_of_row _ _ _ _ _ _ hx2]; rfl
    clear hbx hx h1
    go_wp2_with fail
    refine (refnew_ok rise fall w2 hv.1 hv.2).mono ?_
    rintro e w3 ⟨rfl, rfl⟩
    have hb3 := Tp.Below_seq hb2 (Tp.Below_alloc _ (rblk rise fall (.slice none 0 0)))
    have hlt2 : w.heap.size < w2.heap.size := (Array.getElem?_eq_some_iff.1 hx2).1
    have hx3 := (Below.heap_alloc w2 (rblk rise fall (.slice none 0 0)) _ hlt2).trans hx2
    generalize w2.alloc (rblk rise fall (.slice none 0 0)) = w3 at *
    have x4 : w3.cell? ⟨w.heap.size, 4, none⟩ = some (.bool true) := by rw [cell_of_row _ _ _ _ _ _ hx3]; rfl
    clear x0 x1 hx2 hx3 hb2
    go_wp2
    go_ret2
    exact ⟨_, _, rfl, .inl ⟨rfl, rfl, .inl rfl⟩, hb3⟩
  · have hv' : ¬ (1 ≤ rise ∧ rise ≤ 100) ∨ ¬ (1 ≤ fall ∧ fall ≤ 100) := by unfold validT at hv; omega
    have h1 := new_bad rise fall (w.alloc (xblk rise fall v cp true)) hv'
    have hlt : w.heap.size < (w.alloc (xblk rise fall v cp true)).heap.size := by simp
    go_enter Try.func17, Try.ntmps17
    go_wp2_with fail
    refine h1.mono ?_
    rintro e w2 ⟨rfl, hb1⟩
    have hb2 := Tp.Below_seq hbx hb1
    have hx2 := (hb1.block _ hlt).trans hx
    have x0 : w2.cell? ⟨w.heap.size, 0, none⟩ = some (.int .i64 rise) := by rw [cell_of_row _ _ _ _ _ _ hx2]; rfl
    have x1 : w2.cell? ⟨w.heap.size, 1, none⟩ = some (.int .i64 fall) := by rw [cell_of_row _ _ _ _ _ _ hx2]; rfl
    have x4 : w2.cell? ⟨w.heap.size, 4, none⟩ = some (.bool true) := by rw [cell_of_row _ _ _ _ _ _ hx2]; rfl
    clear hbx hx h1 hb1 hx2 hlt
    go_wp2_with fail
    refine (refnew_bad rise fall w2 hv').mono ?_
    rintro e w3 ⟨rfl, rfl⟩
    go_wp2
    go_ret2
    exact ⟨_, _, rfl, .inl ⟨rfl, rfl, .inl rfl⟩, hb2⟩

/-- What stands at the head of a round of both. -/
structure BInv (w : World) (base bs bd : Nat) (rise fall cp : Int) (v : Value) (ps : List (Bool × Nat)) (i : Nat) (pv : Value) (wr : World) : Prop where
  x : wr.heap[w.heap.size]? = some (xblk rise fall v cp false)
  sblk : wr.heap[bs]? = some (blk (runS (newS rise fall) (ps.take i)))
  ok : Ok (runS (newS rise fall) (ps.take i)) i
  rst : RSt wr base bd rise fall (ps.take i) pv
  below : Below w.heap.size w wr
  size : base ≤ wr.heap.size

set_option maxHeartbeats 4000000 in
set_option maxRecDepth 100000 in
theorem both_run (rise fall cp : Int) (hv : validT rise fall) (ps : List (Bool × Nat)) (hps : ∀ p ∈ ps, p.2 < 18446744073709551616) (ao : Option Addr) (cap : Nat) (w : World) (hrd : RdP w (.slice ao ps.length cap) ps) (hlen : ps.length ≤ 100000000000000) :
    Calls Try.prog 17 #[.agg #[.int .i64 rise, .int .i64 fall, .slice ao ps.length cap, .int .i64 cp, .bool false]] w (BothPost rise fall ps false w) := by
  obtain ⟨v, hvdef⟩ : ∃ v : Value, v = .slice ao ps.length cap := ⟨_, rfl⟩
  have hbx := Tp.Below_alloc w (xblk rise fall (.slice ao ps.length cap) cp false)
  have hx : (w.alloc (xblk rise fall (.slice ao ps.length cap) cp false)).heap[w.heap.size]? = some (xblk rise fall (.slice ao ps.length cap) cp false) := heap_alloc_new w _
  have h1 := new_ok rise fall (w.alloc (xblk rise fall (.slice ao ps.length cap) cp false)) hv.1 hv.2
  go_enter Try.func17, Try.ntmps17
  go_wp2_with fail
  refine h1.mono ?_
  rintro e w1 ⟨rfl, rfl⟩
  have hb2 := Tp.Below_seq hbx (Tp.Below_alloc _ (blk (newS rise fall)))
  have hlt : w.heap.size < (w.alloc (xblk rise fall (.slice ao ps.length cap) cp false)).heap.size := by simp
  have hx2 := (Below.heap_alloc (w.alloc (xblk rise fall (.slice ao ps.length cap) cp false)) (blk (newS rise fall)) _ hlt).trans hx
  have hs2 : ((w.alloc (xblk rise fall (.slice ao ps.length cap) cp false)).alloc (blk (newS rise fall))).heap[(w.alloc (xblk rise fall (.slice ao ps.length cap) cp false)).heap.size]? = some (blk (newS rise fall)) := heap_alloc_new _ _
  generalize (w.alloc (xblk rise fall (.slice ao ps.length cap) cp false)).alloc (blk (newS rise fall)) = w2 at *
  generalize (w.alloc (xblk rise fall (.slice ao ps.length cap) cp false)).heap.size = bs at *
  have x0 : w2.cell? ⟨w.heap.size, 0, none⟩ = some (.int .i64 rise) := by rw [cell_of_row _ _ _ _ _ _ hx2]; rfl
  have x1 : w2.cell? ⟨w.heap.size, 1, none⟩ = some (.int .i64 fall) := by rw [cell_of_row _ _ _ _ _ _ hx2]; rfl
  clear hbx hx h1
  go_wp2_with fail
  refine (refnew_ok rise fall w2 hv.1 hv.2).mono ?_
  rintro e w3 ⟨rfl, rfl⟩
  have hb3 := Tp.Below_seq hb2 (Tp.Below_alloc _ (rblk rise fall (.slice none 0 0)))
  have hlt2 : w.heap.size < w2.heap.size := (Array.getElem?_eq_some_iff.1 hx2).1
  have hlt3 : bs < w2.heap.size := (Array.getElem?_eq_some_iff.1 hs2).1
  have I0 : BInv w (w2.heap.size + 1) bs w2.heap.size rise fall cp (.slice ao ps.length cap) ps 0 (.slice none 0 0) (w2.alloc (rblk rise fall (.slice none 0 0))) :=
    ⟨(Below.heap_alloc w2 _ _ hlt2).trans hx2, (Below.heap_alloc w2 _ _ hlt3).trans hs2, newS_ok hv.1 hv.2, ⟨heap_alloc_new w2 _, World.ownsRow_nil _ _ _ _⟩, hb3, by simp⟩
  generalize w2.alloc (rblk rise fall (.slice none 0 0)) = w3 at *
  generalize w2.heap.size = bd at *
  have x4 : w3.cell? ⟨w.heap.size, 4, none⟩ = some (.bool false) := by rw [cell_of_row _ _ _ _ _ _ I0.x]; rfl
  clear x0 x1 hx2 hs2 hb2 hb3
  go_wp2
  go_loopw [8] (fun ic wr => ∃ (i : Nat) (pv : Value), i ≤ ps.length ∧ i ≤ 200 ∧ ic = .int .i64 i ∧ BInv w (bd + 1) bs bd rise fall cp (.slice ao ps.length cap) ps i pv wr) (fun i _ => 200 - (intOf i).toNat)
  case atStart => exact ⟨0, _, by omega, by omega, rfl, I0⟩
  case round =>
    obtain ⟨i, pv, hi, hi2, rfl, I⟩ := hrel
    clear I0 x4
    have y2 : wr.cell? ⟨w.heap.size, 2, none⟩ = some (.slice ao ps.length cap) := by rw [cell_of_row _ _ _ _ _ _ I.x]; rfl
    by_cases hlt : i < ps.length ∧ i < 200
    · obtain ⟨hl1, hl2⟩ := hlt
      obtain ⟨ao', cap', hve, hr⟩ := id hrd
      obtain ⟨b, off, hao, hbw, hpr⟩ := hr.resolve_left (by rintro rfl; simp at hl1)
      have hao' : ao = some ⟨b, off, none⟩ := by cases hve; exact hao
      subst hao'
      have hpr := hpr.below hbw I.below
      have hok := hpr.ok i hl1
      have htk := hpr.took i hl1
      have hp2 : (ps.getD i (false, 0)).2 < 18446744073709551616 := by
        have : ps.getD i (false, 0) = ps[i] := by simp [List.getD, hl1]
        rw [this]; exact hps _ (List.getElem_mem hl1)
      have htake := take_snoc ps (false, 0) i hl1
      obtain ⟨p, hpe⟩ : ∃ p, p = ps.getD i (false, 0) := ⟨_, rfl⟩
      rw [← hpe] at hok htk hp2 htake
      obtain ⟨ok, t⟩ := p
      dsimp only at hok htk hp2
      have hi0 : (0 : Int) ≤ (i : Int) := by omega
      have hi1 : (i : Int) < (ps.length : Int) := by omega
      have hprobe := Lib.hid (probe_any bs _ ok t i wr.drew I.sblk hp2 I.ok (by omega))
      have II := Lib.hid I
      replace htake := Lib.hid htake
      clear I hpe hrd hr hpr
      go_wp2_with fail
      go_still_tail 13, (by kernel_rfl)
      change wpList _ _ _ _ _ wr.drew
      go_wp2_with fail
      refine hprobe.out.mono ?_
      rintro e w4 ⟨rfl, hs4, ho4⟩
      have ho4' : Only bs wr w4 := (Only.drewN bs wr 1).trans ho4
      have z2 : w4.cell? ⟨w.heap.size, 2, none⟩ = some (.slice (some ⟨b, off, none⟩) ps.length cap) := (World.cell?_of_block (ho4'.block _ (by show w.heap.size ≠ bs; omega))).trans y2
      have hokp : w4.cell? ⟨b, off + i * 2, none⟩ = some (.bool ok) := (World.cell?_of_block (ho4'.block _ (by show b ≠ bs; omega))).trans hok
      have htkp : w4.cell? ⟨b, off + i * 2 + 1, none⟩ = some (.float .f64 t) := (World.cell?_of_block (ho4'.block _ (by show b ≠ bs; omega))).trans htk
      have hpown : ∀ k, pv.ownBlock = some k → bd + 1 ≤ k ∧ k < wr.heap.size := II.out.rst.own.lt
      have hr4 : RSt w4.drew (bd + 1) bd rise fall (ps.take i) pv := by
        refine ⟨(ho4'.block bd (by omega)).trans II.out.rst.blk, ?_⟩
        refine II.out.rst.own.kept (row := some bs) ⟨ho4'.os, ho4'.tape, ho4'.output, Nat.le_of_eq ho4'.size.symm, fun k hk hne => ho4'.block k (fun e => hne (by rw [e]))⟩ ?_
        cases ho : pv.ownBlock with
        | none => exact .inl rfl
        | some k => right; intro e; cases e; have := (hpown _ ho).1; omega
      have hsz4 : bd + 1 ≤ w4.drew.heap.size := by
        have h1 := II.out.size
        have h2 : w4.drew.heap.size = wr.heap.size := ho4'.size
        omega
      have href := Lib.hid (refprobe_any (bd + 1) bd rise fall (ps.take i) pv ok t w4.drew hr4 hsz4 (by rw [List.length_take]; omega))
      have hx4 : w4.heap[w.heap.size]? = some (xblk rise fall (.slice (some ⟨b, off, none⟩) ps.length cap) cp false) := (ho4'.block _ (by omega)).trans II.out.x
      have hbel4 := Lib.hid (II.out.below.trans (ho4'.below (B := w.heap.size) (by omega)))
      replace hr4 := Lib.hid hr4
      replace hpown := Lib.hid hpown
      replace hs4 := Lib.hid hs4
      replace hx4 := Lib.hid hx4
      have hszw : w4.heap.size = wr.heap.size := ho4'.size
      replace hszw := Lib.hid hszw
      clear hok htk y2 ho4 ho4' hprobe
      go_wp2_with fail
      go_still_tail 13, (by kernel_rfl)
      change wpList _ _ _ _ _ w4.drew
      go_wp2_with fail
      refine href.out.mono ?_
      rintro e w5 ⟨pv', rfl, hr5, hR⟩
      have hoth : ∀ k, k < bd → w5.heap[k]? = w4.heap[k]? := fun k hk => hR.block k (by
        have h1 := II.out.size
        have h2 : w4.drew.heap.size = w4.heap.size := rfl
        have h3 := hszw.out
        omega) (by omega) (fun e => by have := (hpown.out k e).1; omega)
      have hrun : runS (newS rise fall) (ps.take (i + 1)) = probeS (runS (newS rise fall) (ps.take i)) ok t := by rw [htake.out, runS_snoc]
      have IN : BInv w (bd + 1) bs bd rise fall cp (.slice (some ⟨b, off, none⟩) ps.length cap) ps (i + 1) pv' w5 := by
        refine ⟨(hoth _ (by omega)).trans hx4.out, ?_, ?_, by rw [htake.out]; exact hr5, ?_, ?_⟩
        · rw [hrun]; exact (hoth bs (by omega)).trans hs4.out
        · rw [hrun]; exact probeS_ok II.out.ok ok t hp2
        · refine hbel4.out.trans ⟨hR.os, hR.tape, hR.output, hR.size, fun k hk => hoth k (by omega)⟩
        · have := hR.size; omega
      replace IN := Lib.hid IN
      clear hr5 hR hoth hrun href z2 hokp htkp
      go_wp2
      go_roundw
      case rel => exact ⟨i + 1, pv', by omega, by omega, by go_num, IN.out⟩
      case measure => simp only [intOf]; omega
    · have htk : ps.take i = ps.take 200 := by
        rcases Nat.lt_or_ge i ps.length with h | h
        · have : i = 200 := by omega
          rw [this]
        · rw [List.take_of_length_le h, List.take_of_length_le (by omega)]
      have hfin : BothPost rise fall ps false w (.returned (.tuple #[.pointer (some ⟨bs, 0, none⟩), .pointer (some ⟨bd, 0, none⟩)])) wr := by
        refine ⟨_, _, rfl, .inr ⟨hv, rfl, bs, bd, pv, rfl, rfl, by omega, by omega, ?_, ?_⟩, I.below⟩
        · rw [← htk]; exact I.sblk
        · rw [← htk]; exact ⟨I.rst.blk, own_mono I.rst.own (by omega)⟩
      replace hfin := Lib.hid hfin
      clear I htk hrd
      by_cases hl1 : i < ps.length
      · have h4 : (200 : Int) ≤ (i : Int) := by omega
        have h5 : (i : Int) < (ps.length : Int) := by omega
        go_wp2
        go_ret2
        exact hfin.out
      · have h5 : (ps.length : Int) ≤ (i : Int) := by omega
        go_wp2
        go_ret2
        exact hfin.out

set_option maxHeartbeats 4000000 in
set_option maxRecDepth 100000 in
theorem both_bad (rise fall cp : Int) (hv : ¬ validT rise fall) (ps : List (Bool × Nat)) (ao : Option Addr) (cap : Nat) (w : World) (hrd : RdP w (.slice ao ps.length cap) ps) (hlen : ps.length ≤ 100000000000000) :
    Calls Try.prog 17 #[.agg #[.int .i64 rise, .int .i64 fall, .slice ao ps.length cap, .int .i64 cp, .bool false]] w (BothPost rise fall ps false w) := by
  have hv' : ¬ (1 ≤ rise ∧ rise ≤ 100) ∨ ¬ (1 ≤ fall ∧ fall ≤ 100) := by unfold validT at hv; omega
  have hbx := Tp.Below_alloc w (xblk rise fall (.slice ao ps.length cap) cp false)
  have hx : (w.alloc (xblk rise fall (.slice ao ps.length cap) cp false)).heap[w.heap.size]? = some (xblk rise fall (.slice ao ps.length cap) cp false) := heap_alloc_new w _
  have h1 := new_bad rise fall (w.alloc (xblk rise fall (.slice ao ps.length cap) cp false)) hv'
  have hlt : w.heap.size < (w.alloc (xblk rise fall (.slice ao ps.length cap) cp false)).heap.size := by simp
  go_enter Try.func17, Try.ntmps17
  go_wp2_with fail
  refine h1.mono ?_
  rintro e w2 ⟨rfl, hb1⟩
  have hb2 := Tp.Below_seq hbx hb1
  have hx2 := (hb1.block _ hlt).trans hx
  have x0 : w2.cell? ⟨w.heap.size, 0, none⟩ = some (.int .i64 rise) := by rw [cell_of_row _ _ _ _ _ _ hx2]; rfl
  have x1 : w2.cell? ⟨w.heap.size, 1, none⟩ = some (.int .i64 fall) := by rw [cell_of_row _ _ _ _ _ _ hx2]; rfl
  have x4 : w2.cell? ⟨w.heap.size, 4, none⟩ = some (.bool false) := by rw [cell_of_row _ _ _ _ _ _ hx2]; rfl
  clear hbx hx h1 hb1 hlt
  go_wp2_with fail
  refine (refnew_bad rise fall w2 hv').mono ?_
  rintro e w3 ⟨rfl, rfl⟩
  go_wp2
  go_loopw [8] (fun ic wr => ∃ (i n : Nat), i ≤ ps.length ∧ i ≤ 200 ∧ ic = .int .i64 i ∧ wr = w2.drewN n) (fun i _ => 200 - (intOf i).toNat)
  case atStart => exact ⟨0, 0, by omega, by omega, rfl, rfl⟩
  case round =>
    obtain ⟨i, n, hi, hi2, rfl, hwr⟩ := hrel
    have y2 : wr.cell? ⟨w.heap.size, 2, none⟩ = some (.slice ao ps.length cap) := by rw [hwr]; show w2.cell? _ = _; rw [cell_of_row _ _ _ _ _ _ hx2]; rfl
    have hbel : Below w.heap.size w wr := by rw [hwr]; exact below_drewN hb2 n
    replace hwr := Lib.hid hwr
    by_cases hlt : i < ps.length ∧ i < 200
    · obtain ⟨hl1, hl2⟩ := hlt
      obtain ⟨ao', cap', hve, hr⟩ := id hrd
      obtain ⟨b, off, hao, hbw, hpr⟩ := hr.resolve_left (by rintro rfl; simp at hl1)
      have hao' : ao = some ⟨b, off, none⟩ := by cases hve; exact hao
      subst hao'
      have hpr := hpr.below hbw hbel
      have hok := hpr.ok i hl1
      have htk := hpr.took i hl1
      obtain ⟨p, hpe⟩ : ∃ p, p = ps.getD i (false, 0) := ⟨_, rfl⟩
      rw [← hpe] at hok htk
      obtain ⟨ok, t⟩ := p
      dsimp only at hok htk
      have hi0 : (0 : Int) ≤ (i : Int) := by omega
      have hi1 : (i : Int) < (ps.length : Int) := by omega
      replace hbel := Lib.hid hbel
      clear hpe hrd hr hpr x0 x1 x4
      go_wp2_with fail
      go_still_tail 13, (by kernel_rfl)
      change wpList _ _ _ _ _ wr.drew
      go_wp2_with fail
      refine (probe_nil ok t wr.drew).mono ?_
      rintro e w4 ⟨rfl, rfl⟩
      have y2' : wr.drew.cell? ⟨w.heap.size, 2, none⟩ = some (.slice (some ⟨b, off, none⟩) ps.length cap) := y2
      have hok' : wr.drew.cell? ⟨b, off + i * 2, none⟩ = some (.bool ok) := hok
      have htk' : wr.drew.cell? ⟨b, off + i * 2 + 1, none⟩ = some (.float .f64 t) := htk
      have hwr' : wr.drew.drew = w2.drewN (n + 2) := by rw [hwr.out]; rfl
      clear y2 hok htk
      generalize wr.drew = w5 at *
      replace hwr' := Lib.hid hwr'
      go_wp2_with fail
      go_still_tail 13, (by kernel_rfl)
      change wpList _ _ _ _ _ w5.drew
      go_wp2_with fail
      refine (refprobe_nil ok t w5.drew).mono ?_
      rintro e w4 ⟨rfl, rfl⟩
      go_wp2
      go_roundw
      case rel => exact ⟨i + 1, n + 2, by omega, by omega, by go_num, hwr'.out⟩
      case measure => simp only [intOf]; omega
    · have hfin : BothPost rise fall ps false w (.returned (.tuple #[.pointer .none, .pointer .none])) wr := ⟨_, _, rfl, .inl ⟨rfl, rfl, .inr hv⟩, hbel⟩
      replace hfin := Lib.hid hfin
      clear hrd x0 x1 x4 hbel
      by_cases hl1 : i < ps.length
      · have h4 : (200 : Int) ≤ (i : Int) := by omega
        have h5 : (i : Int) < (ps.length : Int) := by omega
        go_wp2
        go_ret2
        exact hfin.out
      · have h5 : (ps.length : Int) ≤ (i : Int) := by omega
        go_wp2
        go_ret2
        exact hfin.out

theorem both_any (rise fall cp : Int) (none : Bool) (ps : List (Bool × Nat)) (hps : ∀ p ∈ ps, p.2 < 18446744073709551616) (v : Value) (w : World) (hrd : RdP w v ps) (hlen : ps.length ≤ 100000000000000) :
    Calls Try.prog 17 #[.agg #[.int .i64 rise, .int .i64 fall, v, .int .i64 cp, .bool none]] w (BothPost rise fall ps none w) := by
  cases none with
  | true => exact both_none rise fall cp v w ps
  | false =>
    obtain ⟨ao, cap, rfl, _⟩ := id hrd
    by_cases hv : validT rise fall
    · exact both_run rise fall cp hv ps hps ao cap w hrd hlen
    · exact both_bad rise fall cp hv ps ao cap w hrd hlen
end Go.Proofs.Yteedjgkinmkmoaa
