/- The walk of (*State).Probe. -/
import Derived.Test.YteedjgkinmkmoaaTime
namespace Go.Proofs.Yteedjgkinmkmoaa
open Go.ChangeShapes Go.WideShapes Go.ChangeAt Go.RowKit
open Go.Tp
set_option linter.unusedVariables false

def stepOf (ok : Bool) : Int := if ok then 1 else -1
/-- Behind the counting: does the state turn? -/
def turnsB (s : St) (ok : Bool) : Bool := if ok then decide (s.pl = 0) && decide (s.rise ≤ s.row) else decide (s.pl = 1) && decide (s.fall ≤ -s.row)
def turnS (s : St) (ok : Bool) : St := if turnsB s ok then { s with pl := 1 - s.pl, row := 0, turns := s.turns + 1 } else s
def midS (s : St) (ok : Bool) (t : Nat) : St := countS (if ok then timeS s t else s) (stepOf ok)
def probeS (s : St) (ok : Bool) (t : Nat) : St := turnS (midS s ok t) ok

/-- What every state that comes up keeps. -/
structure Ok (s : St) (n : Int) : Prop where
  rise : 1 ≤ s.rise ∧ s.rise ≤ 100
  fall : 1 ≤ s.fall ∧ s.fall ≤ 100
  pl : s.pl = 0 ∨ s.pl = 1
  row : -1000000 ≤ s.row ∧ s.row ≤ 1000000
  took : s.took < Fl.INF
  timed : 0 ≤ s.timed ∧ s.timed ≤ n
  turns : 0 ≤ s.turns ∧ s.turns ≤ n

theorem timeS_same (s : St) (t : Nat) : (timeS s t).rise = s.rise ∧ (timeS s t).fall = s.fall ∧ (timeS s t).pl = s.pl ∧ (timeS s t).row = s.row ∧ (timeS s t).turns = s.turns ∧ s.timed ≤ (timeS s t).timed ∧ (timeS s t).timed ≤ s.timed + 1 := by
  unfold timeS
  split
  · exact ⟨rfl, rfl, rfl, rfl, rfl, by dsimp only; omega, Int.le_refl _⟩
  · exact ⟨rfl, rfl, rfl, rfl, rfl, Int.le_refl _, by omega⟩
theorem midS_ok {s : St} {n : Int} (h : Ok s n) (ok : Bool) (t : Nat) (ht : t < 18446744073709551616) : Ok (midS s ok t) (n + 1) ∧ (midS s ok t).pl = s.pl ∧ (midS s ok t).turns = s.turns := by
  obtain ⟨h1, h2, h3, h4, h5, h6, h7⟩ := h
  have hrow : ∀ s' : St, s'.row = s.row → -1000000 ≤ (countS s' (stepOf ok)).row ∧ (countS s' (stepOf ok)).row ≤ 1000000 := fun s' e => rowN_bd (by unfold stepOf; cases ok <;> simp) (by rw [e]; exact h4)
  cases ok with
  | true =>
    obtain ⟨a1, a2, a3, a4, a5, a6, a7⟩ := timeS_same s t
    refine ⟨⟨?_, ?_, ?_, hrow _ a4, timeS_took ht h5, ?_, ?_⟩, a3, a5⟩
    · show 1 ≤ (timeS s t).rise ∧ (timeS s t).rise ≤ 100; rw [a1]; exact h1
    · show 1 ≤ (timeS s t).fall ∧ (timeS s t).fall ≤ 100; rw [a2]; exact h2
    · show (timeS s t).pl = 0 ∨ (timeS s t).pl = 1; rw [a3]; exact h3
    · show 0 ≤ (timeS s t).timed ∧ (timeS s t).timed ≤ n + 1; omega
    · show 0 ≤ (timeS s t).turns ∧ (timeS s t).turns ≤ n + 1; rw [a5]; omega
  | false => exact ⟨⟨h1, h2, h3, hrow s rfl, h5, ⟨h6.1, by have := h6.2; show s.timed ≤ n + 1; omega⟩, ⟨h7.1, by have := h7.2; show s.turns ≤ n + 1; omega⟩⟩, rfl, rfl⟩
theorem probeS_ok {s : St} {n : Int} (h : Ok s n) (ok : Bool) (t : Nat) (ht : t < 18446744073709551616) : Ok (probeS s ok t) (n + 1) := by
  obtain ⟨⟨h1, h2, h3, h4, h5, h6, h7⟩, hp, ht2⟩ := midS_ok h ok t ht
  unfold probeS turnS
  split
  · exact ⟨h1, h2, by dsimp only; omega, by dsimp only; omega, h5, h6, by dsimp only; have := h.turns; omega⟩
  · exact ⟨h1, h2, h3, h4, h5, h6, h7⟩

def ProbePost (b : Nat) (s : St) (ok : Bool) (t : Nat) (w : World) (e : Ending) (w' : World) : Prop := e = .returned (.int .i64 0) ∧ w'.heap[b]? = some (blk (probeS s ok t)) ∧ Only b w w'

theorem probe_nil (ok : Bool) (t : Nat) (w : World) : Calls Try.prog 13 #[.pointer none, .bool ok, .float .f64 t] w fun e w' => e = .returned (.int .i64 1) ∧ w = w' := by
  go_enter Try.func13, Try.ntmps13
  go_wp2
  go_ret
  exact ⟨rfl, rfl⟩

set_option maxHeartbeats 1000000 in
theorem probe_up (b : Nat) (s : St) (t : Nat) (n : Int) (w : World) (hb : w.heap[b]? = some (blk s)) (ht : t < 18446744073709551616) (hok : Ok s n) (hn : n ≤ 100000000) :
    Calls Try.prog 13 #[.pointer (some ⟨b, 0, none⟩), .bool true, .float .f64 t] w (ProbePost b s true t w) := by
  have hm := (midS_ok hok true t ht).1
  have hc := time_any b s t w hb ht hok.took ⟨hok.timed.1, by have := hok.timed.2; omega⟩
  have hr1 : -1000000 ≤ (timeS s t).row ∧ (timeS s t).row ≤ 1000000 := by rw [(timeS_same s t).2.2.2.1]; exact hok.row
  replace hc := Lib.hid hc
  clear hb hok ht
  go_enter Try.func13, Try.ntmps13
  go_wp2_with fail
  refine hc.out.mono ?_
  rintro e w1 ⟨rfl, hb1, ho1⟩
  have hc2 := Lib.hid (count_up b (timeS s t) w1 hb1 hr1)
  clear hb1 hc
  go_wp2_with fail
  refine hc2.out.mono ?_
  rintro e w2 ⟨rfl, hb2, ho2⟩
  have ho2 := ho1.trans ho2
  clear ho1
  have hmid : countS (timeS s t) 1 = midS s true t := rfl
  rw [hmid] at hb2
  have hps : probeS s true t = turnS (midS s true t) true := rfl
  clear hc2 hr1 hmid
  generalize midS s true t = m at *
  obtain ⟨c0, c1, c2, c3, c4, c5, c6, fr⟩ := cells_of hb2
  obtain ⟨m1, m2, m3, m4, m5, m6, m7⟩ := hm
  have ho := Lib.hid ho2
  replace hb2 := Lib.hid hb2
  replace hps := Lib.hid hps
  clear ho2 c4 c5
  by_cases h0 : m.pl = 0
  · have h00 : (m.pl == 0) = true := by simpa using h0
    rw [h0] at c2
    by_cases hr : m.rise ≤ m.row
    · have hT : turnS m true = { m with pl := 1, row := 0, turns := m.turns + 1 } := by
        have : turnsB m true = true := by unfold turnsB; rw [h0]; simpa using hr
        unfold turnS; rw [this, if_pos rfl, h0]; rfl
      replace hT := Lib.hid hT
      have f2 := fr 2
      have f3 := fr 3
      have f6 := fr 6
      clear h0 fr
      go_wp2_with fail
      go_quiet (fail)
      go_wp2
      go_ret
      have hb3 : (w2.drewN nq).heap[b]? = some (blk m) := hb2.out
      exact ⟨rfl, by rw [hps.out, hT.out]; exact heap_set _ (heap_set _ (heap_set _ hb3)), ho.out.trans ((Only.drewN _ _ _).trans ((Only.setCell _ _ _ _).trans ((Only.setCell _ _ _ _).trans (Only.setCell _ _ _ _))))⟩
    · have hT : turnS m true = m := by
        have : turnsB m true = false := by unfold turnsB; rw [h0]; simpa using hr
        unfold turnS; rw [this]; rfl
      replace hT := Lib.hid hT
      clear h0 fr
      go_wp2_with fail
      go_quiet (fail)
      go_wp2
      go_ret
      exact ⟨rfl, by rw [hps.out, hT.out]; exact hb2.out, ho.out.trans (Only.drewN _ _ _)⟩
  · have h00 : (m.pl == 0) = false := by simpa using h0
    have h1 : m.pl = 1 := by omega
    have hT : turnS m true = m := by
      have : turnsB m true = false := by unfold turnsB; rw [h1]; rfl
      unfold turnS; rw [this]; rfl
    replace hT := Lib.hid hT
    rw [h1] at c2
    clear h0 h1 fr
    go_wp2_with fail
    go_quiet (fail)
    go_wp2
    go_ret
    exact ⟨rfl, by rw [hps.out, hT.out]; exact hb2.out, ho.out.trans (Only.drewN _ _ _)⟩
set_option maxHeartbeats 1000000 in
theorem probe_down (b : Nat) (s : St) (t : Nat) (n : Int) (w : World) (hb : w.heap[b]? = some (blk s)) (ht : t < 18446744073709551616) (hok : Ok s n) (hn : n ≤ 100000000) :
    Calls Try.prog 13 #[.pointer (some ⟨b, 0, none⟩), .bool false, .float .f64 t] w (ProbePost b s false t w) := by
  have hm := (midS_ok hok false t ht).1
  have hr1 := hok.row
  have hc2 := Lib.hid (count_down b s w hb hr1)
  clear hb hok ht
  go_enter Try.func13, Try.ntmps13
  go_wp2_with fail
  refine hc2.out.mono ?_
  rintro e w2 ⟨rfl, hb2, ho2⟩
  have hmid : countS s (-1) = midS s false t := rfl
  rw [hmid] at hb2
  have hps : probeS s false t = turnS (midS s false t) false := rfl
  clear hc2 hr1 hmid
  generalize midS s false t = m at *
  obtain ⟨c0, c1, c2, c3, c4, c5, c6, fr⟩ := cells_of hb2
  obtain ⟨m1, m2, m3, m4, m5, m6, m7⟩ := hm
  have ho := Lib.hid ho2
  replace hb2 := Lib.hid hb2
  replace hps := Lib.hid hps
  clear ho2 c4 c5
  by_cases h0 : m.pl = 1
  · have h00 : (m.pl == 1) = true := by simpa using h0
    rw [h0] at c2
    by_cases hr : m.fall ≤ -m.row
    · have hT : turnS m false = { m with pl := 0, row := 0, turns := m.turns + 1 } := by
        have : turnsB m false = true := by unfold turnsB; rw [h0]; simpa using hr
        unfold turnS; rw [this, if_pos rfl, h0]; rfl
      replace hT := Lib.hid hT
      have f2 := fr 2
      have f3 := fr 3
      have f6 := fr 6
      clear h0 fr
      go_wp2_with fail
      go_quiet (fail)
      go_wp2
      go_ret
      have hb3 : (w2.drewN nq).heap[b]? = some (blk m) := hb2.out
      exact ⟨rfl, by rw [hps.out, hT.out]; exact heap_set _ (heap_set _ (heap_set _ hb3)), ho.out.trans ((Only.drewN _ _ _).trans ((Only.setCell _ _ _ _).trans ((Only.setCell _ _ _ _).trans (Only.setCell _ _ _ _))))⟩
    · have hT : turnS m false = m := by
        have : turnsB m false = false := by unfold turnsB; rw [h0]; simpa using hr
        unfold turnS; rw [this]; rfl
      replace hT := Lib.hid hT
      clear h0 fr
      go_wp2_with fail
      go_quiet (fail)
      go_wp2
      go_ret
      exact ⟨rfl, by rw [hps.out, hT.out]; exact hb2.out, ho.out.trans (Only.drewN _ _ _)⟩
  · have h00 : (m.pl == 1) = false := by simpa using h0
    have h1 : m.pl = 0 := by omega
    have hT : turnS m false = m := by
      have : turnsB m false = false := by unfold turnsB; rw [h1]; rfl
      unfold turnS; rw [this]; rfl
    replace hT := Lib.hid hT
    rw [h1] at c2
    clear h0 h1 fr
    go_wp2_with fail
    go_quiet (fail)
    go_wp2
    go_ret
    exact ⟨rfl, by rw [hps.out, hT.out]; exact hb2.out, ho.out.trans (Only.drewN _ _ _)⟩
theorem probe_any (b : Nat) (s : St) (ok : Bool) (t : Nat) (n : Int) (w : World) (hb : w.heap[b]? = some (blk s)) (ht : t < 18446744073709551616) (hok : Ok s n) (hn : n ≤ 100000000) :
    Calls Try.prog 13 #[.pointer (some ⟨b, 0, none⟩), .bool ok, .float .f64 t] w (ProbePost b s ok t w) := by
  cases ok
  · exact probe_down b s t n w hb ht hok hn
  · exact probe_up b s t n w hb ht hok hn

/-! ### What a state tells -/
theorem healthy_nil (w : World) : Calls Try.prog 11 #[.pointer none] w fun e w' => e = .returned (.bool false) ∧ w = w' := by
  go_enter Try.func11, Try.ntmps11
  go_wp2
  go_ret
  exact ⟨rfl, rfl⟩
theorem healthy_any (b : Nat) (s : St) (w : World) (hb : w.heap[b]? = some (blk s)) : Calls Try.prog 11 #[.pointer (some ⟨b, 0, none⟩)] w fun e w' => e = .returned (.bool (s.pl == 1)) ∧ w = w' := by
  obtain ⟨c0, c1, c2, c3, c4, c5, c6, fr⟩ := cells_of hb
  clear c0 c1 c3 c4 c5 c6 fr hb
  go_enter Try.func11, Try.ntmps11
  go_wp2
  go_ret
  exact ⟨rfl, rfl⟩
theorem row_nil (w : World) : Calls Try.prog 14 #[.pointer none] w fun e w' => e = .returned (.int .i64 0) ∧ w = w' := by
  go_enter Try.func14, Try.ntmps14
  go_wp2
  go_ret
  exact ⟨rfl, rfl⟩
theorem row_any (b : Nat) (s : St) (w : World) (hb : w.heap[b]? = some (blk s)) : Calls Try.prog 14 #[.pointer (some ⟨b, 0, none⟩)] w fun e w' => e = .returned (.int .i64 s.row) ∧ w = w' := by
  obtain ⟨c0, c1, c2, c3, c4, c5, c6, fr⟩ := cells_of hb
  clear c0 c1 c2 c4 c5 c6 fr hb
  go_enter Try.func14, Try.ntmps14
  go_wp2
  go_ret
  exact ⟨rfl, rfl⟩
theorem took_nil (w : World) : Calls Try.prog 15 #[.pointer none] w fun e w' => e = .returned (.float .f64 0) ∧ w = w' := by
  go_enter Try.func15, Try.ntmps15
  go_wp2
  go_ret
  exact ⟨rfl, rfl⟩
theorem took_any (b : Nat) (s : St) (w : World) (hb : w.heap[b]? = some (blk s)) : Calls Try.prog 15 #[.pointer (some ⟨b, 0, none⟩)] w fun e w' => e = .returned (.float .f64 s.took) ∧ w = w' := by
  obtain ⟨c0, c1, c2, c3, c4, c5, c6, fr⟩ := cells_of hb
  clear c0 c1 c2 c3 c5 c6 fr hb
  go_enter Try.func15, Try.ntmps15
  go_wp2
  go_ret
  exact ⟨rfl, rfl⟩
theorem timed_nil (w : World) : Calls Try.prog 16 #[.pointer none] w fun e w' => e = .returned (.int .i64 0) ∧ w = w' := by
  go_enter Try.func16, Try.ntmps16
  go_wp2
  go_ret
  exact ⟨rfl, rfl⟩
theorem timed_any (b : Nat) (s : St) (w : World) (hb : w.heap[b]? = some (blk s)) : Calls Try.prog 16 #[.pointer (some ⟨b, 0, none⟩)] w fun e w' => e = .returned (.int .i64 s.timed) ∧ w = w' := by
  obtain ⟨c0, c1, c2, c3, c4, c5, c6, fr⟩ := cells_of hb
  clear c0 c1 c2 c3 c4 c6 fr hb
  go_enter Try.func16, Try.ntmps16
  go_wp2
  go_ret
  exact ⟨rfl, rfl⟩
theorem turns_nil (w : World) : Calls Try.prog 12 #[.pointer none] w fun e w' => e = .returned (.int .i64 0) ∧ w = w' := by
  go_enter Try.func12, Try.ntmps12
  go_wp2
  go_ret
  exact ⟨rfl, rfl⟩
theorem turns_any (b : Nat) (s : St) (w : World) (hb : w.heap[b]? = some (blk s)) : Calls Try.prog 12 #[.pointer (some ⟨b, 0, none⟩)] w fun e w' => e = .returned (.int .i64 s.turns) ∧ w = w' := by
  obtain ⟨c0, c1, c2, c3, c4, c5, c6, fr⟩ := cells_of hb
  clear c0 c1 c2 c3 c4 c5 fr hb
  go_enter Try.func12, Try.ntmps12
  go_wp2
  go_ret
  exact ⟨rfl, rfl⟩
end Go.Proofs.Yteedjgkinmkmoaa
