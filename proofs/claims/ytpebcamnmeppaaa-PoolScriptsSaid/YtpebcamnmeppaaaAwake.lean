/- A pool among other memory; the law's own 'awake' and 'in'. -/
import Derived.Test.YtpebcamnmeppaaaExpire
import Derived.Test.YtpebcamnmeppaaaYoung
import Derived.Test.YtpebcamnmeppaaaRd
namespace Go.Proofs.Ytpebcamnmeppaaa
open Go.RowKit Go.Mp Go.Po
set_option linter.unusedVariables false
theorem PoolM.base {w : World} {B B' : Nat} {F : Nat → Prop} {p n : Nat} {s : St} (h : PoolM w B F p s n) (hb : B' ≤ B) : PoolM w B' F p s n := by
  obtain ⟨bc, bk, blk, turn, turns, g, f, h1, h2⟩ := h
  exact ⟨bc, bk, blk, turn, turns, g, f, ⟨h1.hp, h1.conns, h1.fsome, h1.fnone, h1.counts, h1.gs, h1.busy, h1.free, h1.ne, h1.inj, h1.own, fun k hk => ⟨Nat.le_trans hb (h1.lt k hk).1, (h1.lt k hk).2⟩, h1.ord, h1.tl, h1.inv, h1.t0⟩, h2⟩
def Live (w0 w : World) (F : Nat → Prop) (p : Nat) (s : St) (n : Nat) : Prop := PoolM w w0.heap.size F p s n ∧ Below w0.heap.size w0 w
theorem tch_below {w0 w w' : World} {F : Nat → Prop} {p n : Nat} {s : St} (h : Live w0 w F p s n) (t : Tch F w w') : Below w0.heap.size w0 w' := t.below h.2 h.2.size (fun k hk => (h.1.lt k hk).1)
theorem live_post {w0 w w' : World} {F : Nat → Prop} {p n n' : Nat} {s s' : St} (h : Live w0 w F p s n) (hp : Post w w0.heap.size F p s' n' w') : ∃ F', Live w0 w' F' p s' n' ∧ Tch F w w' ∧ ∀ k, F' k → F k ∨ w.heap.size ≤ k := by
  obtain ⟨F', h1, h2, h3⟩ := hp
  exact ⟨F', ⟨h1, tch_below h h2⟩, h2, h3⟩
theorem Live.same {w0 w w' : World} {F : Nat → Prop} {p n : Nat} {s : St} (h : Live w0 w F p s n) (t : Tch No w w') : Live w0 w' F p s n := ⟨h.1.tch t (fun _ _ h => h), t.below h.2 h.2.size (fun _ h => h.elim)⟩
/-! ### a slice of numbers, as it reads -/
def RI (w : World) (v : Value) (l : List Int) : Prop := ∃ ao cap, v = .slice ao l.length cap ∧ ∀ i x, l[i]? = some x → ∃ b off, ao = some ⟨b, off, none⟩ ∧ w.cell? ⟨b, off + i, none⟩ = some (.int .i64 x)
theorem ri_own {w : World} {base : Nat} {v : Value} {l : List Int} (h : w.ownsRow base 3 1 v l.length (icells l)) : RI w v l := by
  rcases h.2 with ⟨rfl, h0⟩ | ⟨g, cap, cur, rfl, hb, hg, r⟩
  · have : l = [] := List.eq_nil_of_length_eq_zero h0
    subst this
    exact ⟨none, 0, rfl, fun i x hx => by simp at hx⟩
  · refine ⟨_, cap, rfl, fun i x hx => ⟨g, 0, rfl, ?_⟩⟩
    have hi := (List.getElem?_eq_some_iff.1 hx).1
    rw [Nat.zero_add, h.cellAt i (by omega)]
    simp [icells, hx]
theorem ri_arg {w w' : World} {v : Value} {l : List Int} (h : Rd.SliceOf Rd.int w v l) (hb : Below w.heap.size w w') : RI w' v l := by
  obtain ⟨_, ao, cap, rfl, h⟩ := h
  refine ⟨ao, cap, rfl, fun i x hx => ?_⟩
  rcases h with rfl | ⟨b, off, rfl, hlt, h⟩
  · simp at hx
  · have := (h i x hx).1
    simp only [Rd.cellsAt, Rd.int, Nat.mul_one, Nat.add_zero] at this
    exact ⟨b, off, rfl, (hb.cell (by exact hlt)).trans this⟩
theorem in_any {w : World} {v : Value} {l : List Int} (h : RI w v l) (hl : l.length < 4611686018427387904) (n : Int) : Calls Try.prog 12 #[v, .int .i64 n] w fun e w' => e = .returned (.bool (decide (n ∈ l))) ∧ w = w' := by
  obtain ⟨ao, cap, rfl, hc⟩ := h
  replace hc := Lib.hid hc
  go_enter Try.func12, Try.ntmps12
  go_wp2
  go_loopg [5] l.length (fun gg kc wr => ∃ k : Nat, k ≤ l.length ∧ gg = l.length - k ∧ kc = .int .i64 k ∧ w = wr ∧ n ∉ l.take k)
  case atStart => exact ⟨0, by omega, by omega, rfl, rfl, by simp⟩
  case round =>
    obtain ⟨k, hk, rfl, rfl, rfl, hn⟩ := hrel
    by_cases hkl : k < l.length
    · have hx := List.getElem?_eq_getElem hkl
      obtain ⟨b, off, rfl, hcell⟩ := hc.out k _ hx
      have k0 : (k : Int) < (l.length : Int) := by omega
      have hwk : wrap64 ((k : Int) + 1) = ((k + 1 : Nat) : Int) := by unfold wrap64; omega
      have hstep : l.take (k + 1) = l.take k ++ [l[k]] := by rw [List.take_add_one, hx]; rfl
      have hmem : l[k] ∈ l := List.getElem_mem hkl
      generalize l[k] = x at *
      by_cases hxn : x = n
      · subst hxn
        have hd : decide (x ∈ l) = true := decide_eq_true hmem
        replace hx := Lib.hid hx
        replace hn := Lib.hid hn
        replace hstep := Lib.hid hstep
        go_wp2
        go_ret
        rw [hd]
        exact ⟨rfl, rfl⟩
      · have k1 : (x == n) = false := by rw [beq_eq_false_iff_ne]; exact hxn
        replace hx := Lib.hid hx
        have hn' := Lib.hid (show n ∉ l.take (k + 1) by rw [hstep, List.mem_append, List.mem_singleton]; exact fun h => h.elim hn (fun h => hxn h.symm))
        replace hn := Lib.hid hn
        replace hstep := Lib.hid hstep
        go_wp2
        go_roundg (l.length - (k + 1))
        case rel => exact ⟨k + 1, by omega, rfl, rfl, rfl, hn'.out⟩
        case measure => omega
    · have hke : k = l.length := by omega
      have k0 : decide ((k : Int) < (l.length : Int)) = false := decide_eq_false (by omega)
      have hd : decide (n ∈ l) = false := decide_eq_false (by rw [hke, List.take_length] at hn; exact hn)
      replace hn := Lib.hid hn
      go_wp2
      go_ret
      rw [hd]
      exact ⟨rfl, rfl⟩
/-! ### awake -/
abbrev ea : ByteArray := ⟨#[97]⟩
theorem a1 : take (St0 1 5) ea = ((-1, true, 0), ⟨1, 5, [], [], [ea]⟩) := rfl
theorem a2 : dial ⟨1, 5, [], [], [ea]⟩ ea 7 = (0, ⟨1, 5, [⟨7, ea, 0⟩], [], []⟩) := by
  have h2 : ¬ hasId ⟨1, 5, [], [], [ea]⟩ 7 := by rintro ⟨c, hc, _⟩; cases hc
  unfold dial
  rw [if_neg (by simp only [not_or]; exact ⟨by decide +kernel, by decide, h2⟩)]
  rfl
theorem a3 : take ⟨1, 5, [⟨7, ea, 0⟩], [], []⟩ ea = ((-1, false, 260), ⟨1, 5, [⟨7, ea, 0⟩], [], []⟩) := rfl
theorem a4 : put ⟨1, 5, [⟨7, ea, 0⟩], [], []⟩ 7 0 = (0, ⟨1, 5, [], [⟨7, ea, 0⟩], []⟩) := rfl
theorem a5 : take ⟨1, 5, [], [⟨7, ea, 0⟩], []⟩ ea = ((7, false, 0), ⟨1, 5, [⟨7, ea, 0⟩], [], []⟩) := rfl
theorem awake_any (w : World) : Calls Try.prog 6 #[] w fun e w' => e = .returned (.bool true) ∧ Below w.heap.size w w' := by
  have h0 := new_any (w := w) 1 5 ⟨by omega, by omega, by omega, by omega⟩
  go_enter Try.func6, Try.ntmps6
  go_wp2_with (first
    | (go_at_call 7; refine h0.mono ?_; clear h0; rintro _ w1 ⟨p, F, rfl, hP, hB⟩; have hL := Lib.hid (show Live w w1 F p _ 0 from ⟨hP, hB⟩); have hA := take_any hP ea; rw [a1] at hA; dsimp only at hA; clear hP hB)
    | (go_at_call 8; have t1 := hA; refine hA.mono ?_; clear hA t1; rintro _ w2 ⟨rfl, hP⟩; obtain ⟨F2, hL2, _⟩ := live_post hL.out hP; have hD := dial_any hL2.1 ea 7 (by omega) hL2.2.size; rw [a2] at hD; dsimp only at hD; replace hL := Lib.hid hL2; clear hP hL2)
    | (go_at_call 9; have t1 := hD; refine hD.mono ?_; clear hD t1; rintro _ w3 ⟨rfl, hP⟩; obtain ⟨F3, hL3, _⟩ := live_post hL.out hP; have hE := take_any hL3.1 ea; rw [a3] at hE; dsimp only at hE; replace hL := Lib.hid hL3; clear hP hL3)
    | (go_at_call 8; have t1 := hE; refine hE.mono ?_; clear hE t1; rintro _ w4 ⟨rfl, hP⟩; obtain ⟨F4, hL4, _⟩ := live_post hL.out hP; have hG := put_any hL4.1 7 0 (by omega) (by omega); rw [a4] at hG; dsimp only at hG; replace hL := Lib.hid hL4; clear hP hL4)
    | (go_at_call 10; have t1 := hG; refine hG.mono ?_; clear hG t1; rintro _ w5 ⟨rfl, hP⟩; obtain ⟨F5, hL5, _⟩ := live_post hL.out hP; have hH := take_any hL5.1 ea; rw [a5] at hH; dsimp only at hH; replace hL := Lib.hid hL5; clear hP hL5)
    | (go_at_call 8; have t1 := hH; refine hH.mono ?_; clear hH t1; rintro _ w6 ⟨rfl, hP⟩; obtain ⟨F6, hL6, _⟩ := live_post hL.out hP; replace hL := Lib.hid hL6; clear hP hL6)
    | fail)
  go_ret
  exact ⟨rfl, hL.out.2⟩
end Go.Proofs.Ytpebcamnmeppaaa
