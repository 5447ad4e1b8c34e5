/- own: tokens in memory of their own, a mark behind them. -/
import Derived.Test.YtcnjmkjfgghgoaaZt9
section

namespace Go.Proofs.Ytcnjmkjfgghgoaa
open Go.RowKit Go.Mp Go.Tr
set_option linter.unusedVariables false
set_option maxRecDepth 100000
set_option maxHeartbeats 1000000
def tc (t : Tok) : List Value := [.int .i64 t.kind, .int .i64 t.line, .int .i64 t.col, .string t.text, .bool t.quoted]
def tcs (l : List Tok) : List Value := l.flatMap tc
theorem tcs_length (l : List Tok) : (tcs l).length = l.length * 5 := by
  induction l with
  | nil => rfl
  | cons x l ih => simp only [tcs, List.flatMap_cons, List.length_append, List.length_cons] at ih ⊢; simp only [tc, List.length_cons, List.length_nil]; omega
theorem tcs_snoc (l : List Tok) (t : Tok) : tcs (l ++ [t]) = tcs l ++ tc t := by simp [tcs, List.flatMap_append]
theorem tcs_at {l : List Tok} {i : Nat} {t : Tok} (hx : l[i]? = some t) (j : Nat) (hj : j < 5) : (tcs l)[i * 5 + j]? = (tc t)[j]? := by
  induction l generalizing i with
  | nil => simp at hx
  | cons a l ih =>
    have e : tcs (a :: l) = tc a ++ tcs l := rfl
    have la : (tc a).length = 5 := rfl
    cases i with
    | zero =>
      simp at hx; subst hx
      rw [e, List.getElem?_append_left (by rw [la]; omega)]
      simp
    | succ i =>
      simp at hx
      rw [e, List.getElem?_append_right (by rw [la]; omega), ← ih hx, la]
      congr 1
      omega
def mark : Tok := ⟨-77, 0, 0, ⟨#[]⟩, false⟩
/-- Tokens of our own, the mark behind them. -/
structure OwnM (w : World) (B gb cap : Nat) (l : List Tok) : Prop where
  row : w.ownsRow B 39 5 (.slice (some ⟨gb, 0, none⟩) (l.length + 1) cap) (l.length + 1) (tcs (l ++ [mark]))
theorem OwnM.cells {w : World} {B gb cap : Nat} {l : List Tok} (h : OwnM w B gb cap l) {i : Nat} {t : Tok} (ht : (l ++ [mark])[i]? = some t) (j : Nat) (u : Value) (hj : j < 5) (hu : (tc t)[j]? = some u) : w.cell? ⟨gb, i * 5 + j, none⟩ = some u ∧ w.frozen? ⟨gb, i * 5 + j, none⟩ = false := by
  obtain ⟨g, e, _, _, c, f⟩ := ownsRow_cell h.row (j := i * 5 + j) (u := u) (by rw [tcs_at ht j hj, hu])
  cases e
  exact ⟨c, f⟩
theorem OwnM.cap {w : World} {B gb cap : Nat} {l : List Tok} (h : OwnM w B gb cap l) : l.length + 1 ≤ cap := by
  obtain ⟨g, e, _, hc, _⟩ := ownsRow_cell h.row (j := l.length * 5 + 0) (u := .int .i64 (-77)) (by rw [tcs_at (t := mark) (by simp) 0 (by omega)]; rfl)
  exact hc
theorem OwnM.lt {w : World} {B gb cap : Nat} {l : List Tok} (h : OwnM w B gb cap l) : B ≤ gb ∧ gb < w.heap.size := ownsRow_ge h.row rfl
theorem OwnM.tok {w : World} {B gb cap : Nat} {l : List Tok} (h : OwnM w B gb cap l) : TokV w gb (.slice (some ⟨gb, 0, none⟩) l.length cap) l := by
  have hc := h.cap
  refine ⟨⟨_, cap, rfl, fun i t ht => ⟨0, rfl, ?_⟩⟩, _, cap, rfl, by omega⟩
  have ht' : (l ++ [mark])[i]? = some t := by rw [List.getElem?_append_left (List.getElem?_eq_some_iff.1 ht).1]; exact ht
  simp only [Nat.zero_add]
  exact ⟨(h.cells ht' 0 _ (by omega) rfl).1, (h.cells ht' 1 _ (by omega) rfl).1, (h.cells ht' 2 _ (by omega) rfl).1, (h.cells ht' 3 _ (by omega) rfl).1, (h.cells ht' 4 _ (by omega) rfl).1⟩
theorem OwnM.tch {S : Nat → Prop} {w w' : World} {B gb cap : Nat} {l : List Tok} (h : OwnM w B gb cap l) (t : Tch S w w') (hn : ¬ S gb) : OwnM w' B gb cap l := ⟨ownsRow_tch h.row t (fun g hg => by cases hg; exact hn)⟩
theorem info39 : (Try.prog.info? 39).map (fun i => (i.zero, i.size, i.bytes)) = some (some (.agg #[.int .i64 0, .int .i64 0, .int .i64 0, .string ⟨#[]⟩, .bool false]), 5, 48) := by kernel_rfl
theorem nn_own {i n : Nat} (h : i ≤ n) (hn : n < 2932031007400) : i + 1 ≤ maxLen ∧ (i + 1) * 48 ≤ 140737488355328 := by unfold maxLen; omega
theorem five_keep {w w7 : World} {row : Option Nat} {kb o0 o1 o2 o3 o4 : Nat} {x0 x1 x2 x3 x4 : Value} (hg : w.grownBy w7 row) (hn : row ≠ some kb) (hl : kb < w.heap.size) (h0 : w.cell? ⟨kb, o0, none⟩ = some x0) (h1 : w.cell? ⟨kb, o1, none⟩ = some x1) (h2 : w.cell? ⟨kb, o2, none⟩ = some x2) (h3 : w.cell? ⟨kb, o3, none⟩ = some x3) (h4 : w.cell? ⟨kb, o4, none⟩ = some x4) :
    w7.cell? ⟨kb, o0, none⟩ = some x0 ∧ w7.cell? ⟨kb, o1, none⟩ = some x1 ∧ w7.cell? ⟨kb, o2, none⟩ = some x2 ∧ w7.cell? ⟨kb, o3, none⟩ = some x3 ∧ w7.cell? ⟨kb, o4, none⟩ = some x4 := by
  have t : Tch (fun k => row = some k) w w7 := Tch.grown hg (fun k hk => .inl hk)
  exact ⟨t.cell_some h0 hn, t.cell_some h1 hn, t.cell_some h2 hn, t.cell_some h3 hn, t.cell_some h4 hn⟩
theorem own_any {w : World} {kb : Nat} {lv : Value} {l : List Tok} (tk : TokS w kb lv l) (hk : kb < w.heap.size ∨ l = []) (hll : l.length < 2932031007400) :
    Calls Try.prog 9 #[lv] w fun e w' => ∃ gb cap, e = .returned (.slice (some ⟨gb, 0, none⟩) l.length cap) ∧ OwnM w' w.heap.size gb cap l ∧ Tch No w w' := by
  obtain ⟨ao, cp, rfl, _⟩ := id tk
  obtain ⟨i0, hi, hz0, hz1, hz2⟩ := info_parts info39
  replace hi := Lib.hid hi
  replace hz0 := Lib.hid hz0
  replace hz1 := Lib.hid hz1
  replace hz2 := Lib.hid hz2
  replace tk := Lib.hid tk
  replace hk := Lib.hid hk
  replace hll := Lib.hid hll
  go_enter Try.func9, Try.ntmps9
  go_wp2
  go_loopg [3, 4] (l.length + 1) (fun gg ov iv wr => ∃ i : Nat, gg = l.length - i + 1 ∧ iv = .int .i64 i ∧ i ≤ l.length ∧ wr.ownsRow w.heap.size 39 5 ov i (tcs (l.take i)) ∧ Tch No w wr)
  case atStart => exact ⟨0, rfl, rfl, Nat.zero_le _, World.ownsRow_nil _ _ _ _, Tch.refl _ _⟩
  case round =>
    obtain ⟨i, rfl, rfl, hil, hrow, tr⟩ := hrel
    obtain ⟨oo, oc, rfl⟩ := ownsRow_shape hrow
    by_cases hlt : i < l.length
    · have k0 := nn_lt hlt
      have hx := List.getElem?_eq_getElem hlt
      have hts : l.take (i + 1) = l.take i ++ [l[i]] := by rw [List.take_succ_eq_append_getElem hlt]
      generalize l[i] = t at *
      have hkw : kb < w.heap.size := by rcases hk.out with h | h; exact h; rw [h] at hx; simp at hx
      have tkr := tk.out.keep (tr.block kb hkw id)
      obtain ⟨off, rfl, _, d0, d1, d2, d3, d4⟩ := tkr.at hx
      have hwk := nn_succ hlt (Nat.lt_trans hll.out (by decide))
      have hB := Lib.hid (show w.heap.size ≤ wr.drew.heap.size from tr.size)
      have hrowd := Lib.hid (ownsRow_tch hrow (Tch.drew No wr) (fun _ _ h => h))
      have hnk := Lib.hid (show (Value.slice oo i oc).ownBlock ≠ some kb from fun e => by have := (ownsRow_ge hrow e).1; omega)
      have hkr := Lib.hid (show kb < wr.drew.heap.size from Nat.lt_of_lt_of_le hkw tr.size)
      replace hrow := Lib.hid hrow
      replace tkr := Lib.hid tkr
      replace hx := Lib.hid hx
      replace hts := Lib.hid hts
      replace tr := Lib.hid tr
      replace hil := Lib.hid hil
      replace hkw := Lib.hid hkw
      go_upto_region 5 with fail
      go_region_held3 (fun w' => w'.cell? ⟨kb, off + i * 5, none⟩ = some (.int .i64 t.kind) ∧ w'.cell? ⟨kb, off + i * 5 + 1, none⟩ = some (.int .i64 t.line) ∧ w'.cell? ⟨kb, off + i * 5 + 2, none⟩ = some (.int .i64 t.col) ∧ w'.cell? ⟨kb, off + i * 5 + 3, none⟩ = some (.string t.text) ∧ w'.cell? ⟨kb, off + i * 5 + 4, none⟩ = some (.bool t.quoted)) (first | go_keep | exact five_keep hg7.out hnk.out hkr.out d0 d1 d2 d3 d4 | fail)
        ((refine step_append_us (by rfl) _ _ 23 (by rfl) w.heap.size 39 i0 (.agg #[.int .i64 0, .int .i64 0, .int .i64 0, .string ⟨#[]⟩, .bool false]) 5 48 Try.underlying23 hi.out hz0.out hz1.out hz2.out rfl (by decide) _ i _ (by rfl) hrowd.out 1 (by rfl) rfl (by simp [Value.oneCell']) (nn_own hil.out hll.out).1 (nn_own hil.out hll.out).2 hB.out ?_; intro v7 w7 hr7 hg7 hl7; replace hr7 := Lib.hid hr7; replace hg7 := Lib.hid hg7; replace hl7 := Lib.hid hl7))
      have t7 : Tch (fun k => (Value.slice oo i oc).ownBlock = some k) wr w7 := (Tch.drew _ wr).trans (Tch.grown hg7.out (fun k hk => .inl hk)) (fun _ h => .inl h)
      have hw0 : ∀ k, (Value.slice oo i oc).ownBlock = some k → w.heap.size ≤ k := fun k hk => (ownsRow_ge hrow.out hk).1
      replace t7 := Lib.hid t7
      replace hw0 := Lib.hid hw0
      go_wp2
      go_roundg (l.length - (i + 1) + 1)
      case rel => exact ⟨i + 1, rfl, by rw [nn_cast], hlt, by rw [hts.out, tcs_snoc]; exact hr7.out, tr.out.trans t7.out (fun k hk => .inr (hw0.out k hk))⟩
      case measure => exact Nat.succ_lt_succ (nn_sub hlt)
    · have k0 := nn_ge hlt
      have k1 : decide (i < l.length) = false := decide_eq_false hlt
      have e : i = l.length := nn_eq hil hlt
      rw [e, List.take_of_length_le (Nat.le_refl _)] at hrow
      subst e
      have hB := Lib.hid (show w.heap.size ≤ wr.heap.size from tr.size)
      have hw0 : ∀ k, (Value.slice oo l.length oc).ownBlock = some k → w.heap.size ≤ k := fun k hk => (ownsRow_ge hrow hk).1
      replace hrow := Lib.hid hrow
      replace tr := Lib.hid tr
      replace hlt := Lib.hid hlt
      replace hil := Lib.hid hil
      replace hw0 := Lib.hid hw0
      go_upto_region 7 with (first
        | (at_builtin; refine wp_append_us rfl _ _ 23 (by rfl) w.heap.size 39 i0 (.agg #[.int .i64 0, .int .i64 0, .int .i64 0, .string ⟨#[]⟩, .bool false]) 5 48 Try.underlying23 hi.out hz0.out hz1.out hz2.out rfl (by decide) _ l.length _ (by rfl) hrow.out 1 (by rfl) rfl (by simp [Value.oneCell']) (nn_own (Nat.le_refl _) hll.out).1 (nn_own (Nat.le_refl _) hll.out).2 hB.out ?_; intro v7 w7 hr7 hg7 hl7; obtain ⟨po, pc, rfl⟩ := ownsRow_shape hr7; replace hr7 := Lib.hid hr7; replace hg7 := Lib.hid hg7; replace hl7 := Lib.hid hl7)
        | fail)
      have t7 : Tch (fun k => (Value.slice oo l.length oc).ownBlock = some k) wr w7 := Tch.grown hg7.out (fun k hk => .inl hk)
      obtain ⟨g, rfl, _, hcap, _⟩ := ownsRow_cell hr7.out (j := l.length * 5 + 0) (u := .int .i64 (-77)) (by rw [List.getElem?_append_right (by rw [tcs_length]; omega), tcs_length]; simp)
      have hO : OwnM w7 w.heap.size g pc l := ⟨by rw [tcs_snoc]; exact hr7.out⟩
      have hlc : (l.length : Int) ≤ (pc : Int) := by omega
      replace hcap := Lib.hid hcap
      replace hO := Lib.hid hO
      replace t7 := Lib.hid t7
      go_wp2
      go_ret
      exact ⟨g, pc, rfl, hO.out, tr.out.trans t7.out (fun k hk => .inr (hw0.out k hk))⟩
end Go.Proofs.Ytcnjmkjfgghgoaa
end
