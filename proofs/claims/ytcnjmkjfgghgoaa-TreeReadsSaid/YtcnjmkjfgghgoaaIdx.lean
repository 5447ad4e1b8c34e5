/- slices.IndexFunc at tree.Of's own test: where the first Doc stands. -/
import Derived.Test.YtcnjmkjfgghgoaaList
namespace Go.Tr
/-- How many tokens stand ahead of the first Doc. -/
def upDoc : List Tok → Nat
  | [] => 0
  | t :: r => if t.kind = 1 then 0 else upDoc r + 1
theorem upDoc_le (l : List Tok) : upDoc l ≤ l.length := by
  induction l with
  | nil => exact Nat.le_refl _
  | cons t r ih => unfold upDoc; split <;> simp; omega
theorem upDoc_lt {l : List Tok} {i : Nat} {t : Tok} (h : l[i]? = some t) (hi : i < upDoc l) : t.kind ≠ 1 := by
  induction l generalizing i with
  | nil => simp at h
  | cons a r ih =>
    unfold upDoc at hi
    split at hi
    · omega
    · rename_i hk
      cases i with
      | zero => simp at h; subst h; exact hk
      | succ i => simp at h; exact ih h (by omega)
theorem upDoc_at {l : List Tok} {t : Tok} (h : l[upDoc l]? = some t) : t.kind = 1 := by
  induction l with
  | nil => simp at h
  | cons a r ih =>
    unfold upDoc at h
    split at h
    · rename_i hk; simp at h; subst h; exact hk
    · simp at h; exact ih h
theorem upDoc_is {l : List Tok} {i : Nat} {t : Tok} (h : l[i]? = some t) (hk : t.kind = 1) (hi : i ≤ upDoc l) : i = upDoc l := by
  by_cases h2 : i < upDoc l
  · exact absurd hk (upDoc_lt h h2)
  · omega
theorem upDoc_past {l : List Tok} {i : Nat} {t : Tok} (h : l[i]? = some t) (hk : t.kind ≠ 1) (hi : i ≤ upDoc l) : i + 1 ≤ upDoc l := by
  rcases Nat.lt_or_ge i (upDoc l) with h2 | h2
  · exact h2
  · have : i = upDoc l := by omega
    subst this
    exact absurd (upDoc_at h) hk
end Go.Tr
namespace Go.Proofs.Ytcnjmkjfgghgoaa
open Go.RowKit Go.Mp Go.Tr
set_option linter.unusedVariables false
set_option maxRecDepth 20000
theorem isdoc_any (w : World) (t : Tok) : Calls Try.prog 33 #[tokA t] w fun e w' => e = .returned (.bool (t.kind == 1)) ∧ Tch No w w' := by
  obtain ⟨w1, hw1⟩ : ∃ w1, w1 = w.alloc (tokO t 39) := ⟨_, rfl⟩
  have t1 : Tch No w w1 := by rw [hw1]; exact Tch.alloc No w _
  obtain ⟨cb, hcb⟩ : ∃ cb, cb = w.heap.size := ⟨_, rfl⟩
  have hc1 : w1.heap[cb]? = some (tokO t 39) := by rw [hw1, hcb]; exact heap_alloc_new w _
  have c0 := (tokO_cells hc1).1
  replace hc1 := Lib.hid hc1
  replace t1 := Lib.hid t1
  go_enter Try.func33, Try.ntmps33
  go_upto_region 1 with fail
  rw [show (w.alloc (tokO t 39)) = w1 from hw1.symm, ← hcb]
  replace hw1 := Lib.hid hw1
  replace hcb := Lib.hid hcb
  go_wp2
  go_ret
  exact ⟨rfl, t1.out⟩
def idxV (l : List Tok) : Int := if upDoc l < l.length then (upDoc l : Int) else -1
theorem idxV_at {l : List Tok} {i : Nat} {t : Tok} (h : l[i]? = some t) (hk : (t.kind == 1) = true) (hi : i ≤ upDoc l) : idxV l = i := by
  have e := upDoc_is h (by simpa using hk) hi
  have := (List.getElem?_eq_some_iff.1 h).1
  unfold idxV; rw [if_pos (by omega), ← e]
theorem idxV_none {l : List Tok} {i : Nat} (h : ¬ i < l.length) (hi : i ≤ upDoc l) : idxV l = -1 := by
  unfold idxV; rw [if_neg (by omega)]
theorem index_any {w : World} {kb : Nat} {lv : Value} {l : List Tok} (tk : TokS w kb lv l) (hk : kb < w.heap.size) (hll : l.length < 4398046511104) :
    Calls Try.prog 32 #[lv, .func (.func 33) #[] #[]] w fun e w' => e = .returned (.int .i64 (idxV l)) ∧ Tch No w w' := by
  obtain ⟨ao, cap, rfl, _⟩ := id tk
  have hal := Lib.hid (upDoc_le l)
  replace tk := Lib.hid tk
  replace hk := Lib.hid hk
  go_enter Try.func32, Try.ntmps32
  go_wp2
  go_loopg [8] (l.length + 1) (fun gg iv wr => ∃ i : Nat, gg = l.length - i + 1 ∧ iv = .int .i64 i ∧ i ≤ upDoc l ∧ Tch No w wr)
  case atStart => exact ⟨0, rfl, rfl, Nat.zero_le _, Tch.refl _ _⟩
  case round =>
    obtain ⟨i, rfl, rfl, hi, tr⟩ := hrel
    by_cases hlt : i < l.length
    · have k0 := nn_lt hlt
      have hx := List.getElem?_eq_getElem hlt
      generalize l[i] = t at *
      have tkr := tk.out.keep (tr.block kb hk.out id)
      obtain ⟨off, rfl, _, d0, d1, d2, d3, d4⟩ := tkr.at hx
      have hC := Lib.hid (isdoc_any wr t)
      have hwk := nn_succ hlt (Nat.lt_trans hll (by decide))
      replace tkr := Lib.hid tkr
      replace hx := Lib.hid hx
      replace tr := Lib.hid tr
      replace hi := Lib.hid hi
      cases hkd : (t.kind == 1) with
      | true =>
        have hkd := Lib.hid hkd
        go_wp2_with (first
          | (go_at_call 33; refine hC.out.mono ?_; clear hC; rintro _ w2 ⟨rfl, t2⟩; rw [hkd.out]; replace t2 := Lib.hid t2)
          | fail)
        go_ret
        exact ⟨by rw [idxV_at hx.out hkd.out hi.out]; rfl, tr.out.trans t2.out (fun _ h => .inl h)⟩
      | false =>
        have hkd := Lib.hid hkd
        go_wp2_with (first
          | (go_at_call 33; refine hC.out.mono ?_; clear hC; rintro _ w2 ⟨rfl, t2⟩; rw [hkd.out]; replace t2 := Lib.hid t2)
          | fail)
        go_roundg (l.length - (i + 1) + 1)
        case rel => exact ⟨i + 1, rfl, by rw [nn_cast], upDoc_past hx.out (by simpa using hkd.out) hi.out, tr.out.trans t2.out (fun _ h => .inl h)⟩
        case measure => exact Nat.succ_lt_succ (nn_sub hlt)
    · have k0 := nn_ge hlt
      have k1 : decide (i < l.length) = false := decide_eq_false hlt
      have hv := Lib.hid (idxV_none hlt hi)
      replace tr := Lib.hid tr
      replace hi := Lib.hid hi
      replace hlt := Lib.hid hlt
      go_wp2
      go_ret
      exact ⟨by rw [hv.out]; rfl, tr.out⟩
end Go.Proofs.Ytcnjmkjfgghgoaa
