/- The walks of the comparisons: of numbers, of texts, and the first of three that is not nought. -/
import Derived.Test.YtndbnomhhfhdfaaTakes
namespace Go.Pa
theorem cmpL_self (a : Bs) : cmpL a a = 0 := by
  induction a with
  | nil => rfl
  | cons x r ih => unfold cmpL; rw [if_neg (by simp), if_neg (by simp)]; exact ih
theorem cmpL_vals (a b : Bs) : cmpL a b = -1 ∨ cmpL a b = 0 ∨ cmpL a b = 1 := by
  induction a generalizing b with
  | nil => cases b <;> simp [cmpL]
  | cons x r ih =>
    cases b with
    | nil => simp [cmpL]
    | cons y t =>
      unfold cmpL
      split
      · exact .inl rfl
      · split
        · exact .inr (.inr rfl)
        · exact ih t
theorem cmpL_zero {a b : Bs} (h : cmpL a b = 0) : a = b := by
  induction a generalizing b with
  | nil => cases b with
    | nil => rfl
    | cons y t => simp [cmpL] at h
  | cons x r ih =>
    cases b with
    | nil => simp [cmpL] at h
    | cons y t =>
      unfold cmpL at h
      split at h
      · simp at h
      · rename_i h1
        split at h
        · simp at h
        · rename_i h2
          have e : x = y := by
            have h1' : ¬ x.toNat < y.toNat := h1
            have h2' : ¬ y.toNat < x.toNat := h2
            exact UInt8.toNat_inj.1 (by omega)
          rw [e, ih h]
theorem less_iff (a b : Bs) : Op.bytesLess a b = decide (cmpL a b = -1) := by
  induction a generalizing b with
  | nil => cases b <;> simp [cmpL, Op.bytesLess]
  | cons x r ih =>
    cases b with
    | nil => simp [cmpL, Op.bytesLess]
    | cons y t =>
      unfold cmpL Op.bytesLess
      by_cases h1 : x < y
      · simp [h1]
      · rw [if_neg h1]
        by_cases h2 : y < x
        · rw [if_pos h2]
          have : (x == y) = false := by
            rw [beq_eq_false_iff_ne]; rintro rfl; exact absurd h2 (by simp)
          simp [h1, this]
        · rw [if_neg h2]
          have e : x = y := by
            have h1' : ¬ x.toNat < y.toNat := h1
            have h2' : ¬ y.toNat < x.toNat := h2
            exact UInt8.toNat_inj.1 (by omega)
          subst e
          simp [ih]
theorem cmpL_drop {a b : Bs} {k : Nat} (ha : k < a.length) (hb : k < b.length) : cmpL (a.drop k) (b.drop k) = if a.getD k 0 < b.getD k 0 then -1 else if b.getD k 0 < a.getD k 0 then 1 else cmpL (a.drop (k + 1)) (b.drop (k + 1)) := by
  rw [List.drop_eq_getElem_cons ha, List.drop_eq_getElem_cons hb]
  simp only [List.getD, List.getElem?_eq_getElem ha, List.getElem?_eq_getElem hb, Option.getD_some]
  rfl
theorem cmpL_end {a b : Bs} {k : Nat} (h : a.length ≤ k ∨ b.length ≤ k) (ha : k ≤ a.length) (hb : k ≤ b.length) : cmpL (a.drop k) (b.drop k) = if a.length < b.length then -1 else if b.length < a.length then 1 else 0 := by
  rcases h with h | h
  · have ea : a.drop k = [] := List.drop_eq_nil_iff.2 h
    rw [ea]
    cases hd : b.drop k with
    | nil =>
      have := List.drop_eq_nil_iff.1 hd
      rw [if_neg (by omega), if_neg (by omega)]; rfl
    | cons y t =>
      have : k < b.length := by
        rcases Nat.lt_or_ge k b.length with h2 | h2
        · exact h2
        · rw [List.drop_eq_nil_iff.2 h2] at hd; cases hd
      rw [if_pos (by omega)]; rfl
  · have eb : b.drop k = [] := List.drop_eq_nil_iff.2 h
    rw [eb]
    cases hd : a.drop k with
    | nil =>
      have := List.drop_eq_nil_iff.1 hd
      rw [if_neg (by omega), if_neg (by omega)]; rfl
    | cons y t =>
      have : k < a.length := by
        rcases Nat.lt_or_ge k a.length with h2 | h2
        · exact h2
        · rw [List.drop_eq_nil_iff.2 h2] at hd; cases hd
      rw [if_neg (by omega), if_pos (by omega)]; rfl
def or3 (x y z : Int) : Int := if x ≠ 0 then x else if y ≠ 0 then y else z
end Go.Pa
namespace Go.Proofs.Ytndbnomhhfhdfaa
open Go.ChangeShapes Go.WideShapes Go.ChangeAt Go.RowKit
open Go.Pa
set_option linter.unusedVariables false

theorem ret_i {a b : Int} (h : a = b) : Ending.returned (.int .i64 a) = Ending.returned (.int .i64 b) := by rw [h]
theorem cmpint48 (x y : Int) (w : World) : Calls Try.prog 48 #[.int .i64 x, .int .i64 y] w fun e w' => e = .returned (.int .i64 (cmpI x y)) ∧ w = w' := by
  rcases Int.lt_trichotomy x y with h | h | h
  · have hc : cmpI x y = -1 := by unfold cmpI; rw [if_pos h]
    have hx : (x != x) = false := by simp
    have hy : (y != y) = false := by simp
    rw [hc]; clear hc
    go_enter Try.func48, Try.ntmps48
    go_wp2
    go_ret
    exact ⟨rfl, rfl⟩
  · subst h
    have hc : cmpI x x = 0 := by unfold cmpI; rw [if_neg (by omega), if_neg (by omega)]
    have hx : (x != x) = false := by simp
    rw [hc]; clear hc
    go_enter Try.func48, Try.ntmps48
    go_wp2
    go_ret
    exact ⟨rfl, rfl⟩
  · have hc : cmpI x y = 1 := by unfold cmpI; rw [if_neg (by omega), if_pos h]
    have h2 : ¬ x < y := by omega
    have hx : (x != x) = false := by simp
    have hy : (y != y) = false := by simp
    rw [hc]; clear hc
    go_enter Try.func48, Try.ntmps48
    go_wp2
    go_ret
    exact ⟨rfl, rfl⟩
theorem cmpstr50 (a b : ByteArray) (w : World) : Calls Try.prog 50 #[.string a, .string b] w fun e w' => e = .returned (.int .i64 (cmpL a.data.toList b.data.toList)) ∧ w = w' := by
  have hl := less_iff a.data.toList b.data.toList
  have hq := eq_lists a b
  rw [← Lib.toList_data, ← Lib.toList_data] at hl
  have hxa : (a.toList == a.toList) = true := by simp
  have hxb : (b.toList == b.toList) = true := by simp
  rw [← Lib.toList_data, ← Lib.toList_data]
  rcases cmpL_vals a.toList b.toList with h | h | h
  · rw [h] at hl ⊢
    rw [show decide ((-1 : Int) = -1) = true from rfl] at hl
    clear hq h
    go_enter Try.func50, Try.ntmps50
    go_wp2
    go_ret
    exact ⟨rfl, rfl⟩
  · have he := cmpL_zero h
    rw [h] at hl ⊢
    rw [show decide ((0 : Int) = -1) = false from rfl] at hl
    have hq2 : (a.toList == b.toList) = true := by rw [he]; simp
    clear hq h he
    go_enter Try.func50, Try.ntmps50
    go_wp2
    go_ret
    exact ⟨rfl, rfl⟩
  · have hne : (a.toList == b.toList) = false := by
      rw [beq_eq_false_iff_ne]; intro he; rw [he, cmpL_self] at h; simp at h
    rw [h] at hl ⊢
    rw [show decide ((1 : Int) = -1) = false from rfl] at hl
    clear hq h
    go_enter Try.func50, Try.ntmps50
    go_wp2
    go_ret
    exact ⟨rfl, rfl⟩
theorem or49 (b : Nat) (x y z : Int) (w : World) (h0 : w.cell? ⟨b, 0, none⟩ = some (.int .i64 x)) (h1 : w.cell? ⟨b, 1, none⟩ = some (.int .i64 y)) (h2 : w.cell? ⟨b, 2, none⟩ = some (.int .i64 z)) :
    Calls Try.prog 49 #[.slice (some ⟨b, 0, none⟩) 3 3] w fun e w' => e = .returned (.int .i64 (or3 x y z)) ∧ w = w' := by
  by_cases hx : x = 0
  · by_cases hy : y = 0
    · by_cases hz : z = 0
      · have hr : or3 x y z = 0 := by unfold or3; rw [if_neg (by simp [hx]), if_neg (by simp [hy]), hz]
        rw [hr]
        rw [hx] at h0; rw [hy] at h1; rw [hz] at h2
        clear hx hy hz hr
        go_enter Try.func49, Try.ntmps49
        go_wp2
        refine wp_loop_rounds 4 ?_
        iterate 4
          rw [rounds_succ]
          go_wp2
        go_ret
        exact ⟨rfl, rfl⟩
      · have hr : or3 x y z = z := by unfold or3; rw [if_neg (by simp [hx]), if_neg (by simp [hy])]
        rw [hr]
        have e3 : (z != 0) = true := by simpa using hz
        rw [hx] at h0; rw [hy] at h1
        clear hx hy hz hr
        go_enter Try.func49, Try.ntmps49
        go_wp2
        refine wp_loop_rounds 4 ?_
        iterate 3
          rw [rounds_succ]
          go_wp2
        go_ret
        exact ⟨rfl, rfl⟩
    · have hr : or3 x y z = y := by unfold or3; rw [if_neg (by simp [hx]), if_pos hy]
      rw [hr]
      have e3 : (y != 0) = true := by simpa using hy
      rw [hx] at h0
      clear hx hy hr
      go_enter Try.func49, Try.ntmps49
      go_wp2
      refine wp_loop_rounds 4 ?_
      iterate 2
        rw [rounds_succ]
        go_wp2
      go_ret
      exact ⟨rfl, rfl⟩
  · have hr : or3 x y z = x := by unfold or3; rw [if_pos hx]
    rw [hr]
    have e3 : (x != 0) = true := by simpa using hx
    clear hx hr
    go_enter Try.func49, Try.ntmps49
    go_wp2
    refine wp_loop_rounds 4 ?_
    rw [rounds_succ]
    go_wp2
    go_ret
    exact ⟨rfl, rfl⟩
end Go.Proofs.Ytndbnomhhfhdfaa
