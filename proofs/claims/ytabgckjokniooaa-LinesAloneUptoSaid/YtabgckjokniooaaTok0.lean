/- Tokens in memory: five cells each. -/
import Derived.Test.YtabgckjokniooaaBase
import Derived.Test.YtabgckjokniooaaProg
namespace Go.Tr
open Go.RowKit
structure Tok where
  kind : Int
  line : Int
  col : Int
  text : ByteArray
  quoted : Bool
def zero : Tok := ⟨0, 0, 0, ⟨#[]⟩, false⟩
end Go.Tr
namespace Go.Proofs.Ytabgckjokniooaa
open Go.RowKit Go.Mp Go.Tr
set_option linter.unusedVariables false
set_option maxRecDepth 20000
abbrev tokA (t : Tok) : Value := .agg #[.int .i64 t.kind, .int .i64 t.line, .int .i64 t.col, .string t.text, .bool t.quoted]
abbrev tokO (t : Tok) (e : TypeId) : Obj := .cells #[.int .i64 t.kind, .int .i64 t.line, .int .i64 t.col, .string t.text, .bool t.quoted] e
theorem set5 {w : World} {cb : Nat} {e : TypeId} {x0 x1 x2 x3 x4 : Value} (h : w.heap[cb]? = some (.cells #[x0, x1, x2, x3, x4] e)) (y0 y1 y2 y3 y4 : Value) :
    (((((w.setCell ⟨cb, 0, none⟩ y0).setCell ⟨cb, 1, none⟩ y1).setCell ⟨cb, 2, none⟩ y2).setCell ⟨cb, 3, none⟩ y3).setCell ⟨cb, 4, none⟩ y4).heap[cb]? = some (.cells #[y0, y1, y2, y3, y4] e) ∧
    Tch (fun k => k = cb) w (((((w.setCell ⟨cb, 0, none⟩ y0).setCell ⟨cb, 1, none⟩ y1).setCell ⟨cb, 2, none⟩ y2).setCell ⟨cb, 3, none⟩ y3).setCell ⟨cb, 4, none⟩ y4) := by
  refine ⟨by simp [World.setCell, Array.getElem?_modify, h], ?_⟩
  exact ((((Tch.setCell (S := fun k => k = cb) w (p := ⟨cb, 0, none⟩) rfl y0).trans (Tch.setCell (S := fun k => k = cb) _ (p := ⟨cb, 1, none⟩) rfl y1) (fun _ h => .inl h)).trans (Tch.setCell (S := fun k => k = cb) _ (p := ⟨cb, 2, none⟩) rfl y2) (fun _ h => .inl h)).trans (Tch.setCell (S := fun k => k = cb) _ (p := ⟨cb, 3, none⟩) rfl y3) (fun _ h => .inl h)).trans (Tch.setCell (S := fun k => k = cb) _ (p := ⟨cb, 4, none⟩) rfl y4) (fun _ h => .inl h)
theorem tokO_cells {w : World} {cb : Nat} {e : TypeId} {t : Tok} (h : w.heap[cb]? = some (tokO t e)) : w.cell? ⟨cb, 0, none⟩ = some (.int .i64 t.kind) ∧ w.cell? ⟨cb, 1, none⟩ = some (.int .i64 t.line) ∧ w.cell? ⟨cb, 2, none⟩ = some (.int .i64 t.col) ∧ w.cell? ⟨cb, 3, none⟩ = some (.string t.text) ∧ w.cell? ⟨cb, 4, none⟩ = some (.bool t.quoted) :=
  ⟨(cell_of_row _ _ 0 _ _ _ h).trans rfl, (cell_of_row _ _ 1 _ _ _ h).trans rfl, (cell_of_row _ _ 2 _ _ _ h).trans rfl, (cell_of_row _ _ 3 _ _ _ h).trans rfl, (cell_of_row _ _ 4 _ _ _ h).trans rfl⟩
def tc (t : Tok) : List Value := [.int .i64 t.kind, .int .i64 t.line, .int .i64 t.col, .string t.text, .bool t.quoted]
def tcs (l : List Tok) : List Value := l.flatMap tc
theorem tcs_length (l : List Tok) : (tcs l).length = l.length * 5 := by
  induction l with
  | nil => rfl
  | cons x l ih => simp only [tcs, List.flatMap_cons, List.length_append, List.length_cons] at ih ⊢; simp only [tc, List.length_cons, List.length_nil]; omega
theorem tcs_snoc (l : List Tok) (t : Tok) : tcs (l ++ [t]) = tcs l ++ tc t := by simp [tcs, List.flatMap_append]
theorem tcs_at {l : List Tok} {i : Nat} {t : Tok} (hx : l[i]? = some t) (j : Nat) (hj : j < 5) : (tcs l)[i * 5 + j]? = (tc t)[j]? := by
  induction l generalizing i with
  | nil => simp at hx
  | cons a l ih =>
    have e : tcs (a :: l) = tc a ++ tcs l := rfl
    have la : (tc a).length = 5 := rfl
    cases i with
    | zero =>
      simp at hx; subst hx
      rw [e, List.getElem?_append_left (by rw [la]; omega)]
      simp
    | succ i =>
      simp at hx
      rw [e, List.getElem?_append_right (by rw [la]; omega), ← ih hx, la]
      congr 1
      omega
theorem info31 : (Try.prog.info? 31).map (fun i => (i.zero, i.size, i.bytes)) = some (some (.agg #[.int .i64 0, .int .i64 0, .int .i64 0, .string ⟨#[]⟩, .bool false]), 5, 48) := by kernel_rfl
theorem nn_own {i n : Nat} (h : i ≤ n) (hn : n < 2932031007400) : i + 1 ≤ maxLen ∧ (i + 1) * 48 ≤ 140737488355328 := by unfold maxLen; omega
end Go.Proofs.Ytabgckjokniooaa
