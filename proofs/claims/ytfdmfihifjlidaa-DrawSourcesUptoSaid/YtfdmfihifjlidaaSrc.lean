/- Sources: what they are, in plain words and in memory; the walks of the program's New, Push, Next, Left, Clone, Copy. -/
import Derived.Test.YtfdmfihifjlidaaOwn
import Derived.Test.YtfdmfihifjlidaaAwake
namespace Go.Tp
open Go.RowKit
/-- A source's words and state. -/
structure Sc where
  xs : List Int
  st : Int
def stepI (n : Int) : Int := IntKind.u64.wrap (IntKind.u64.wrap (n * 6364136223846793005) + 1442695040888963407)
def nextW (s : Sc) : Int := match s.xs with | x :: _ => x | [] => stepI s.st
def nextS (s : Sc) : Sc := match s.xs with | _ :: r => ⟨r, s.st⟩ | [] => ⟨[], stepI s.st⟩
def ucells (xs : List Int) : List Value := xs.map (Value.int .u64)
/-- A source in memory: its block, its words' row. -/
structure SrcM (T : TypeId) (w : World) (B b : Nat) (v : Value) (s : Sc) : Prop where
  blk : w.heap[b]? = some (.cells #[v, .int .u64 s.st] T)
  row : viewRow w B 22 v s.xs.length (ucells s.xs)
  hb : B ≤ b
/-- But for two blocks all that was there is as it was. -/
structure But (w w' : World) (c1 : Nat) (c2 : Option Nat) : Prop where
  os : w'.os = w.os
  tape : w'.tape = w.tape
  output : w'.output = w.output
  size : w.heap.size ≤ w'.heap.size
  block : ∀ k, k < w.heap.size → k ≠ c1 → c2 ≠ some k → w'.heap[k]? = w.heap[k]?
theorem row_block {w : World} {B : Nat} {e : TypeId} {v : Value} {n : Nat} {xs : List Value} (h : viewRow w B e v n xs) {g : Nat} (hg : v.ownBlock = some g) : ∃ cur, w.heap[g]? = some (.cells cur e (0, 0)) ∧ B ≤ g ∧ g < w.heap.size := by
  rcases h.2 with ⟨rfl, _⟩ | ⟨g', off, cap, cur, rfl, hb, hc, _⟩
  · cases hg
  · cases hg; exact ⟨cur, hc, hb, (Array.getElem?_eq_some_iff.1 hc).1⟩
theorem row_but {w w' : World} {B : Nat} {e : TypeId} {v : Value} {n : Nat} {xs : List Value} {c1 : Nat} {c2 : Option Nat} (h : viewRow w B e v n xs) (hb : But w w' c1 c2) (h1 : v.ownBlock ≠ some c1) (h2 : ∀ g, v.ownBlock = some g → c2 ≠ some g) : viewRow w' B e v n xs := by
  refine ⟨h.1, ?_⟩
  rcases h.2 with h0 | ⟨g, off, cap, cur, hv, hB, hc, r⟩
  · exact .inl h0
  · refine .inr ⟨g, off, cap, cur, hv, hB, (hb.block _ (Array.getElem?_eq_some_iff.1 hc).1 ?_ ?_).trans hc, r⟩
    · rintro rfl; exact h1 (by rw [hv]; rfl)
    · exact h2 g (by rw [hv]; rfl)
theorem src_but {T : TypeId} {w w' : World} {B b : Nat} {v : Value} {s : Sc} {c1 : Nat} {c2 : Option Nat} (h : SrcM T w B b v s) (hb : But w w' c1 c2) (h0 : b ≠ c1) (h0' : c2 ≠ some b) (h1 : v.ownBlock ≠ some c1) (h2 : ∀ g, v.ownBlock = some g → c2 ≠ some g) : SrcM T w' B b v s :=
  ⟨(hb.block _ (Array.getElem?_eq_some_iff.1 h.blk).1 h0 h0').trans h.blk, row_but h.row hb h1 h2, h.hb⟩
theorem src_below {T : TypeId} {w w' : World} {B b : Nat} {v : Value} {s : Sc} (h : SrcM T w B b v s) (hb : Below w.heap.size w w') : SrcM T w' B b v s :=
  ⟨(hb.block _ (Array.getElem?_eq_some_iff.1 h.blk).1).trans h.blk, viewRow_below h.row hb, h.hb⟩
/-- A row is no source's block. -/
theorem row_src {T : TypeId} {w : World} {B B' b g : Nat} {v u : Value} {s : Sc} {n : Nat} {xs : List Value} (hT : T ≠ 22) (h : SrcM T w B b v s) (hu : viewRow w B' 22 u n xs) (hg : u.ownBlock = some g) : g ≠ b := by
  obtain ⟨cur, hc, _⟩ := row_block hu hg
  rintro rfl
  rw [h.blk] at hc
  cases hc
  exact hT rfl
end Go.Tp
namespace Go.Proofs.Ytfdmfihifjlidaa
open Go.RowKit Go.Tp
set_option linter.unusedVariables false
theorem left_nil (w : World) : Calls Try.prog 21 #[.pointer none] w fun e w' => e = .returned (.int .i64 0) ∧ w = w' := by
  go_enter Try.func21, Try.ntmps21
  go_wp2
  go_ret
  exact ⟨rfl, rfl⟩
theorem left_any {w : World} {B b : Nat} {v : Value} {s : Sc} (h : SrcM 67 w B b v s) : Calls Try.prog 21 #[.pointer (some ⟨b, 0, none⟩)] w fun e w' => e = .returned (.int .i64 s.xs.length) ∧ w = w' := by
  obtain ⟨ao, cap, rfl⟩ : ∃ ao cap, v = .slice ao s.xs.length cap := by
    rcases h.row.2 with ⟨rfl, h0⟩ | ⟨g, off, cap, cur, h0, _⟩
    · exact ⟨none, 0, by rw [h0]⟩
    · exact ⟨_, _, h0⟩
  have c0 : w.cell? ⟨b, 0, none⟩ = some (.slice ao s.xs.length cap) := (cell_of_row _ _ 0 _ _ _ h.blk).trans rfl
  clear h
  go_enter Try.func21, Try.ntmps21
  go_wp2
  go_ret
  exact ⟨rfl, rfl⟩
theorem next_nil (w : World) : Calls Try.prog 19 #[.pointer none] w fun e w' => e = .returned (.int .u64 0) ∧ w = w' := by
  go_enter Try.func19, Try.ntmps19
  go_wp2
  go_ret
  exact ⟨rfl, rfl⟩
theorem refnext_nil (w : World) : Calls Try.prog 20 #[.pointer none] w fun e w' => e = .returned (.int .u64 0) ∧ w = w' := by
  go_enter Try.func20, Try.ntmps20
  go_wp2
  go_ret
  exact ⟨rfl, rfl⟩
theorem copy_nil (w : World) : Calls Try.prog 17 #[.pointer none] w fun e w' => e = .returned (.pointer none) ∧ w = w' := by
  go_enter Try.func17, Try.ntmps17
  go_wp2
  go_ret
  exact ⟨rfl, rfl⟩
theorem refcopy_nil (w : World) : Calls Try.prog 18 #[.pointer none] w fun e w' => e = .returned (.pointer none) ∧ w = w' := by
  go_enter Try.func18, Try.ntmps18
  go_wp2
  go_ret
  exact ⟨rfl, rfl⟩
theorem push_nil (v : Value) (w : World) : Calls Try.prog 16 #[.pointer none, v] w fun e w' => e = .returned (.tuple #[]) ∧ w = w' := by
  go_enter Try.func16, Try.ntmps16
  go_wp2
  first | go_end0 | go_ret
  exact ⟨rfl, rfl⟩
end Go.Proofs.Ytfdmfihifjlidaa
