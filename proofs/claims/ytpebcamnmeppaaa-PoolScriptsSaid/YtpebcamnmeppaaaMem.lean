/- The pool's walk begun: its types' facts, 'count', 'New', 'Counts'. -/
import Derived.Test.YtpebcamnmeppaaaMp
import Derived.Test.YtpebcamnmeppaaaPl
import Derived.Test.YtpebcamnmeppaaaProg
import Derived.Deep.QuietTactic
import Derived.BigQuiet
import Derived.Outline
namespace Go.Proofs.Ytpebcamnmeppaaa
open Go.RowKit Go.Mp Go.Po
set_option linter.unusedVariables false
noncomputable abbrev ik : KeyOf Try.prog 3 Int := intKey Try.underlying3
noncomputable abbrev sk : KeyOf Try.prog 9 ByteArray := strKey Try.underlying9
abbrev agg3 (a b c : Int) : Value := .agg #[.int .i64 a, .int .i64 b, .int .i64 c]
theorem zero60 (w : World) : (zeroValue 60).run Try.prog w = .ok (agg3 0 0 0) w := by kernel_rfl
theorem zero56 (w : World) : (zeroValue 56).run Try.prog w = .ok (.pointer none) w := by kernel_rfl
def No : Nat → Prop := fun _ => False
theorem count0 {w : World} {p bc bk : Nat} {m wt tn : Int} {g : ByteArray → Option Value} (hp : w.heap[p]? = some (.cells #[.int .i64 m, .int .i64 wt, .map (some bc), .map (some bk), .int .i64 tn] 55)) (hk : MapS sk w bk g) (e : ByteArray) (d x y z : Int)
    (hx : (g e).getD (agg3 0 0 0) = agg3 x y z) (hr : -4611686018427387904 ≤ x ∧ x ≤ 4611686018427387904 ∧ -4611686018427387904 ≤ d ∧ d ≤ 4611686018427387903) :
    Calls Try.prog 23 #[.pointer (some ⟨p, 0, none⟩), .string e, .int .i64 0, .int .i64 d] w fun e' w' => e' = .returned (.tuple #[]) ∧ MapS sk w' bk (upd g e (agg3 (x + d) y z)) ∧ Tch (fun k => k = bk) w w' := by
  have c3 : w.cell? ⟨p, 3, none⟩ = some (.map (some bk)) := (cell_of_row _ _ 3 _ _ _ hp).trans rfl
  have hlk : (Instr.lookup 53 (.map (some bk)) (.string e) false).run Try.prog w = .ok (agg3 x y z) w := by rw [← hx]; exact hk.look (t := 53) (e := 60) Try.underlying53 (zero60 w) false e
  have hwr : wrap64 (x + d) = x + d := by unfold wrap64; omega
  have c3' : (w.alloc (.cells #[.int .i64 (x + d), .int .i64 y, .int .i64 z] 60)).cell? ⟨p, 3, none⟩ = some (.map (some bk)) := (Tch.alloc No w _).cell_some c3 id
  have hT0 : Tch No w (w.alloc (.cells #[.int .i64 (x + d), .int .i64 y, .int .i64 z] 60)).drew := (Tch.alloc No w _).trans (Tch.drew No _) (fun _ h => .inl h)
  obtain ⟨w2, hrun, hM, hT⟩ := (hk.tch hT0 id).store (t := 53) Try.underlying53 e (agg3 (x + d) y z)
  replace hrun : (Instr.mapUpdate 53 (.map (some bk)) (.string e) (agg3 (x + d) y z)).run Try.prog (w.alloc (.cells #[.int .i64 (x + d), .int .i64 y, .int .i64 z] 60)).drew = .ok () w2 := hrun
  have hTT : Tch (fun k => k = bk) w w2 := (hT0.mono (fun _ h => h.elim)).trans (Tch.turned (S := fun k => k = bk) hT rfl) (fun _ h => .inl h)
  replace hp := Lib.hid hp
  replace hx := Lib.hid hx
  replace hM := Lib.hid hM
  replace hT := Lib.hid hT
  replace hT0 := Lib.hid hT0
  replace hTT := Lib.hid hTT
  go_enter Try.func23, Try.ntmps23
  go_wp2
  go_region
  go_end0
  exact ⟨rfl, hM.out, hTT.out⟩
theorem count1 {w : World} {p bc bk : Nat} {m wt tn : Int} {g : ByteArray → Option Value} (hp : w.heap[p]? = some (.cells #[.int .i64 m, .int .i64 wt, .map (some bc), .map (some bk), .int .i64 tn] 55)) (hk : MapS sk w bk g) (e : ByteArray) (d x y z : Int)
    (hx : (g e).getD (agg3 0 0 0) = agg3 x y z) (hr : -4611686018427387904 ≤ y ∧ y ≤ 4611686018427387904 ∧ -4611686018427387904 ≤ d ∧ d ≤ 4611686018427387903) :
    Calls Try.prog 23 #[.pointer (some ⟨p, 0, none⟩), .string e, .int .i64 1, .int .i64 d] w fun e' w' => e' = .returned (.tuple #[]) ∧ MapS sk w' bk (upd g e (agg3 x (y + d) z)) ∧ Tch (fun k => k = bk) w w' := by
  have c3 : w.cell? ⟨p, 3, none⟩ = some (.map (some bk)) := (cell_of_row _ _ 3 _ _ _ hp).trans rfl
  have hlk : (Instr.lookup 53 (.map (some bk)) (.string e) false).run Try.prog w = .ok (agg3 x y z) w := by rw [← hx]; exact hk.look (t := 53) (e := 60) Try.underlying53 (zero60 w) false e
  have hwr : wrap64 (y + d) = y + d := by unfold wrap64; omega
  have c3' : (w.alloc (.cells #[.int .i64 x, .int .i64 (y + d), .int .i64 z] 60)).cell? ⟨p, 3, none⟩ = some (.map (some bk)) := (Tch.alloc No w _).cell_some c3 id
  have hT0 : Tch No w (w.alloc (.cells #[.int .i64 x, .int .i64 (y + d), .int .i64 z] 60)).drew := (Tch.alloc No w _).trans (Tch.drew No _) (fun _ h => .inl h)
  obtain ⟨w2, hrun, hM, hT⟩ := (hk.tch hT0 id).store (t := 53) Try.underlying53 e (agg3 x (y + d) z)
  replace hrun : (Instr.mapUpdate 53 (.map (some bk)) (.string e) (agg3 x (y + d) z)).run Try.prog (w.alloc (.cells #[.int .i64 x, .int .i64 (y + d), .int .i64 z] 60)).drew = .ok () w2 := hrun
  have hTT : Tch (fun k => k = bk) w w2 := (hT0.mono (fun _ h => h.elim)).trans (Tch.turned (S := fun k => k = bk) hT rfl) (fun _ h => .inl h)
  replace hp := Lib.hid hp
  replace hx := Lib.hid hx
  replace hM := Lib.hid hM
  replace hT := Lib.hid hT
  replace hT0 := Lib.hid hT0
  replace hTT := Lib.hid hTT
  go_enter Try.func23, Try.ntmps23
  go_wp2
  go_region
  go_end0
  exact ⟨rfl, hM.out, hTT.out⟩
theorem count2 {w : World} {p bc bk : Nat} {m wt tn : Int} {g : ByteArray → Option Value} (hp : w.heap[p]? = some (.cells #[.int .i64 m, .int .i64 wt, .map (some bc), .map (some bk), .int .i64 tn] 55)) (hk : MapS sk w bk g) (e : ByteArray) (d x y z : Int)
    (hx : (g e).getD (agg3 0 0 0) = agg3 x y z) (hr : -4611686018427387904 ≤ z ∧ z ≤ 4611686018427387904 ∧ -4611686018427387904 ≤ d ∧ d ≤ 4611686018427387903) :
    Calls Try.prog 23 #[.pointer (some ⟨p, 0, none⟩), .string e, .int .i64 2, .int .i64 d] w fun e' w' => e' = .returned (.tuple #[]) ∧ MapS sk w' bk (upd g e (agg3 x y (z + d))) ∧ Tch (fun k => k = bk) w w' := by
  have c3 : w.cell? ⟨p, 3, none⟩ = some (.map (some bk)) := (cell_of_row _ _ 3 _ _ _ hp).trans rfl
  have hlk : (Instr.lookup 53 (.map (some bk)) (.string e) false).run Try.prog w = .ok (agg3 x y z) w := by rw [← hx]; exact hk.look (t := 53) (e := 60) Try.underlying53 (zero60 w) false e
  have hwr : wrap64 (z + d) = z + d := by unfold wrap64; omega
  have c3' : (w.alloc (.cells #[.int .i64 x, .int .i64 y, .int .i64 (z + d)] 60)).cell? ⟨p, 3, none⟩ = some (.map (some bk)) := (Tch.alloc No w _).cell_some c3 id
  have hT0 : Tch No w (w.alloc (.cells #[.int .i64 x, .int .i64 y, .int .i64 (z + d)] 60)).drew := (Tch.alloc No w _).trans (Tch.drew No _) (fun _ h => .inl h)
  obtain ⟨w2, hrun, hM, hT⟩ := (hk.tch hT0 id).store (t := 53) Try.underlying53 e (agg3 x y (z + d))
  replace hrun : (Instr.mapUpdate 53 (.map (some bk)) (.string e) (agg3 x y (z + d))).run Try.prog (w.alloc (.cells #[.int .i64 x, .int .i64 y, .int .i64 (z + d)] 60)).drew = .ok () w2 := hrun
  have hTT : Tch (fun k => k = bk) w w2 := (hT0.mono (fun _ h => h.elim)).trans (Tch.turned (S := fun k => k = bk) hT rfl) (fun _ h => .inl h)
  replace hp := Lib.hid hp
  replace hx := Lib.hid hx
  replace hM := Lib.hid hM
  replace hT := Lib.hid hT
  replace hT0 := Lib.hid hT0
  replace hTT := Lib.hid hTT
  go_enter Try.func23, Try.ntmps23
  go_wp2
  go_region
  go_end0
  exact ⟨rfl, hM.out, hTT.out⟩
end Go.Proofs.Ytpebcamnmeppaaa
