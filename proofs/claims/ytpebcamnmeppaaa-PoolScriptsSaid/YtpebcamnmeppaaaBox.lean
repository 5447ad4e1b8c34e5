/- A call at both pools. -/
import Derived.Test.YtpebcamnmeppaaaMid
import Derived.Deep.RegionHeld3
namespace Go.Proofs.Ytpebcamnmeppaaa
open Go.RowKit Go.Mp Go.Po
set_option linter.unusedVariables false
set_option maxRecDepth 100000
set_option maxHeartbeats 4000000
abbrev boxO (kd : Int) (nm : ByteArray) (cn nw : Int) : Obj := .cells #[.int .i64 kd, .string nm, .int .i64 cn, .int .i64 nw] 39
section
variable {w0 w : World} {B : Nat} {S0 : Nat → Prop} {a b : Option Addr} {cb : Nat} {np nr : Nat} {sp sr : St} {kd cn nw : Int} {nm : ByteArray}
theorem Mid.c0 (h : Mid w0 B S0 a b cb (boxO kd nm cn nw) np nr w sp sr) : w.cell? ⟨cb, 0, none⟩ = some (.int .i64 kd) := (cell_of_row _ _ 0 _ _ _ h.bx).trans rfl
theorem Mid.c1 (h : Mid w0 B S0 a b cb (boxO kd nm cn nw) np nr w sp sr) : w.cell? ⟨cb, 1, none⟩ = some (.string nm) := (cell_of_row _ _ 1 _ _ _ h.bx).trans rfl
theorem Mid.c2 (h : Mid w0 B S0 a b cb (boxO kd nm cn nw) np nr w sp sr) : w.cell? ⟨cb, 2, none⟩ = some (.int .i64 cn) := (cell_of_row _ _ 2 _ _ _ h.bx).trans rfl
theorem Mid.cells (h : Mid w0 B S0 a b cb (boxO kd nm cn nw) np nr w sp sr) : w.cell? ⟨cb, 1, none⟩ = some (.string nm) ∧ w.cell? ⟨cb, 2, none⟩ = some (.int .i64 cn) ∧ w.cell? ⟨cb, 3, none⟩ = some (.int .i64 nw) := ⟨(cell_of_row _ _ 1 _ _ _ h.bx).trans rfl, (cell_of_row _ _ 2 _ _ _ h.bx).trans rfl, (cell_of_row _ _ 3 _ _ _ h.bx).trans rfl⟩
theorem Mid.c3 (h : Mid w0 B S0 a b cb (boxO kd nm cn nw) np nr w sp sr) : w.cell? ⟨cb, 3, none⟩ = some (.int .i64 nw) := (cell_of_row _ _ 3 _ _ _ h.bx).trans rfl
end
end Go.Proofs.Ytpebcamnmeppaaa
