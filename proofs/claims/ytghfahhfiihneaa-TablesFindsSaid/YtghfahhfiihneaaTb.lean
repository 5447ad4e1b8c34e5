/- Tables: how they read, when two are the same. -/
import Derived.Test.YtghfahhfiihneaaRd
import Derived.Test.YtghfahhfiihneaaMem
import Derived.Test.YtghfahhfiihneaaFrame
import Derived.Lib.Hide
import Derived.Lib.Strings
import Derived.Deep.LoopGhost
import Derived.Deep.Cut
import Derived.Deep.QuietTactic
import Derived.BigQuiet
import Derived.Outline
namespace Go.Tb
open Go.RowKit
abbrev Share := ByteArray × (Nat × Unit)
abbrev Entry := ByteArray × (ByteArray × (List Share × Unit))
abbrev Permit := ByteArray × (ByteArray × (Bool × Unit))
abbrev Host := ByteArray × (ByteArray × (List Entry × (List Permit × Unit)))
abbrev Tables := Int × (List Host × (List ByteArray × Unit))
def shareE : Rd.Elem Share := Rd.pair Rd.str (Rd.pair Rd.float Rd.none)
def entryE : Rd.Elem Entry := Rd.pair Rd.str (Rd.pair Rd.str (Rd.pair (Rd.slice shareE) Rd.none))
def permitE : Rd.Elem Permit := Rd.pair Rd.str (Rd.pair Rd.str (Rd.pair Rd.bool Rd.none))
def hostE : Rd.Elem Host := Rd.pair Rd.str (Rd.pair Rd.str (Rd.pair (Rd.slice entryE) (Rd.pair (Rd.slice permitE) Rd.none)))
def tablesE : Rd.Elem Tables := Rd.pair Rd.int (Rd.pair (Rd.slice hostE) (Rd.pair (Rd.slice Rd.str) Rd.none))
def strEq (x y : ByteArray) : Bool := x.toList == y.toList
def fEq (x y : Nat) : Bool := FloatKind.f64.format.order x y == some Ordering.eq
def eqL {α : Type} (e : α → α → Bool) : List α → List α → Bool
  | [], [] => true
  | x :: a, y :: b => e x y && eqL e a b
  | _, _ => false
def shareEq (x y : Share) : Bool := strEq x.1 y.1 && fEq x.2.1 y.2.1
def permitEq (x y : Permit) : Bool := strEq x.1 y.1 && (strEq x.2.1 y.2.1 && (x.2.2.1 == y.2.2.1))
def entryEq (x y : Entry) : Bool := strEq x.1 y.1 && (strEq x.2.1 y.2.1 && eqL shareEq x.2.2.1 y.2.2.1)
def hostEq (x y : Host) : Bool := strEq x.1 y.1 && (strEq x.2.1 y.2.1 && (eqL entryEq x.2.2.1 y.2.2.1 && eqL permitEq x.2.2.2.1 y.2.2.2.1))
def tablesEq (x y : Tables) : Bool := (x.1 == y.1) && (eqL hostEq x.2.1 y.2.1 && eqL strEq x.2.2.1 y.2.2.1)
section
variable {α : Type} {e : α → α → Bool} {a b : List α}
theorem eqL_len (h : a.length ≠ b.length) : eqL e a b = false := by
  induction a generalizing b with
  | nil => cases b with
    | nil => exact absurd rfl h
    | cons y b => rfl
  | cons x a ih => cases b with
    | nil => rfl
    | cons y b => simp only [eqL, ih (by simpa using h), Bool.and_false]
theorem eqL_bad {i : Nat} {x y : α} (hx : a[i]? = some x) (hy : b[i]? = some y) (h : e x y = false) : eqL e a b = false := by
  induction i generalizing a b with
  | zero =>
    cases a with
    | nil => simp at hx
    | cons x' a => cases b with
      | nil => simp at hy
      | cons y' b => simp at hx hy; subst hx hy; simp only [eqL, h, Bool.false_and]
  | succ i ih =>
    cases a with
    | nil => simp at hx
    | cons x' a => cases b with
      | nil => simp at hy
      | cons y' b => simp only [eqL, ih (by simpa using hx) (by simpa using hy), Bool.and_false]
theorem eqL_all (hl : a.length = b.length) (h : ∀ (i : Nat) x y, a[i]? = some x → b[i]? = some y → e x y = true) : eqL e a b = true := by
  induction a generalizing b with
  | nil => cases b with
    | nil => rfl
    | cons y b => simp at hl
  | cons x a ih => cases b with
    | nil => simp at hl
    | cons y b =>
      simp only [eqL]
      rw [h 0 x y rfl rfl, ih (by simpa using hl) fun i x' y' hx hy => h (i + 1) x' y' (by simpa using hx) (by simpa using hy)]
      rfl
end
theorem slice_shape {α : Type} {E : Rd.Elem α} {w : World} {v : Value} {xs : List α} (h : Rd.SliceOf E w v xs) : ∃ ao cap, v = .slice ao xs.length cap := by obtain ⟨_, ao, cap, rfl, _⟩ := h; exact ⟨_, _, rfl⟩
/-- Two places of a list, read in a later world. -/
theorem at_i {α : Type} {E : Rd.Elem α} {w w' : World} {ao : Option Addr} {n cap : Nat} {xs : List α} (h : Rd.SliceOf E w (.slice ao n cap) xs) (hb : Below w.heap.size w w') {i : Nat} {x : α} (hx : xs[i]? = some x) : ∃ b off, ao = some ⟨b, off, none⟩ ∧ b < w.heap.size ∧ E.R w' (Rd.cellsAt w' b (off + i * E.k)) x := by
  obtain ⟨b, off, cap', hv, hbb, hxx⟩ := h.at (by rintro rfl; simp at hx)
  cases hv
  exact ⟨b, off, rfl, hbb, Rd.Elem.up E (hxx i x hx) hb (fun j _ => hb.cell (by exact hbb))⟩
end Go.Tb
