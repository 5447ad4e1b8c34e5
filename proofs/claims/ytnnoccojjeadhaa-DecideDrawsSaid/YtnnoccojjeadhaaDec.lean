/- What D's steps come to, in plain words; how tables read; the walks of the tests of one element. -/
import Derived.Test.YtnnoccojjeadhaaTakes
import Derived.Test.YtnnoccojjeadhaaRd
namespace Go.Dec
open Go.Pa
set_option linter.unusedVariables false

/-- The place of the first element with the property; -1: none has it. -/
def firstI {α : Type} (p : α → Bool) (l : List α) : Int := match l.findIdx? p with
  | some i => i
  | none => -1
theorem first_none {α : Type} {p : α → Bool} {l : List α} (h : ∀ (j : Nat) x, l[j]? = some x → p x = false) : firstI p l = -1 := by
  unfold firstI
  have : l.findIdx? p = none := by
    rw [List.findIdx?_eq_none_iff]
    intro x hx
    obtain ⟨j, hj, e⟩ := List.getElem_of_mem hx
    exact h j x (by rw [List.getElem?_eq_getElem hj, e])
  rw [this]
theorem first_at {α : Type} {p : α → Bool} {l : List α} {k : Nat} {x : α} (h : ∀ (j : Nat) y, j < k → l[j]? = some y → p y = false) (hk : l[k]? = some x) (hx : p x = true) : firstI p l = k := by
  unfold firstI
  have hlt := (List.getElem?_eq_some_iff.1 hk).1
  have he := (List.getElem?_eq_some_iff.1 hk).2
  have : l.findIdx? p = some k := by
    rw [List.findIdx?_eq_some_iff_getElem]
    refine ⟨hlt, by rw [he]; exact hx, fun j hj => ?_⟩
    have hjl : j < l.length := by omega
    rw [h j l[j] hj (List.getElem?_eq_getElem hjl)]; simp
  rw [this]
/-- Does a rule of these take a request's method and path? -/
def tk (p want m path : Bs) : Bool := (want == [42] || want == m) && pathTakes p path
abbrev Share := ByteArray × (Nat × Unit)
abbrev Entry := ByteArray × (ByteArray × (List Share × Unit))
abbrev Permit := ByteArray × (ByteArray × (Bool × Unit))
abbrev Host := ByteArray × (ByteArray × (List Entry × (List Permit × Unit)))
abbrev Tables := Int × (List Host × (List ByteArray × Unit))
abbrev Healthy := ByteArray × (List ByteArray × Unit)
def shareE : Rd.Elem Share := Rd.pair Rd.str (Rd.pair Rd.float Rd.none)
def entryE : Rd.Elem Entry := Rd.pair Rd.str (Rd.pair Rd.str (Rd.pair (Rd.slice shareE) Rd.none))
def permitE : Rd.Elem Permit := Rd.pair Rd.str (Rd.pair Rd.str (Rd.pair Rd.bool Rd.none))
def hostE : Rd.Elem Host := Rd.pair Rd.str (Rd.pair Rd.str (Rd.pair (Rd.slice entryE) (Rd.pair (Rd.slice permitE) Rd.none)))
def tablesE : Rd.Elem Tables := Rd.pair Rd.int (Rd.pair (Rd.slice hostE) (Rd.pair (Rd.slice Rd.str) Rd.none))
def healthyE : Rd.Elem Healthy := Rd.pair Rd.str (Rd.pair (Rd.slice Rd.str) Rd.none)
def takesH (name : Bs) (h : Host) : Bool := hostTakes h.1.data.toList name
def takesE (m path : Bs) (e : Entry) : Bool := tk e.1.data.toList e.2.1.data.toList m path
def takesP (m path : Bs) (e : Permit) : Bool := tk e.1.data.toList e.2.1.data.toList m path
end Go.Dec
namespace Go.Proofs.Ytnnoccojjeadhaa
open Go.ChangeShapes Go.WideShapes Go.ChangeAt Go.RowKit
open Go.Pa Go.Dec
set_option linter.unusedVariables false

theorem takes23 (p want m path : ByteArray) (w : World) (hp : p.size ≤ maxLen) (hw : want.size ≤ maxLen) (hm : m.size ≤ maxLen) (hpa : path.size ≤ maxLen) :
    Calls Try.prog 23 #[.string p, .string want, .string m, .string path] w fun e w' => e = .returned (.bool (tk p.data.toList want.data.toList m.data.toList path.data.toList)) ∧ w = w' := by
  have e1 := eq_const want [42]
  have e2 := eq_lists want m
  have c1 := path21 p path w hp hpa
  unfold tk
  generalize (want.data.toList == [42]) = b1 at *
  generalize (want.data.toList == m.data.toList) = b2 at *
  generalize pathTakes p.data.toList path.data.toList = b3 at *
  replace c1 := Lib.hid c1
  cases b1 <;> cases b2 <;> cases b3
  all_goals
    go_enter Try.func23, Try.ntmps23
    go_wp2_with (go_at_call 35; (with_reducible refine c1.out.mono ?_); rintro e w' ⟨rfl, rfl⟩)
    go_ret
    exact ⟨rfl, rfl⟩
end Go.Proofs.Ytnnoccojjeadhaa
