/- Lines of text as tokens, in plain words: no program in sight. -/
import Derived.WalkKit
import Derived.Lib.IndexMore
import Derived.Lib.Strings
namespace Go.Ln
open Go.RowKit
set_option linter.unusedVariables false
/-- A token: kind, line, column, text, quoted. -/
structure Tk where
  kind : Int
  line : Int
  col : Int
  text : List UInt8
  quoted : Bool
deriving DecidableEq
def spaces : List UInt8 → Nat
  | [] => 0
  | c :: r => if c = 32 then spaces r + 1 else 0
def letter (c : UInt8) : Bool := decide (97 ≤ c) && decide (c ≤ 122) || (decide (65 ≤ c) && decide (c ≤ 90) || (decide (48 ≤ c) && decide (c ≤ 57) || (decide (c = 95) || (decide (c = 45) || decide (c = 46)))))
def letters : List UInt8 → Nat
  | [] => 0
  | c :: r => if letter c = true then letters r + 1 else 0
def blanks (l : List UInt8) (i : Nat) : Nat := i + spaces (l.drop i)
def over (l : List UInt8) (i : Nat) : Bool := decide (i = l.length) || decide (l[i]? = some 35)
def behind (l : List UInt8) (i : Nat) : Nat := i + letters (l.drop i)
def sound (l : List UInt8) : Int := if 0 ≤ Lib.indexByte l 9 then 80 else if (l.any fun c => decide (c < 32) || decide (c = 127)) = true then 83 else 0
def hexes : List UInt8 := [48, 49, 50, 51, 52, 53, 54, 55, 56, 57, 97, 98, 99, 100, 101, 102]
def hexI (c : UInt8) : Int := Lib.indexByte hexes c
def hexB (h l : UInt8) : Option UInt8 := if hexI h < 0 ∨ hexI l < 0 then none else some (UInt8.ofNat ((hexI h).toNat * 16 + (hexI l).toNat))
def more (c : UInt8) (k : Nat) : Option (List UInt8 × Nat) → Option (List UInt8 × Nat)
  | none => none
  | some (t, n) => some (c :: t, n + k)
/-- A quoted text behind its first sign: what it stands for, how many bytes it takes. -/
def qread (e : UInt8) : List UInt8 → Option (List UInt8 × Nat)
  | [] => none
  | [c] => if c = e then some ([], 1) else none
  | c :: d :: r =>
    if c = e then (if e = 39 ∧ d = 39 then more 39 2 (qread e r) else some ([], 1))
    else if c ≠ 92 ∨ e = 39 then more c 1 (qread e (d :: r))
    else if d = 34 ∨ d = 92 then more d 2 (qread e r)
    else if d = 110 then more 10 2 (qread e r)
    else if d = 116 then more 9 2 (qread e r)
    else if d = 120 then match r with
      | h :: x :: r3 => match hexB h x with
        | none => none
        | some b => more b 4 (qread e r3)
      | _ => none
    else none
def bads : List UInt8 := [34, 39, 35, 44, 91, 93, 123, 125, 38, 42, 33, 124, 62, 37, 64, 63, 58, 96]
def rtrim (l : List UInt8) : List UInt8 := (l.reverse.dropWhile fun c => decide (c = 32)).reverse
/-- A plain scalar: its text. -/
def plain (l : List UInt8) : Option (List UInt8) :=
  match l with
  | [] => none
  | c :: r =>
    if 0 ≤ Lib.indexByte bads c ∨ c = 45 ∧ (r = [] ∨ r[0]? = some 32) then none
    else
      let t := rtrim (if 0 ≤ Lib.index l [32, 35] then l.take (Lib.index l [32, 35]).toNat else l)
      if 0 ≤ Lib.index t [58, 32] ∨ Lib.hasSuffix t [58] = true ∨ t = [45, 45, 45] then none else some t
def quoteAt (l : List UInt8) (i : Nat) : Bool := decide (l[i]? = some 34) || decide (l[i]? = some 39)
def scalar (l : List UInt8) (n : Int) (i : Nat) (out : List Tk) : Except Int (List Tk) :=
  if over l i = true then .ok out
  else if quoteAt l i = true then
    match qread ((l[i]?).getD 0) (l.drop (i + 1)) with
    | none => .error 82
    | some (t, k) =>
      let j := blanks l (i + 1 + k)
      if j < l.length ∧ (j = i + 1 + k ∨ l[j]? ≠ some 35) then .error 82 else .ok (out ++ [⟨4, n, i, t, true⟩])
  else match plain (l.drop i) with
    | none => .error 83
    | some t => .ok (out ++ [⟨4, n, i, t, false⟩])
def colon (l : List UInt8) (k : Nat) : Bool := decide (l[k]? = some 58) && (decide (k + 1 = l.length) || decide (l[k + 1]? = some 32))
def keyed (l : List UInt8) (n : Int) (i : Nat) (out : List Tk) : Except Int (List Tk) :=
  if quoteAt l i = true then
    match qread ((l[i]?).getD 0) (l.drop (i + 1)) with
    | none => .error 82
    | some (t, k) => if colon l (i + 1 + k) = true then scalar l n (blanks l (i + 1 + k + 1)) (out ++ [⟨3, n, i, t, true⟩]) else scalar l n i out
  else
    let k := behind l i
    if i < k ∧ k - i ≤ 64 ∧ colon l k = true then scalar l n (blanks l (k + 1)) (out ++ [⟨3, n, i, (l.drop i).take (k - i), false⟩]) else scalar l n i out
def itemAt (l : List UInt8) (i : Nat) : Bool := decide (l[i]? = some 45) && (decide (i + 1 = l.length) || decide (l[i + 1]? = some 32))
def items (l : List UInt8) (n : Int) : Nat → Nat → List Tk → Except Int (List Tk)
  | 0, _, out => .ok out
  | f + 1, i, out => if over l i = true then .ok out else if itemAt l i = true then items l n f (blanks l (i + 1)) (out ++ [⟨2, n, i, [], false⟩]) else keyed l n i out
def docAt (l : List UInt8) : Bool := Lib.hasPrefix l [45, 45, 45] && (decide (blanks l 3 = l.length) || decide (3 < blanks l 3) && decide (l[blanks l 3]? = some 35))
/-- A line's tokens, or what is wrong. -/
def line (l : List UInt8) (n : Int) : Except Int (List Tk) :=
  if sound l ≠ 0 then .error (sound l)
  else if docAt l = true then .ok [⟨1, n, 0, [], false⟩]
  else items l n (l.length + 1) (blanks l 0) []
def linesOf (cur : List UInt8) : List UInt8 → List (List UInt8)
  | [] => if cur.isEmpty then [] else [cur]
  | c :: r => if c = 10 then cur :: linesOf [] r else linesOf (cur ++ [c]) r
def docsIn (ts : List Tk) : Nat := (ts.filter fun t => decide (t.kind = 1)).length
/-- The tokens of lines: those ahead of a fault, too. -/
def scanL : Nat → Nat → List (List UInt8) → List Tk × Option (Nat × Nat × Int)
  | _, _, [] => ([], none)
  | docs, n, l :: ls => match line l (n + 1 : Nat) with
    | .error e => ([], some (docs, n + 1, e))
    | .ok ts => let r := scanL (docs + docsIn ts) (n + 1) ls; (ts ++ r.1, r.2)
def scan (text : List UInt8) : List Tk × Option (Nat × Nat × Int) := if 65536 < text.length then ([], some (0, 0, 3)) else scanL 0 0 (linesOf [] text)
/- a: b -/
example : scan [97, 58, 32, 98, 10] = ([⟨3, 1, 0, [97], false⟩, ⟨4, 1, 3, [98], false⟩], none) := by decide +kernel
example : scan [97, 58, 32, 42, 10] = ([], some (0, 1, 83)) := by decide +kernel
end Go.Ln
