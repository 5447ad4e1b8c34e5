/- What the patterns of hosts, paths and methods come to, over lists of bytes: plain functions and plain facts. -/
import Derived.Lib.Strings
namespace Go.Pa
set_option linter.unusedVariables false

abbrev Bs := List UInt8
def pathc (c : UInt8) : Bool := 33 ≤ c && c ≤ 126
def methc (c : UInt8) : Bool := 65 ≤ c && c ≤ 90
def lowc (c : UInt8) : UInt8 := if 65 ≤ c && c ≤ 90 then c + 32 else c
def hostc (c : UInt8) : Bool := 97 ≤ c && c ≤ 122 || (48 ≤ c && c ≤ 57 || (c == 45 || c == 46))
def isPath (l : Bs) : Bool := decide (1 ≤ l.length) && (decide (l.length ≤ 256) && (l.head? == some 47 && l.all pathc))
def isMethod (l : Bs) : Bool := decide (1 ≤ l.length) && (decide (l.length ≤ 64) && l.all methc)
def foldOk (l : Bs) : Bool := decide (1 ≤ l.length) && (decide (l.length ≤ 64) && l.all fun c => hostc (lowc c))
/-- A host, folded; none: it is none. -/
def foldH (l : Bs) : Option Bs := if foldOk l then some (l.map lowc) else none
/-- A pattern's sortH (0 a host, 1 under, 2 all, 3 none), and what stands in it. -/
def sortH (l : Bs) : Int × Bs :=
  if l = [42] then (2, [])
  else if Lib.hasPrefix l [42, 46] then match foldH (l.drop 2) with | some h => (1, h) | none => (3, l)
  else match foldH l with | some h => (0, h) | none => (3, l)
def starred (l : Bs) : Bool := Lib.hasSuffix l [42]
def aheadS (l : Bs) : Bs := if starred l then l.take (l.length - 1) else l
def hostPat (l : Bs) : Bool := !((sortH l).1 == 3)
def pathPat (l : Bs) : Bool := starred l && (aheadS l).isEmpty || isPath (aheadS l)
def methPat (l : Bs) : Bool := l == [42] || isMethod l
def hostTakes (p n : Bs) : Bool := match foldH n with
  | none => false
  | some h => if (sortH p).1 = 0 then (sortH p).2 == h else if (sortH p).1 = 1 then Lib.hasSuffix h (46 :: (sortH p).2) else (sortH p).1 == 2
def pathTakes (p n : Bs) : Bool := if starred p && pathPat p then isPath n && Lib.hasPrefix n (aheadS p) else isPath n && n == p
def methTakes (p n : Bs) : Bool := isMethod n && (p == [42] || p == n)
def hostCovers (a b : Bs) : Bool :=
  if (sortH a).1 = 3 ∨ (sortH b).1 = 3 then false
  else if (sortH a).1 = 2 ∨ ((sortH a).1 = (sortH b).1 ∧ (sortH a).2 = (sortH b).2) then true
  else (sortH a).1 == 1 && Lib.hasSuffix (sortH b).2 (46 :: (sortH a).2)
def pathCovers (a b : Bs) : Bool := pathPat a && (pathPat b && (a == b || (starred a && Lib.hasPrefix (aheadS b) (aheadS a))))
def methCovers (a b : Bs) : Bool := methPat a && (methPat b && (a == [42] || a == b))
def cmpI (x y : Int) : Int := if x < y then -1 else if y < x then 1 else 0
def cmpL : Bs → Bs → Int
  | [], [] => 0
  | [], _ :: _ => -1
  | _ :: _, [] => 1
  | a :: x, b :: y => if a < b then -1 else if b < a then 1 else cmpL x y
def orderH (a b : Bs) : Int :=
  if (sortH a).1 = (sortH b).1 then
    if (sortH a).1 = 1 ∧ (sortH a).2.length ≠ (sortH b).2.length then cmpI (sortH b).2.length (sortH a).2.length else cmpL (sortH a).2 (sortH b).2
  else cmpI (sortH a).1 (sortH b).1
end Go.Pa
