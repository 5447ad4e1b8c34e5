/- The walks of the small predicates on texts. -/
import Derived.Test.YtjepgpocmnijiaaZy1
import Derived.Test.YtjepgpocmnijiaaZy2
import Derived.Lib.Strings
import Derived.Test.YtjepgpocmnijiaaRows
import Derived.WalkKit
import Derived.ProofKit
import Derived.OpenShut
import Derived.WalkLawsBesides
import Derived.WalkSpells
import Derived.Lib.Hide
import Derived.Deep.LoopGhost
import Derived.Deep.DeepCutAuto
import Derived.Outline
section
/- Resources in plain words, and how they read. -/
namespace Go.Rd
def Elem.map {α β : Type} (E : Elem α) (g : β → α) : Elem β := ⟨E.k, fun w c y => E.R w c (g y), fun h hb hc => E.up h hb hc⟩
end Go.Rd
namespace Go.Ck
set_option linter.unusedVariables false
structure Tgt where
  service : ByteArray
  split : ByteArray
  weight : Nat
structure Rul where
  path : ByteArray
  method : ByteArray
  split : ByteArray
  allow : Bool
structure Res where
  kind : Int
  name : ByteArray
  eps : List ByteArray
  tgts : List Tgt
  host : ByteArray
  rules : List Rul
  route : ByteArray
  del : Bool
def tgtE : Rd.Elem Tgt := (Rd.pair Rd.str (Rd.pair Rd.str (Rd.pair Rd.float Rd.none))).map fun t => (t.service, t.split, t.weight, ())
def rulE : Rd.Elem Rul := (Rd.pair Rd.str (Rd.pair Rd.str (Rd.pair Rd.str (Rd.pair Rd.bool Rd.none)))).map fun t => (t.path, t.method, t.split, t.allow, ())
def resE : Rd.Elem Res := (Rd.pair Rd.int (Rd.pair Rd.str (Rd.pair (Rd.slice Rd.str) (Rd.pair (Rd.slice tgtE) (Rd.pair Rd.str (Rd.pair (Rd.slice rulE) (Rd.pair Rd.str (Rd.pair Rd.bool Rd.none)))))))).map
  fun r => (r.kind, r.name, r.eps, r.tgts, r.host, r.rules, r.route, r.del, ())
/-! ### how much there is -/
def strM (s : ByteArray) : Nat := s.size + 1
def epsM (l : List ByteArray) : Nat := (l.map strM).sum + 1
def tgtM (t : Tgt) : Nat := strM t.service + (strM t.split + (1 + 0))
def tgtsM (l : List Tgt) : Nat := (l.map tgtM).sum + 1
def rulM (t : Rul) : Nat := strM t.path + (strM t.method + (strM t.split + (1 + 0)))
def rulsM (l : List Rul) : Nat := (l.map rulM).sum + 1
def resM (r : Res) : Nat := 1 + (strM r.name + (epsM r.eps + (tgtsM r.tgts + (strM r.host + (rulsM r.rules + (strM r.route + (1 + 0)))))))
def listM (l : List Res) : Nat := (l.map resM).sum + 1
theorem sum_len {α : Type} (m : α → Nat) (h : ∀ x, 1 ≤ m x) : ∀ l : List α, l.length ≤ (l.map m).sum
  | [] => by simp
  | x :: l => by have := h x; have := sum_len m h l; simp only [List.length_cons, List.map_cons, List.sum_cons]; omega
theorem sum_mem {α : Type} (m : α → Nat) : ∀ (l : List α) x, x ∈ l → m x ≤ (l.map m).sum
  | y :: l, x, h => by
    simp only [List.map_cons, List.sum_cons]
    rcases List.mem_cons.1 h with rfl | h
    · omega
    · have := sum_mem m l x h; omega
theorem len_le (l : List Res) : l.length ≤ listM l := by
  have := sum_len resM (fun r => by unfold resM; omega) l
  unfold listM; omega
theorem eps_le (r : Res) : r.eps.length ≤ resM r := by
  have := sum_len strM (fun s => by unfold strM; omega) r.eps
  unfold resM epsM; omega
theorem tgts_le (r : Res) : r.tgts.length ≤ resM r := by
  have := sum_len tgtM (fun s => by unfold tgtM; omega) r.tgts
  unfold resM tgtsM; omega
theorem rules_le (r : Res) : r.rules.length ≤ resM r := by
  have := sum_len rulM (fun s => by unfold rulM; omega) r.rules
  unfold resM rulsM; omega
theorem mem_le {l : List Res} {r : Res} (h : r ∈ l) : resM r ≤ listM l := by have := sum_mem resM l r h; unfold listM; omega
/-! ### the first number below n with a property -/
def firstN (n : Nat) (p : Nat → Bool) : Int := match (List.range n).find? p with
  | some i => i
  | none => -1
theorem firstN_none {n : Nat} {p : Nat → Bool} (h : ∀ j, j < n → p j = false) : firstN n p = -1 := by
  unfold firstN
  have : (List.range n).find? p = none := by
    rw [List.find?_eq_none]
    intro x hx
    rw [h x (List.mem_range.1 hx)]; simp
  rw [this]
theorem firstN_at {n i : Nat} {p : Nat → Bool} (h : ∀ j, j < i → p j = false) (hi : i < n) (hp : p i = true) : firstN n p = i := by
  unfold firstN
  have : (List.range n).find? p = some i := by
    rw [List.find?_range_eq_some]
    exact ⟨hp, List.mem_range.2 hi, fun j hj => by rw [h j hj]; rfl⟩
  rw [this]
theorem firstN_cases (n : Nat) (p : Nat → Bool) : (firstN n p = -1 ∧ ∀ j, j < n → p j = false) ∨ ∃ i, i < n ∧ firstN n p = i ∧ p i = true ∧ ∀ j, j < i → p j = false := by
  unfold firstN
  cases h : (List.range n).find? p with
  | none =>
    rw [List.find?_eq_none] at h
    exact .inl ⟨rfl, fun j hj => by simpa using h j (List.mem_range.2 hj)⟩
  | some i =>
    obtain ⟨h1, h2, h3⟩ := List.find?_range_eq_some.1 h
    exact .inr ⟨i, List.mem_range.1 h2, rfl, h1, fun j hj => by simpa using h3 j hj⟩
theorem firstN_congr {n : Nat} {p q : Nat → Bool} (h : ∀ j, j < n → p j = q j) : firstN n p = firstN n q := by
  rcases firstN_cases n q with ⟨e, h1⟩ | ⟨i, hi, e, h1, h2⟩
  · rw [e]; exact firstN_none (fun j hj => by rw [h j hj]; exact h1 j hj)
  · rw [e]; exact firstN_at (fun j hj => by rw [h j (by omega)]; exact h2 j hj) hi (by rw [h i hi]; exact h1)
theorem firstN_lt (n : Nat) (p : Nat → Bool) : -1 ≤ firstN n p ∧ firstN n p < n := by
  rcases firstN_cases n p with ⟨e, _⟩ | ⟨i, hi, e, _⟩ <;> rw [e] <;> omega
/-! ### keys and their order -/
def slt (a b : ByteArray) : Bool := Op.bytesLess a.toList b.toList
def seq (a b : ByteArray) : Bool := a.toList == b.toList
theorem seq_iff {a b : ByteArray} : seq a b = true ↔ a = b := by
  unfold seq
  rw [beq_iff_eq]
  exact ⟨fun h => Go.Mp.bytes_of_toList h, fun h => by rw [h]⟩
theorem seq_not {a b : ByteArray} : seq a b = false ↔ a ≠ b := by
  rw [← Bool.not_eq_true]; exact not_congr seq_iff
def less (a b : Res) : Bool := decide (a.kind < b.kind) || (a.kind == b.kind && slt a.name b.name)
def badAt (l : List Res) (i : Nat) (r : Res) : Bool := decide (r.kind < 1) || decide (4 < r.kind) || r.del || (decide (0 < i) && match l[i - 1]? with
  | some p => !less p r
  | none => false)
def badIx (l : List Res) (i : Nat) : Bool := match l[i]? with
  | some r => badAt l i r
  | none => false
/-- The first resource out of order. -/
def outI (l : List Res) : Int := firstN l.length (badIx l)
theorem badIx_at {l : List Res} {i : Nat} {r : Res} (h : l[i]? = some r) : badIx l i = badAt l i r := by unfold badIx; rw [h]
/-! ### what is named -/
def isK (k : Int) (n : ByteArray) (r : Res) : Bool := r.kind == k && seq r.name n
def findIx (l : List Res) (k : Int) (n : ByteArray) (i : Nat) : Bool := match l[i]? with
  | some r => isK k n r
  | none => false
def findI (l : List Res) (k : Int) (n : ByteArray) : Int := firstN l.length (findIx l k n)
theorem findIx_at {l : List Res} {k : Int} {n : ByteArray} {i : Nat} {r : Res} (h : l[i]? = some r) : findIx l k n i = isK k n r := by unfold findIx; rw [h]
def has (l : List Res) (k : Int) (n : ByteArray) : Bool := decide (0 ≤ findI l k n)
theorem has_iff {l : List Res} {k : Int} {n : ByteArray} : has l k n = true ↔ ∃ r ∈ l, r.kind = k ∧ r.name = n := by
  unfold has findI
  rw [decide_eq_true_iff]
  rcases firstN_cases l.length (findIx l k n) with ⟨e, h1⟩ | ⟨i, hi, e, h1, h2⟩
  · rw [e]
    refine ⟨fun h => absurd h (by omega), fun ⟨r, hr, hk, hn⟩ => ?_⟩
    obtain ⟨i, hi⟩ := List.mem_iff_getElem?.1 hr
    have h3 := h1 i (List.getElem?_eq_some_iff.1 hi).1
    rw [findIx_at hi] at h3
    have h4 : isK k n r = true := by unfold isK; rw [hk, hn]; simp [seq_iff]
    rw [h3] at h4; cases h4
  · rw [e]
    refine ⟨fun _ => ?_, fun _ => by omega⟩
    have hx := List.getElem?_eq_getElem hi
    rw [findIx_at hx] at h1
    unfold isK at h1
    rw [Bool.and_eq_true, beq_iff_eq, seq_iff] at h1
    exact ⟨_, List.mem_of_getElem? hx, h1.1, h1.2⟩
def noS (s : ByteArray) : Bool := s.toList.isEmpty
def badT (l : List Res) (t : Tgt) : Bool := if noS t.service = true then !has l 2 t.split else !has l 1 t.service
def badTx (l : List Res) (r : Res) (i : Nat) : Bool := match r.tgts[i]? with
  | some t => badT l t
  | none => false
def badRx (l : List Res) (r : Res) (i : Nat) : Bool := match r.rules[i]? with
  | some t => !has l 2 t.split
  | none => false
theorem badTx_at {l : List Res} {r : Res} {i : Nat} {t : Tgt} (h : r.tgts[i]? = some t) : badTx l r i = badT l t := by unfold badTx; rw [h]
theorem badRx_at {l : List Res} {r : Res} {i : Nat} {t : Rul} (h : r.rules[i]? = some t) : badRx l r i = !has l 2 t.split := by unfold badRx; rw [h]
def upI (n : Int) : Int := if n < 0 then -1 else n + 1
/-- What of a resource names nothing. -/
def dangI (l : List Res) (r : Res) : Int :=
  if r.kind = 2 then upI (firstN r.tgts.length (badTx l r))
  else if r.kind = 3 then upI (firstN r.rules.length (badRx l r))
  else if r.kind = 4 then (if has l 3 r.route = true then -1 else 0)
  else -1
def dangIx (l : List Res) (i : Nat) : Bool := match l[i]? with
  | some r => decide (0 ≤ dangI l r)
  | none => false
theorem dangIx_at {l : List Res} {i : Nat} {r : Res} (h : l[i]? = some r) : dangIx l i = decide (0 ≤ dangI l r) := by unfold dangIx; rw [h]
/-! ### hosts -/
def twiceIx (l : List Res) (i : Nat) : Bool := match l[i]? with
  | some r => r.kind == 3 && (l.take i).any fun p => p.kind == 3 && seq r.host p.host
  | none => false
/-! ### weights -/
open Go.Proofs.Ytjepgpocmnijiaa in
def geF (x y : Nat) : Bool := FloatKind.f64.format.order x y == some .gt || FloatKind.f64.format.order x y == some .eq
def leF (x y : Nat) : Bool := FloatKind.f64.format.order x y == some .lt || FloatKind.f64.format.order x y == some .eq
/-- May a weight be? -/
def wOk (x : Nat) : Bool := geF x 0 && leF x 4636737291354636288
def sumOk (x : Nat) : Bool := geF x 4636737291287527424 && leF x 4636737291421745152
def weights (r : Res) : List Nat := r.tgts.map (·.weight)
def heavy (r : Res) : Bool := !((weights r).all wOk && sumOk (Go.Proofs.Ytjepgpocmnijiaa.Cum.sumTo (weights r) r.tgts.length))
def heavyIx (l : List Res) (i : Nat) : Bool := match l[i]? with
  | some r => r.kind == 2 && heavy r
  | none => false
theorem heavyIx_at {l : List Res} {i : Nat} {r : Res} (h : l[i]? = some r) : heavyIx l i = (r.kind == 2 && heavy r) := by unfold heavyIx; rw [h]
/-! ### depths -/
def tgtsOf (l : List Res) (n : ByteArray) : List Tgt := match l.find? (isK 2 n) with
  | some r => r.tgts
  | none => []
def stepE (e : ByteArray → Nat) : List Tgt → Nat → Nat
  | [], n => n
  | t :: ts, n => if noS t.service = true then (if e t.split = 0 then 0 else stepE e ts (max n (e t.split + 1))) else stepE e ts n
/-- The depth of a split as far as it is known behind so many rounds; 0: it isn't. -/
def known (l : List Res) : Nat → ByteArray → Nat
  | 0, _ => 0
  | r + 1, n => if has l 2 n = true then stepE (known l r) (tgtsOf l n) 1 else 0
def ringIx (l : List Res) (i : Nat) : Bool := match l[i]? with
  | some r => r.kind == 2 && decide (known l 8 r.name = 0)
  | none => false
theorem ringIx_at {l : List Res} {i : Nat} {r : Res} (h : l[i]? = some r) : ringIx l i = (r.kind == 2 && decide (known l 8 r.name = 0)) := by unfold ringIx; rw [h]
end Go.Ck
end

section
/- What the patterns of hosts, paths and methods come to, over lists of bytes: plain functions and plain facts. -/
namespace Go.Pa
set_option linter.unusedVariables false

abbrev Bs := List UInt8
def pathc (c : UInt8) : Bool := 33 ≤ c && c ≤ 126
def lowc (c : UInt8) : UInt8 := if 65 ≤ c && c ≤ 90 then c + 32 else c
def hostc (c : UInt8) : Bool := 97 ≤ c && c ≤ 122 || (48 ≤ c && c ≤ 57 || (c == 45 || c == 46))
def isPath (l : Bs) : Bool := decide (1 ≤ l.length) && (decide (l.length ≤ 256) && (l.head? == some 47 && l.all pathc))
def foldOk (l : Bs) : Bool := decide (1 ≤ l.length) && (decide (l.length ≤ 64) && l.all fun c => hostc (lowc c))
/-- A host, folded; none: it is none. -/
def foldH (l : Bs) : Option Bs := if foldOk l then some (l.map lowc) else none
/-- A pattern's sortH (0 a host, 1 under, 2 all, 3 none), and what stands in it. -/
def sortH (l : Bs) : Int × Bs :=
  if l = [42] then (2, [])
  else if Lib.hasPrefix l [42, 46] then match foldH (l.drop 2) with | some h => (1, h) | none => (3, l)
  else match foldH l with | some h => (0, h) | none => (3, l)
def starred (l : Bs) : Bool := Lib.hasSuffix l [42]
def aheadS (l : Bs) : Bs := if starred l then l.take (l.length - 1) else l
def pathPat (l : Bs) : Bool := starred l && (aheadS l).isEmpty || isPath (aheadS l)
def hostTakes (p n : Bs) : Bool := match foldH n with
  | none => false
  | some h => if (sortH p).1 = 0 then (sortH p).2 == h else if (sortH p).1 = 1 then Lib.hasSuffix h (46 :: (sortH p).2) else (sortH p).1 == 2
def pathCovers (a b : Bs) : Bool := pathPat a && (pathPat b && (a == b || (starred a && Lib.hasPrefix (aheadS b) (aheadS a))))
def cmpI (x y : Int) : Int := if x < y then -1 else if y < x then 1 else 0
def cmpL : Bs → Bs → Int
  | [], [] => 0
  | [], _ :: _ => -1
  | _ :: _, [] => 1
  | a :: x, b :: y => if a < b then -1 else if b < a then 1 else cmpL x y
def orderH (a b : Bs) : Int :=
  if (sortH a).1 = (sortH b).1 then
    if (sortH a).1 = 1 ∧ (sortH a).2.length ≠ (sortH b).2.length then cmpI (sortH b).2.length (sortH a).2.length else cmpL (sortH a).2 (sortH b).2
  else cmpI (sortH a).1 (sortH b).1
end Go.Pa
end

section

namespace Go.Proofs.Ytjepgpocmnijiaa
open Go.ChangeShapes Go.WideShapes Go.ChangeAt Go.RowKit
open Go.Pa
set_option linter.unusedVariables false

theorem take_snoc (s : ByteArray) (k : Nat) (h : k < s.size) : s.data.toList.take (k + 1) = s.data.toList.take k ++ [s[k]] := by
  rw [List.take_succ_eq_append_getElem (by simpa using h)]; rfl
theorem len_data (s : ByteArray) : s.data.toList.length = s.size := by simp only [Array.length_toList]; rfl
theorem take_all (s : ByteArray) {k : Nat} (h : s.size ≤ k) : s.data.toList.take k = s.data.toList := List.take_of_length_le (by rw [len_data]; exact h)
theorem all_step {f : UInt8 → Bool} (s : ByteArray) (k : Nat) (h : k < s.size) (ha : (s.data.toList.take k).all f = true) (hf : f s[k] = true) : (s.data.toList.take (k + 1)).all f = true := by
  rw [take_snoc s k h, List.all_append, ha]; simp [hf]
theorem all_no {f : UInt8 → Bool} (s : ByteArray) (k : Nat) (h : k < s.size) (hf : f s[k] = false) : s.data.toList.all f = false := by
  rw [Bool.eq_false_iff]
  intro ha
  have := List.all_eq_true.1 ha s[k] (by
    have e : s[k] = s.data.toList[k]'(by rw [len_data]; exact h) := rfl
    rw [e]; exact List.getElem_mem _)
  rw [hf] at this; cases this
theorem u8_lo {c : UInt8} {n : Nat} (hn : n < 256) : (UInt8.ofNat n ≤ c) ↔ ((n : Int) ≤ (c.toNat : Int)) := by
  rw [UInt8.le_iff_toNat_le, UInt8.toNat_ofNat_of_lt' (by simpa using hn)]; omega
theorem u8_hi {c : UInt8} {n : Nat} (hn : n < 256) : (c ≤ UInt8.ofNat n) ↔ ((c.toNat : Int) ≤ (n : Int)) := by
  rw [UInt8.le_iff_toNat_le, UInt8.toNat_ofNat_of_lt' (by simpa using hn)]; omega
theorem pathc_iff (c : UInt8) : pathc c = true ↔ (33 : Int) ≤ (c.toNat : Int) ∧ (c.toNat : Int) ≤ 126 := by
  unfold pathc; rw [Bool.and_eq_true, decide_eq_true_eq, decide_eq_true_eq]
  exact and_congr (u8_lo (n := 33) (by decide)) (u8_hi (n := 126) (by decide))
theorem ret_bool {a b : Bool} (h : a = b) : Ending.returned (.bool a) = Ending.returned (.bool b) := by rw [h]
theorem pre_yes {s p : ByteArray} (h : p.size ≤ s.size) : ((s.extract 0 p.size).toList == p.toList) = Lib.hasPrefix s.data.toList p.data.toList := by
  rw [← Lib.hasPrefix_of_take, Lib.extract_toList, Lib.toList_data, len_data, len_data]
  simp [h]
theorem pre_no {s p : ByteArray} (h : ¬ p.size ≤ s.size) : false = Lib.hasPrefix s.data.toList p.data.toList := by
  rw [← Lib.hasPrefix_of_take, len_data, len_data]
  simp [h]
theorem suf_yes {s p : ByteArray} (h : p.size ≤ s.size) : ((s.extract (s.size - p.size) s.size).toList == p.toList) = Lib.hasSuffix s.data.toList p.data.toList := by
  rw [← Lib.hasSuffix_of_drop, Lib.extract_toList, Lib.toList_data, len_data, len_data]
  have : (s.data.toList.drop (s.size - p.size)).take (s.size - (s.size - p.size)) = s.data.toList.drop (s.size - p.size) := List.take_of_length_le (by rw [List.length_drop, len_data]; omega)
  rw [this]
  simp [h]
theorem suf_no {s p : ByteArray} (h : ¬ p.size ≤ s.size) : false = Lib.hasSuffix s.data.toList p.data.toList := by
  rw [← Lib.hasSuffix_of_drop, len_data, len_data]
  simp [h]

theorem hassuf_any (s p : ByteArray) (w : World) (hs : s.size ≤ maxLen) (hp : p.size ≤ maxLen) :
    Calls Try.prog 126 #[.string s, .string p] w fun e w' => e = .returned (.bool (Lib.hasSuffix s.data.toList p.data.toList)) ∧ w = w' := by
  unfold maxLen at hs hp
  by_cases h : p.size ≤ s.size
  · have h1 := Lib.hid (suf_yes h)
    go_enter Try.func126, Try.ntmps126
    go_wp2
    go_ret
    exact ⟨ret_bool h1.out, rfl⟩
  · have h1 := Lib.hid (suf_no h)
    go_enter Try.func126, Try.ntmps126
    go_wp2
    go_ret
    exact ⟨ret_bool h1.out, rfl⟩
theorem haspre_any (s p : ByteArray) (w : World) (hs : s.size ≤ maxLen) (hp : p.size ≤ maxLen) :
    Calls Try.prog 140 #[.string s, .string p] w fun e w' => e = .returned (.bool (Lib.hasPrefix s.data.toList p.data.toList)) ∧ w = w' := by
  unfold maxLen at hs hp
  by_cases h : p.size ≤ s.size
  · have h1 := Lib.hid (pre_yes h)
    go_enter Try.func140, Try.ntmps140
    go_wp2
    go_ret
    exact ⟨ret_bool h1.out, rfl⟩
  · have h1 := Lib.hid (pre_no h)
    go_enter Try.func140, Try.ntmps140
    go_wp2
    go_ret
    exact ⟨ret_bool h1.out, rfl⟩
end Go.Proofs.Ytjepgpocmnijiaa
end
