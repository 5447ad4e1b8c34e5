/- The small functions of lines: blanks, over, name. -/
import Derived.Test.YtcnjmkjfgghgoaaZt0
import Derived.Test.YtcnjmkjfgghgoaaZt4
import Derived.WalkKit
import Derived.Lib.IndexMore
import Derived.Lib.Strings
import Derived.Test.YtcnjmkjfgghgoaaProg
import Derived.WalkLawsBesides
import Derived.WalkSpells
import Derived.Lib.Hide
import Derived.Deep.LoopGhost
import Derived.Deep.DeepCutAuto
import Derived.Outline
section
/- Nodes read in memory. -/
namespace Go.Proofs.Ytcnjmkjfgghgoaa
open Go.RowKit Go.Mp Go.Tr
set_option linter.unusedVariables false
def KidV (w : World) (v : Value) (ks : List Int) : Prop := ∃ ao cap, v = .slice ao ks.length cap ∧ ks.length ≤ 140737488351232 ∧ ∀ (i : Nat) (x : Int), ks[i]? = some x → ∃ g off, ao = some ⟨g, off, none⟩ ∧ g < w.heap.size ∧ w.cell? ⟨g, off + i, none⟩ = some (.int .i64 x)
def NdV (w : World) (v : Value) (ns : List Nd) : Prop := ns.length ≤ 140737488351232 ∧ ∃ ao cap, v = .slice ao ns.length cap ∧ ∀ (i : Nat) (n : Nd), ns[i]? = some n → ∃ g off kv, ao = some ⟨g, off, none⟩ ∧ g < w.heap.size ∧ w.cell? ⟨g, off + i * 6, none⟩ = some (.int .i64 n.kind) ∧ w.cell? ⟨g, off + i * 6 + 1, none⟩ = some (.string n.key) ∧ w.cell? ⟨g, off + i * 6 + 2, none⟩ = some (.string n.text) ∧ w.cell? ⟨g, off + i * 6 + 3, none⟩ = some (.bool n.quoted) ∧ w.cell? ⟨g, off + i * 6 + 4, none⟩ = some (.int .i64 n.line) ∧ w.cell? ⟨g, off + i * 6 + 5, none⟩ = some kv ∧ KidV w kv n.kids
theorem KidV.tch {w w' : World} {v : Value} {ks : List Int} (h : KidV w v ks) (t : Tch No w w') : KidV w' v ks := by
  obtain ⟨ao, cap, rfl, hl, h⟩ := h
  refine ⟨ao, cap, rfl, hl, fun i x hx => ?_⟩
  obtain ⟨g, off, rfl, hg, hc⟩ := h i x hx
  exact ⟨g, off, rfl, Nat.lt_of_lt_of_le hg t.size, t.cell_some hc id⟩
theorem NdV.tch {w w' : World} {v : Value} {ns : List Nd} (h : NdV w v ns) (t : Tch No w w') : NdV w' v ns := by
  obtain ⟨hl, ao, cap, rfl, h⟩ := h
  refine ⟨hl, ao, cap, rfl, fun i n hn => ?_⟩
  obtain ⟨g, off, kv, rfl, hg, h0, h1, h2, h3, h4, h5, hk⟩ := h i n hn
  exact ⟨g, off, kv, rfl, Nat.lt_of_lt_of_le hg t.size, t.cell_some h0 id, t.cell_some h1 id, t.cell_some h2 id, t.cell_some h3 id, t.cell_some h4 id, t.cell_some h5 id, hk.tch t⟩
theorem NdV.shape {w : World} {v : Value} {ns : List Nd} (h : NdV w v ns) : ∃ ao cap, v = .slice ao ns.length cap := by
  obtain ⟨_, ao, cap, rfl, _⟩ := h; exact ⟨ao, cap, rfl⟩
theorem KidV.shape {w : World} {v : Value} {ks : List Int} (h : KidV w v ks) : ∃ ao cap, v = .slice ao ks.length cap := by
  obtain ⟨ao, cap, rfl, _⟩ := h; exact ⟨ao, cap, rfl⟩
theorem NdV.at {w : World} {ao : Option Addr} {len cap : Nat} {ns : List Nd} (h : NdV w (.slice ao len cap) ns) {i : Nat} {n : Nd} (hn : ns[i]? = some n) : ∃ g off kv, ao = some ⟨g, off, none⟩ ∧ g < w.heap.size ∧ w.cell? ⟨g, off + i * 6, none⟩ = some (.int .i64 n.kind) ∧ w.cell? ⟨g, off + i * 6 + 1, none⟩ = some (.string n.key) ∧ w.cell? ⟨g, off + i * 6 + 2, none⟩ = some (.string n.text) ∧ w.cell? ⟨g, off + i * 6 + 3, none⟩ = some (.bool n.quoted) ∧ w.cell? ⟨g, off + i * 6 + 4, none⟩ = some (.int .i64 n.line) ∧ w.cell? ⟨g, off + i * 6 + 5, none⟩ = some kv ∧ KidV w kv n.kids := by
  obtain ⟨_, ao, cap, e, h⟩ := h
  cases e
  exact h i n hn
theorem KidV.at {w : World} {ao : Option Addr} {len cap : Nat} {ks : List Int} (h : KidV w (.slice ao len cap) ks) {i : Nat} {x : Int} (hx : ks[i]? = some x) : ∃ g off, ao = some ⟨g, off, none⟩ ∧ g < w.heap.size ∧ w.cell? ⟨g, off + i, none⟩ = some (.int .i64 x) := by
  obtain ⟨ao, cap, e, _, h⟩ := h
  cases e
  exact h i x hx
/-- The keys that were seen. -/
def sf (seen : List ByteArray) : ByteArray → Option Value := fun k => if (seen.any fun x => decide (x = k)) = true then some (.bool true) else none
theorem sent_nil : Go.Mp.Ent sk #[] 0 (sf []) := by
  have h := ent_nil
  exact Ent.congr h (fun k => rfl)
theorem sf_add (seen : List ByteArray) (k : ByteArray) (x : ByteArray) : upd (sf seen) k (.bool true) x = sf (k :: seen) x := by
  unfold upd sf
  by_cases h : x = k
  · subst h; simp
  · rw [if_neg h]
    have : decide (k = x) = false := decide_eq_false (fun e => h e.symm)
    simp only [List.any_cons, this, Bool.false_or]
end Go.Proofs.Ytcnjmkjfgghgoaa
end

section
/- Lines of text as tokens, in plain words: no program in sight. -/
namespace Go.Ln
open Go.RowKit
set_option linter.unusedVariables false
/-- A token: kind, line, column, text, quoted. -/
structure Tk where
  kind : Int
  line : Int
  col : Int
  text : List UInt8
  quoted : Bool
deriving DecidableEq
def spaces : List UInt8 → Nat
  | [] => 0
  | c :: r => if c = 32 then spaces r + 1 else 0
def letter (c : UInt8) : Bool := decide (97 ≤ c) && decide (c ≤ 122) || (decide (65 ≤ c) && decide (c ≤ 90) || (decide (48 ≤ c) && decide (c ≤ 57) || (decide (c = 95) || (decide (c = 45) || decide (c = 46)))))
def letters : List UInt8 → Nat
  | [] => 0
  | c :: r => if letter c = true then letters r + 1 else 0
def blanks (l : List UInt8) (i : Nat) : Nat := i + spaces (l.drop i)
def over (l : List UInt8) (i : Nat) : Bool := decide (i = l.length) || decide (l[i]? = some 35)
def behind (l : List UInt8) (i : Nat) : Nat := i + letters (l.drop i)
def sound (l : List UInt8) : Int := if 0 ≤ Lib.indexByte l 9 then 80 else if (l.any fun c => decide (c < 32) || decide (c = 127)) = true then 83 else 0
def hexes : List UInt8 := [48, 49, 50, 51, 52, 53, 54, 55, 56, 57, 97, 98, 99, 100, 101, 102]
def hexI (c : UInt8) : Int := Lib.indexByte hexes c
def hexB (h l : UInt8) : Option UInt8 := if hexI h < 0 ∨ hexI l < 0 then none else some (UInt8.ofNat ((hexI h).toNat * 16 + (hexI l).toNat))
def more (c : UInt8) (k : Nat) : Option (List UInt8 × Nat) → Option (List UInt8 × Nat)
  | none => none
  | some (t, n) => some (c :: t, n + k)
/-- A quoted text behind its first sign: what it stands for, how many bytes it takes. -/
def qread (e : UInt8) : List UInt8 → Option (List UInt8 × Nat)
  | [] => none
  | [c] => if c = e then some ([], 1) else none
  | c :: d :: r =>
    if c = e then (if e = 39 ∧ d = 39 then more 39 2 (qread e r) else some ([], 1))
    else if c ≠ 92 ∨ e = 39 then more c 1 (qread e (d :: r))
    else if d = 34 ∨ d = 92 then more d 2 (qread e r)
    else if d = 110 then more 10 2 (qread e r)
    else if d = 116 then more 9 2 (qread e r)
    else if d = 120 then match r with
      | h :: x :: r3 => match hexB h x with
        | none => none
        | some b => more b 4 (qread e r3)
      | _ => none
    else none
def bads : List UInt8 := [34, 39, 35, 44, 91, 93, 123, 125, 38, 42, 33, 124, 62, 37, 64, 63, 58, 96]
def rtrim (l : List UInt8) : List UInt8 := (l.reverse.dropWhile fun c => decide (c = 32)).reverse
/-- A plain scalar: its text. -/
def plain (l : List UInt8) : Option (List UInt8) :=
  match l with
  | [] => none
  | c :: r =>
    if 0 ≤ Lib.indexByte bads c ∨ c = 45 ∧ (r = [] ∨ r[0]? = some 32) then none
    else
      let t := rtrim (if 0 ≤ Lib.index l [32, 35] then l.take (Lib.index l [32, 35]).toNat else l)
      if 0 ≤ Lib.index t [58, 32] ∨ Lib.hasSuffix t [58] = true ∨ t = [45, 45, 45] then none else some t
def quoteAt (l : List UInt8) (i : Nat) : Bool := decide (l[i]? = some 34) || decide (l[i]? = some 39)
def scalar (l : List UInt8) (n : Int) (i : Nat) (out : List Tk) : Except Int (List Tk) :=
  if over l i = true then .ok out
  else if quoteAt l i = true then
    match qread ((l[i]?).getD 0) (l.drop (i + 1)) with
    | none => .error 82
    | some (t, k) =>
      let j := blanks l (i + 1 + k)
      if j < l.length ∧ (j = i + 1 + k ∨ l[j]? ≠ some 35) then .error 82 else .ok (out ++ [⟨4, n, i, t, true⟩])
  else match plain (l.drop i) with
    | none => .error 83
    | some t => .ok (out ++ [⟨4, n, i, t, false⟩])
def colon (l : List UInt8) (k : Nat) : Bool := decide (l[k]? = some 58) && (decide (k + 1 = l.length) || decide (l[k + 1]? = some 32))
def keyed (l : List UInt8) (n : Int) (i : Nat) (out : List Tk) : Except Int (List Tk) :=
  if quoteAt l i = true then
    match qread ((l[i]?).getD 0) (l.drop (i + 1)) with
    | none => .error 82
    | some (t, k) => if colon l (i + 1 + k) = true then scalar l n (blanks l (i + 1 + k + 1)) (out ++ [⟨3, n, i, t, true⟩]) else scalar l n i out
  else
    let k := behind l i
    if i < k ∧ k - i ≤ 64 ∧ colon l k = true then scalar l n (blanks l (k + 1)) (out ++ [⟨3, n, i, (l.drop i).take (k - i), false⟩]) else scalar l n i out
def itemAt (l : List UInt8) (i : Nat) : Bool := decide (l[i]? = some 45) && (decide (i + 1 = l.length) || decide (l[i + 1]? = some 32))
def items (l : List UInt8) (n : Int) : Nat → Nat → List Tk → Except Int (List Tk)
  | 0, _, out => .ok out
  | f + 1, i, out => if over l i = true then .ok out else if itemAt l i = true then items l n f (blanks l (i + 1)) (out ++ [⟨2, n, i, [], false⟩]) else keyed l n i out
def docAt (l : List UInt8) : Bool := Lib.hasPrefix l [45, 45, 45] && (decide (blanks l 3 = l.length) || decide (3 < blanks l 3) && decide (l[blanks l 3]? = some 35))
/-- A line's tokens, or what is wrong. -/
def line (l : List UInt8) (n : Int) : Except Int (List Tk) :=
  if sound l ≠ 0 then .error (sound l)
  else if docAt l = true then .ok [⟨1, n, 0, [], false⟩]
  else items l n (l.length + 1) (blanks l 0) []
def linesOf (cur : List UInt8) : List UInt8 → List (List UInt8)
  | [] => if cur.isEmpty then [] else [cur]
  | c :: r => if c = 10 then cur :: linesOf [] r else linesOf (cur ++ [c]) r
def docsIn (ts : List Tk) : Nat := (ts.filter fun t => decide (t.kind = 1)).length
/-- The tokens of lines: those ahead of a fault, too. -/
def scanL : Nat → Nat → List (List UInt8) → List Tk × Option (Nat × Nat × Int)
  | _, _, [] => ([], none)
  | docs, n, l :: ls => match line l (n + 1 : Nat) with
    | .error e => ([], some (docs, n + 1, e))
    | .ok ts => let r := scanL (docs + docsIn ts) (n + 1) ls; (ts ++ r.1, r.2)
def scan (text : List UInt8) : List Tk × Option (Nat × Nat × Int) := if 65536 < text.length then ([], some (0, 0, 3)) else scanL 0 0 (linesOf [] text)
/- a: b -/
example : scan [97, 58, 32, 98, 10] = ([⟨3, 1, 0, [97], false⟩, ⟨4, 1, 3, [98], false⟩], none) := by decide +kernel
example : scan [97, 58, 32, 42, 10] = ([], some (0, 1, 83)) := by decide +kernel
end Go.Ln
end

section

namespace Go.Ln
open Go.RowKit
theorem len_data (s : ByteArray) : s.data.toList.length = s.size := by simp only [Array.length_toList]; rfl
theorem at_data (s : ByteArray) {i : Nat} (h : i < s.size) : s.data.toList[i]? = some s[i] := by
  rw [List.getElem?_eq_getElem (by rw [len_data]; exact h)]; rfl
theorem no_data (s : ByteArray) {i : Nat} (h : ¬ i < s.size) : s.data.toList[i]? = none := List.getElem?_eq_none (by rw [len_data]; omega)
theorem drop_data (s : ByteArray) {i : Nat} (h : i < s.size) : s.data.toList.drop i = s[i] :: s.data.toList.drop (i + 1) := by
  rw [List.drop_eq_getElem_cons (by rw [len_data]; exact h)]; rfl
theorem drop_no (s : ByteArray) {i : Nat} (h : ¬ i < s.size) : s.data.toList.drop i = [] := List.drop_eq_nil_of_le (by rw [len_data]; omega)
theorem u8_eq {c : UInt8} {n : Nat} (hn : n < 256) : c = UInt8.ofNat n ↔ (c.toNat : Int) = (n : Int) := by
  constructor
  · rintro rfl; rw [UInt8.toNat_ofNat_of_lt' (by simpa using hn)]
  · intro h
    apply UInt8.toNat_inj.1
    rw [UInt8.toNat_ofNat_of_lt' (by simpa using hn)]; omega
theorem u8_lo {c : UInt8} {n : Nat} (hn : n < 256) : (UInt8.ofNat n ≤ c) ↔ ((n : Int) ≤ (c.toNat : Int)) := by
  rw [UInt8.le_iff_toNat_le, UInt8.toNat_ofNat_of_lt' (by simpa using hn)]; omega
theorem u8_hi {c : UInt8} {n : Nat} (hn : n < 256) : (c ≤ UInt8.ofNat n) ↔ ((c.toNat : Int) ≤ (n : Int)) := by
  rw [UInt8.le_iff_toNat_le, UInt8.toNat_ofNat_of_lt' (by simpa using hn)]; omega
theorem u8_lt {c : UInt8} {n : Nat} (hn : n < 256) : (c < UInt8.ofNat n) ↔ ((c.toNat : Int) < (n : Int)) := by
  rw [UInt8.lt_iff_toNat_lt, UInt8.toNat_ofNat_of_lt' (by simpa using hn)]; omega
/-- A byte is told as the walk tells it. -/
theorem u8_beq (c : UInt8) (n : Nat) (hn : n < 256) : decide (c = UInt8.ofNat n) = ((c.toNat : Int) == (n : Int)) := by
  rw [Bool.eq_iff_iff, decide_eq_true_eq, beq_iff_eq]; exact u8_eq hn
theorem blanks_at (s : ByteArray) {i : Nat} (h : i < s.size) : blanks s.data.toList i = if ((s[i].toNat : Int) == 32) = true then blanks s.data.toList (i + 1) else i := by
  unfold blanks
  rw [drop_data s h, show ((s[i].toNat : Int) == 32) = decide (s[i] = 32) from (u8_beq s[i] 32 (by decide)).symm]
  simp only [spaces, decide_eq_true_eq]
  split <;> omega
theorem blanks_end (s : ByteArray) {i : Nat} (h : ¬ i < s.size) : blanks s.data.toList i = i := by
  unfold blanks; rw [drop_no s h]; rfl
theorem spaces_le (l : List UInt8) : spaces l ≤ l.length := by
  induction l with
  | nil => exact Nat.le_refl _
  | cons c r ih => simp only [spaces]; split <;> simp <;> omega
theorem blanks_le (l : List UInt8) {i : Nat} (h : i ≤ l.length) : blanks l i ≤ l.length := by
  have := spaces_le (l.drop i)
  unfold blanks; rw [List.length_drop] at this; omega
theorem blanks_ge (l : List UInt8) (i : Nat) : i ≤ blanks l i := Nat.le_add_right _ _
theorem letters_le (l : List UInt8) : letters l ≤ l.length := by
  induction l with
  | nil => exact Nat.le_refl _
  | cons c r ih => simp only [letters]; split <;> simp <;> omega
theorem behind_le (l : List UInt8) {i : Nat} (h : i ≤ l.length) : behind l i ≤ l.length := by
  have := letters_le (l.drop i)
  unfold behind; rw [List.length_drop] at this; omega
theorem behind_ge (l : List UInt8) (i : Nat) : i ≤ behind l i := Nat.le_add_right _ _
theorem behind_at (s : ByteArray) {i : Nat} (h : i < s.size) : behind s.data.toList i = if letter s[i] = true then behind s.data.toList (i + 1) else i := by
  unfold behind
  rw [drop_data s h]
  simp only [letters]
  split <;> omega
theorem behind_end (s : ByteArray) {i : Nat} (h : ¬ i < s.size) : behind s.data.toList i = i := by
  unfold behind; rw [drop_no s h]; rfl
theorem over_at (s : ByteArray) {i : Nat} (h : i < s.size) : over s.data.toList i = ((s[i].toNat : Int) == 35) := by
  unfold over
  rw [len_data, at_data s h, show ((s[i].toNat : Int) == 35) = decide (s[i] = 35) from (u8_beq s[i] 35 (by decide)).symm]
  have : ¬ i = s.size := by omega
  simp [this]
theorem over_end (s : ByteArray) : over s.data.toList s.size = true := by
  unfold over; rw [len_data]; simp
end Go.Ln
namespace Go.Proofs.Ytcnjmkjfgghgoaa
open Go.RowKit Go.Ln
set_option linter.unusedVariables false
set_option maxRecDepth 20000
theorem nn_lt2 {a b : Nat} (h : a < b) : (a : Int) < (b : Int) := by omega
theorem nn_ge2 {a b : Nat} (h : ¬ a < b) : decide ((a : Int) < (b : Int)) = false := decide_eq_false (by omega)
theorem nn_wrap {k m : Nat} (hk : k < m) (hm : m < 8796093022208) : wrap64 ((k : Int) + 1) = ((k + 1 : Nat) : Int) := by unfold wrap64; omega
theorem nn_down {k m : Nat} (h : k < m) : m - (k + 1) + 1 < m - k + 1 := by omega
theorem blanks_any (s : ByteArray) (i : Nat) (w : World) (hs : s.size < 8796093022208) (hi : i ≤ s.size) :
    Calls Try.prog 69 #[.string s, .int .i64 i] w fun e w' => e = .returned (.int .i64 (blanks s.data.toList i)) ∧ w = w' := by
  obtain ⟨r, hr⟩ : ∃ r, r = blanks s.data.toList i := ⟨_, rfl⟩
  rw [← hr]
  replace hs := Lib.hid hs
  replace hi := Lib.hid hi
  go_enter Try.func69, Try.ntmps69
  go_wp2
  go_loopg [1] (s.size - i + 1) (fun gg iv wr => ∃ j : Nat, gg = s.size - j + 1 ∧ iv = .int .i64 j ∧ j ≤ s.size ∧ r = blanks s.data.toList j ∧ w = wr)
  case atStart => exact ⟨i, rfl, rfl, hi.out, hr, rfl⟩
  case round =>
    obtain ⟨j, rfl, rfl, hj, hb, rfl⟩ := hrel
    clear hr
    by_cases hlt : j < s.size
    · have k0 := nn_lt2 hlt
      have hb2 := blanks_at s hlt
      have hwk := Lib.hid (nn_wrap hlt hs.out)
      cases hq : ((s[j].toNat : Int) == 32) with
      | true =>
        rw [hq] at hb2
        replace hb2 := Lib.hid hb2
        replace hb := Lib.hid hb
        replace hj := Lib.hid hj
        go_wp2
        go_roundg (s.size - (j + 1) + 1)
        case rel => exact ⟨j + 1, rfl, by rw [hwk.out], hlt, by rw [hb.out, hb2.out]; rfl, rfl⟩
        case measure => exact nn_down hlt
      | false =>
        rw [hq] at hb2
        have hv : r = j := by rw [hb, hb2]; rfl
        replace hb2 := Lib.hid hb2
        replace hb := Lib.hid hb
        replace hj := Lib.hid hj
        replace hv := Lib.hid hv
        go_wp2
        go_ret
        exact ⟨by rw [hv.out]; rfl, rfl⟩
    · have k0 := nn_ge2 hlt
      have k1 : decide (j < s.size) = false := decide_eq_false hlt
      have hv : r = j := by rw [hb, blanks_end s hlt]
      replace hb := Lib.hid hb
      replace hj := Lib.hid hj
      replace hv := Lib.hid hv
      replace hlt := Lib.hid hlt
      go_wp2
      go_ret
      exact ⟨by rw [hv.out]; rfl, rfl⟩
theorem over_any (s : ByteArray) (i : Nat) (w : World) (hs : s.size < 8796093022208) (hi : i ≤ s.size) :
    Calls Try.prog 70 #[.string s, .int .i64 i] w fun e w' => e = .returned (.bool (over s.data.toList i)) ∧ w = w' := by
  by_cases hlt : i < s.size
  · have k0 := nn_lt2 hlt
    have k1 : ((i : Int) == (s.size : Int)) = false := by rw [beq_eq_false_iff_ne]; omega
    have hv := Lib.hid (over_at s hlt)
    replace hi := Lib.hid hi
    replace hs := Lib.hid hs
    go_enter Try.func70, Try.ntmps70
    go_wp2
    go_ret
    exact ⟨by rw [hv.out]; rfl, rfl⟩
  · have e : i = s.size := by omega
    subst e
    have hv := Lib.hid (over_end s)
    replace hi := Lib.hid hi
    replace hs := Lib.hid hs
    replace hlt := Lib.hid hlt
    go_enter Try.func70, Try.ntmps70
    go_wp2
    go_ret
    exact ⟨by rw [hv.out]; rfl, rfl⟩
end Go.Proofs.Ytcnjmkjfgghgoaa
end
