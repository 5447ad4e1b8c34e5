/-
  DERIVED: THE SHELF's CONTRACTS AT THIS DUMP, IN PLAIN WORDS (tools/lay-plain.mjs out of 'TryShelf.lean', which tools/lay-shelf.mjs wrote): THE SAME DECLARATIONS UNDER THE SAME NAMES: 'import', 'namespace', 'open', 'def', 'theorem' AND NOTHING ELSE: no command of the shelf's: FOR A HAND-IN. Each laying: the table of numbers ('.._ren') and one theorem, a field a fact of the dump's own or the kernel's comparison; each contract: ONE APPLICATION.
-/
import Derived.Test.YtjepgpocmnijiaaZy3
import Derived.Test.YtjepgpocmnijiaaZy5
import Derived.Test.YtjepgpocmnijiaaRows
import Derived.Shelf.Small.Bits
import Derived.Shelf.Small.Strs
import Derived.Shelf.Small.Wraps
import Derived.Shelf.Strconv.Itoa0
import Derived.Shelf.Strings.Prefix
import Derived.Shelf.Slices.Equal
import Derived.Ground.Names2Prog
import Derived.Shelf.Slices.Clone
import Derived.Shelf.Slices.SearchI
import Derived.Shelf.Slices.Empties2
import Derived.Test.YtjepgpocmnijiaaProg
section
/- Resources in memory; the walks of what asks for keys and their order. -/
namespace Go.Ck
open Go.RowKit
set_option linter.unusedVariables false
/-- The parts of a resource that are lists, in memory. -/
structure RP (w : World) (r : Res) (ev tv rv : Value) : Prop where
  k1 : -9223372036854775808 ≤ r.kind ∧ r.kind ≤ 9223372036854775807
  nm : r.name.size ≤ maxLen
  e : Rd.SliceOf Rd.str w ev r.eps
  t : Rd.SliceOf tgtE w tv r.tgts
  hs : r.host.size ≤ maxLen
  ru : Rd.SliceOf rulE w rv r.rules
  ro : r.route.size ≤ maxLen
theorem RP.below {w w' : World} {r : Res} {ev tv rv : Value} (h : RP w r ev tv rv) (hb : Below w.heap.size w w') : RP w' r ev tv rv :=
  ⟨h.k1, h.nm, h.e.below hb, h.t.below hb, h.hs, h.ru.below hb, h.ro⟩
structure RC (w : World) (b o : Nat) (r : Res) (ev tv rv : Value) : Prop where
  c0 : w.cell? ⟨b, o, none⟩ = some (.int .i64 r.kind)
  c1 : w.cell? ⟨b, o + 1, none⟩ = some (.string r.name)
  c2 : w.cell? ⟨b, o + 2, none⟩ = some ev
  c3 : w.cell? ⟨b, o + 3, none⟩ = some tv
  c4 : w.cell? ⟨b, o + 4, none⟩ = some (.string r.host)
  c5 : w.cell? ⟨b, o + 5, none⟩ = some rv
  c6 : w.cell? ⟨b, o + 6, none⟩ = some (.string r.route)
  c7 : w.cell? ⟨b, o + 7, none⟩ = some (.bool r.del)
theorem RC.below {w w' : World} {b o : Nat} {r : Res} {ev tv rv : Value} (h : RC w b o r ev tv rv) (hb : b < w.heap.size) (hw : Below w.heap.size w w') : RC w' b o r ev tv rv :=
  ⟨(hw.cell (p := ⟨b, _, none⟩) hb).trans h.c0, (hw.cell (p := ⟨b, _, none⟩) hb).trans h.c1, (hw.cell (p := ⟨b, _, none⟩) hb).trans h.c2, (hw.cell (p := ⟨b, _, none⟩) hb).trans h.c3, (hw.cell (p := ⟨b, _, none⟩) hb).trans h.c4, (hw.cell (p := ⟨b, _, none⟩) hb).trans h.c5, (hw.cell (p := ⟨b, _, none⟩) hb).trans h.c6, (hw.cell (p := ⟨b, _, none⟩) hb).trans h.c7⟩
/-- A resource in a box of its own. -/
theorem rc_box {w : World} {b : Nat} {r : Res} {ev tv rv : Value} (h : ∀ (j : Nat) u, #[.int .i64 r.kind, .string r.name, ev, tv, .string r.host, rv, .string r.route, .bool r.del][j]? = some u → w.cell? ⟨b, j, none⟩ = some u) : RC w b 0 r ev tv rv :=
  ⟨h 0 _ rfl, h 1 _ rfl, h 2 _ rfl, h 3 _ rfl, h 4 _ rfl, h 5 _ rfl, h 6 _ rfl, h 7 _ rfl⟩
theorem resE_at {w : World} {b o : Nat} {r : Res} (h : resE.R w (Rd.cellsAt w b o) r) : ∃ ev tv rv, RC w b o r ev tv rv ∧ RP w r ev tv rv := by
  obtain ⟨⟨c0, k0, k1⟩, ⟨c1, n1⟩, ⟨ev, c2, e2⟩, ⟨tv, c3, t3⟩, ⟨c4, h4⟩, ⟨rv, c5, r5⟩, ⟨c6, o6⟩, c7, _⟩ := h
  exact ⟨ev, tv, rv, ⟨c0, c1, c2, c3, c4, c5, c6, c7⟩, ⟨⟨k0, k1⟩, n1, e2, t3, h4, r5, o6⟩⟩
theorem resE_of {w : World} {b o : Nat} {r : Res} {ev tv rv : Value} (c : RC w b o r ev tv rv) (p : RP w r ev tv rv) : resE.R w (Rd.cellsAt w b o) r :=
  ⟨⟨c.c0, p.k1.1, p.k1.2⟩, ⟨c.c1, p.nm⟩, ⟨ev, c.c2, p.e⟩, ⟨tv, c.c3, p.t⟩, ⟨c.c4, p.hs⟩, ⟨rv, c.c5, p.ru⟩, ⟨c.c6, p.ro⟩, c.c7, trivial⟩
abbrev ResS (w : World) (v : Value) (l : List Res) : Prop := Rd.SliceOf resE w v l
theorem slice_shape {α : Type} {E : Rd.Elem α} {w : World} {v : Value} {xs : List α} (h : Rd.SliceOf E w v xs) : ∃ ao cap, v = .slice ao xs.length cap := by
  obtain ⟨_, ao, cap, rfl, _, _⟩ := h
  exact ⟨_, _, rfl⟩
theorem slice_cap {α : Type} {E : Rd.Elem α} {w : World} {ao : Option Addr} {n cap : Nat} {xs : List α} (h : Rd.SliceOf E w (.slice ao n cap) xs) : n = xs.length ∧ n ≤ cap := by
  obtain ⟨_, ao', cap', e, hc, _⟩ := h
  simp only [Value.slice.injEq] at e
  obtain ⟨rfl, rfl, rfl⟩ := e
  exact ⟨rfl, hc⟩
/-- The first so many elements. -/
theorem slice_take {α : Type} {E : Rd.Elem α} {w : World} {ao : Option Addr} {n cap : Nat} {xs : List α} (h : Rd.SliceOf E w (.slice ao n cap) xs) {k : Nat} (hk : k ≤ xs.length) : Rd.SliceOf E w (.slice ao k cap) (xs.take k) := by
  obtain ⟨h1, ao', cap', e, hc, h2⟩ := h
  simp only [Value.slice.injEq] at e
  obtain ⟨rfl, rfl, rfl⟩ := e
  have hl : (xs.take k).length = k := by rw [List.length_take]; omega
  refine ⟨by omega, ao, cap, by rw [hl], by omega, ?_⟩
  rcases h2 with h2 | ⟨b, off, e, hb, hx⟩
  · exact .inl (by rw [h2]; simp)
  · refine .inr ⟨b, off, e, hb, fun i x hi => hx i x ?_⟩
    have hik : i < k := by have := (List.getElem?_eq_some_iff.1 hi).1; omega
    rw [List.getElem?_take_of_lt hik] at hi
    exact hi
/-- An element of a slice, in whatever world behind. -/
theorem at_i {α : Type} {E : Rd.Elem α} {w wr : World} {ao : Option Addr} {n cap : Nat} {xs : List α} (h : Rd.SliceOf E w (.slice ao n cap) xs) (hb : Below w.heap.size w wr) {i : Nat} {x : α} (hx : xs[i]? = some x) :
    ∃ b off, ao = some ⟨b, off, none⟩ ∧ b < w.heap.size ∧ E.R wr (Rd.cellsAt wr b (off + i * E.k)) x := by
  obtain ⟨b, off, cap', hv, hbw, hr⟩ := h.at (by rintro rfl; simp at hx)
  simp only [Value.slice.injEq] at hv
  obtain ⟨rfl, _, _⟩ := hv
  exact ⟨b, off, rfl, hbw, E.up (hr i x hx) hb (fun j _ => hb.cell (by exact hbw))⟩
theorem res_at {w wr : World} {ao : Option Addr} {n cap : Nat} {xs : List Res} (h : ResS w (.slice ao n cap) xs) (hb : Below w.heap.size w wr) {i : Nat} {x : Res} (hx : xs[i]? = some x) :
    ∃ b off eo ec ta tc ra rc, ao = some ⟨b, off, none⟩ ∧ b < w.heap.size ∧ RC wr b (off + i * 8) x (.slice eo x.eps.length ec) (.slice ta x.tgts.length tc) (.slice ra x.rules.length rc) ∧ RP wr x (.slice eo x.eps.length ec) (.slice ta x.tgts.length tc) (.slice ra x.rules.length rc) := by
  obtain ⟨b, off, e, hbw, hr⟩ := at_i h hb hx
  obtain ⟨ev, tv, rv, h1, h2⟩ := resE_at hr
  obtain ⟨eo, ec, rfl⟩ := slice_shape h2.e
  obtain ⟨ta, tc, rfl⟩ := slice_shape h2.t
  obtain ⟨ra, rc, rfl⟩ := slice_shape h2.ru
  exact ⟨b, off, eo, ec, ta, tc, ra, rc, e, hbw, h1, h2⟩
theorem tgt_at {w wr : World} {ao : Option Addr} {n cap : Nat} {xs : List Tgt} (h : Rd.SliceOf tgtE w (.slice ao n cap) xs) (hb : Below w.heap.size w wr) {i : Nat} {x : Tgt} (hx : xs[i]? = some x) :
    ∃ b off, ao = some ⟨b, off, none⟩ ∧ b < w.heap.size ∧ wr.cell? ⟨b, off + i * 3, none⟩ = some (.string x.service) ∧ wr.cell? ⟨b, off + i * 3 + 1, none⟩ = some (.string x.split) ∧ wr.cell? ⟨b, off + i * 3 + 2, none⟩ = some (.float .f64 x.weight) ∧ x.service.size ≤ maxLen ∧ x.split.size ≤ maxLen ∧ x.weight < 18446744073709551616 := by
  obtain ⟨b, off, e, hbw, ⟨c0, s0⟩, ⟨c1, s1⟩, ⟨c2, s2⟩, _⟩ := at_i h hb hx
  exact ⟨b, off, e, hbw, c0, c1, c2, s0, s1, s2⟩
theorem rul_at {w wr : World} {ao : Option Addr} {n cap : Nat} {xs : List Rul} (h : Rd.SliceOf rulE w (.slice ao n cap) xs) (hb : Below w.heap.size w wr) {i : Nat} {x : Rul} (hx : xs[i]? = some x) :
    ∃ b off, ao = some ⟨b, off, none⟩ ∧ b < w.heap.size ∧ wr.cell? ⟨b, off + i * 4, none⟩ = some (.string x.path) ∧ wr.cell? ⟨b, off + i * 4 + 1, none⟩ = some (.string x.method) ∧ wr.cell? ⟨b, off + i * 4 + 2, none⟩ = some (.string x.split) ∧ wr.cell? ⟨b, off + i * 4 + 3, none⟩ = some (.bool x.allow) ∧ x.path.size ≤ maxLen ∧ x.method.size ≤ maxLen ∧ x.split.size ≤ maxLen := by
  obtain ⟨b, off, e, hbw, ⟨c0, s0⟩, ⟨c1, s1⟩, ⟨c2, s2⟩, c3, _⟩ := at_i h hb hx
  exact ⟨b, off, e, hbw, c0, c1, c2, c3, s0, s1, s2⟩
end Go.Ck
end

section

namespace Go.Proofs
open Go.Shelf
def Try.lays106_ren : Go.Shelf.Ren := ⟨fun | 106 => 143 | 213 => 158 | 265 => 172 | n => n, fun | 9 => 9 | 3 => 3 | n => n, fun | n => n⟩
theorem Try.lays106 : Go.Proofs.Lays.n106 Try.prog Try.lays106_ren := {
  mixed := by kernel_rfl
  f106 := Try.func143.trans (congrArg some (by kernel_rfl))
  f213 := Try.func158.trans (congrArg some (by kernel_rfl))
  f265 := Try.func172.trans (congrArg some (by kernel_rfl))
  t3 := Try.underlying3
  a3 := Try.isAgg3
  z3 := Try.sizeOf3
  v3 := Try.zeroValue3
  t9 := Try.underlying9
  a9 := Try.isAgg9
  z9 := Try.sizeOf9
  v9 := Try.zeroValue9 }
open Go.RowKit in
/-- strings.Compare: "Compare returns an integer comparing two strings lexicographically. The result will be 0 if a == b, -1 if a < b, and +1 if a > b.": IT RETURNS 'Lib.compareBytes a b'; the world is as it was. (LAID: no walk: one application.) -/
theorem Try.strings_Compare (a b : ByteArray) (w : World) :
    Calls Try.prog 143 #[.string a, .string b] w fun e w' => e = .returned (.int .i64 (Lib.compareBytes a.data.toList b.data.toList)) ∧ w' = w := Any.strings_Compare Try.lays106 a b w
def Try.lays122_ren : Go.Shelf.Ren := ⟨fun | 122 => 111 | 215 => 141 | n => n, fun | 3 => 3 | 4 => 4 | n => n, fun | n => n⟩
theorem Try.lays122 : Go.Proofs.Lays.n122 Try.prog Try.lays122_ren := {
  mixed := by kernel_rfl
  f122 := Try.func111.trans (congrArg some (by kernel_rfl))
  f215 := Try.func141.trans (congrArg some (by kernel_rfl))
  t3 := Try.underlying3
  a3 := Try.isAgg3
  z3 := Try.sizeOf3
  v3 := Try.zeroValue3
  t4 := Try.underlying4
  a4 := Try.isAgg4
  z4 := Try.sizeOf4
  v4 := Try.zeroValue4 }
open Go.RowKit in
/-- cmp.Compare at int: "Compare returns -1 if x is less than y, 0 if x equals y, +1 if x is greater than y.": IT RETURNS 'Lib.compareInt x y'; the world is as it was. (LAID: no walk: one application.) -/
theorem Try.cmp_Compare_int (x y : Int) (w : World) :
    Calls Try.prog 111 #[.int .i64 x, .int .i64 y] w fun e w' => e = .returned (.int .i64 (Lib.compareInt x y)) ∧ w' = w := Any.cmp_Compare_int Try.lays122 x y w
end Go.Proofs
end
