/- The walks of shadows and of what it hands to IndexFunc: which rules earlier ones cover. -/
import Derived.Test.YtjepgpocmnijiaaZy11
section

namespace Go.Ck
open Go.RowKit
set_option linter.unusedVariables false
def covers (y x : Rul) : Bool := (y.method.toList == [42] || y.method.toList == x.method.toList) && Go.Pa.pathCovers y.path.data.toList x.path.data.toList
def covIx (rs : List Rul) (x : Rul) (m : Nat) : Bool := match rs[m]? with
  | some y => covers y x
  | none => false
theorem covIx_at {rs : List Rul} {x y : Rul} {m : Nat} (h : rs[m]? = some y) : covIx rs x m = covers y x := by unfold covIx; rw [h]
def byI (rs : List Rul) (x : Rul) (k : Nat) : Int := firstN k (covIx rs x)
abbrev Warn := Int × Int × Int
def oneS (i : Nat) (rs : List Rul) (k : Nat) : List Warn := match rs[k]? with
  | some x => if byI rs x k < 0 then [] else [((i : Int), (k : Int), byI rs x k)]
  | none => []
def rowS (i : Nat) (rs : List Rul) : Nat → List Warn
  | 0 => []
  | k + 1 => rowS i rs k ++ oneS i rs k
def ofS (l : List Res) (i : Nat) : List Warn := match l[i]? with
  | some r => if 3 ≤ r.kind then rowS i r.rules r.rules.length else []
  | none => []
def shadowL (l : List Res) : Nat → List Warn
  | 0 => []
  | i + 1 => shadowL l i ++ ofS l i
theorem oneS_len (i : Nat) (rs : List Rul) (k : Nat) : (oneS i rs k).length ≤ 1 := by
  unfold oneS
  split
  · split <;> simp
  · simp
theorem rowS_len (i : Nat) (rs : List Rul) : ∀ k, (rowS i rs k).length ≤ k
  | 0 => Nat.le_refl _
  | k + 1 => by
    have := rowS_len i rs k
    have := oneS_len i rs k
    simp only [rowS, List.length_append]; omega
theorem shadowL_len (l : List Res) : ∀ i, (shadowL l i).length ≤ ((l.take i).map resM).sum
  | 0 => Nat.zero_le _
  | i + 1 => by
    have h1 := shadowL_len l i
    simp only [shadowL, List.length_append]
    by_cases hi : i < l.length
    · rw [List.take_succ_eq_append_getElem hi, List.map_append, List.sum_append]
      have hx : l[i]? = some l[i] := List.getElem?_eq_getElem hi
      have h2 : (ofS l i).length ≤ resM l[i] := by
        unfold ofS
        rw [hx]
        simp only
        split
        · have := rowS_len i l[i].rules l[i].rules.length
          have := rules_le l[i]
          omega
        · simp
      simp only [List.map_cons, List.map_nil, List.sum_cons, List.sum_nil]
      omega
    · have h2 : ofS l i = [] := by unfold ofS; rw [List.getElem?_eq_none (by omega)]
      rw [h2, List.take_of_length_le (by omega)]
      rw [List.take_of_length_le (by omega)] at h1
      simpa using h1
theorem sum_take_le (l : List Res) (i : Nat) : ((l.take i).map resM).sum ≤ listM l := by
  have h : ((l.take i).map resM).sum + ((l.drop i).map resM).sum = (l.map resM).sum := by
    rw [← List.sum_append, ← List.map_append, List.take_append_drop]
  unfold listM; omega
theorem shadow_row {l : List Res} {i k : Nat} {r : Res} (h : l[i]? = some r) (hk : k ≤ r.rules.length) : (shadowL l i ++ rowS i r.rules k).length ≤ listM l := by
  have h1 := shadowL_len l i
  have h2 := rowS_len i r.rules k
  have h3 := rules_le r
  have hi := (List.getElem?_eq_some_iff.1 h).1
  have h4 := sum_take_le l (i + 1)
  rw [List.take_succ_eq_append_getElem hi, List.map_append, List.sum_append, (List.getElem?_eq_some_iff.1 h).2] at h4
  simp only [List.map_cons, List.map_nil, List.sum_cons, List.sum_nil] at h4
  rw [List.length_append]; omega
def wc (x : Warn) : List Value := [.int .i64 x.1, .int .i64 x.2.1, .int .i64 x.2.2]
def wcs (l : List Warn) : List Value := l.flatMap wc
theorem wcs_append (a b : List Warn) : wcs (a ++ b) = wcs a ++ wcs b := by simp [wcs]
end Go.Ck
namespace Go.Proofs.Ytjepgpocmnijiaa
open Go.RowKit Go.Mp Go.Ck
set_option linter.unusedVariables false
set_option maxRecDepth 100000
set_option maxHeartbeats 4000000
theorem box_cells4 (w : World) (v0 v1 v2 v3 : Value) (T : TypeId) : ∀ (j : Nat) u, #[v0, v1, v2, v3][j]? = some u → (w.alloc (.cells #[v0, v1, v2, v3] T)).cell? ⟨w.heap.size, j, none⟩ = some u := fun j u h => (cell_of_row _ _ j _ _ _ (heap_alloc_new w _)).trans h
theorem mkf (fn : Fn) (first cap : Array Value) (w : World) : (Instr.makeFunc fn first cap).run Try.prog w = .ok (.func fn first cap) w := rfl
theorem covers_of (y x : Rul) {b1 b2 b3 : Bool} (h1 : (y.method.toList == [42]) = b1) (h2 : (y.method.toList == x.method.toList) = b2) (h3 : Go.Pa.pathCovers y.path.data.toList x.path.data.toList = b3) : covers y x = ((b1 || b2) && b3) := by
  unfold covers; rw [h1, h2, h3]
theorem shad116 (y x : Rul) (xb : Nat) (w : World) (hxb : xb < w.heap.size) (hp : y.path.size ≤ maxLen) (hq : x.path.size ≤ maxLen) (c0 : w.cell? ⟨xb, 0, none⟩ = some (.string x.path)) (c1 : w.cell? ⟨xb, 1, none⟩ = some (.string x.method)) :
    Calls Try.prog 116 #[.agg #[.string y.path, .string y.method, .string y.split, .bool y.allow], .pointer (some ⟨xb, 0, none⟩)] w fun e w' => e = .returned (.bool (covers y x)) ∧ Below w.heap.size w w' := by
  obtain ⟨w1, hw1⟩ : ∃ w1, w1 = w.alloc (.cells #[.string y.path, .string y.method, .string y.split, .bool y.allow] 101) := ⟨_, rfl⟩
  have hb1 := alloc_below w (.cells #[.string y.path, .string y.method, .string y.split, .bool y.allow] 101)
  have k0 := (hb1.cell (p := ⟨xb, 0, none⟩) hxb).trans c0
  have k1 := (hb1.cell (p := ⟨xb, 1, none⟩) hxb).trans c1
  have hC := covpath29 y.path x.path (w.alloc (.cells #[.string y.path, .string y.method, .string y.split, .bool y.allow] 101)) hp hq
  obtain ⟨b1, h1⟩ : ∃ b, (y.method.toList == [42]) = b := ⟨_, rfl⟩
  obtain ⟨b2, h2⟩ : ∃ b, (y.method.toList == x.method.toList) = b := ⟨_, rfl⟩
  obtain ⟨b3, h3⟩ : ∃ b, Go.Pa.pathCovers y.path.data.toList x.path.data.toList = b := ⟨_, rfl⟩
  have hc := covers_of y x h1 h2 h3
  rw [h3] at hC
  rw [hc]
  clear h3 hc c0 c1
  replace hC := Lib.hid hC
  replace hb1 := Lib.hid hb1
  replace hxb := Lib.hid hxb
  cases b1 <;> cases b2
  all_goals
    go_enter Try.func116, Try.ntmps116
    go_wp2_with (first | (go_at_call 117; (with_reducible refine hC.out.mono ?_); rintro e w2 ⟨rfl, rfl⟩) | fail)
    go_ret
    exact ⟨by first | rfl | (cases b3 <;> rfl), hb1.out⟩
theorem idx115 (rs : List Rul) (x : Rul) (xb : Nat) (v : Value) (w : World) (hrs : Rd.SliceOf rulE w v rs) (hxb : xb < w.heap.size) (hq : x.path.size ≤ maxLen) (c0 : w.cell? ⟨xb, 0, none⟩ = some (.string x.path)) (c1 : w.cell? ⟨xb, 1, none⟩ = some (.string x.method)) :
    Calls Try.prog 115 #[v, .func (.func 116) #[] #[.pointer (some ⟨xb, 0, none⟩)]] w fun e w' => e = .returned (.int .i64 (byI rs x rs.length)) ∧ Below w.heap.size w w' := by
  obtain ⟨ao, cap, rfl⟩ := slice_shape hrs
  have hlen := hrs.1
  unfold byI
  replace hrs := Lib.hid hrs
  replace hxb := Lib.hid hxb
  replace c0 := Lib.hid c0
  replace c1 := Lib.hid c1
  go_enter Try.func115, Try.ntmps115
  go_wp2
  go_loopg [8] (rs.length + 1) (fun gg ic wr => ∃ i : Nat, gg = rs.length - i + 1 ∧ i ≤ rs.length ∧ ic = .int .i64 i ∧ Hid (∀ j, j < i → covIx rs x j = false) ∧ Hid (Below w.heap.size w wr))
  case atStart => exact ⟨0, rfl, Nat.zero_le _, rfl, Lib.hid (fun j hj => absurd hj (Nat.not_lt_zero j)), Lib.hid (Below.refl _ _)⟩
  case round =>
    obtain ⟨i, rfl, hi, rfl, hno, hbw⟩ := hrel
    by_cases hlt : i < rs.length
    · obtain ⟨y, hy⟩ : ∃ y, rs[i]? = some y := ⟨_, List.getElem?_eq_getElem hlt⟩
      obtain ⟨b, off, rfl, _, e0, e1, e2, e3, s0, _⟩ := rul_at hrs.out hbw.out hy
      have hk0 : (i : Int) < (rs.length : Int) := nn_lt hlt
      have hwk := Lib.hid (nn_succ2 hlt hlen)
      have hix := covIx_at (x := x) hy
      have hC := shad116 y x xb wr (Nat.lt_of_lt_of_le hxb.out hbw.out.size) s0 hq ((hbw.out.cell (p := ⟨xb, 0, none⟩) hxb.out).trans c0.out) ((hbw.out.cell (p := ⟨xb, 1, none⟩) hxb.out).trans c1.out)
      generalize covers y x = cv at *
      replace hC := Lib.hid hC
      replace hy := Lib.hid hy
      cases cv with
      | true =>
        have hf := firstN_at hno.out hlt hix
        replace hix := Lib.hid hix
        replace hf := Lib.hid hf
        replace hno := Lib.hid hno
        go_wp2_with (first | (go_at_call 116; (with_reducible refine hC.out.mono ?_); rintro e w2 ⟨rfl, hb2⟩; replace hb2 := Lib.hid hb2) | fail)
        go_ret
        exact ⟨ret_i hf.out.symm, seq_below hbw.out hb2.out⟩
      | false =>
        have hno2 := no_upto hno.out hix
        replace hix := Lib.hid hix
        replace hno := Lib.hid hno
        replace hno2 := Lib.hid hno2
        go_wp2_with (first | (go_at_call 116; (with_reducible refine hC.out.mono ?_); rintro e w2 ⟨rfl, hb2⟩; replace hb2 := Lib.hid hb2) | fail)
        go_roundg (rs.length - (i + 1) + 1)
        case rel => exact ⟨i + 1, rfl, hlt, by first | rw [hwk.out] | go_num, hno2, Lib.hid (seq_below hbw.out hb2.out)⟩
        case measure => exact nn_downS hlt
    · have hk0 : decide ((i : Int) < (rs.length : Int)) = false := decide_eq_false (by omega)
      have hf := firstN_none (n := rs.length) (fun j hj => hno.out j (by omega))
      replace hf := Lib.hid hf
      replace hno := Lib.hid hno
      go_wp2
      go_ret
      exact ⟨ret_i hf.out.symm, hbw.out⟩
end Go.Proofs.Ytjepgpocmnijiaa
end
