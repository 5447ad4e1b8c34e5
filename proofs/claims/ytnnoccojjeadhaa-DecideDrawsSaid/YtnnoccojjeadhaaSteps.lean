/- The walks of D's steps, the program's and the document's: which host, which rule, whether it is let, which share. -/
import Derived.Test.YtnnoccojjeadhaaIdx
namespace Go.Dec
open Go.Pa
set_option linter.unusedVariables false
theorem first_cases {α : Type} (p : α → Bool) (l : List α) : (firstI p l = -1) ∨ ∃ (k : Nat) (x : α), l[k]? = some x ∧ firstI p l = k ∧ p x = true := by
  unfold firstI
  cases h : l.findIdx? p with
  | none => exact .inl rfl
  | some k =>
    obtain ⟨hk, hp, _⟩ := List.findIdx?_eq_some_iff_getElem.1 h
    exact .inr ⟨k, l[k], List.getElem?_eq_getElem hk, rfl, hp⟩
/-- Is a request let, and by which permit? -/
def allowB (p : Permit → Bool) (ps : List Permit) : Bool := if firstI p ps < 0 then true else match ps[(firstI p ps).toNat]? with
  | some x => x.2.2.1
  | none => true
theorem allow_none {p : Permit → Bool} {ps : List Permit} (h : firstI p ps = -1) : allowB p ps = true := by unfold allowB; rw [h]; rfl
theorem allow_at {p : Permit → Bool} {ps : List Permit} {k : Nat} {x : Permit} (h : firstI p ps = k) (hx : ps[k]? = some x) : allowB p ps = x.2.2.1 := by
  unfold allowB
  rw [h, if_neg (by omega), Int.toNat_natCast, hx]
def gtF (x u : Nat) : Bool := FloatKind.f64.format.order x u == some Ordering.gt
/-- The service that a draw picks. -/
def shareOf (u : Nat) (ss : List Share) : ByteArray := match ss.find? (fun s => gtF s.2.1 u) with
  | some s => s.1
  | none => match ss.getLast? with
    | some s => s.1
    | none => ⟨#[]⟩
theorem share_at {u : Nat} {ss : List Share} {k : Nat} {x : Share} (hno : ∀ (j : Nat) y, j < k → ss[j]? = some y → gtF y.2.1 u = false) (hk : ss[k]? = some x) (h : gtF x.2.1 u = true) : shareOf u ss = x.1 := by
  unfold shareOf
  have hlt := (List.getElem?_eq_some_iff.1 hk).1
  have he := (List.getElem?_eq_some_iff.1 hk).2
  have : ss.find? (fun s => gtF s.2.1 u) = some x := by
    rw [List.find?_eq_some_iff_getElem]
    refine ⟨h, k, hlt, he, fun j hj => ?_⟩
    rw [hno j _ hj (List.getElem?_eq_getElem (by omega))]; rfl
  rw [this]
theorem share_none {u : Nat} {ss : List Share} (hno : ∀ (j : Nat) y, ss[j]? = some y → gtF y.2.1 u = false) : shareOf u ss = match ss.getLast? with | some s => s.1 | none => ⟨#[]⟩ := by
  unfold shareOf
  have : ss.find? (fun s => gtF s.2.1 u) = none := by
    rw [List.find?_eq_none]
    intro x hx
    obtain ⟨j, hj, e⟩ := List.getElem_of_mem hx
    rw [hno j x (by rw [List.getElem?_eq_getElem hj, e])]; simp
  rw [this]
end Go.Dec
namespace Go.Proofs.Ytnnoccojjeadhaa
open Go.ChangeShapes Go.WideShapes Go.ChangeAt Go.RowKit
open Go.Pa Go.Dec
set_option linter.unusedVariables false

theorem mkf (fn : Fn) (first cap : Array Value) (w : World) : (Instr.makeFunc fn first cap).run Try.prog w = .ok (.func fn first cap) w := rfl
theorem ret_s {a b : ByteArray} (h : a = b) : Ending.returned (.string a) = Ending.returned (.string b) := by rw [h]
/-- A box's cell. -/
theorem box_cell (w : World) (cs : Array Value) (T : TypeId) (j : Nat) (v : Value) (h : cs[j]? = some v) : (w.alloc (.cells cs T)).cell? ⟨w.heap.size, j, none⟩ = some v := (cell_of_row _ _ j _ _ _ (heap_alloc_new w _)).trans h

theorem boxes3 (w : World) (cs : Array Value) (T : TypeId) (m path : ByteArray) :
    (((w.alloc (.cells cs T)).alloc (.cells #[.string m] 9)).alloc (.cells #[.string path] 9)).cell? ⟨w.heap.size + 1, 0, none⟩ = some (.string m) ∧
    (((w.alloc (.cells cs T)).alloc (.cells #[.string m] 9)).alloc (.cells #[.string path] 9)).cell? ⟨w.heap.size + 1 + 1, 0, none⟩ = some (.string path) ∧
    (∀ (j : Nat) v, cs[j]? = some v → (((w.alloc (.cells cs T)).alloc (.cells #[.string m] 9)).alloc (.cells #[.string path] 9)).cell? ⟨w.heap.size, j, none⟩ = some v) ∧
    (((w.alloc (.cells cs T)).alloc (.cells #[.string m] 9)).alloc (.cells #[.string path] 9)).heap.size = w.heap.size + 3 := by
  have s1 : (w.alloc (.cells cs T)).heap.size = w.heap.size + 1 := by simp
  have s2 : ((w.alloc (.cells cs T)).alloc (.cells #[.string m] 9)).heap.size = w.heap.size + 1 + 1 := by simp
  have h1 := box_cell (w.alloc (.cells cs T)) #[.string m] 9 0 (.string m) rfl
  rw [s1] at h1
  have h2 := box_cell ((w.alloc (.cells cs T)).alloc (.cells #[.string m] 9)) #[.string path] 9 0 (.string path) rfl
  rw [s2] at h2
  refine ⟨((Tp.Below_alloc _ _).cell (by show w.heap.size + 1 < _; rw [s2]; omega)).trans h1, h2, fun j v hj => ?_, by simp⟩
  exact ((Tp.Below_alloc _ _).cell (by show w.heap.size < _; rw [s2]; omega)).trans (((Tp.Below_alloc _ _).cell (by show w.heap.size < _; rw [s1]; omega)).trans (box_cell w cs T j v hj))
theorem find6 (ver : Int) (v1 v2 : Value) (hs : List Host) (name : ByteArray) (w : World) (hn : name.size ≤ maxLen) (hrd : Rd.SliceOf hostE w v1 hs) :
    Calls Try.prog 6 #[.agg #[.int .i64 ver, v1, v2], .string name] w fun e w' => e = .returned (.int .i64 (firstI (takesH name.data.toList) hs)) ∧ Below w.heap.size w w' := by
  have hb0 := Tp.Below_seq (Tp.Below_alloc w (.cells #[.int .i64 ver, v1, v2] 25)) (Tp.Below_alloc _ (.cells #[.string name] 9))
  have hx := idx17 hs name (w.heap.size + 1) v1 _ hn (by
    simp) (by simp) (hrd.below hb0)
  have hmf := mkf
  replace hx := Lib.hid hx
  replace hb0 := Lib.hid hb0
  go_enter Try.func6, Try.ntmps6
  go_wp2_with fail
  refine hx.out.mono ?_
  rintro e w1 ⟨rfl, hb1⟩
  have hb2 := Lib.hid (Tp.Below_seq hb0.out hb1)
  clear hb1
  go_wp2
  go_ret
  exact ⟨rfl, hb2.out⟩

set_option maxHeartbeats 2000000 in
theorem find7 (ver : Int) (v1 v2 : Value) (xs : List Host) (name : ByteArray) (w : World) (hn : name.size ≤ maxLen) (hrd : Rd.SliceOf hostE w v1 xs) :
    Calls Try.prog 7 #[.agg #[.int .i64 ver, v1, v2], .string name] w fun e w' => e = .returned (.int .i64 (firstI (takesH name.data.toList) xs)) ∧ Below w.heap.size w w' := by
  have hlen := hrd.1
  obtain ⟨ao, cap, hv⟩ : ∃ ao cap, v1 = .slice ao xs.length cap := by obtain ⟨_, ao, cap, rfl, _⟩ := hrd; exact ⟨_, _, rfl⟩
  subst hv
  have hb0 := Tp.Below_alloc w (.cells #[.int .i64 ver, .slice ao xs.length cap, v2] 25)
  have hbx := box_cell w #[.int .i64 ver, .slice ao xs.length cap, v2] 25 1 _ rfl
  have hbs : w.heap.size < (w.alloc (.cells #[.int .i64 ver, .slice ao xs.length cap, v2] 25)).heap.size := by simp
  replace hrd := Lib.hid hrd
  replace hb0 := Lib.hid hb0
  replace hbx := Lib.hid hbx
  replace hbs := Lib.hid hbs
  go_enter Try.func7, Try.ntmps7
  go_wp2
  obtain ⟨wb, hwb⟩ : ∃ wb, wb = w.alloc (.cells #[.int .i64 ver, .slice ao xs.length cap, v2] 25) := ⟨_, rfl⟩
  rw [← hwb] at hb0 hbx hbs
  replace hwb := Lib.hid hwb
  go_loopg [5] xs.length (fun g ic wr => ∃ i : Nat, i ≤ xs.length ∧ g = xs.length - i ∧ ic = .int .i64 i ∧ (∀ (j : Nat) y, j < i → xs[j]? = some y → takesH name.data.toList y = false) ∧ Below wb.heap.size wb wr)
  case atStart => exact ⟨0, by omega, rfl, rfl, fun j y hj _ => by omega, by rw [hwb.out]; exact Below.refl _ _⟩
  case round =>
    obtain ⟨i, hi, rfl, rfl, hno, hbel⟩ := hrel
    have hbw2 : Below w.heap.size w wr := Tp.Below_seq hb0.out hbel
    have c9 : wr.cell? ⟨w.heap.size, 1, none⟩ = some (.slice ao xs.length cap) := (hbel.cell (by exact hbs.out)).trans hbx.out
    by_cases hlt : i < xs.length
    · obtain ⟨b, off, cap', hv, hbw, hx⟩ := hrd.out.at (by rintro rfl; simp at hlt)
      cases hv
      have hxi := List.getElem?_eq_getElem hlt
      have hr := Rd.Elem.up hostE (hx i _ hxi) hbw2 (fun j _ => hbw2.cell (by exact hbw))
      generalize xs[i] = x at *
      obtain ⟨⟨q0, s0⟩, ⟨q1, s1⟩, ⟨v2, q2, r2⟩, ⟨v3, q3, r3⟩, _⟩ := hr
      have c0 : wr.cell? ⟨b, off + i * 4, none⟩ = some (.string x.1) := q0
      have hi1 : (i : Int) < (xs.length : Int) := by omega
      have hcall := host20 x.1 name wr s0 hn
      have hyes := fun h => first_at (p := takesH name.data.toList) (l := xs) (k := i) (x := x) hno hxi h
      have hnot : takesH name.data.toList x = false → ∀ (j : Nat) y, j < i + 1 → xs[j]? = some y → takesH name.data.toList y = false := fun h j y hj hy => by
        rcases Nat.lt_or_ge j i with h1 | h1
        · exact hno j y h1 hy
        · obtain rfl : j = i := by omega
          rw [hxi] at hy; cases hy; exact h
      have hpx : takesH name.data.toList x = hostTakes x.1.data.toList name.data.toList := rfl
      rw [hpx] at hyes hnot
      generalize hostTakes x.1.data.toList name.data.toList = t at *
      replace hcall := Lib.hid hcall
      replace hyes := Lib.hid hyes
      replace hnot := Lib.hid hnot
      replace hbel := Lib.hid hbel
      clear hno hxi hpx hx hbw2 q0 q1 q2 q3
      go_wp2_with fail
      refine hcall.out.mono ?_
      rintro e w1 ⟨rfl, hb1⟩
      have hbel2 := Tp.Below_seq hbel.out hb1
      have hfin := Lib.hid (Tp.Below_seq hb0.out hbel2)
      replace hbel2 := Lib.hid hbel2
      clear hb1 c9
      cases t with
      | true =>
        have hres := Lib.hid (hyes.out rfl)
        go_wp2
        go_ret
        exact ⟨by rw [hres.out]; rfl, hfin.out⟩
      | false =>
        have hn := Lib.hid (hnot.out rfl)
        go_wp2
        go_roundg (xs.length - (i + 1))
        case measure => omega
        case rel => exact ⟨i + 1, by omega, rfl, by go_num, hn.out, hbel2.out⟩
    · have hres := Lib.hid (first_none (p := takesH name.data.toList) (l := xs) fun j y hy => hno j y (by have := (List.getElem?_eq_some_iff.1 hy).1; omega) hy)
      have hi1 : (xs.length : Int) ≤ (i : Int) := by omega
      replace hbw2 := Lib.hid hbw2
      clear hno hbel
      go_wp2
      go_ret
      exact ⟨by rw [hres.out]; rfl, hbw2.out⟩

theorem rule10 (a b : ByteArray) (v2 v3 : Value) (es : List Entry) (m path : ByteArray) (w : World) (hm : m.size ≤ maxLen) (hpa : path.size ≤ maxLen) (hrd : Rd.SliceOf entryE w v2 es) :
    Calls Try.prog 10 #[.agg #[.string a, .string b, v2, v3], .string m, .string path] w fun e w' => e = .returned (.int .i64 (firstI (takesE m.data.toList path.data.toList) es)) ∧ Below w.heap.size w w' := by
  have hb0 := Tp.Below_seq (Tp.Below_seq (Tp.Below_alloc w (.cells #[.string a, .string b, v2, v3] 36)) (Tp.Below_alloc _ (.cells #[.string m] 9))) (Tp.Below_alloc _ (.cells #[.string path] 9))
  obtain ⟨k1, k2, kc, hsz⟩ := boxes3 w #[.string a, .string b, v2, v3] 36 m path
  obtain ⟨wb, hwb⟩ : ∃ wb, wb = ((w.alloc (.cells #[.string a, .string b, v2, v3] 36)).alloc (.cells #[.string m] 9)).alloc (.cells #[.string path] 9) := ⟨_, rfl⟩
  rw [← hwb] at k1 k2 kc hsz
  rw [← hwb] at hb0
  have hx := idx25 es m path (w.heap.size + 1) (w.heap.size + 1 + 1) v2 wb hm hpa k1 (by omega) k2 (by omega) (hrd.below hb0)
  have hmf := mkf
  rw [hwb] at hx hb0
  replace hx := Lib.hid hx
  replace hb0 := Lib.hid hb0
  clear k1 k2 kc hsz hwb
  go_enter Try.func10, Try.ntmps10
  go_wp2_with fail
  refine hx.out.mono ?_
  rintro e w1 ⟨rfl, hb1⟩
  have hb2 := Lib.hid (Tp.Below_seq hb0.out hb1)
  clear hb1
  go_wp2
  go_ret
  exact ⟨rfl, hb2.out⟩
set_option maxHeartbeats 1000000 in
theorem allowed8 (a b : ByteArray) (v2 v3 : Value) (ps : List Permit) (m path : ByteArray) (w : World) (hm : m.size ≤ maxLen) (hpa : path.size ≤ maxLen) (hrd : Rd.SliceOf permitE w v3 ps) :
    Calls Try.prog 8 #[.agg #[.string a, .string b, v2, v3], .string m, .string path] w fun e w' => e = .returned (.tuple #[.bool (allowB (takesP m.data.toList path.data.toList) ps), .int .i64 (firstI (takesP m.data.toList path.data.toList) ps)]) ∧ Below w.heap.size w w' := by
  have hb0 := Tp.Below_seq (Tp.Below_seq (Tp.Below_alloc w (.cells #[.string a, .string b, v2, v3] 36)) (Tp.Below_alloc _ (.cells #[.string m] 9))) (Tp.Below_alloc _ (.cells #[.string path] 9))
  obtain ⟨k1, k2, kc, hsz⟩ := boxes3 w #[.string a, .string b, v2, v3] 36 m path
  obtain ⟨wb, hwb⟩ : ∃ wb, wb = ((w.alloc (.cells #[.string a, .string b, v2, v3] 36)).alloc (.cells #[.string m] 9)).alloc (.cells #[.string path] 9) := ⟨_, rfl⟩
  rw [← hwb] at k1 k2 kc hsz
  rw [← hwb] at hb0
  have k3 : wb.cell? ⟨w.heap.size, 3, none⟩ = some v3 := kc 3 v3 rfl
  have hx := idx21 ps m path (w.heap.size + 1) (w.heap.size + 1 + 1) v3 wb hm hpa k1 (by omega) k2 (by omega) (hrd.below hb0)
  have hmf := mkf
  have hk3 := Lib.hid k3
  have hlen := hrd.1
  replace hrd := Lib.hid hrd
  rw [hwb] at hx
  replace hx := Lib.hid hx
  replace hb0 := Lib.hid hb0
  replace hwb := Lib.hid hwb
  clear k1 k2 k3 kc
  go_enter Try.func8, Try.ntmps8
  go_wp2_with fail
  refine hx.out.mono ?_
  rintro e w1 ⟨rfl, hb1⟩
  rw [← hwb.out] at hb1
  have hb2 := Tp.Below_seq hb0.out hb1
  have k3 : w1.cell? ⟨w.heap.size, 3, none⟩ = some v3 := (hb1.cell (by show w.heap.size < wb.heap.size; omega)).trans hk3.out
  rcases first_cases (takesP m.data.toList path.data.toList) ps with h | ⟨k, x, hk, h, _⟩
  · rw [h]
    replace hb2 := Lib.hid hb2
    replace h := Lib.hid h
    clear hb1 k3
    go_wp2
    go_ret2
    exact ⟨by rw [allow_none h.out, h.out]; rfl, hb2.out⟩
  · have hkl := (List.getElem?_eq_some_iff.1 hk).1
    obtain ⟨bb, off, cap', hv, hbw, hxx⟩ := hrd.out.at (by rintro rfl; simp at hkl)
    subst hv
    have hr := Rd.Elem.up permitE (hxx k _ hk) hb2 (fun j _ => hb2.cell (by exact hbw))
    obtain ⟨⟨q0, s0⟩, ⟨q1, s1⟩, q2, _⟩ := hr
    have c2 : w1.cell? ⟨bb, off + k * 3 + 2, none⟩ = some (.bool x.2.2.1) := q2
    rw [h]
    have hal := Lib.hid (allow_at h hk)
    replace h := Lib.hid h
    have hk1 : (k : Int) < (ps.length : Int) := by omega
    have hd : decide ((k : Int) < 0) = false := decide_eq_false (by omega)
    generalize x.2.2.1 = al at *
    replace hb2 := Lib.hid hb2
    clear hb1 hk hxx q0 q1 q2 hrd
    go_wp2
    go_ret2
    exact ⟨by rw [hal.out, h.out]; rfl, hb2.out⟩

set_option maxHeartbeats 4000000 in
theorem rule11 (a b : ByteArray) (v2 v3 : Value) (xs : List Entry) (m path : ByteArray) (w : World) (hm : m.size ≤ maxLen) (hpa : path.size ≤ maxLen) (hrd : Rd.SliceOf entryE w v2 xs) :
    Calls Try.prog 11 #[.agg #[.string a, .string b, v2, v3], .string m, .string path] w fun e w' => e = .returned (.int .i64 (firstI (takesE m.data.toList path.data.toList) xs)) ∧ Below w.heap.size w w' := by
  have hlen := hrd.1
  obtain ⟨ao, cap, hv⟩ : ∃ ao cap, v2 = .slice ao xs.length cap := by obtain ⟨_, ao, cap, rfl, _⟩ := hrd; exact ⟨_, _, rfl⟩
  subst hv
  have hb0 := Tp.Below_alloc w (.cells #[.string a, .string b, .slice ao xs.length cap, v3] 36)
  have hbx := box_cell w #[.string a, .string b, .slice ao xs.length cap, v3] 36 2 _ rfl
  have hbs : w.heap.size < (w.alloc (.cells #[.string a, .string b, .slice ao xs.length cap, v3] 36)).heap.size := by simp
  replace hrd := Lib.hid hrd
  replace hb0 := Lib.hid hb0
  replace hbx := Lib.hid hbx
  replace hbs := Lib.hid hbs
  go_enter Try.func11, Try.ntmps11
  go_wp2
  obtain ⟨wb, hwb⟩ : ∃ wb, wb = w.alloc (.cells #[.string a, .string b, .slice ao xs.length cap, v3] 36) := ⟨_, rfl⟩
  rw [← hwb] at hb0 hbx hbs
  replace hwb := Lib.hid hwb
  go_loopg [7] xs.length (fun g ic wr => ∃ i : Nat, i ≤ xs.length ∧ g = xs.length - i ∧ ic = .int .i64 i ∧ (∀ (j : Nat) y, j < i → xs[j]? = some y → (takesE m.data.toList path.data.toList) y = false) ∧ Below wb.heap.size wb wr)
  case atStart => exact ⟨0, by omega, rfl, rfl, fun j y hj _ => by omega, by rw [hwb.out]; exact Below.refl _ _⟩
  case round =>
    obtain ⟨i, hi, rfl, rfl, hno, hbel⟩ := hrel
    have hbw2 : Below w.heap.size w wr := Tp.Below_seq hb0.out hbel
    have c9 : wr.cell? ⟨w.heap.size, 2, none⟩ = some (.slice ao xs.length cap) := (hbel.cell (by exact hbs.out)).trans hbx.out
    by_cases hlt : i < xs.length
    · obtain ⟨bb, off, cap', hv, hbw, hx⟩ := hrd.out.at (by rintro rfl; simp at hlt)
      cases hv
      have hxi := List.getElem?_eq_getElem hlt
      have hr := Rd.Elem.up entryE (hx i _ hxi) hbw2 (fun j _ => hbw2.cell (by exact hbw))
      generalize xs[i] = x at *
      obtain ⟨⟨q0, s0⟩, ⟨q1, s1⟩, ⟨v9, q2, r2⟩, _⟩ := hr
      obtain ⟨_, ao9, cap9, rfl, _⟩ := r2
      have c0 : wr.cell? ⟨bb, off + i * 3, none⟩ = some (.string x.1) := q0
      have c1 : wr.cell? ⟨bb, off + i * 3 + 1, none⟩ = some (.string x.2.1) := q1
      have c2 : wr.cell? ⟨bb, off + i * 3 + 2, none⟩ = some (.slice ao9 x.2.2.1.length cap9) := q2
      have hi1 : (i : Int) < (xs.length : Int) := by omega
      have hyes := fun h => first_at (p := takesE m.data.toList path.data.toList) (l := xs) (k := i) (x := x) hno hxi h
      have hnot : (takesE m.data.toList path.data.toList) x = false → ∀ (j : Nat) y, j < i + 1 → xs[j]? = some y → (takesE m.data.toList path.data.toList) y = false := fun h j y hj hy => by
        rcases Nat.lt_or_ge j i with h1 | h1
        · exact hno j y h1 hy
        · obtain rfl : j = i := by omega
          rw [hxi] at hy; cases hy; exact h
      have hpx : (takesE m.data.toList path.data.toList) x = ((x.2.1.data.toList == [42] || x.2.1.data.toList == m.data.toList) && pathTakes x.1.data.toList path.data.toList) := rfl
      have e1 := eq_const x.2.1 [42]
      have e2 := eq_lists x.2.1 m
      have hcall := fun w => path22 x.1 path w s0 hpa
      rw [hpx] at hyes hnot
      generalize (x.2.1.data.toList == [42]) = b1 at *
      generalize (x.2.1.data.toList == m.data.toList) = b2 at *
      generalize pathTakes x.1.data.toList path.data.toList = b3 at *
      have hfin := Lib.hid (hbw2.trans ((Tp.Below_alloc wr (.cells #[.string x.1, .string x.2.1, .slice ao9 x.2.2.1.length cap9] 41)).mono hbw2.size))
      have hbel2 := Lib.hid (Tp.Below_seq hbel (Tp.Below_alloc wr (.cells #[.string x.1, .string x.2.1, .slice ao9 x.2.2.1.length cap9] 41)))
      replace hcall := Lib.hid hcall
      replace hyes := Lib.hid hyes
      replace hnot := Lib.hid hnot
      have hxi2 := Lib.hid hxi
      clear hno hxi hpx hx hbw2 q0 q1 q2 hbel
      cases b1 <;> cases b2 <;> cases b3
      all_goals
        first
          | (have hres := Lib.hid (hyes.out rfl)
             clear hyes hnot
             go_wp2_with (go_at_call 24; (with_reducible refine (hcall.out _).mono ?_); rintro e w' ⟨rfl, rfl⟩)
             go_ret
             exact ⟨by rw [hres.out]; rfl, hfin.out⟩)
          | (have hn := Lib.hid (hnot.out rfl)
             clear hyes hnot
             go_wp2_with (go_at_call 24; (with_reducible refine (hcall.out _).mono ?_); rintro e w' ⟨rfl, rfl⟩)
             go_roundg (xs.length - (i + 1))
             case measure => omega
             case rel => exact ⟨i + 1, by omega, rfl, by go_num, hn.out, hbel2.out⟩)
    · have hres := Lib.hid (first_none (p := takesE m.data.toList path.data.toList) (l := xs) fun j y hy => hno j y (by have := (List.getElem?_eq_some_iff.1 hy).1; omega) hy)
      have hi1 : (xs.length : Int) ≤ (i : Int) := by omega
      replace hbw2 := Lib.hid hbw2
      clear hno hbel
      go_wp2
      go_ret
      exact ⟨by rw [hres.out]; rfl, hbw2.out⟩

set_option maxHeartbeats 4000000 in
theorem allowed9 (a b : ByteArray) (v2 v3 : Value) (xs : List Permit) (m path : ByteArray) (w : World) (hm : m.size ≤ maxLen) (hpa : path.size ≤ maxLen) (hrd : Rd.SliceOf permitE w v3 xs) :
    Calls Try.prog 9 #[.agg #[.string a, .string b, v2, v3], .string m, .string path] w fun e w' => e = .returned (.tuple #[.bool (allowB (takesP m.data.toList path.data.toList) xs), .int .i64 (firstI (takesP m.data.toList path.data.toList) xs)]) ∧ Below w.heap.size w w' := by
  have hlen := hrd.1
  obtain ⟨ao, cap, hv⟩ : ∃ ao cap, v3 = .slice ao xs.length cap := by obtain ⟨_, ao, cap, rfl, _⟩ := hrd; exact ⟨_, _, rfl⟩
  subst hv
  have hb0 := Tp.Below_alloc w (.cells #[.string a, .string b, v2, .slice ao xs.length cap] 36)
  have hbx := box_cell w #[.string a, .string b, v2, .slice ao xs.length cap] 36 3 _ rfl
  have hbs : w.heap.size < (w.alloc (.cells #[.string a, .string b, v2, .slice ao xs.length cap] 36)).heap.size := by simp
  replace hrd := Lib.hid hrd
  replace hb0 := Lib.hid hb0
  replace hbx := Lib.hid hbx
  replace hbs := Lib.hid hbs
  go_enter Try.func9, Try.ntmps9
  go_wp2
  obtain ⟨wb, hwb⟩ : ∃ wb, wb = w.alloc (.cells #[.string a, .string b, v2, .slice ao xs.length cap] 36) := ⟨_, rfl⟩
  rw [← hwb] at hb0 hbx hbs
  replace hwb := Lib.hid hwb
  go_loopg [8] xs.length (fun g ic wr => ∃ i : Nat, i ≤ xs.length ∧ g = xs.length - i ∧ ic = .int .i64 i ∧ (∀ (j : Nat) y, j < i → xs[j]? = some y → (takesP m.data.toList path.data.toList) y = false) ∧ Below wb.heap.size wb wr)
  case atStart => exact ⟨0, by omega, rfl, rfl, fun j y hj _ => by omega, by rw [hwb.out]; exact Below.refl _ _⟩
  case round =>
    obtain ⟨i, hi, rfl, rfl, hno, hbel⟩ := hrel
    have hbw2 : Below w.heap.size w wr := Tp.Below_seq hb0.out hbel
    have c9 : wr.cell? ⟨w.heap.size, 3, none⟩ = some (.slice ao xs.length cap) := (hbel.cell (by exact hbs.out)).trans hbx.out
    by_cases hlt : i < xs.length
    · obtain ⟨bb, off, cap', hv, hbw, hx⟩ := hrd.out.at (by rintro rfl; simp at hlt)
      cases hv
      have hxi := List.getElem?_eq_getElem hlt
      have hr := Rd.Elem.up permitE (hx i _ hxi) hbw2 (fun j _ => hbw2.cell (by exact hbw))
      generalize xs[i] = x at *
      obtain ⟨⟨q0, s0⟩, ⟨q1, s1⟩, q2, _⟩ := hr
      have c0 : wr.cell? ⟨bb, off + i * 3, none⟩ = some (.string x.1) := q0
      have c1 : wr.cell? ⟨bb, off + i * 3 + 1, none⟩ = some (.string x.2.1) := q1
      have c2 : wr.cell? ⟨bb, off + i * 3 + 2, none⟩ = some (.bool x.2.2.1) := q2
      have hi1 : (i : Int) < (xs.length : Int) := by omega
      have hyes := fun h => first_at (p := takesP m.data.toList path.data.toList) (l := xs) (k := i) (x := x) hno hxi h
      have hnot : (takesP m.data.toList path.data.toList) x = false → ∀ (j : Nat) y, j < i + 1 → xs[j]? = some y → (takesP m.data.toList path.data.toList) y = false := fun h j y hj hy => by
        rcases Nat.lt_or_ge j i with h1 | h1
        · exact hno j y h1 hy
        · obtain rfl : j = i := by omega
          rw [hxi] at hy; cases hy; exact h
      have hpx : (takesP m.data.toList path.data.toList) x = ((x.2.1.data.toList == [42] || x.2.1.data.toList == m.data.toList) && pathTakes x.1.data.toList path.data.toList) := rfl
      have e1 := eq_const x.2.1 [42]
      have e2 := eq_lists x.2.1 m
      have hcall := fun w => path22 x.1 path w s0 hpa
      rw [hpx] at hyes hnot
      generalize (x.2.1.data.toList == [42]) = b1 at *
      generalize (x.2.1.data.toList == m.data.toList) = b2 at *
      generalize pathTakes x.1.data.toList path.data.toList = b3 at *
      have hfin := Lib.hid (hbw2.trans ((Tp.Below_alloc wr (.cells #[.string x.1, .string x.2.1, .bool x.2.2.1] 60)).mono hbw2.size))
      have hbel2 := Lib.hid (Tp.Below_seq hbel (Tp.Below_alloc wr (.cells #[.string x.1, .string x.2.1, .bool x.2.2.1] 60)))
      replace hcall := Lib.hid hcall
      replace hyes := Lib.hid hyes
      replace hnot := Lib.hid hnot
      have hxi2 := Lib.hid hxi
      clear hno hxi hpx hx hbw2 q0 q1 q2 hbel
      cases b1 <;> cases b2 <;> cases b3
      all_goals
        first
          | (have hres := Lib.hid (hyes.out rfl)
             clear hyes hnot
             go_wp2_with (go_at_call 24; (with_reducible refine (hcall.out _).mono ?_); rintro e w' ⟨rfl, rfl⟩)
             go_ret2
             exact ⟨by rw [allow_at hres.out hxi2.out, hres.out]; rfl, hfin.out⟩)
          | (have hn := Lib.hid (hnot.out rfl)
             clear hyes hnot
             go_wp2_with (go_at_call 24; (with_reducible refine (hcall.out _).mono ?_); rintro e w' ⟨rfl, rfl⟩)
             go_roundg (xs.length - (i + 1))
             case measure => omega
             case rel => exact ⟨i + 1, by omega, rfl, by go_num, hn.out, hbel2.out⟩)
    · have hres := Lib.hid (first_none (p := takesP m.data.toList path.data.toList) (l := xs) fun j y hy => hno j y (by have := (List.getElem?_eq_some_iff.1 hy).1; omega) hy)
      have hi1 : (xs.length : Int) ≤ (i : Int) := by omega
      replace hbw2 := Lib.hid hbw2
      clear hno hbel
      go_wp2
      go_ret2
      exact ⟨by rw [allow_none hres.out, hres.out]; rfl, hbw2.out⟩
end Go.Proofs.Ytnnoccojjeadhaa
