/- The walks of tables' Find and of the document's. -/
import Derived.Test.YtghfahhfiihneaaTakes
import Derived.Test.YtghfahhfiihneaaTb
namespace Go.Tb
open Go.Pa
set_option linter.unusedVariables false
/-- The place of the first element with the property; -1: none has it. -/
def firstI {α : Type} (p : α → Bool) (l : List α) : Int := match l.findIdx? p with
  | some i => i
  | none => -1
theorem first_none {α : Type} {p : α → Bool} {l : List α} (h : ∀ (j : Nat) x, l[j]? = some x → p x = false) : firstI p l = -1 := by
  unfold firstI
  have : l.findIdx? p = none := by
    rw [List.findIdx?_eq_none_iff]
    intro x hx
    obtain ⟨j, hj, e⟩ := List.getElem_of_mem hx
    exact h j x (by rw [List.getElem?_eq_getElem hj, e])
  rw [this]
theorem first_at {α : Type} {p : α → Bool} {l : List α} {k : Nat} {x : α} (h : ∀ (j : Nat) y, j < k → l[j]? = some y → p y = false) (hk : l[k]? = some x) (hx : p x = true) : firstI p l = k := by
  unfold firstI
  have hlt := (List.getElem?_eq_some_iff.1 hk).1
  have he := (List.getElem?_eq_some_iff.1 hk).2
  have : l.findIdx? p = some k := by
    rw [List.findIdx?_eq_some_iff_getElem]
    refine ⟨hlt, by rw [he]; exact hx, fun j hj => ?_⟩
    have hjl : j < l.length := by omega
    rw [h j l[j] hj (List.getElem?_eq_getElem hjl)]; simp
  rw [this]

def takesH (name : Bs) (h : Host) : Bool := hostTakes h.1.data.toList name
/-- What Find answers. -/
def findV (n : Int) : Value := .tuple #[.int .i64 (if 0 ≤ n then n else 0), .bool (decide (0 ≤ n))]
theorem findV_at (i : Nat) : Ending.returned (.tuple #[.int .i64 i, .bool true]) = Ending.returned (findV i) := by
  unfold findV
  rw [if_pos (by omega), decide_eq_true (by omega)]
theorem first_range {α : Type} (p : α → Bool) (l : List α) : -1 ≤ firstI p l := by
  unfold firstI
  split <;> omega
end Go.Tb
namespace Go.Proofs.Ytghfahhfiihneaa
open Go.ChangeShapes Go.WideShapes Go.ChangeAt Go.RowKit
open Go.Pa Go.Tb
set_option linter.unusedVariables false
set_option maxRecDepth 100000
theorem mkf (fn : Fn) (first cap : Array Value) (w : World) : (Instr.makeFunc fn first cap).run Try.prog w = .ok (.func fn first cap) w := rfl
theorem box_cell (w : World) (cs : Array Value) (T : TypeId) (j : Nat) (v : Value) (h : cs[j]? = some v) : (w.alloc (.cells cs T)).cell? ⟨w.heap.size, j, none⟩ = some v := (cell_of_row _ _ j _ _ _ (heap_alloc_new w _)).trans h

theorem find18 (a b name : ByteArray) (v2 v3 : Value) (bn : Nat) (w : World) (ha : a.size ≤ maxLen) (hn : name.size ≤ maxLen) (hc : w.cell? ⟨bn, 0, none⟩ = some (.string name)) (hb : bn < w.heap.size) :
    Calls Try.prog 39 #[.agg #[.string a, .string b, v2, v3], .pointer (some ⟨bn, 0, none⟩)] w fun e w' => e = .returned (.bool (hostTakes a.data.toList name.data.toList)) ∧ Below w.heap.size w w' := by
  have hcall := host19 a name (w.alloc (.cells #[.string a, .string b, v2, v3] 56)) ha hn
  have hc2 : (w.alloc (.cells #[.string a, .string b, v2, v3] 56)).cell? ⟨bn, 0, none⟩ = some (.string name) := ((Tp.Below_alloc w _).cell (by exact hb)).trans hc
  generalize hostTakes a.data.toList name.data.toList = t at *
  replace hcall := Lib.hid hcall
  go_enter Try.func39, Try.ntmps39
  go_wp2_with fail
  refine hcall.out.mono ?_
  rintro e w1 ⟨rfl, hb1⟩
  have hb2 := Lib.hid (Tp.Below_seq (Tp.Below_alloc w _) hb1)
  clear hb1
  go_wp2
  go_ret
  exact ⟨rfl, hb2.out⟩

set_option maxHeartbeats 2000000 in
theorem idx17 (xs : List Host) (name : ByteArray) (bn : Nat) (v : Value) (w : World) (hn : name.size ≤ maxLen) (hcn : w.cell? ⟨bn, 0, none⟩ = some (.string name)) (hbn : bn < w.heap.size) (hrd : Rd.SliceOf hostE w v xs) :
    Calls Try.prog 38 #[v, .func (.func 39) #[] #[.pointer (some ⟨bn, 0, none⟩)]] w fun e w' => e = .returned (.int .i64 (firstI (takesH name.data.toList) xs)) ∧ Below w.heap.size w w' := by
  have hlen := hrd.1
  obtain ⟨ao, cap, hv⟩ : ∃ ao cap, v = .slice ao xs.length cap := by obtain ⟨_, ao, cap, rfl, _⟩ := hrd; exact ⟨_, _, rfl⟩
  subst hv
  replace hrd := Lib.hid hrd
  go_enter Try.func38, Try.ntmps38
  go_wp2
  go_loopg [8] xs.length (fun g ic wr => ∃ i : Nat, i ≤ xs.length ∧ g = xs.length - i ∧ ic = .int .i64 i ∧ (∀ (j : Nat) y, j < i → xs[j]? = some y → (takesH name.data.toList) y = false) ∧ Below w.heap.size w wr)
  case atStart => exact ⟨0, by omega, rfl, rfl, fun j y hj _ => by omega, Below.refl _ _⟩
  case round =>
    obtain ⟨i, hi, rfl, rfl, hno, hbel⟩ := hrel
    by_cases hlt : i < xs.length
    · obtain ⟨b, off, cap', hv, hbw, hx⟩ := hrd.out.at (by rintro rfl; simp at hlt)
      cases hv
      have hxi := List.getElem?_eq_getElem hlt
      have hr := Rd.Elem.up hostE (hx i _ hxi) hbel (fun j _ => hbel.cell (by exact hbw))
      generalize xs[i] = x at *
      obtain ⟨⟨q0, s0⟩, ⟨q1, s1⟩, ⟨v2, q2, r2⟩, ⟨v3, q3, r3⟩, _⟩ := hr
      have c0 : wr.cell? ⟨b, off + i * 4, none⟩ = some (.string x.1) := q0
      have c1 : wr.cell? ⟨b, off + i * 4 + 1, none⟩ = some (.string x.2.1) := q1
      have c2 : wr.cell? ⟨b, off + i * 4 + 2, none⟩ = some v2 := q2
      have c3 : wr.cell? ⟨b, off + i * 4 + 3, none⟩ = some v3 := q3
      have hi1 : (i : Int) < (xs.length : Int) := by omega
      have hcall := find18 x.1 x.2.1 name v2 v3 bn wr s0 hn ((hbel.cell (by exact hbn)).trans hcn) (Nat.lt_of_lt_of_le hbn hbel.size)
      have hyes := fun h => first_at (p := takesH name.data.toList) (l := xs) (k := i) (x := x) hno hxi h
      have hnot : (takesH name.data.toList) x = false → ∀ (j : Nat) y, j < i + 1 → xs[j]? = some y → (takesH name.data.toList) y = false := fun h j y hj hy => by
        rcases Nat.lt_or_ge j i with h1 | h1
        · exact hno j y h1 hy
        · obtain rfl : j = i := by omega
          rw [hxi] at hy; cases hy; exact h
      have hpx : (takesH name.data.toList) x = hostTakes x.1.data.toList name.data.toList := rfl
      rw [hpx] at hyes hnot
      generalize hostTakes x.1.data.toList name.data.toList = t at *
      replace hcall := Lib.hid hcall
      replace hyes := Lib.hid hyes
      replace hnot := Lib.hid hnot
      replace hbel := Lib.hid hbel
      clear hno hxi hpx hx
      go_wp2_with fail
      refine hcall.out.mono ?_
      rintro e w1 ⟨rfl, hb1⟩
      have hbel2 := Lib.hid (Tp.Below_seq hbel.out hb1)
      clear hb1
      cases t with
      | true =>
        have hres := Lib.hid (hyes.out rfl)
        go_wp2
        go_ret
        exact ⟨by rw [hres.out]; rfl, hbel2.out⟩
      | false =>
        have hn := Lib.hid (hnot.out rfl)
        go_wp2
        go_roundg (xs.length - (i + 1))
        case measure => omega
        case rel => exact ⟨i + 1, by omega, rfl, by go_num, hn.out, hbel2.out⟩
    · have hres := Lib.hid (first_none (p := takesH name.data.toList) (l := xs) fun j y hy => hno j y (by have := (List.getElem?_eq_some_iff.1 hy).1; omega) hy)
      have hi1 : (xs.length : Int) ≤ (i : Int) := by omega
      replace hbel := Lib.hid hbel
      clear hno
      go_wp2
      go_ret
      exact ⟨by rw [hres.out]; rfl, hbel.out⟩


theorem find11 (ver : Int) (v1 v2 : Value) (hs : List Host) (name : ByteArray) (w : World) (hn : name.size ≤ maxLen) (hrd : Rd.SliceOf hostE w v1 hs) :
    Calls Try.prog 11 #[.agg #[.int .i64 ver, v1, v2], .string name] w fun e w' => e = .returned (findV (firstI (takesH name.data.toList) hs)) ∧ Below w.heap.size w w' := by
  have hb0 := Tp.Below_seq (Tp.Below_alloc w (.cells #[.int .i64 ver, v1, v2] 25)) (Tp.Below_alloc _ (.cells #[.string name] 9))
  obtain ⟨ao, cap, hv⟩ := slice_shape hrd
  subst hv
  have hx := idx17 hs name (w.heap.size + 1) (.slice ao hs.length cap) _ hn (by
    simp) (by simp) (hrd.below hb0)
  have hmf := mkf
  have hr := first_range (takesH name.data.toList) hs
  generalize firstI (takesH name.data.toList) hs = n at *
  replace hx := Lib.hid hx
  replace hb0 := Lib.hid hb0
  clear hrd
  by_cases h0 : 0 ≤ n
  · have hd : decide (0 ≤ n) = true := decide_eq_true h0
    have hfv := Lib.hid (show findV n = .tuple #[.int .i64 n, .bool true] by unfold findV; rw [if_pos h0, hd])
    go_enter Try.func11, Try.ntmps11
    go_wp2_with fail
    refine hx.out.mono ?_
    rintro e w1 ⟨rfl, hb1⟩
    have hb2 := Lib.hid (Tp.Below_seq hb0.out hb1)
    clear hb1
    go_wp2
    go_ret2
    exact ⟨by rw [hfv.out]; rfl, hb2.out⟩
  · have hd : decide (0 ≤ n) = false := decide_eq_false h0
    have hm1 : n = -1 := by omega
    subst hm1
    go_enter Try.func11, Try.ntmps11
    go_wp2_with fail
    refine hx.out.mono ?_
    rintro e w1 ⟨rfl, hb1⟩
    have hb2 := Lib.hid (Tp.Below_seq hb0.out hb1)
    clear hb1
    go_wp2
    go_ret2
    exact ⟨rfl, hb2.out⟩
set_option maxHeartbeats 2000000 in
theorem find12 (ver : Int) (v1 v2 : Value) (xs : List Host) (name : ByteArray) (w : World) (hn : name.size ≤ maxLen) (hrd : Rd.SliceOf hostE w v1 xs) :
    Calls Try.prog 12 #[.agg #[.int .i64 ver, v1, v2], .string name] w fun e w' => e = .returned (findV (firstI (takesH name.data.toList) xs)) ∧ Below w.heap.size w w' := by
  have hlen := hrd.1
  obtain ⟨ao, cap, hv⟩ : ∃ ao cap, v1 = .slice ao xs.length cap := by obtain ⟨_, ao, cap, rfl, _⟩ := hrd; exact ⟨_, _, rfl⟩
  subst hv
  have hb0 := Tp.Below_alloc w (.cells #[.int .i64 ver, .slice ao xs.length cap, v2] 25)
  have hbx := box_cell w #[.int .i64 ver, .slice ao xs.length cap, v2] 25 1 _ rfl
  have hbs : w.heap.size < (w.alloc (.cells #[.int .i64 ver, .slice ao xs.length cap, v2] 25)).heap.size := by simp
  replace hrd := Lib.hid hrd
  replace hb0 := Lib.hid hb0
  replace hbx := Lib.hid hbx
  replace hbs := Lib.hid hbs
  go_enter Try.func12, Try.ntmps12
  go_wp2
  obtain ⟨wb, hwb⟩ : ∃ wb, wb = w.alloc (.cells #[.int .i64 ver, .slice ao xs.length cap, v2] 25) := ⟨_, rfl⟩
  rw [← hwb] at hb0 hbx hbs
  replace hwb := Lib.hid hwb
  go_loopg [6] xs.length (fun g ic wr => ∃ i : Nat, i ≤ xs.length ∧ g = xs.length - i ∧ ic = .int .i64 i ∧ (∀ (j : Nat) y, j < i → xs[j]? = some y → takesH name.data.toList y = false) ∧ Below wb.heap.size wb wr)
  case atStart => exact ⟨0, by omega, rfl, rfl, fun j y hj _ => by omega, by rw [hwb.out]; exact Below.refl _ _⟩
  case round =>
    obtain ⟨i, hi, rfl, rfl, hno, hbel⟩ := hrel
    have hbw2 : Below w.heap.size w wr := Tp.Below_seq hb0.out hbel
    have c9 : wr.cell? ⟨w.heap.size, 1, none⟩ = some (.slice ao xs.length cap) := (hbel.cell (by exact hbs.out)).trans hbx.out
    by_cases hlt : i < xs.length
    · obtain ⟨b, off, cap', hv, hbw, hx⟩ := hrd.out.at (by rintro rfl; simp at hlt)
      cases hv
      have hxi := List.getElem?_eq_getElem hlt
      have hr := Rd.Elem.up hostE (hx i _ hxi) hbw2 (fun j _ => hbw2.cell (by exact hbw))
      generalize xs[i] = x at *
      obtain ⟨⟨q0, s0⟩, ⟨q1, s1⟩, ⟨v2, q2, r2⟩, ⟨v3, q3, r3⟩, _⟩ := hr
      have c0 : wr.cell? ⟨b, off + i * 4, none⟩ = some (.string x.1) := q0
      have hi1 : (i : Int) < (xs.length : Int) := by omega
      have hcall := host20 x.1 name wr s0 hn
      have hyes := fun h => first_at (p := takesH name.data.toList) (l := xs) (k := i) (x := x) hno hxi h
      have hnot : takesH name.data.toList x = false → ∀ (j : Nat) y, j < i + 1 → xs[j]? = some y → takesH name.data.toList y = false := fun h j y hj hy => by
        rcases Nat.lt_or_ge j i with h1 | h1
        · exact hno j y h1 hy
        · obtain rfl : j = i := by omega
          rw [hxi] at hy; cases hy; exact h
      have hpx : takesH name.data.toList x = hostTakes x.1.data.toList name.data.toList := rfl
      rw [hpx] at hyes hnot
      generalize hostTakes x.1.data.toList name.data.toList = t at *
      replace hcall := Lib.hid hcall
      replace hyes := Lib.hid hyes
      replace hnot := Lib.hid hnot
      replace hbel := Lib.hid hbel
      clear hno hxi hpx hx hbw2 q0 q1 q2 q3
      go_wp2_with fail
      refine hcall.out.mono ?_
      rintro e w1 ⟨rfl, hb1⟩
      have hbel2 := Tp.Below_seq hbel.out hb1
      have hfin := Lib.hid (Tp.Below_seq hb0.out hbel2)
      replace hbel2 := Lib.hid hbel2
      clear hb1 c9
      cases t with
      | true =>
        have hres := Lib.hid (hyes.out rfl)
        go_wp2
        go_ret2
        exact ⟨by rw [hres.out]; exact findV_at i, hfin.out⟩
      | false =>
        have hn := Lib.hid (hnot.out rfl)
        go_wp2
        go_roundg (xs.length - (i + 1))
        case measure => omega
        case rel => exact ⟨i + 1, by omega, rfl, by go_num, hn.out, hbel2.out⟩
    · have hres := Lib.hid (first_none (p := takesH name.data.toList) (l := xs) fun j y hy => hno j y (by have := (List.getElem?_eq_some_iff.1 hy).1; omega) hy)
      have hi1 : (xs.length : Int) ≤ (i : Int) := by omega
      replace hbw2 := Lib.hid hbw2
      clear hno hbel
      go_wp2
      go_ret2
      exact ⟨by rw [hres.out]; rfl, hbw2.out⟩

end Go.Proofs.Ytghfahhfiihneaa
