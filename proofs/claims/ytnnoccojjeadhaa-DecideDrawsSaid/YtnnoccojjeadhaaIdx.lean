/- The walks of slices.IndexFunc over hosts, permits and entries, and of the tests that it is handed. -/
import Derived.Test.YtnnoccojjeadhaaDec
namespace Go.Proofs.Ytnnoccojjeadhaa
open Go.ChangeShapes Go.WideShapes Go.ChangeAt Go.RowKit
open Go.Pa Go.Dec
set_option linter.unusedVariables false

theorem find18 (a b name : ByteArray) (v2 v3 : Value) (bn : Nat) (w : World) (ha : a.size ≤ maxLen) (hn : name.size ≤ maxLen) (hc : w.cell? ⟨bn, 0, none⟩ = some (.string name)) (hb : bn < w.heap.size) :
    Calls Try.prog 18 #[.agg #[.string a, .string b, v2, v3], .pointer (some ⟨bn, 0, none⟩)] w fun e w' => e = .returned (.bool (hostTakes a.data.toList name.data.toList)) ∧ Below w.heap.size w w' := by
  have hcall := host19 a name (w.alloc (.cells #[.string a, .string b, v2, v3] 36)) ha hn
  have hc2 : (w.alloc (.cells #[.string a, .string b, v2, v3] 36)).cell? ⟨bn, 0, none⟩ = some (.string name) := ((Tp.Below_alloc w _).cell (by exact hb)).trans hc
  generalize hostTakes a.data.toList name.data.toList = t at *
  replace hcall := Lib.hid hcall
  go_enter Try.func18, Try.ntmps18
  go_wp2_with fail
  refine hcall.out.mono ?_
  rintro e w1 ⟨rfl, hb1⟩
  have hb2 := Lib.hid (Tp.Below_seq (Tp.Below_alloc w _) hb1)
  clear hb1
  go_wp2
  go_ret
  exact ⟨rfl, hb2.out⟩
theorem test22 (p want m path : ByteArray) (v2 : Value) (bm bp : Nat) (w : World) (hp : p.size ≤ maxLen) (hw : want.size ≤ maxLen) (hm : m.size ≤ maxLen) (hpa : path.size ≤ maxLen)
    (hc1 : w.cell? ⟨bm, 0, none⟩ = some (.string m)) (hb1 : bm < w.heap.size) (hc2 : w.cell? ⟨bp, 0, none⟩ = some (.string path)) (hb2 : bp < w.heap.size) :
    Calls Try.prog 22 #[.agg #[.string p, .string want, v2], .pointer (some ⟨bm, 0, none⟩), .pointer (some ⟨bp, 0, none⟩)] w fun e w' => e = .returned (.bool (tk p.data.toList want.data.toList m.data.toList path.data.toList)) ∧ Below w.heap.size w w' := by
  have hcall := takes23 p want m path (w.alloc (.cells #[.string p, .string want, v2] 60)) hp hw hm hpa
  have k1 : (w.alloc (.cells #[.string p, .string want, v2] 60)).cell? ⟨bm, 0, none⟩ = some (.string m) := ((Tp.Below_alloc w _).cell (by exact hb1)).trans hc1
  have k2 : (w.alloc (.cells #[.string p, .string want, v2] 60)).cell? ⟨bp, 0, none⟩ = some (.string path) := ((Tp.Below_alloc w _).cell (by exact hb2)).trans hc2
  generalize tk p.data.toList want.data.toList m.data.toList path.data.toList = t at *
  replace hcall := Lib.hid hcall
  have hbb := Lib.hid (Tp.Below_alloc w (.cells #[.string p, .string want, v2] 60))
  go_enter Try.func22, Try.ntmps22
  go_wp2_with (go_at_call 23; (with_reducible refine hcall.out.mono ?_); rintro e w' ⟨rfl, rfl⟩)
  go_ret
  exact ⟨rfl, hbb.out⟩
theorem test26 (p want m path : ByteArray) (v2 : Value) (bm bp : Nat) (w : World) (hp : p.size ≤ maxLen) (hw : want.size ≤ maxLen) (hm : m.size ≤ maxLen) (hpa : path.size ≤ maxLen)
    (hc1 : w.cell? ⟨bm, 0, none⟩ = some (.string m)) (hb1 : bm < w.heap.size) (hc2 : w.cell? ⟨bp, 0, none⟩ = some (.string path)) (hb2 : bp < w.heap.size) :
    Calls Try.prog 26 #[.agg #[.string p, .string want, v2], .pointer (some ⟨bm, 0, none⟩), .pointer (some ⟨bp, 0, none⟩)] w fun e w' => e = .returned (.bool (tk p.data.toList want.data.toList m.data.toList path.data.toList)) ∧ Below w.heap.size w w' := by
  have hcall := takes23 p want m path (w.alloc (.cells #[.string p, .string want, v2] 41)) hp hw hm hpa
  have k1 : (w.alloc (.cells #[.string p, .string want, v2] 41)).cell? ⟨bm, 0, none⟩ = some (.string m) := ((Tp.Below_alloc w _).cell (by exact hb1)).trans hc1
  have k2 : (w.alloc (.cells #[.string p, .string want, v2] 41)).cell? ⟨bp, 0, none⟩ = some (.string path) := ((Tp.Below_alloc w _).cell (by exact hb2)).trans hc2
  generalize tk p.data.toList want.data.toList m.data.toList path.data.toList = t at *
  replace hcall := Lib.hid hcall
  have hbb := Lib.hid (Tp.Below_alloc w (.cells #[.string p, .string want, v2] 41))
  go_enter Try.func26, Try.ntmps26
  go_wp2_with (go_at_call 23; (with_reducible refine hcall.out.mono ?_); rintro e w' ⟨rfl, rfl⟩)
  go_ret
  exact ⟨rfl, hbb.out⟩

set_option maxHeartbeats 2000000 in
theorem idx17 (xs : List Host) (name : ByteArray) (bn : Nat) (v : Value) (w : World) (hn : name.size ≤ maxLen) (hcn : w.cell? ⟨bn, 0, none⟩ = some (.string name)) (hbn : bn < w.heap.size) (hrd : Rd.SliceOf hostE w v xs) :
    Calls Try.prog 17 #[v, .func (.func 18) #[] #[.pointer (some ⟨bn, 0, none⟩)]] w fun e w' => e = .returned (.int .i64 (firstI (takesH name.data.toList) xs)) ∧ Below w.heap.size w w' := by
  have hlen := hrd.1
  obtain ⟨ao, cap, hv⟩ : ∃ ao cap, v = .slice ao xs.length cap := by obtain ⟨_, ao, cap, rfl, _⟩ := hrd; exact ⟨_, _, rfl⟩
  subst hv
  replace hrd := Lib.hid hrd
  go_enter Try.func17, Try.ntmps17
  go_wp2
  go_loopg [8] xs.length (fun g ic wr => ∃ i : Nat, i ≤ xs.length ∧ g = xs.length - i ∧ ic = .int .i64 i ∧ (∀ (j : Nat) y, j < i → xs[j]? = some y → (takesH name.data.toList) y = false) ∧ Below w.heap.size w wr)
  case atStart => exact ⟨0, by omega, rfl, rfl, fun j y hj _ => by omega, Below.refl _ _⟩
  case round =>
    obtain ⟨i, hi, rfl, rfl, hno, hbel⟩ := hrel
    by_cases hlt : i < xs.length
    · obtain ⟨b, off, cap', hv, hbw, hx⟩ := hrd.out.at (by rintro rfl; simp at hlt)
      cases hv
      have hxi := List.getElem?_eq_getElem hlt
      have hr := Rd.Elem.up hostE (hx i _ hxi) hbel (fun j _ => hbel.cell (by exact hbw))
      generalize xs[i] = x at *
      obtain ⟨⟨q0, s0⟩, ⟨q1, s1⟩, ⟨v2, q2, r2⟩, ⟨v3, q3, r3⟩, _⟩ := hr
      have c0 : wr.cell? ⟨b, off + i * 4, none⟩ = some (.string x.1) := q0
      have c1 : wr.cell? ⟨b, off + i * 4 + 1, none⟩ = some (.string x.2.1) := q1
      have c2 : wr.cell? ⟨b, off + i * 4 + 2, none⟩ = some v2 := q2
      have c3 : wr.cell? ⟨b, off + i * 4 + 3, none⟩ = some v3 := q3
      have hi1 : (i : Int) < (xs.length : Int) := by omega
      have hcall := find18 x.1 x.2.1 name v2 v3 bn wr s0 hn ((hbel.cell (by exact hbn)).trans hcn) (Nat.lt_of_lt_of_le hbn hbel.size)
      have hyes := fun h => first_at (p := takesH name.data.toList) (l := xs) (k := i) (x := x) hno hxi h
      have hnot : (takesH name.data.toList) x = false → ∀ (j : Nat) y, j < i + 1 → xs[j]? = some y → (takesH name.data.toList) y = false := fun h j y hj hy => by
        rcases Nat.lt_or_ge j i with h1 | h1
        · exact hno j y h1 hy
        · obtain rfl : j = i := by omega
          rw [hxi] at hy; cases hy; exact h
      have hpx : (takesH name.data.toList) x = hostTakes x.1.data.toList name.data.toList := rfl
      rw [hpx] at hyes hnot
      generalize hostTakes x.1.data.toList name.data.toList = t at *
      replace hcall := Lib.hid hcall
      replace hyes := Lib.hid hyes
      replace hnot := Lib.hid hnot
      replace hbel := Lib.hid hbel
      clear hno hxi hpx hx
      go_wp2_with fail
      refine hcall.out.mono ?_
      rintro e w1 ⟨rfl, hb1⟩
      have hbel2 := Lib.hid (Tp.Below_seq hbel.out hb1)
      clear hb1
      cases t with
      | true =>
        have hres := Lib.hid (hyes.out rfl)
        go_wp2
        go_ret
        exact ⟨by rw [hres.out]; rfl, hbel2.out⟩
      | false =>
        have hn := Lib.hid (hnot.out rfl)
        go_wp2
        go_roundg (xs.length - (i + 1))
        case measure => omega
        case rel => exact ⟨i + 1, by omega, rfl, by go_num, hn.out, hbel2.out⟩
    · have hres := Lib.hid (first_none (p := takesH name.data.toList) (l := xs) fun j y hy => hno j y (by have := (List.getElem?_eq_some_iff.1 hy).1; omega) hy)
      have hi1 : (xs.length : Int) ≤ (i : Int) := by omega
      replace hbel := Lib.hid hbel
      clear hno
      go_wp2
      go_ret
      exact ⟨by rw [hres.out]; rfl, hbel.out⟩

set_option maxHeartbeats 2000000 in
theorem idx21 (xs : List Permit) (m path : ByteArray) (bm bp : Nat) (v : Value) (w : World) (hm : m.size ≤ maxLen) (hpa : path.size ≤ maxLen) (hc1 : w.cell? ⟨bm, 0, none⟩ = some (.string m)) (hb1 : bm < w.heap.size) (hc2 : w.cell? ⟨bp, 0, none⟩ = some (.string path)) (hb2 : bp < w.heap.size) (hrd : Rd.SliceOf permitE w v xs) :
    Calls Try.prog 21 #[v, .func (.func 22) #[] #[.pointer (some ⟨bm, 0, none⟩), .pointer (some ⟨bp, 0, none⟩)]] w fun e w' => e = .returned (.int .i64 (firstI (takesP m.data.toList path.data.toList) xs)) ∧ Below w.heap.size w w' := by
  have hlen := hrd.1
  obtain ⟨ao, cap, hv⟩ : ∃ ao cap, v = .slice ao xs.length cap := by obtain ⟨_, ao, cap, rfl, _⟩ := hrd; exact ⟨_, _, rfl⟩
  subst hv
  replace hrd := Lib.hid hrd
  go_enter Try.func21, Try.ntmps21
  go_wp2
  go_loopg [8] xs.length (fun g ic wr => ∃ i : Nat, i ≤ xs.length ∧ g = xs.length - i ∧ ic = .int .i64 i ∧ (∀ (j : Nat) y, j < i → xs[j]? = some y → (takesP m.data.toList path.data.toList) y = false) ∧ Below w.heap.size w wr)
  case atStart => exact ⟨0, by omega, rfl, rfl, fun j y hj _ => by omega, Below.refl _ _⟩
  case round =>
    obtain ⟨i, hi, rfl, rfl, hno, hbel⟩ := hrel
    by_cases hlt : i < xs.length
    · obtain ⟨b, off, cap', hv, hbw, hx⟩ := hrd.out.at (by rintro rfl; simp at hlt)
      cases hv
      have hxi := List.getElem?_eq_getElem hlt
      have hr := Rd.Elem.up permitE (hx i _ hxi) hbel (fun j _ => hbel.cell (by exact hbw))
      generalize xs[i] = x at *
      obtain ⟨⟨q0, s0⟩, ⟨q1, s1⟩, q2, _⟩ := hr
      have c0 : wr.cell? ⟨b, off + i * 3, none⟩ = some (.string x.1) := q0
      have c1 : wr.cell? ⟨b, off + i * 3 + 1, none⟩ = some (.string x.2.1) := q1
      have c2 : wr.cell? ⟨b, off + i * 3 + 2, none⟩ = some (.bool x.2.2.1) := q2
      have hi1 : (i : Int) < (xs.length : Int) := by omega
      have hcall := test22 x.1 x.2.1 m path (.bool x.2.2.1) bm bp wr s0 s1 hm hpa ((hbel.cell (by exact hb1)).trans hc1) (Nat.lt_of_lt_of_le hb1 hbel.size) ((hbel.cell (by exact hb2)).trans hc2) (Nat.lt_of_lt_of_le hb2 hbel.size)
      have hyes := fun h => first_at (p := takesP m.data.toList path.data.toList) (l := xs) (k := i) (x := x) hno hxi h
      have hnot : (takesP m.data.toList path.data.toList) x = false → ∀ (j : Nat) y, j < i + 1 → xs[j]? = some y → (takesP m.data.toList path.data.toList) y = false := fun h j y hj hy => by
        rcases Nat.lt_or_ge j i with h1 | h1
        · exact hno j y h1 hy
        · obtain rfl : j = i := by omega
          rw [hxi] at hy; cases hy; exact h
      have hpx : (takesP m.data.toList path.data.toList) x = tk x.1.data.toList x.2.1.data.toList m.data.toList path.data.toList := rfl
      rw [hpx] at hyes hnot
      generalize tk x.1.data.toList x.2.1.data.toList m.data.toList path.data.toList = t at *
      replace hcall := Lib.hid hcall
      replace hyes := Lib.hid hyes
      replace hnot := Lib.hid hnot
      replace hbel := Lib.hid hbel
      clear hno hxi hpx hx
      go_wp2_with fail
      refine hcall.out.mono ?_
      rintro e w1 ⟨rfl, hb1⟩
      have hbel2 := Lib.hid (Tp.Below_seq hbel.out hb1)
      clear hb1
      cases t with
      | true =>
        have hres := Lib.hid (hyes.out rfl)
        go_wp2
        go_ret
        exact ⟨by rw [hres.out]; rfl, hbel2.out⟩
      | false =>
        have hn := Lib.hid (hnot.out rfl)
        go_wp2
        go_roundg (xs.length - (i + 1))
        case measure => omega
        case rel => exact ⟨i + 1, by omega, rfl, by go_num, hn.out, hbel2.out⟩
    · have hres := Lib.hid (first_none (p := takesP m.data.toList path.data.toList) (l := xs) fun j y hy => hno j y (by have := (List.getElem?_eq_some_iff.1 hy).1; omega) hy)
      have hi1 : (xs.length : Int) ≤ (i : Int) := by omega
      replace hbel := Lib.hid hbel
      clear hno
      go_wp2
      go_ret
      exact ⟨by rw [hres.out]; rfl, hbel.out⟩

set_option maxHeartbeats 2000000 in
theorem idx25 (xs : List Entry) (m path : ByteArray) (bm bp : Nat) (v : Value) (w : World) (hm : m.size ≤ maxLen) (hpa : path.size ≤ maxLen) (hc1 : w.cell? ⟨bm, 0, none⟩ = some (.string m)) (hb1 : bm < w.heap.size) (hc2 : w.cell? ⟨bp, 0, none⟩ = some (.string path)) (hb2 : bp < w.heap.size) (hrd : Rd.SliceOf entryE w v xs) :
    Calls Try.prog 25 #[v, .func (.func 26) #[] #[.pointer (some ⟨bm, 0, none⟩), .pointer (some ⟨bp, 0, none⟩)]] w fun e w' => e = .returned (.int .i64 (firstI (takesE m.data.toList path.data.toList) xs)) ∧ Below w.heap.size w w' := by
  have hlen := hrd.1
  obtain ⟨ao, cap, hv⟩ : ∃ ao cap, v = .slice ao xs.length cap := by obtain ⟨_, ao, cap, rfl, _⟩ := hrd; exact ⟨_, _, rfl⟩
  subst hv
  replace hrd := Lib.hid hrd
  go_enter Try.func25, Try.ntmps25
  go_wp2
  go_loopg [8] xs.length (fun g ic wr => ∃ i : Nat, i ≤ xs.length ∧ g = xs.length - i ∧ ic = .int .i64 i ∧ (∀ (j : Nat) y, j < i → xs[j]? = some y → (takesE m.data.toList path.data.toList) y = false) ∧ Below w.heap.size w wr)
  case atStart => exact ⟨0, by omega, rfl, rfl, fun j y hj _ => by omega, Below.refl _ _⟩
  case round =>
    obtain ⟨i, hi, rfl, rfl, hno, hbel⟩ := hrel
    by_cases hlt : i < xs.length
    · obtain ⟨b, off, cap', hv, hbw, hx⟩ := hrd.out.at (by rintro rfl; simp at hlt)
      cases hv
      have hxi := List.getElem?_eq_getElem hlt
      have hr := Rd.Elem.up entryE (hx i _ hxi) hbel (fun j _ => hbel.cell (by exact hbw))
      generalize xs[i] = x at *
      obtain ⟨⟨q0, s0⟩, ⟨q1, s1⟩, ⟨v2, q2, r2⟩, _⟩ := hr
      have c0 : wr.cell? ⟨b, off + i * 3, none⟩ = some (.string x.1) := q0
      have c1 : wr.cell? ⟨b, off + i * 3 + 1, none⟩ = some (.string x.2.1) := q1
      have c2 : wr.cell? ⟨b, off + i * 3 + 2, none⟩ = some v2 := q2
      have hi1 : (i : Int) < (xs.length : Int) := by omega
      have hcall := test26 x.1 x.2.1 m path v2 bm bp wr s0 s1 hm hpa ((hbel.cell (by exact hb1)).trans hc1) (Nat.lt_of_lt_of_le hb1 hbel.size) ((hbel.cell (by exact hb2)).trans hc2) (Nat.lt_of_lt_of_le hb2 hbel.size)
      have hyes := fun h => first_at (p := takesE m.data.toList path.data.toList) (l := xs) (k := i) (x := x) hno hxi h
      have hnot : (takesE m.data.toList path.data.toList) x = false → ∀ (j : Nat) y, j < i + 1 → xs[j]? = some y → (takesE m.data.toList path.data.toList) y = false := fun h j y hj hy => by
        rcases Nat.lt_or_ge j i with h1 | h1
        · exact hno j y h1 hy
        · obtain rfl : j = i := by omega
          rw [hxi] at hy; cases hy; exact h
      have hpx : (takesE m.data.toList path.data.toList) x = tk x.1.data.toList x.2.1.data.toList m.data.toList path.data.toList := rfl
      rw [hpx] at hyes hnot
      generalize tk x.1.data.toList x.2.1.data.toList m.data.toList path.data.toList = t at *
      replace hcall := Lib.hid hcall
      replace hyes := Lib.hid hyes
      replace hnot := Lib.hid hnot
      replace hbel := Lib.hid hbel
      clear hno hxi hpx hx
      go_wp2_with fail
      refine hcall.out.mono ?_
      rintro e w1 ⟨rfl, hb1⟩
      have hbel2 := Lib.hid (Tp.Below_seq hbel.out hb1)
      clear hb1
      cases t with
      | true =>
        have hres := Lib.hid (hyes.out rfl)
        go_wp2
        go_ret
        exact ⟨by rw [hres.out]; rfl, hbel2.out⟩
      | false =>
        have hn := Lib.hid (hnot.out rfl)
        go_wp2
        go_roundg (xs.length - (i + 1))
        case measure => omega
        case rel => exact ⟨i + 1, by omega, rfl, by go_num, hn.out, hbel2.out⟩
    · have hres := Lib.hid (first_none (p := takesE m.data.toList path.data.toList) (l := xs) fun j y hy => hno j y (by have := (List.getElem?_eq_some_iff.1 hy).1; omega) hy)
      have hi1 : (xs.length : Int) ≤ (i : Int) := by omega
      replace hbel := Lib.hid hbel
      clear hno
      go_wp2
      go_ret
      exact ⟨by rw [hres.out]; rfl, hbel.out⟩
end Go.Proofs.Ytnnoccojjeadhaa
