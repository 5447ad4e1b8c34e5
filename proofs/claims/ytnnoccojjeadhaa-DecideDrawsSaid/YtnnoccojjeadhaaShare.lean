/- The walks of D's share, the program's and the document's. -/
import Derived.Test.YtnnoccojjeadhaaSteps
namespace Go.Proofs.Ytnnoccojjeadhaa
open Go.ChangeShapes Go.WideShapes Go.ChangeAt Go.RowKit
open Go.Pa Go.Dec
set_option linter.unusedVariables false

@[go_sem] theorem run_store_float {P : Program} (w : World) (a : Addr) (m : Mode) (n : Nat) : (store a (.float .f64 n) m).run P w = stored P w a (.float .f64 n) m := run_store P w a _ m rfl
set_option maxHeartbeats 2000000 in
theorem share12 (a b : ByteArray) (v2 : Value) (xs : List Share) (u : Nat) (w : World) (hrd : Rd.SliceOf shareE w v2 xs) :
    Calls Try.prog 12 #[.agg #[.string a, .string b, v2], .float .f64 u] w fun e w' => e = .returned (.string (shareOf u xs)) ∧ Below w.heap.size w w' := by
  have hlen := hrd.1
  obtain ⟨ao, cap, hv⟩ : ∃ ao cap, v2 = .slice ao xs.length cap := by obtain ⟨_, ao, cap, rfl, _⟩ := hrd; exact ⟨_, _, rfl⟩
  subst hv
  have hb0 := Tp.Below_alloc w (.cells #[.string a, .string b, .slice ao xs.length cap] 41)
  have hbx := box_cell w #[.string a, .string b, .slice ao xs.length cap] 41 2 _ rfl
  have hbs : w.heap.size < (w.alloc (.cells #[.string a, .string b, .slice ao xs.length cap] 41)).heap.size := by simp
  replace hrd := Lib.hid hrd
  replace hb0 := Lib.hid hb0
  by_cases hnil : xs = []
  · have hr : shareOf u xs = ⟨#[]⟩ := by subst hnil; rfl
    have h0 : ((xs.length : Int) == 0) = true := by subst hnil; rfl
    replace hr := Lib.hid hr
    clear hnil
    go_enter Try.func12, Try.ntmps12
    go_wp2
    go_ret
    exact ⟨ret_s hr.out.symm, hb0.out⟩
  · have hpos : 0 < xs.length := List.length_pos_iff.2 hnil
    have h0 : ((xs.length : Int) == 0) = false := by simp; omega
    replace hnil := Lib.hid hnil
    replace hbs := Lib.hid hbs
    have hbx2 := Lib.hid hbx
    go_enter Try.func12, Try.ntmps12
    go_wp2
    obtain ⟨wb, hwb⟩ : ∃ wb, wb = w.alloc (.cells #[.string a, .string b, .slice ao xs.length cap] 41) := ⟨_, rfl⟩
    rw [← hwb] at hb0 hbx2 hbs
    clear hbx
    replace hwb := Lib.hid hwb
    go_loopg [14] xs.length (fun g ic wr => ∃ i : Nat, i ≤ xs.length ∧ g = xs.length - i ∧ ic = .int .i64 i ∧ (∀ (j : Nat) y, j < i → xs[j]? = some y → gtF y.2.1 u = false) ∧ Below wb.heap.size wb wr)
    case atStart => exact ⟨0, by omega, rfl, rfl, fun j y hj _ => by omega, by rw [hwb.out]; exact Below.refl _ _⟩
    case round =>
      obtain ⟨i, hi, rfl, rfl, hno, hbel⟩ := hrel
      have hbw2 : Below w.heap.size w wr := Tp.Below_seq hb0.out hbel
      have c9 : wr.cell? ⟨w.heap.size, 2, none⟩ = some (.slice ao xs.length cap) := (hbel.cell (by exact hbs.out)).trans hbx2.out
      obtain ⟨bb, off, cap', hv, hbw, hx⟩ := hrd.out.at hnil.out
      cases hv
      by_cases hlt : i < xs.length
      · have hxi := List.getElem?_eq_getElem hlt
        have hr := Rd.Elem.up shareE (hx i _ hxi) hbw2 (fun j _ => hbw2.cell (by exact hbw))
        generalize xs[i] = x at *
        obtain ⟨⟨q0, s0⟩, ⟨q1, s1⟩, _⟩ := hr
        have c0 : wr.cell? ⟨bb, off + i * 2, none⟩ = some (.string x.1) := q0
        have c1 : wr.cell? ⟨bb, off + i * 2 + 1, none⟩ = some (.float .f64 x.2.1) := q1
        have hi1 : (i : Int) < (xs.length : Int) := by omega
        have hfin := Lib.hid (hbw2.trans ((Tp.Below_alloc wr (.cells #[.string x.1, .float .f64 x.2.1] 53)).mono hbw2.size))
        have hbel2 := Lib.hid (Tp.Below_seq hbel (Tp.Below_alloc wr (.cells #[.string x.1, .float .f64 x.2.1] 53)))
        by_cases hg : gtF x.2.1 u = true
        · have hres := Lib.hid (share_at hno hxi hg)
          have hg2 : (FloatKind.f64.format.order x.2.1 u == some Ordering.gt) = true := hg
          clear hno hxi hg hx hbw2 q0 q1 hbel c9
          go_wp2
          go_ret
          exact ⟨ret_s hres.out.symm, hfin.out⟩
        · have hg' : gtF x.2.1 u = false := by simpa using hg
          have hg2 : (FloatKind.f64.format.order x.2.1 u == some Ordering.gt) = false := hg'
          have hn : ∀ (j : Nat) y, j < i + 1 → xs[j]? = some y → gtF y.2.1 u = false := fun j y hj hy => by
            rcases Nat.lt_or_ge j i with h1 | h1
            · exact hno j y h1 hy
            · obtain rfl : j = i := by omega
              rw [hxi] at hy; cases hy; exact hg'
          replace hn := Lib.hid hn
          clear hno hxi hg hg' hx hbw2 q0 q1 hbel c9
          go_wp2
          go_roundg (xs.length - (i + 1))
          case measure => omega
          case rel => exact ⟨i + 1, by omega, rfl, by go_num, hn.out, hbel2.out⟩
      · have hres := share_none (u := u) (ss := xs) fun j y hy => hno j y (by have := (List.getElem?_eq_some_iff.1 hy).1; omega) hy
        have hlast : xs[xs.length - 1]? = some (xs[xs.length - 1]'(by omega)) := List.getElem?_eq_getElem (by omega)
        have hll : xs.getLast? = some (xs[xs.length - 1]'(by omega)) := by rw [List.getLast?_eq_getElem?]; exact hlast
        rw [hll] at hres
        have hr := Rd.Elem.up shareE (hx _ _ hlast) hbw2 (fun j _ => hbw2.cell (by exact hbw))
        generalize xs[xs.length - 1] = x at *
        obtain ⟨⟨q0, s0⟩, ⟨q1, s1⟩, _⟩ := hr
        have c0 : wr.cell? ⟨bb, off + (xs.length - 1) * 2, none⟩ = some (.string x.1) := q0
        have hi1 : (xs.length : Int) ≤ (i : Int) := by omega
        have hp1 : (1 : Int) ≤ (xs.length : Int) := by omega
        have hp2 : (xs.length : Int) - 1 < (xs.length : Int) := by omega
        replace hres := Lib.hid hres
        replace hbw2 := Lib.hid hbw2
        clear hno hx hbel hlast hll q0 q1
        go_wp2
        go_ret
        exact ⟨ret_s hres.out.symm, hbw2.out⟩
set_option maxHeartbeats 2000000 in
theorem share13 (a b : ByteArray) (v2 : Value) (xs : List Share) (u : Nat) (w : World) (hrd : Rd.SliceOf shareE w v2 xs) :
    Calls Try.prog 13 #[.agg #[.string a, .string b, v2], .float .f64 u] w fun e w' => e = .returned (.string (shareOf u xs)) ∧ Below w.heap.size w w' := by
  have hlen := hrd.1
  obtain ⟨ao, cap, hv⟩ : ∃ ao cap, v2 = .slice ao xs.length cap := by obtain ⟨_, ao, cap, rfl, _⟩ := hrd; exact ⟨_, _, rfl⟩
  subst hv
  have hb0 := Lib.hid (Tp.Below_alloc w (.cells #[.string a, .string b, .slice ao xs.length cap] 41))
  have hbx := Lib.hid (box_cell w #[.string a, .string b, .slice ao xs.length cap] 41 2 _ rfl)
  replace hrd := Lib.hid hrd
  go_enter Try.func13, Try.ntmps13
  go_wp2
  generalize w.alloc (.cells #[.string a, .string b, .slice ao xs.length cap] 41) = wb at *
  have c9 := hbx.out
  go_loopg [5, 6] xs.length (fun g sv ic wr => ∃ (i : Nat) (s : ByteArray), i ≤ xs.length ∧ g = xs.length - i ∧ ic = .int .i64 i ∧ sv = .string s ∧ (s = match (xs.take i).getLast? with | some y => y.1 | none => ⟨#[]⟩) ∧ (∀ (j : Nat) y, j < i → xs[j]? = some y → gtF y.2.1 u = false) ∧ wb = wr)
  case atStart => exact ⟨0, ⟨#[]⟩, by omega, rfl, rfl, rfl, rfl, fun j y hj _ => by omega, rfl⟩
  case round =>
    obtain ⟨i, s, hi, rfl, rfl, rfl, hs, hno, rfl⟩ := hrel
    replace hs := Lib.hid hs
    by_cases hlt : i < xs.length
    · obtain ⟨bb, off, cap', hv, hbw, hx⟩ := hrd.out.at (by rintro rfl; simp at hlt)
      cases hv
      have hxi := List.getElem?_eq_getElem hlt
      have hr := Rd.Elem.up shareE (hx i _ hxi) hb0.out (fun j _ => hb0.out.cell (by exact hbw))
      have hs2 : xs[i].1 = match (xs.take (i + 1)).getLast? with | some y => y.1 | none => ⟨#[]⟩ := by
        rw [List.take_succ_eq_append_getElem hlt, List.getLast?_append]; rfl
      generalize xs[i] = x at *
      obtain ⟨⟨q0, s0⟩, ⟨q1, s1⟩, _⟩ := hr
      have c0 : wb.cell? ⟨bb, off + i * 2, none⟩ = some (.string x.1) := q0
      have c1 : wb.cell? ⟨bb, off + i * 2 + 1, none⟩ = some (.float .f64 x.2.1) := q1
      have hi1 : (i : Int) < (xs.length : Int) := by omega
      replace hs2 := Lib.hid hs2
      by_cases hg : gtF x.2.1 u = true
      · have hres := Lib.hid (share_at hno hxi hg)
        have hg2 : (FloatKind.f64.format.order x.2.1 u == some Ordering.gt) = true := hg
        clear hno hxi hg hx q0 q1
        go_wp2
        go_ret
        exact ⟨ret_s hres.out.symm, hb0.out⟩
      · have hg' : gtF x.2.1 u = false := by simpa using hg
        have hg2 : (FloatKind.f64.format.order x.2.1 u == some Ordering.gt) = false := hg'
        have hn : ∀ (j : Nat) y, j < i + 1 → xs[j]? = some y → gtF y.2.1 u = false := fun j y hj hy => by
          rcases Nat.lt_or_ge j i with h1 | h1
          · exact hno j y h1 hy
          · obtain rfl : j = i := by omega
            rw [hxi] at hy; cases hy; exact hg'
        replace hn := Lib.hid hn
        clear hno hxi hg hg' hx q0 q1
        go_wp2
        go_roundg (xs.length - (i + 1))
        case measure => omega
        case rel => exact ⟨i + 1, _, by omega, rfl, by go_num, rfl, hs2.out, hn.out, rfl⟩
    · have hres := share_none (u := u) (ss := xs) fun j y hy => hno j y (by have := (List.getElem?_eq_some_iff.1 hy).1; omega) hy
      have hi1 : (xs.length : Int) ≤ (i : Int) := by omega
      have hs3 := hs.out
      rw [List.take_of_length_le (by omega)] at hs3
      have hfin : shareOf u xs = s := hres.trans hs3.symm
      replace hfin := Lib.hid hfin
      clear hno hres hs3
      go_wp2
      go_ret
      exact ⟨ret_s hfin.out.symm, hb0.out⟩
end Go.Proofs.Ytnnoccojjeadhaa
