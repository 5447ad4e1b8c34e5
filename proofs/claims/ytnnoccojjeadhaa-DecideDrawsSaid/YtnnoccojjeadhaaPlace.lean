/- The place of a draw among shares: plain words, plain facts, and the walk of place. -/
import Derived.Test.YtnnoccojjeadhaaShare
import Derived.Test.YtnnoccojjeadhaaFlo
namespace Go.Dec
open Go.Pa
set_option linter.unusedVariables false
/-- The first share whose end is above u; how many there are, if none is. -/
def placeOf (u : Nat) (ss : List Share) : Nat := (ss.findIdx? fun s => gtF s.2.1 u).getD ss.length
theorem place_at {u : Nat} {ss : List Share} {k : Nat} {x : Share} (hno : ∀ (j : Nat) y, j < k → ss[j]? = some y → gtF y.2.1 u = false) (hk : ss[k]? = some x) (h : gtF x.2.1 u = true) : placeOf u ss = k := by
  unfold placeOf
  have hlt := (List.getElem?_eq_some_iff.1 hk).1
  have he := (List.getElem?_eq_some_iff.1 hk).2
  have : (ss.findIdx? fun s => gtF s.2.1 u) = some k := by
    rw [List.findIdx?_eq_some_iff_getElem]
    refine ⟨hlt, by rw [he]; exact h, fun j hj => ?_⟩
    have hjl : j < ss.length := by omega
    rw [hno j ss[j] hj (List.getElem?_eq_getElem hjl)]; simp
  rw [this]; rfl
theorem place_none {u : Nat} {ss : List Share} (hno : ∀ (j : Nat) y, ss[j]? = some y → gtF y.2.1 u = false) : placeOf u ss = ss.length := by
  unfold placeOf
  have : (ss.findIdx? fun s => gtF s.2.1 u) = none := by
    rw [List.findIdx?_eq_none_iff]
    intro x hx
    obtain ⟨j, hj, e⟩ := List.getElem_of_mem hx
    exact hno j x (by rw [List.getElem?_eq_getElem hj, e])
  rw [this]; rfl
theorem place_cases (u : Nat) (ss : List Share) : (placeOf u ss = ss.length ∧ ∀ (j : Nat) y, ss[j]? = some y → gtF y.2.1 u = false) ∨ ∃ (k : Nat) (x : Share), placeOf u ss = k ∧ ss[k]? = some x ∧ gtF x.2.1 u = true ∧ (∀ (j : Nat) y, j < k → ss[j]? = some y → gtF y.2.1 u = false) ∧ shareOf u ss = x.1 := by
  cases h : ss.findIdx? fun s => gtF s.2.1 u with
  | none =>
    rw [List.findIdx?_eq_none_iff] at h
    have hno : ∀ (j : Nat) y, ss[j]? = some y → gtF y.2.1 u = false := fun j y hy => h y (List.mem_of_getElem? hy)
    exact .inl ⟨place_none hno, hno⟩
  | some k =>
    obtain ⟨hk, hp, hno'⟩ := List.findIdx?_eq_some_iff_getElem.1 h
    have hno : ∀ (j : Nat) y, j < k → ss[j]? = some y → gtF y.2.1 u = false := fun j y hj hy => by
      obtain ⟨hl, rfl⟩ := List.getElem?_eq_some_iff.1 hy
      simpa using hno' j hj
    exact .inr ⟨k, ss[k], place_at hno (List.getElem?_eq_getElem hk) hp, List.getElem?_eq_getElem hk, hp, hno, share_at hno (List.getElem?_eq_getElem hk) hp⟩
/-- What is above v is above u, where u is not above v. -/
theorem gtF_mono {c u v : Nat} (h : gtF c v = true) (hu : FloatKind.f64.format.order u v = some .lt ∨ FloatKind.f64.format.order u v = some .eq) : gtF c u = true := by
  unfold gtF at *
  have h1 : FloatKind.f64.format.order c v = some .gt := by simpa using h
  have h2 : FloatKind.f64.format.order c u = some .gt := Flo.gt_of h1 hu
  rw [h2]; rfl
theorem place_mono {u v : Nat} (ss : List Share) (hu : FloatKind.f64.format.order u v = some .lt ∨ FloatKind.f64.format.order u v = some .eq) : placeOf u ss ≤ placeOf v ss := by
  rcases place_cases u ss with ⟨h1, h2⟩ | ⟨k, x, h1, hk, hx, hno, _⟩
  · rcases place_cases v ss with ⟨h3, _⟩ | ⟨j, y, h3, hj, hy, _, _⟩
    · omega
    · have := h2 j y hj
      rw [gtF_mono hy hu] at this; cases this
  · rcases place_cases v ss with ⟨h3, _⟩ | ⟨j, y, h3, hj, hy, _, _⟩
    · have := (List.getElem?_eq_some_iff.1 hk).1
      omega
    · rcases Nat.lt_or_ge j k with h | h
      · have := hno j y h hj
        rw [gtF_mono hy hu] at this; cases this
      · omega
end Go.Dec
namespace Go.Proofs.Ytnnoccojjeadhaa
open Go.ChangeShapes Go.WideShapes Go.ChangeAt Go.RowKit
open Go.Pa Go.Dec
set_option linter.unusedVariables false
set_option maxHeartbeats 2000000 in
theorem place16 (a b : ByteArray) (v2 : Value) (xs : List Share) (u : Nat) (w : World) (hrd : Rd.SliceOf shareE w v2 xs) :
    Calls Try.prog 16 #[.agg #[.string a, .string b, v2], .float .f64 u] w fun e w' => e = .returned (.int .i64 (placeOf u xs)) ∧ Below w.heap.size w w' := by
  have hlen := hrd.1
  obtain ⟨ao, cap, hv⟩ : ∃ ao cap, v2 = .slice ao xs.length cap := by obtain ⟨_, ao, cap, rfl, _⟩ := hrd; exact ⟨_, _, rfl⟩
  subst hv
  have hb0 := Lib.hid (Tp.Below_alloc w (.cells #[.string a, .string b, .slice ao xs.length cap] 41))
  have hbx := Lib.hid (box_cell w #[.string a, .string b, .slice ao xs.length cap] 41 2 _ rfl)
  replace hrd := Lib.hid hrd
  go_enter Try.func16, Try.ntmps16
  go_wp2
  generalize w.alloc (.cells #[.string a, .string b, .slice ao xs.length cap] 41) = wb at *
  have c9 := hbx.out
  go_loopg [5] xs.length (fun g ic wr => ∃ i : Nat, i ≤ xs.length ∧ g = xs.length - i ∧ ic = .int .i64 i ∧ (∀ (j : Nat) y, j < i → xs[j]? = some y → gtF y.2.1 u = false) ∧ wb = wr)
  case atStart => exact ⟨0, by omega, rfl, rfl, fun j y hj _ => by omega, rfl⟩
  case round =>
    obtain ⟨i, hi, rfl, rfl, hno, rfl⟩ := hrel
    by_cases hlt : i < xs.length
    · obtain ⟨bb, off, cap', hv, hbw, hx⟩ := hrd.out.at (by rintro rfl; simp at hlt)
      cases hv
      have hxi := List.getElem?_eq_getElem hlt
      have hr := Rd.Elem.up shareE (hx i _ hxi) hb0.out (fun j _ => hb0.out.cell (by exact hbw))
      generalize xs[i] = x at *
      obtain ⟨⟨q0, s0⟩, ⟨q1, s1⟩, _⟩ := hr
      have c1 : wb.cell? ⟨bb, off + i * 2 + 1, none⟩ = some (.float .f64 x.2.1) := q1
      have hi1 : (i : Int) < (xs.length : Int) := by omega
      by_cases hg : gtF x.2.1 u = true
      · have hres := Lib.hid (place_at hno hxi hg)
        have hg2 : (FloatKind.f64.format.order x.2.1 u == some Ordering.gt) = true := hg
        clear hno hxi hg hx q0 q1
        go_wp2
        go_ret
        exact ⟨by rw [hres.out]; rfl, hb0.out⟩
      · have hg' : gtF x.2.1 u = false := by simpa using hg
        have hg2 : (FloatKind.f64.format.order x.2.1 u == some Ordering.gt) = false := hg'
        have hn : ∀ (j : Nat) y, j < i + 1 → xs[j]? = some y → gtF y.2.1 u = false := fun j y hj hy => by
          rcases Nat.lt_or_ge j i with h1 | h1
          · exact hno j y h1 hy
          · obtain rfl : j = i := by omega
            rw [hxi] at hy; cases hy; exact hg'
        replace hn := Lib.hid hn
        clear hno hxi hg hg' hx q0 q1
        go_wp2
        go_roundg (xs.length - (i + 1))
        case measure => omega
        case rel => exact ⟨i + 1, by omega, rfl, by go_num, hn.out, rfl⟩
    · have hres := Lib.hid (place_none (u := u) (ss := xs) fun j y hy => hno j y (by have := (List.getElem?_eq_some_iff.1 hy).1; omega) hy)
      have hi1 : (xs.length : Int) ≤ (i : Int) := by omega
      clear hno
      go_wp2
      go_ret
      exact ⟨by rw [hres.out]; rfl, hb0.out⟩
end Go.Proofs.Ytnnoccojjeadhaa
