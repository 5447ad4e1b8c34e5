/- The document's pool in memory, and the walks of its small functions: of, kept, find. -/
import Derived.Test.YtpebcamnmeppaaaBook
namespace Go.Proofs.Ytpebcamnmeppaaa
open Go.RowKit Go.Mp Go.Po
set_option linter.unusedVariables false
def cc (c : C) : List Value := [.int .i64 c.id, .string c.ep, .int .i64 c.since]
def ccs (l : List C) : List Value := l.flatMap cc
def scs (l : List ByteArray) : List Value := l.map Value.string
theorem ccs_length (l : List C) : (ccs l).length = l.length * 3 := by
  induction l with
  | nil => rfl
  | cons c l ih => simp only [ccs, List.flatMap_cons, List.length_append, List.length_cons] at ih ⊢; simp only [cc, List.length_cons, List.length_nil]; omega
theorem ccs_append (l l' : List C) : ccs (l ++ l') = ccs l ++ ccs l' := List.flatMap_append
theorem ccs_at {l : List C} {k : Nat} {c : C} (hc : l[k]? = some c) (j : Nat) (hj : j < 3) : (ccs l)[3 * k + j]? = (cc c)[j]? := by
  induction l generalizing k with
  | nil => simp at hc
  | cons a l ih =>
    have e : ccs (a :: l) = cc a ++ ccs l := rfl
    cases k with
    | zero =>
      simp at hc; subst hc
      rw [e, List.getElem?_append_left (by simp [cc]; omega)]
      simp
    | succ k =>
      simp at hc
      rw [e, List.getElem?_append_right (by simp [cc]; omega), ← ih hc]
      simp only [cc, List.length_cons, List.length_nil]
      congr 1
      omega
/-- A row of connections, as it reads. -/
theorem row_at {w : World} {base n cap : Nat} {ao : Option Addr} {l : List C} (h : w.ownsRow base 77 3 (.slice ao n cap) l.length (ccs l)) {k : Nat} {c : C} (hx : l[k]? = some c) :
    ∃ g, ao = some ⟨g, 0, none⟩ ∧ w.cell? ⟨g, k * 3, none⟩ = some (.int .i64 c.id) ∧ w.cell? ⟨g, k * 3 + 1, none⟩ = some (.string c.ep) ∧ w.cell? ⟨g, k * 3 + 2, none⟩ = some (.int .i64 c.since) := by
  have hk := (List.getElem?_eq_some_iff.1 hx).1
  rcases h.2 with ⟨h0, h1⟩ | ⟨g', cp, cur, h0, r⟩
  · omega
  · simp only [Value.slice.injEq] at h0
    obtain ⟨rfl, hm, rfl⟩ := h0
    subst hm
    have hc : ∀ j, j < 3 → w.cell? ⟨g', k * 3 + j, none⟩ = (cc c)[j]? := fun j hj => by
      have h1 := h.cellAt (k * 3 + j) (by omega)
      rw [h1, Nat.mul_comm k 3, ccs_at hx j hj]
    exact ⟨g', rfl, hc 0 (by omega), hc 1 (by omega), hc 2 (by omega)⟩
theorem of_take_succ {l : List C} {k : Nat} {c : C} (hx : l[k]? = some c) (e : ByteArray) : of (l.take (k + 1)) e = of (l.take k) e + if c.ep = e then 1 else 0 := by
  rw [List.take_add_one, hx, of_append]
  show _ + of [c] e = _
  rw [of_one]
theorem of_ref {w : World} {base : Nat} {v : Value} {l : List C} (h : w.ownsRow base 77 3 v l.length (ccs l)) (hl : l.length < 8796093022208) (e : ByteArray) : Calls Try.prog 33 #[v, .string e] w fun e' w' => e' = .returned (.int .i64 (of l e)) ∧ w = w' := by
  obtain ⟨ao, cap, rfl⟩ := ownsRow_shape h
  replace h := Lib.hid h
  go_enter Try.func33, Try.ntmps33
  go_wp2
  go_loopg [5, 6] l.length (fun gg nc kc wr => ∃ k : Nat, k ≤ l.length ∧ gg = l.length - k ∧ kc = .int .i64 k ∧ nc = .int .i64 (of (l.take k) e) ∧ w = wr)
  case atStart => exact ⟨0, by omega, by omega, rfl, by simp [of], rfl⟩
  case round =>
    obtain ⟨k, hk, rfl, rfl, rfl, rfl⟩ := hrel
    by_cases hkl : k < l.length
    · have hx := List.getElem?_eq_getElem hkl
      obtain ⟨g, rfl, d0, d1, d2⟩ := row_at h.out hx
      have k0 := nn_lt hkl
      have hst := of_take_succ hx e
      have hle : of (l.take k) e ≤ k := Nat.le_trans List.countP_le_length (by rw [List.length_take]; omega)
      generalize l[k] = c at *
      by_cases hep : c.ep = e
      · have hs0 : (c.ep.toList == e.toList) = true := by rw [hep]; simp
        rw [if_pos hep] at hst
        have hwo : wrap64 ((of (l.take k) e : Int) + 1) = ((of (l.take k) e + 1 : Nat) : Int) := by unfold wrap64; omega
        replace hx := Lib.hid hx
        replace hst := Lib.hid hst
        replace hep := Lib.hid hep
        replace hwo := Lib.hid hwo
        go_wp2
        go_roundg (l.length - (k + 1))
        case rel => exact ⟨k + 1, hkl, rfl, by first | rfl | rw [nn_succ hkl hl] | (push_cast; rfl), by rw [hst.out]; first | rfl | rw [hwo.out] | (push_cast; rfl), rfl⟩
        case measure => exact nn_sub hkl
      · have hs0 : (c.ep.toList == e.toList) = false := by
          rw [beq_eq_false_iff_ne]
          exact fun h => hep (bytes_of_toList h)
        rw [if_neg hep, Nat.add_zero] at hst
        replace hx := Lib.hid hx
        replace hst := Lib.hid hst
        replace hep := Lib.hid hep
        go_wp2
        go_roundg (l.length - (k + 1))
        case rel => exact ⟨k + 1, hkl, rfl, by first | rfl | rw [nn_succ hkl hl] | (push_cast; rfl), by rw [hst.out]; rfl, rfl⟩
        case measure => exact nn_sub hkl
    · have hke := nn_eq hk hkl
      have k0 := nn_ge hkl
      replace hke := Lib.hid hke
      go_wp2
      go_ret
      rw [hke.out, List.take_length]
      exact ⟨rfl, rfl⟩
theorem fnd_take_succ {l : List C} {k : Nat} {c : C} (hx : l[k]? = some c) {i : Int} (hn : fnd (l.take k) i = none) : fnd (l.take (k + 1)) i = if c.id = i then some c else none := by
  rw [List.take_add_one, hx]
  unfold fnd at hn ⊢
  rw [List.find?_append, hn]
  by_cases h : c.id = i <;> simp [h]
/-- find: the place, and what stands there. -/
theorem find_ref {w : World} {base : Nat} {v : Value} {l : List C} (h : w.ownsRow base 77 3 v l.length (ccs l)) (hl : l.length < 8796093022208) (i : Int) :
    Calls Try.prog 35 #[v, .int .i64 i] w fun e' w' => w = w' ∧ ((∃ (k : Nat) (c : C), l[k]? = some c ∧ c.id = i ∧ fnd l i = some c ∧ e' = .returned (.int .i64 k)) ∨ (fnd l i = none ∧ e' = .returned (.int .i64 (-1)))) := by
  obtain ⟨ao, cap, rfl⟩ := ownsRow_shape h
  replace h := Lib.hid h
  go_enter Try.func35, Try.ntmps35
  go_wp2
  go_loopg [5] l.length (fun gg kc wr => ∃ k : Nat, k ≤ l.length ∧ gg = l.length - k ∧ kc = .int .i64 k ∧ fnd (l.take k) i = none ∧ w = wr)
  case atStart => exact ⟨0, by omega, by omega, rfl, rfl, rfl⟩
  case round =>
    obtain ⟨k, hk, rfl, rfl, hn, rfl⟩ := hrel
    by_cases hkl : k < l.length
    · have hx := List.getElem?_eq_getElem hkl
      obtain ⟨g, rfl, d0, d1, d2⟩ := row_at h.out hx
      have k0 := nn_lt hkl
      have hst := fnd_take_succ hx hn
      generalize l[k] = c at *
      by_cases hep : c.id = i
      · have q1 : (c.id == i) = true := by rw [beq_iff_eq]; exact hep
        rw [if_pos hep] at hst
        have hf : fnd l i = some c := by
          unfold fnd at hst ⊢
          rw [← List.take_append_drop (k + 1) l, List.find?_append, hst]
          rfl
        replace hx := Lib.hid hx
        replace hst := Lib.hid hst
        replace hn := Lib.hid hn
        replace hep := Lib.hid hep
        replace hf := Lib.hid hf
        go_wp2
        go_ret
        exact ⟨rfl, .inl ⟨k, c, hx.out, hep.out, hf.out, rfl⟩⟩
      · have q1 : (c.id == i) = false := by rw [beq_eq_false_iff_ne]; exact hep
        rw [if_neg hep] at hst
        replace hx := Lib.hid hx
        replace hst := Lib.hid hst
        replace hn := Lib.hid hn
        replace hep := Lib.hid hep
        go_wp2
        go_roundg (l.length - (k + 1))
        case rel => exact ⟨k + 1, hkl, rfl, by first | rfl | rw [nn_succ hkl hl] | (push_cast; rfl), hst.out, rfl⟩
        case measure => exact nn_sub hkl
    · have hke := nn_eq hk hkl
      have k0 := nn_ge hkl
      rw [hke, List.take_length] at hn
      replace hke := Lib.hid hke
      replace hn := Lib.hid hn
      go_wp2
      go_ret
      exact ⟨rfl, .inr ⟨hn.out, rfl⟩⟩
end Go.Proofs.Ytpebcamnmeppaaa
