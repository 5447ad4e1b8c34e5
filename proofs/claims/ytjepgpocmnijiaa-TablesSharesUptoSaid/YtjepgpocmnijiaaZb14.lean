/- The walk of the document's Same, and of Lists. -/
import Derived.Test.YtjepgpocmnijiaaZb13
section

namespace Go.Ck
open Go.RowKit
set_option linter.unusedVariables false
def eqF (x y : Nat) : Bool := FloatKind.f64.format.order x y == some .eq
def sameW (x y : Nat) : Bool := eqF x y || !(eqF x x || eqF y y)
def sameT (x y : Tgt) : Bool := seq x.service y.service && (seq x.split y.split && sameW x.weight y.weight)
def sameU (x y : Rul) : Bool := seq x.path y.path && (seq x.method y.method && (seq x.split y.split && (x.allow == y.allow)))
def allIx {α : Type} (p : α → α → Bool) (a b : List α) (i : Nat) : Bool := match a[i]?, b[i]? with
  | some x, some y => p x y
  | _, _ => true
def eqL {α : Type} (p : α → α → Bool) (a b : List α) : Bool := a.length == b.length && (List.range a.length).all (allIx p a b)
theorem eqL_no {α : Type} {p : α → α → Bool} {a b : List α} {i : Nat} {x y : α} (hl : a.length = b.length) (hx : a[i]? = some x) (hy : b[i]? = some y) (h : p x y = false) : eqL p a b = false := by
  unfold eqL
  have hi := (List.getElem?_eq_some_iff.1 hx).1
  rw [Bool.and_eq_false_iff]
  right
  rw [Bool.eq_false_iff]
  intro hall
  rw [List.all_eq_true] at hall
  have := hall i (List.mem_range.2 hi)
  unfold allIx at this
  rw [hx, hy] at this
  simp only at this
  rw [h] at this; cases this
theorem eqL_yes {α : Type} {p : α → α → Bool} {a b : List α} (hl : a.length = b.length) (h : ∀ (j : Nat) x y, a[j]? = some x → b[j]? = some y → p x y = true) : eqL p a b = true := by
  unfold eqL
  rw [Bool.and_eq_true, List.all_eq_true]
  refine ⟨by simp [hl], fun j hj => ?_⟩
  unfold allIx
  have hj' := List.mem_range.1 hj
  rw [List.getElem?_eq_getElem hj', List.getElem?_eq_getElem (by omega)]
  exact h j _ _ (List.getElem?_eq_getElem hj') (List.getElem?_eq_getElem (by omega))
theorem eqL_len {α : Type} {p : α → α → Bool} {a b : List α} (hl : ¬ a.length = b.length) : eqL p a b = false := by
  unfold eqL
  rw [Bool.and_eq_false_iff]
  left
  simpa using hl
def sameR (a b : Res) : Bool := isK b.kind b.name a && (seq a.host b.host && (seq a.route b.route && ((a.del == b.del) && (eqL seq a.eps b.eps && (eqL sameT a.tgts b.tgts && eqL sameU a.rules b.rules)))))
def TwoT (w : World) (p q : Value) (x y : Tgt) (wx : World) : Prop := ∃ g h, p = .pointer (some ⟨g, 0, none⟩) ∧ q = .pointer (some ⟨h, 0, none⟩) ∧
  (wx.cell? ⟨g, 0, none⟩ = some (.string x.service) ∧ wx.cell? ⟨g, 1, none⟩ = some (.string x.split) ∧ wx.cell? ⟨g, 2, none⟩ = some (.float .f64 x.weight)) ∧
  (wx.cell? ⟨h, 0, none⟩ = some (.string y.service) ∧ wx.cell? ⟨h, 1, none⟩ = some (.string y.split) ∧ wx.cell? ⟨h, 2, none⟩ = some (.float .f64 y.weight)) ∧ Below w.heap.size w wx
end Go.Ck
namespace Go.Proofs.Ytjepgpocmnijiaa
open Go.RowKit Go.Mp Go.Ck
set_option linter.unusedVariables false
set_option maxRecDepth 100000
set_option maxHeartbeats 4000000
theorem two_t (w : World) (x y : Tgt) : TwoT w (.pointer (some ⟨w.heap.size, 0, none⟩)) (.pointer (some ⟨w.heap.size + 1, 0, none⟩)) x y (((w.alloc (.cells #[.string x.service, .string x.split, .float .f64 x.weight] 57)).alloc (.cells #[.string y.service, .string y.split, .float .f64 y.weight] 57)).drew) := by
  have hs : (w.alloc (.cells #[.string x.service, .string x.split, .float .f64 x.weight] 57)).heap.size = w.heap.size + 1 := by simp
  have hb := alloc_below (w.alloc (.cells #[.string x.service, .string x.split, .float .f64 x.weight] 57)) (.cells #[.string y.service, .string y.split, .float .f64 y.weight] 57)
  have hx : ∀ (j : Nat) u, #[Value.string x.service, .string x.split, .float .f64 x.weight][j]? = some u → ((w.alloc (.cells #[.string x.service, .string x.split, .float .f64 x.weight] 57)).alloc (.cells #[.string y.service, .string y.split, .float .f64 y.weight] 57)).cell? ⟨w.heap.size, j, none⟩ = some u := fun j u h => (hb.cell (p := ⟨w.heap.size, j, none⟩) (by show w.heap.size < _; rw [hs]; omega)).trans ((cell_of_row _ _ j _ _ _ (heap_alloc_new w _)).trans h)
  have hy : ∀ (j : Nat) u, #[Value.string y.service, .string y.split, .float .f64 y.weight][j]? = some u → ((w.alloc (.cells #[.string x.service, .string x.split, .float .f64 x.weight] 57)).alloc (.cells #[.string y.service, .string y.split, .float .f64 y.weight] 57)).cell? ⟨w.heap.size + 1, j, none⟩ = some u := fun j u h => by
    rw [← hs]
    exact (cell_of_row _ _ j _ _ _ (heap_alloc_new _ _)).trans h
  exact ⟨_, _, rfl, rfl, ⟨hx 0 _ rfl, hx 1 _ rfl, hx 2 _ rfl⟩, ⟨hy 0 _ rfl, hy 1 _ rfl, hy 2 _ rfl⟩, (seq_below (alloc_below w _) hb).trans ⟨rfl, rfl, rfl, Nat.le_refl _, fun _ _ => rfl⟩⟩
theorem two_swap {w wx : World} {p q : Value} {x y : Tgt} (h : TwoT w p q x y wx) : TwoT w q p y x wx := by
  obtain ⟨g, k, h1, h2, h3, h4, h5⟩ := h
  exact ⟨k, g, h2, h1, h4, h3, h5⟩
theorem same30 (a b : Res) (ea ta ra eb tb rb : Value) (w : World) (ha : RP w a ea ta ra) (hb : RP w b eb tb rb) : Calls Try.prog 30 #[.agg #[.int .i64 a.kind, .string a.name, ea, ta, .string a.host, ra, .string a.route, .bool a.del], .agg #[.int .i64 b.kind, .string b.name, eb, tb, .string b.host, rb, .string b.route, .bool b.del]] w
    fun e w' => e = .returned (.bool (sameR a b)) ∧ Below w.heap.size w w' := by
  obtain ⟨eao, eac, rfl⟩ := slice_shape ha.e
  obtain ⟨tao, tac, rfl⟩ := slice_shape ha.t
  obtain ⟨rao, rac, rfl⟩ := slice_shape ha.ru
  obtain ⟨ebo, ebc, rfl⟩ := slice_shape hb.e
  obtain ⟨tbo, tbc, rfl⟩ := slice_shape hb.t
  obtain ⟨rbo, rbc, rfl⟩ := slice_shape hb.ru
  have hel := ha.e.1
  have htl := ha.t.1
  have hrl := ha.ru.1
  obtain ⟨w1, hw1⟩ : ∃ w1, w1 = w.alloc (.cells #[.int .i64 a.kind, .string a.name, .slice eao a.eps.length eac, .slice tao a.tgts.length tac, .string a.host, .slice rao a.rules.length rac, .string a.route, .bool a.del] 52) := ⟨_, rfl⟩
  obtain ⟨w2, hw2⟩ : ∃ w2, w2 = w1.alloc (.cells #[.int .i64 b.kind, .string b.name, .slice ebo b.eps.length ebc, .slice tbo b.tgts.length tbc, .string b.host, .slice rbo b.rules.length rbc, .string b.route, .bool b.del] 52) := ⟨_, rfl⟩
  obtain ⟨ba, hba⟩ : ∃ ba, ba = w.heap.size := ⟨_, rfl⟩
  obtain ⟨bb, hbb⟩ : ∃ bb, bb = w.heap.size + 1 := ⟨_, rfl⟩
  have hs1 : w1.heap.size = bb := by rw [hw1, hbb]; simp
  have hb1 : Below w.heap.size w w1 := by rw [hw1]; exact alloc_below _ _
  have hb2 : Below w1.heap.size w1 w2 := by rw [hw2]; exact alloc_below _ _
  have hbw := seq_below hb1 hb2
  have hbal : ba < w2.heap.size := by rw [hw2, hba]; simp; rw [hs1, hbb]; omega
  have hbbl : bb < w2.heap.size := by rw [hw2]; simp; rw [hs1]; omega
  have xa := box_cells8 w (.int .i64 a.kind) (.string a.name) (.slice eao a.eps.length eac) (.slice tao a.tgts.length tac) (.string a.host) (.slice rao a.rules.length rac) (.string a.route) (.bool a.del) 52
  have xb := box_cells8 w1 (.int .i64 b.kind) (.string b.name) (.slice ebo b.eps.length ebc) (.slice tbo b.tgts.length tbc) (.string b.host) (.slice rbo b.rules.length rbc) (.string b.route) (.bool b.del) 52
  rw [← hw1, ← hba] at xa
  rw [← hw2, hs1] at xb
  have ya : ∀ (j : Nat) u, #[Value.int .i64 a.kind, .string a.name, .slice eao a.eps.length eac, .slice tao a.tgts.length tac, .string a.host, .slice rao a.rules.length rac, .string a.route, .bool a.del][j]? = some u → w2.cell? ⟨ba, j, none⟩ = some u := fun j u h => (hb2.cell (p := ⟨ba, j, none⟩) (by show ba < w1.heap.size; rw [hs1, hbb, hba]; omega)).trans (xa j u h)
  have hkk : Hid (∀ w', Calls Try.prog 79 #[.agg #[.int .i64 a.kind, .string a.name, .slice eao a.eps.length eac, .slice tao a.tgts.length tac, .string a.host, .slice rao a.rules.length rac, .string a.route, .bool a.del], .agg #[.int .i64 b.kind, .string b.name, .slice ebo b.eps.length ebc, .slice tbo b.tgts.length tbc, .string b.host, .slice rbo b.rules.length rbc, .string b.route, .bool b.del]] w' fun e w2 => e = .returned (.bool (isK b.kind b.name a)) ∧ Below w'.heap.size w' w2) := Lib.hid (fun w' => key79 a b _ _ _ _ _ _ w')
  have hYA : Hid (∀ w', Below w2.heap.size w2 w' → w'.cell? ⟨ba, 2, none⟩ = some (.slice eao a.eps.length eac) ∧ w'.cell? ⟨ba, 3, none⟩ = some (.slice tao a.tgts.length tac) ∧ w'.cell? ⟨ba, 4, none⟩ = some (.string a.host) ∧ w'.cell? ⟨ba, 5, none⟩ = some (.slice rao a.rules.length rac) ∧ w'.cell? ⟨ba, 6, none⟩ = some (.string a.route) ∧ w'.cell? ⟨ba, 7, none⟩ = some (.bool a.del)) := Lib.hid (fun w' h => ⟨(h.cell (p := ⟨ba, 2, none⟩) hbal).trans (ya 2 _ rfl), (h.cell (p := ⟨ba, 3, none⟩) hbal).trans (ya 3 _ rfl), (h.cell (p := ⟨ba, 4, none⟩) hbal).trans (ya 4 _ rfl), (h.cell (p := ⟨ba, 5, none⟩) hbal).trans (ya 5 _ rfl), (h.cell (p := ⟨ba, 6, none⟩) hbal).trans (ya 6 _ rfl), (h.cell (p := ⟨ba, 7, none⟩) hbal).trans (ya 7 _ rfl)⟩)
  have hYB : Hid (∀ w', Below w2.heap.size w2 w' → w'.cell? ⟨bb, 2, none⟩ = some (.slice ebo b.eps.length ebc) ∧ w'.cell? ⟨bb, 3, none⟩ = some (.slice tbo b.tgts.length tbc) ∧ w'.cell? ⟨bb, 4, none⟩ = some (.string b.host) ∧ w'.cell? ⟨bb, 5, none⟩ = some (.slice rbo b.rules.length rbc) ∧ w'.cell? ⟨bb, 6, none⟩ = some (.string b.route) ∧ w'.cell? ⟨bb, 7, none⟩ = some (.bool b.del)) := Lib.hid (fun w' h => ⟨(h.cell (p := ⟨bb, 2, none⟩) hbbl).trans (xb 2 _ rfl), (h.cell (p := ⟨bb, 3, none⟩) hbbl).trans (xb 3 _ rfl), (h.cell (p := ⟨bb, 4, none⟩) hbbl).trans (xb 4 _ rfl), (h.cell (p := ⟨bb, 5, none⟩) hbbl).trans (xb 5 _ rfl), (h.cell (p := ⟨bb, 6, none⟩) hbbl).trans (xb 6 _ rfl), (h.cell (p := ⟨bb, 7, none⟩) hbbl).trans (xb 7 _ rfl)⟩)
  obtain ⟨ya0, ya1⟩ : w2.cell? ⟨ba, 0, none⟩ = some (.int .i64 a.kind) ∧ w2.cell? ⟨ba, 1, none⟩ = some (.string a.name) := ⟨ya 0 _ rfl, ya 1 _ rfl⟩
  obtain ⟨xb0, xb1⟩ : w2.cell? ⟨bb, 0, none⟩ = some (.int .i64 b.kind) ∧ w2.cell? ⟨bb, 1, none⟩ = some (.string b.name) := ⟨xb 0 _ rfl, xb 1 _ rfl⟩
  obtain ⟨p2, p3, p4, p5, p6, p7⟩ := hYA.out w2 (Below.refl _ _)
  obtain ⟨q2, q3, q4, q5, q6, q7⟩ := hYB.out w2 (Below.refl _ _)
  have ha1 := ha.below hbw
  have hb1' := hb.below hbw
  obtain ⟨kk, hkke⟩ : ∃ kk, kk = isK b.kind b.name a := ⟨_, rfl⟩
  rw [← hkke] at hkk
  obtain ⟨hh, hhe⟩ : ∃ hh, (a.host.toList == b.host.toList) = hh := ⟨_, rfl⟩
  obtain ⟨ro, hroe⟩ : ∃ ro, (a.route.toList == b.route.toList) = ro := ⟨_, rfl⟩
  have hdef : sameR a b = (kk && (hh && (ro && ((a.del == b.del) && (eqL seq a.eps b.eps && (eqL sameT a.tgts b.tgts && eqL sameU a.rules b.rules)))))) := by rw [hkke, ← hhe, ← hroe]; rfl
  have t1 := hhe
  have t2 := hroe
  generalize hdl : a.del = da at *
  generalize hdl2 : b.del = db at *
  clear ha hb xa xb ya hhe hroe hkke
  obtain ⟨res, hres⟩ : ∃ res, res = sameR a b := ⟨_, rfl⟩
  rw [← hres]
  rw [← hres] at hdef
  replace hw1 := Lib.hid hw1
  replace hw2 := Lib.hid hw2
  replace hba := Lib.hid hba
  replace hbb := Lib.hid hbb
  replace hs1 := Lib.hid hs1
  replace hb1 := Lib.hid hb1
  replace hb2 := Lib.hid hb2
  replace hbw := Lib.hid hbw
  replace hbal := Lib.hid hbal
  replace hbbl := Lib.hid hbbl
  replace ha1 := Lib.hid ha1
  replace hb1' := Lib.hid hb1'
  replace hres := Lib.hid hres
  replace hdl := Lib.hid hdl
  replace hdl2 := Lib.hid hdl2
  cases kk with
  | false =>
    replace hdef := Lib.hid hdef
    go_enter Try.func30, Try.ntmps30
    go_upto_region 1 with fail
    rw [← hw1.out, ← hw2.out, ← hbb.out, ← hba.out]
    go_wp2_with (first
      | (go_at_call 79; (with_reducible refine (hkk.out _).mono ?_); rintro e w3 ⟨rfl, hb3⟩; obtain ⟨p2, p3, p4, p5, p6, p7⟩ := hYA.out _ hb3; obtain ⟨q2, q3, q4, q5, q6, q7⟩ := hYB.out _ hb3; replace hb3 := Lib.hid hb3)
      | fail)
    go_ret
    exact ⟨ret_bool (by rw [hdef.out]; first | rfl | simp [Bool.and_false]), seq_below hbw.out hb3.out⟩
  | true =>
    cases hh with
    | false =>
      have t1' : (a.host.toList != b.host.toList) = true := by rw [bne, t1]; rfl
      replace hdef := Lib.hid hdef
      go_enter Try.func30, Try.ntmps30
      go_upto_region 1 with fail
      rw [← hw1.out, ← hw2.out, ← hbb.out, ← hba.out]
      go_wp2_with (first
        | (go_at_call 79; (with_reducible refine (hkk.out _).mono ?_); rintro e w3 ⟨rfl, hb3⟩; obtain ⟨p2, p3, p4, p5, p6, p7⟩ := hYA.out _ hb3; obtain ⟨q2, q3, q4, q5, q6, q7⟩ := hYB.out _ hb3; replace hb3 := Lib.hid hb3)
        | fail)
      go_ret
      exact ⟨ret_bool (by rw [hdef.out]; first | rfl | simp [Bool.and_false]), seq_below hbw.out hb3.out⟩
    | true =>
      have t1' : (a.host.toList != b.host.toList) = false := by rw [bne, t1]; rfl
      cases ro with
      | false =>
        have t2' : (a.route.toList != b.route.toList) = true := by rw [bne, t2]; rfl
        replace hdef := Lib.hid hdef
        go_enter Try.func30, Try.ntmps30
        go_upto_region 1 with fail
        rw [← hw1.out, ← hw2.out, ← hbb.out, ← hba.out]
        go_wp2_with (first
          | (go_at_call 79; (with_reducible refine (hkk.out _).mono ?_); rintro e w3 ⟨rfl, hb3⟩; obtain ⟨p2, p3, p4, p5, p6, p7⟩ := hYA.out _ hb3; obtain ⟨q2, q3, q4, q5, q6, q7⟩ := hYB.out _ hb3; replace hb3 := Lib.hid hb3)
          | fail)
        go_ret
        exact ⟨ret_bool (by rw [hdef.out]; first | rfl | simp [Bool.and_false]), seq_below hbw.out hb3.out⟩
      | true =>
        have t2' : (a.route.toList != b.route.toList) = false := by rw [bne, t2]; rfl
        by_cases hdd : da = db
        · subst hdd
          by_cases hel2 : a.eps.length = b.eps.length
          · have t4 : ((a.eps.length : Int) == (b.eps.length : Int)) = true := beq_iff_eq.2 (by omega)
            have t4' : ((a.eps.length : Int) != (b.eps.length : Int)) = false := by rw [bne, t4]; rfl
            by_cases htl2 : a.tgts.length = b.tgts.length
            · have t5 : ((a.tgts.length : Int) == (b.tgts.length : Int)) = true := beq_iff_eq.2 (by omega)
              have t5' : ((a.tgts.length : Int) != (b.tgts.length : Int)) = false := by rw [bne, t5]; rfl
              by_cases hrl2 : a.rules.length = b.rules.length
              · have t6 : ((a.rules.length : Int) == (b.rules.length : Int)) = true := beq_iff_eq.2 (by omega)
                have t6' : ((a.rules.length : Int) != (b.rules.length : Int)) = false := by rw [bne, t6]; rfl
                rw [beq_self_eq_true, Bool.true_and, Bool.true_and, Bool.true_and, Bool.true_and] at hdef
                replace hel2 := Lib.hid hel2
                replace htl2 := Lib.hid htl2
                replace hrl2 := Lib.hid hrl2
                replace hdef := Lib.hid hdef
                go_enter Try.func30, Try.ntmps30
                go_upto_region 1 with fail
                rw [← hw1.out, ← hw2.out, ← hbb.out, ← hba.out]
                go_wp2_with (first
                  | (go_at_call 79; (with_reducible refine (hkk.out _).mono ?_); rintro e w3 ⟨rfl, hb3⟩; obtain ⟨p2, p3, p4, p5, p6, p7⟩ := hYA.out _ hb3; obtain ⟨q2, q3, q4, q5, q6, q7⟩ := hYB.out _ hb3; replace hb3 := Lib.hid hb3)
                  | fail)
                clear t1 t1' t2 t2' t4 t4' t5 t5' t6 t6' hkk
                clear p2 p3 p4 p5 p6 p7 q2 q3 q4 q5 q6 q7
                have hbx := Lib.hid hb3.out
                go_loopg [5] (a.eps.length + 1) (fun gg ic wr => ∃ i : Nat, gg = a.eps.length - i + 1 ∧ i ≤ a.eps.length ∧ ic = .int .i64 i ∧ Hid (∀ (j : Nat) x y, j < i → a.eps[j]? = some x → b.eps[j]? = some y → seq x y = true) ∧ Hid (Below w2.heap.size w2 wr))
                case atStart => exact ⟨0, rfl, Nat.zero_le _, rfl, Lib.hid (fun j x y hj => absurd hj (Nat.not_lt_zero j)), hbx⟩
                case round =>
                  obtain ⟨i, rfl, hi, rfl, hal, hbr⟩ := hrel
                  obtain ⟨p2, p3, p4, p5, p6, p7⟩ := hYA.out _ hbr.out
                  obtain ⟨q2, q3, q4, q5, q6, q7⟩ := hYB.out _ hbr.out
                  by_cases hlt : i < a.eps.length
                  · have hlb : i < b.eps.length := by have := hel2.out; omega
                    obtain ⟨x, hx⟩ : ∃ x, a.eps[i]? = some x := ⟨_, List.getElem?_eq_getElem hlt⟩
                    obtain ⟨y, hy⟩ : ∃ y, b.eps[i]? = some y := ⟨_, List.getElem?_eq_getElem hlb⟩
                    obtain ⟨xb, xo, rfl, _, cx, _⟩ := at_i ha1.out.e hbr.out hx
                    obtain ⟨yb, yo, rfl, _, cy, _⟩ := at_i hb1'.out.e hbr.out hy
                    replace cx : wr.cell? ⟨xb, xo + i, none⟩ = some (.string x) := by simpa [Rd.cellsAt, Rd.str] using cx
                    replace cy : wr.cell? ⟨yb, yo + i, none⟩ = some (.string y) := by simpa [Rd.cellsAt, Rd.str] using cy
                    have k0 : (i : Int) < (a.eps.length : Int) := nn_lt hlt
                    have k1 : (i : Int) < (b.eps.length : Int) := nn_lt hlb
                    have k2 : (0 : Int) ≤ (i : Int) := by omega
                    have hwk := Lib.hid (nn_succ2 hlt hel)
                    cases hs : (x.toList == y.toList) with
                    | false =>
                      have hs' : (x.toList != y.toList) = true := by rw [bne, hs]; rfl
                      have hno := eqL_no (p := seq) hel2.out hx hy hs
                      replace hx := Lib.hid hx
                      replace hy := Lib.hid hy
                      replace hno := Lib.hid hno
                      replace hal := Lib.hid hal
                      go_upto_region 6 with fail
                      go_quiet (fail)
                      all_goals
                        go_wp2
                        go_ret
                        exact ⟨ret_bool (by rw [hdef.out, hno.out]; rfl), below_drewN (seq_below hbw.out hbr.out) _⟩
                    | true =>
                      have hs' : (x.toList != y.toList) = false := by rw [bne, hs]; rfl
                      have hal2 : ∀ (j : Nat) x y, j < i + 1 → a.eps[j]? = some x → b.eps[j]? = some y → seq x y = true := fun j x' y' hj hx' hy' => by
                        rcases Nat.lt_succ_iff_lt_or_eq.1 hj with h | h
                        · exact hal.out j x' y' h hx' hy'
                        · subst h
                          rw [hx] at hx'; rw [hy] at hy'
                          cases hx'; cases hy'
                          exact hs
                      replace hx := Lib.hid hx
                      replace hy := Lib.hid hy
                      replace hal := Lib.hid hal
                      replace hal2 := Lib.hid hal2
                      go_upto_region 6 with fail
                      go_quiet (fail)
                      all_goals
                        go_wp2
                        go_roundg (a.eps.length - (i + 1) + 1)
                        case rel => exact ⟨i + 1, rfl, hlt, by first | rw [hwk.out] | go_num, hal2, Lib.hid (below_drewN hbr.out _)⟩
                        case measure => exact nn_downS hlt
                  · have k0 : decide ((i : Int) < (a.eps.length : Int)) = false := decide_eq_false (by omega)
                    have hE := eqL_yes (p := seq) hel2.out (fun j x y hx hy => hal.out j x y (by have := (List.getElem?_eq_some_iff.1 hx).1; omega) hx hy)
                    have hdef2 := hdef.out
                    rw [hE, Bool.true_and] at hdef2
                    clear hdef
                    replace hE := Lib.hid hE
                    replace hal := Lib.hid hal
                    replace hdef2 := Lib.hid hdef2
                    go_wp2
                    go_loopg [6] (a.tgts.length + 1) (fun gg ic wr => ∃ i : Nat, gg = a.tgts.length - i + 1 ∧ i ≤ a.tgts.length ∧ ic = .int .i64 i ∧ Hid (∀ (j : Nat) x y, j < i → a.tgts[j]? = some x → b.tgts[j]? = some y → sameT x y = true) ∧ Hid (Below w2.heap.size w2 wr))
                    case atStart => exact ⟨0, rfl, Nat.zero_le _, rfl, Lib.hid (fun j x y hj => absurd hj (Nat.not_lt_zero j)), hbr⟩
                    case round =>
                      clear p2 p3 p4 p5 p6 p7 q2 q3 q4 q5 q6 q7
                      obtain ⟨i, rfl, hi, rfl, hal, hbr⟩ := hrel
                      obtain ⟨p2, p3, p4, p5, p6, p7⟩ := hYA.out _ hbr.out
                      obtain ⟨q2, q3, q4, q5, q6, q7⟩ := hYB.out _ hbr.out
                      by_cases hlt : i < a.tgts.length
                      · have hlb : i < b.tgts.length := by have := htl2.out; omega
                        obtain ⟨x, hx⟩ : ∃ x, a.tgts[i]? = some x := ⟨_, List.getElem?_eq_getElem hlt⟩
                        obtain ⟨y, hy⟩ : ∃ y, b.tgts[i]? = some y := ⟨_, List.getElem?_eq_getElem hlb⟩
                        obtain ⟨xb, xo, rfl, _, c0, c1, c2, _⟩ := tgt_at ha1.out.t hbr.out hx
                        obtain ⟨yb, yo, rfl, _, d0, d1, d2, _⟩ := tgt_at hb1'.out.t hbr.out hy
                        have k0 : (i : Int) < (a.tgts.length : Int) := nn_lt hlt
                        have k1 : (i : Int) < (b.tgts.length : Int) := nn_lt hlb
                        have k2 : (0 : Int) ≤ (i : Int) := by omega
                        have hwk := Lib.hid (nn_succ2 hlt htl)
                        go_upto_region 11 with fail
                        go_cut [7, 8] (fun p q wx => Hid (TwoT wr p q x y wx))
                        case first =>
                          have n1 := World.new_ne wr _ p3
                          have n2 := World.new_ne wr _ q3
                          have n3 := World.new_ne wr _ c0
                          have n4 := World.new_ne wr _ c1
                          have n5 := World.new_ne wr _ c2
                          have n6 := World.new_ne wr _ d0
                          have n7 := World.new_ne wr _ d1
                          have n8 := World.new_ne wr _ d2
                          go_region_held3 (fun w' => w'.cell? ⟨ba, 3, none⟩ = some (.slice (some ⟨xb, xo, none⟩) a.tgts.length tac) ∧ w'.cell? ⟨bb, 3, none⟩ = some (.slice (some ⟨yb, yo, none⟩) b.tgts.length tbc) ∧ w'.cell? ⟨xb, xo + i * 3, none⟩ = some (.string x.service) ∧ w'.cell? ⟨xb, xo + i * 3 + 1, none⟩ = some (.string x.split) ∧ w'.cell? ⟨xb, xo + i * 3 + 2, none⟩ = some (.float .f64 x.weight) ∧ w'.cell? ⟨yb, yo + i * 3, none⟩ = some (.string y.service) ∧ w'.cell? ⟨yb, yo + i * 3 + 1, none⟩ = some (.string y.split) ∧ w'.cell? ⟨yb, yo + i * 3 + 2, none⟩ = some (.float .f64 y.weight)) (go_keep) (fail)
                          all_goals (first | (go_wp2; go_meet; exact Lib.hid (two_t wr x y)) | (go_wp2; go_meet; exact Lib.hid (two_swap (two_t wr y x))) | (go_meet; first | exact Lib.hid (two_t wr x y) | exact Lib.hid (two_swap (two_t wr y x))))
                        case rest =>
                          obtain ⟨gx, gy, rfl, rfl, ⟨x0, x1, x2⟩, ⟨y0, y1, y2⟩, hbc⟩ := hcut.out
                          clear hcut p2 p3 p4 p5 p6 p7 q2 q3 q4 q5 q6 q7 c0 c1 c2 d0 d1 d2
                          have hst : sameT x y = ((x.service.toList == y.service.toList) && ((x.split.toList == y.split.toList) && ((FloatKind.f64.format.order x.weight y.weight == some Ordering.eq) || !((FloatKind.f64.format.order x.weight x.weight == some Ordering.eq) || (FloatKind.f64.format.order y.weight y.weight == some Ordering.eq))))) := rfl
                          obtain ⟨s0, hs0⟩ : ∃ s, (x.service.toList == y.service.toList) = s := ⟨_, rfl⟩
                          obtain ⟨s1, hs1⟩ : ∃ s, (x.split.toList == y.split.toList) = s := ⟨_, rfl⟩
                          obtain ⟨s2, hs2⟩ : ∃ s, (FloatKind.f64.format.order x.weight y.weight == some Ordering.eq) = s := ⟨_, rfl⟩
                          obtain ⟨s3, hs3⟩ : ∃ s, (FloatKind.f64.format.order x.weight x.weight == some Ordering.eq) = s := ⟨_, rfl⟩
                          obtain ⟨s4, hs4⟩ : ∃ s, (FloatKind.f64.format.order y.weight y.weight == some Ordering.eq) = s := ⟨_, rfl⟩
                          rw [hs0, hs1, hs2, hs3, hs4] at hst
                          have hbc2 := Lib.hid (seq_below hbr.out hbc)
                          cases s0 with
                          | false =>
                            have hs0' : (x.service.toList != y.service.toList) = true := by rw [bne, hs0]; rfl
                            have hno := eqL_no (p := sameT) htl2.out hx hy (hst.trans (by simp))
                            replace hx := Lib.hid hx
                            replace hy := Lib.hid hy
                            replace hno := Lib.hid hno
                            replace hal := Lib.hid hal
                            replace hst := Lib.hid hst
                            go_wp2
                            go_ret
                            exact ⟨ret_bool (by rw [hdef2.out, hno.out]; rfl), seq_below hbw.out hbc2.out⟩
                          | true =>
                            have hs0' : (x.service.toList != y.service.toList) = false := by rw [bne, hs0]; rfl
                            cases s1 with
                            | false =>
                              have hs1' : (x.split.toList != y.split.toList) = true := by rw [bne, hs1]; rfl
                              have hno := eqL_no (p := sameT) htl2.out hx hy (hst.trans (by simp))
                              replace hx := Lib.hid hx
                              replace hy := Lib.hid hy
                              replace hno := Lib.hid hno
                              replace hal := Lib.hid hal
                              replace hst := Lib.hid hst
                              go_wp2
                              go_ret
                              exact ⟨ret_bool (by rw [hdef2.out, hno.out]; rfl), seq_below hbw.out hbc2.out⟩
                            | true =>
                              have hs1' : (x.split.toList != y.split.toList) = false := by rw [bne, hs1]; rfl
                              cases s2 with
                              | true =>
                                have hs2' : (FloatKind.f64.format.order x.weight y.weight != some Ordering.eq) = false := by rw [bne, hs2]; rfl
                                have hal2 : ∀ (j : Nat) x y, j < i + 1 → a.tgts[j]? = some x → b.tgts[j]? = some y → sameT x y = true := fun j x' y' hj hx' hy' => by
                                  rcases Nat.lt_succ_iff_lt_or_eq.1 hj with h | h
                                  · exact hal.out j x' y' h hx' hy'
                                  · subst h
                                    rw [hx] at hx'; rw [hy] at hy'
                                    cases hx'; cases hy'
                                    exact hst
                                replace hx := Lib.hid hx
                                replace hy := Lib.hid hy
                                replace hal := Lib.hid hal
                                replace hal2 := Lib.hid hal2
                                replace hst := Lib.hid hst
                                go_wp2
                                go_roundg (a.tgts.length - (i + 1) + 1)
                                case rel => exact ⟨i + 1, rfl, hlt, by first | rw [hwk.out] | go_num, hal2, hbc2⟩
                                case measure => exact nn_downS hlt
                              | false =>
                                have hs2' : (FloatKind.f64.format.order x.weight y.weight != some Ordering.eq) = true := by rw [bne, hs2]; rfl
                                cases s3 with
                                | true =>
                                  have hno := eqL_no (p := sameT) htl2.out hx hy (hst.trans (by simp))
                                  replace hx := Lib.hid hx
                                  replace hy := Lib.hid hy
                                  replace hno := Lib.hid hno
                                  replace hal := Lib.hid hal
                                  replace hst := Lib.hid hst
                                  go_wp2
                                  go_ret
                                  exact ⟨ret_bool (by rw [hdef2.out, hno.out]; rfl), seq_below hbw.out hbc2.out⟩
                                | false =>
                                  cases s4 with
                                  | true =>
                                    have hno := eqL_no (p := sameT) htl2.out hx hy (hst.trans (by simp))
                                    replace hx := Lib.hid hx
                                    replace hy := Lib.hid hy
                                    replace hno := Lib.hid hno
                                    replace hal := Lib.hid hal
                                    replace hst := Lib.hid hst
                                    go_wp2
                                    go_ret
                                    exact ⟨ret_bool (by rw [hdef2.out, hno.out]; rfl), seq_below hbw.out hbc2.out⟩
                                  | false =>
                                    have hal2 : ∀ (j : Nat) x y, j < i + 1 → a.tgts[j]? = some x → b.tgts[j]? = some y → sameT x y = true := fun j x' y' hj hx' hy' => by
                                      rcases Nat.lt_succ_iff_lt_or_eq.1 hj with h | h
                                      · exact hal.out j x' y' h hx' hy'
                                      · subst h
                                        rw [hx] at hx'; rw [hy] at hy'
                                        cases hx'; cases hy'
                                        exact hst
                                    replace hx := Lib.hid hx
                                    replace hy := Lib.hid hy
                                    replace hal := Lib.hid hal
                                    replace hal2 := Lib.hid hal2
                                    replace hst := Lib.hid hst
                                    go_wp2
                                    go_roundg (a.tgts.length - (i + 1) + 1)
                                    case rel => exact ⟨i + 1, rfl, hlt, by first | rw [hwk.out] | go_num, hal2, hbc2⟩
                                    case measure => exact nn_downS hlt
                      · have k0 : decide ((i : Int) < (a.tgts.length : Int)) = false := decide_eq_false (by omega)
                        have hE := eqL_yes (p := sameT) htl2.out (fun j x y hx hy => hal.out j x y (by have := (List.getElem?_eq_some_iff.1 hx).1; omega) hx hy)
                        have hdef3 := hdef2.out
                        rw [hE, Bool.true_and] at hdef3
                        clear hdef2
                        replace hE := Lib.hid hE
                        replace hal := Lib.hid hal
                        replace hdef3 := Lib.hid hdef3
                        go_wp2
                        go_loopg [9] (a.rules.length + 1) (fun gg ic wr => ∃ i : Nat, gg = a.rules.length - i + 1 ∧ i ≤ a.rules.length ∧ ic = .int .i64 i ∧ Hid (∀ (j : Nat) x y, j < i → a.rules[j]? = some x → b.rules[j]? = some y → sameU x y = true) ∧ Hid (Below w2.heap.size w2 wr))
                        case atStart => exact ⟨0, rfl, Nat.zero_le _, rfl, Lib.hid (fun j x y hj => absurd hj (Nat.not_lt_zero j)), hbr⟩
                        case round =>
                          clear p2 p3 p4 p5 p6 p7 q2 q3 q4 q5 q6 q7
                          obtain ⟨i, rfl, hi, rfl, hal, hbr⟩ := hrel
                          obtain ⟨p2, p3, p4, p5, p6, p7⟩ := hYA.out _ hbr.out
                          obtain ⟨q2, q3, q4, q5, q6, q7⟩ := hYB.out _ hbr.out
                          by_cases hlt : i < a.rules.length
                          · have hlb : i < b.rules.length := by have := hrl2.out; omega
                            obtain ⟨x, hx⟩ : ∃ x, a.rules[i]? = some x := ⟨_, List.getElem?_eq_getElem hlt⟩
                            obtain ⟨y, hy⟩ : ∃ y, b.rules[i]? = some y := ⟨_, List.getElem?_eq_getElem hlb⟩
                            obtain ⟨xb, xo, rfl, _, c0, c1, c2, c3, _⟩ := rul_at ha1.out.ru hbr.out hx
                            obtain ⟨yb, yo, rfl, _, d0, d1, d2, d3, _⟩ := rul_at hb1'.out.ru hbr.out hy
                            have k0 : (i : Int) < (a.rules.length : Int) := nn_lt hlt
                            have k1 : (i : Int) < (b.rules.length : Int) := nn_lt hlb
                            have k2 : (0 : Int) ≤ (i : Int) := by omega
                            have hwk := Lib.hid (nn_succ2 hlt hrl)
                            have hsu : sameU x y = ((x.path.toList == y.path.toList) && ((x.method.toList == y.method.toList) && ((x.split.toList == y.split.toList) && (x.allow == y.allow)))) := rfl
                            obtain ⟨s0, hs0⟩ : ∃ s, (x.path.toList == y.path.toList) = s := ⟨_, rfl⟩
                            obtain ⟨s1, hs1⟩ : ∃ s, (x.method.toList == y.method.toList) = s := ⟨_, rfl⟩
                            obtain ⟨s2, hs2⟩ : ∃ s, (x.split.toList == y.split.toList) = s := ⟨_, rfl⟩
                            obtain ⟨s3, hs3⟩ : ∃ s, (x.allow == y.allow) = s := ⟨_, rfl⟩
                            rw [hs0, hs1, hs2, hs3] at hsu
                            cases s0 with
                            | false =>
                              have hno := eqL_no (p := sameU) hrl2.out hx hy (hsu.trans (by simp))
                              replace hx := Lib.hid hx
                              replace hy := Lib.hid hy
                              replace hno := Lib.hid hno
                              replace hal := Lib.hid hal
                              replace hsu := Lib.hid hsu
                              go_upto_region 17 with fail
                              go_quiet (fail)
                              all_goals
                                go_wp2
                                go_ret
                                exact ⟨ret_bool (by rw [hdef3.out, hno.out]), below_drewN (seq_below hbw.out hbr.out) _⟩
                            | true =>
                              cases s1 with
                              | false =>
                                have hno := eqL_no (p := sameU) hrl2.out hx hy (hsu.trans (by simp))
                                replace hx := Lib.hid hx
                                replace hy := Lib.hid hy
                                replace hno := Lib.hid hno
                                replace hal := Lib.hid hal
                                replace hsu := Lib.hid hsu
                                go_upto_region 17 with fail
                                go_quiet (fail)
                                all_goals
                                  go_wp2
                                  go_ret
                                  exact ⟨ret_bool (by rw [hdef3.out, hno.out]), below_drewN (seq_below hbw.out hbr.out) _⟩
                              | true =>
                                cases s2 with
                                | false =>
                                  have hno := eqL_no (p := sameU) hrl2.out hx hy (hsu.trans (by simp))
                                  replace hx := Lib.hid hx
                                  replace hy := Lib.hid hy
                                  replace hno := Lib.hid hno
                                  replace hal := Lib.hid hal
                                  replace hsu := Lib.hid hsu
                                  go_upto_region 17 with fail
                                  go_quiet (fail)
                                  all_goals
                                    go_wp2
                                    go_ret
                                    exact ⟨ret_bool (by rw [hdef3.out, hno.out]), below_drewN (seq_below hbw.out hbr.out) _⟩
                                | true =>
                                  cases s3 with
                                  | false =>
                                    have hno := eqL_no (p := sameU) hrl2.out hx hy (hsu.trans (by simp))
                                    replace hx := Lib.hid hx
                                    replace hy := Lib.hid hy
                                    replace hno := Lib.hid hno
                                    replace hal := Lib.hid hal
                                    replace hsu := Lib.hid hsu
                                    go_upto_region 17 with fail
                                    go_quiet (fail)
                                    all_goals
                                      go_wp2
                                      go_ret
                                      exact ⟨ret_bool (by rw [hdef3.out, hno.out]), below_drewN (seq_below hbw.out hbr.out) _⟩
                                  | true =>
                                    have hal2 : ∀ (j : Nat) x y, j < i + 1 → a.rules[j]? = some x → b.rules[j]? = some y → sameU x y = true := fun j x' y' hj hx' hy' => by
                                      rcases Nat.lt_succ_iff_lt_or_eq.1 hj with h | h
                                      · exact hal.out j x' y' h hx' hy'
                                      · subst h
                                        rw [hx] at hx'; rw [hy] at hy'
                                        cases hx'; cases hy'
                                        exact hsu
                                    replace hx := Lib.hid hx
                                    replace hy := Lib.hid hy
                                    replace hal := Lib.hid hal
                                    replace hal2 := Lib.hid hal2
                                    replace hsu := Lib.hid hsu
                                    go_upto_region 17 with fail
                                    go_quiet (fail)
                                    all_goals
                                      go_wp2
                                      go_roundg (a.rules.length - (i + 1) + 1)
                                      case rel => exact ⟨i + 1, rfl, hlt, by first | rw [hwk.out] | go_num, hal2, Lib.hid (below_drewN hbr.out _)⟩
                                      case measure => exact nn_downS hlt
                          · have k0 : decide ((i : Int) < (a.rules.length : Int)) = false := decide_eq_false (by omega)
                            have hE := eqL_yes (p := sameU) hrl2.out (fun j x y hx hy => hal.out j x y (by have := (List.getElem?_eq_some_iff.1 hx).1; omega) hx hy)
                            replace hE := Lib.hid hE
                            replace hal := Lib.hid hal
                            go_wp2
                            go_ret
                            exact ⟨ret_bool (by rw [hdef3.out, hE.out]), seq_below hbw.out hbr.out⟩
              · have hh1 := eqL_len (p := sameU) hrl2
                have t6 : ((a.rules.length : Int) == (b.rules.length : Int)) = false := beq_eq_false_iff_ne.2 (by omega)
                have t6' : ((a.rules.length : Int) != (b.rules.length : Int)) = true := by rw [bne, t6]; rfl
                rw [hh1] at hdef
                replace hh1 := Lib.hid hh1
                replace hrl2 := Lib.hid hrl2
                replace hel2 := Lib.hid hel2
                replace htl2 := Lib.hid htl2
                replace hdef := Lib.hid hdef
                go_enter Try.func30, Try.ntmps30
                go_upto_region 1 with fail
                rw [← hw1.out, ← hw2.out, ← hbb.out, ← hba.out]
                go_wp2_with (first
                  | (go_at_call 79; (with_reducible refine (hkk.out _).mono ?_); rintro e w3 ⟨rfl, hb3⟩; obtain ⟨p2, p3, p4, p5, p6, p7⟩ := hYA.out _ hb3; obtain ⟨q2, q3, q4, q5, q6, q7⟩ := hYB.out _ hb3; replace hb3 := Lib.hid hb3)
                  | fail)
                go_ret
                exact ⟨ret_bool (by rw [hdef.out]; first | rfl | simp [Bool.and_false]), seq_below hbw.out hb3.out⟩
            · have hh1 := eqL_len (p := sameT) htl2
              have t6 : ((a.tgts.length : Int) == (b.tgts.length : Int)) = false := beq_eq_false_iff_ne.2 (by omega)
              have t6' : ((a.tgts.length : Int) != (b.tgts.length : Int)) = true := by rw [bne, t6]; rfl
              rw [hh1] at hdef
              replace hh1 := Lib.hid hh1
              replace hel2 := Lib.hid hel2
              replace htl2 := Lib.hid htl2
              replace hdef := Lib.hid hdef
              go_enter Try.func30, Try.ntmps30
              go_upto_region 1 with fail
              rw [← hw1.out, ← hw2.out, ← hbb.out, ← hba.out]
              go_wp2_with (first
                | (go_at_call 79; (with_reducible refine (hkk.out _).mono ?_); rintro e w3 ⟨rfl, hb3⟩; obtain ⟨p2, p3, p4, p5, p6, p7⟩ := hYA.out _ hb3; obtain ⟨q2, q3, q4, q5, q6, q7⟩ := hYB.out _ hb3; replace hb3 := Lib.hid hb3)
                | fail)
              go_ret
              exact ⟨ret_bool (by rw [hdef.out]; first | rfl | simp [Bool.and_false]), seq_below hbw.out hb3.out⟩
          · have hh1 := eqL_len (p := seq) hel2
            have t6 : ((a.eps.length : Int) == (b.eps.length : Int)) = false := beq_eq_false_iff_ne.2 (by omega)
            have t6' : ((a.eps.length : Int) != (b.eps.length : Int)) = true := by rw [bne, t6]; rfl
            rw [hh1] at hdef
            replace hh1 := Lib.hid hh1
            replace hel2 := Lib.hid hel2
            replace hdef := Lib.hid hdef
            go_enter Try.func30, Try.ntmps30
            go_upto_region 1 with fail
            rw [← hw1.out, ← hw2.out, ← hbb.out, ← hba.out]
            go_wp2_with (first
              | (go_at_call 79; (with_reducible refine (hkk.out _).mono ?_); rintro e w3 ⟨rfl, hb3⟩; obtain ⟨p2, p3, p4, p5, p6, p7⟩ := hYA.out _ hb3; obtain ⟨q2, q3, q4, q5, q6, q7⟩ := hYB.out _ hb3; replace hb3 := Lib.hid hb3)
              | fail)
            go_ret
            exact ⟨ret_bool (by rw [hdef.out]; first | rfl | simp [Bool.and_false]), seq_below hbw.out hb3.out⟩
        · have t3 : (da != db) = true := bne_iff_ne.2 hdd
          have t4 : (da == db) = false := beq_eq_false_iff_ne.2 hdd
          rw [t4] at hdef
          clear t4
          replace hdd := Lib.hid hdd
          replace hdef := Lib.hid hdef
          go_enter Try.func30, Try.ntmps30
          go_upto_region 1 with fail
          rw [← hw1.out, ← hw2.out, ← hbb.out, ← hba.out]
          go_wp2_with (first
            | (go_at_call 79; (with_reducible refine (hkk.out _).mono ?_); rintro e w3 ⟨rfl, hb3⟩; obtain ⟨p2, p3, p4, p5, p6, p7⟩ := hYA.out _ hb3; obtain ⟨q2, q3, q4, q5, q6, q7⟩ := hYB.out _ hb3; replace hb3 := Lib.hid hb3)
            | fail)
          go_ret
          exact ⟨ret_bool (by rw [hdef.out]; first | rfl | simp [Bool.and_false]), seq_below hbw.out hb3.out⟩
end Go.Proofs.Ytjepgpocmnijiaa
end
