/- What a merge answers. -/
import Derived.Test.YtjepgpocmnijiaaZy15
section
/- A part of a row of hosts sorted by insertion. -/
namespace Go.Ck
open Go.RowKit Go.Mp Go.Stab
set_option linter.unusedVariables false
theorem HR.tch {S : Nat → Prop} {w w' : World} {B g cap : Nat} {L : List HV} (h : HR w B g cap L) (t : Tch S w w') (hs : ¬ S g) : HR w' B g cap L := ownsRow_tch h t (fun k e => by simp only [Value.ownBlock, Option.some.injEq] at e; subst e; exact hs)
theorem _root_.Go.Mp.Tch.drewN' {S : Nat → Prop} {a w : World} (h : Tch S a w) (n : Nat) : Tch S a (w.drewN n) := h.trans (Tch.drewN S w n) (fun k h => .inl h)
theorem HR.below {w w' : World} {B g cap : Nat} {L : List HV} (h : HR w B g cap L) (hb : Below w.heap.size w w') : HR w' B g cap L := h.tch (Tch.of_below (S := No) hb) (fun q => q)
/-- The order that a comparing function tells. -/
def leC (c : HV → HV → Int) (x y : HV) : Bool := !decide (c y x < 0)
theorem leC_true {c : HV → HV → Int} {x y : HV} : leC c x y = true ↔ ¬ c y x < 0 := by unfold leC; simp
theorem leC_false {c : HV → HV → Int} {x y : HV} : leC c x y = false ↔ c y x < 0 := by unfold leC; simp
end Go.Ck
namespace Go.Proofs.Ytjepgpocmnijiaa
open Go.RowKit Go.Mp Go.Ck Go.Stab
set_option linter.unusedVariables false
set_option maxRecDepth 100000
set_option maxHeartbeats 8000000
/-- What the comparing function answers. -/
structure CmpK (c : HV → HV → Int) (S : HV → Prop) : Prop where
  tot : Tot (leC c)
  call : ∀ x y, S x → S y → ∀ wx, Calls Try.prog 102 #[.agg #[.string x.host, .string x.route, .slice x.eo x.en x.ec, .slice x.po x.pn x.pc], .agg #[.string y.host, .string y.route, .slice y.eo y.en y.ec, .slice y.po y.pn y.pc]] wx fun e w' => e = .returned (.int .i64 (c x y)) ∧ Below wx.heap.size wx w'
abbrev cmpF : Value := .func (.func 102) #[] #[]
/-- Three parts of a row. -/
def lay (P C Q : List (HV × Nat)) : List HV := (P ++ C ++ Q).map (·.1)
theorem lay_len (P C Q : List (HV × Nat)) : (lay P C Q).length = P.length + C.length + Q.length := by unfold lay; rw [List.length_map, List.length_append, List.length_append]
theorem lay_split (P A Q : List (HV × Nat)) (k : Nat) : lay P (A.take k) (A.drop k ++ Q) = lay P A Q := by
  unfold lay; rw [← List.append_assoc, List.append_assoc P, List.take_append_drop]
theorem map_mid {P C R : List (HV × Nat)} {y : HV × Nat} (k : Nat) (hk : k ≤ C.length) : (lay P (C.take k ++ y :: C.drop k) R)[P.length + k]? = some y.1 := by
  unfold lay
  rw [List.getElem?_map, List.append_assoc, List.getElem?_append_right (by omega), show P.length + k - P.length = k by omega, List.append_assoc, List.getElem?_append_right (by rw [List.length_take]; omega), show k - (C.take k).length = 0 by rw [List.length_take]; omega]
  rfl
theorem map_pred {P C R : List (HV × Nat)} {y x : HV × Nat} {k : Nat} (hx : C[k]? = some x) : (lay P (C.take (k + 1) ++ y :: C.drop (k + 1)) R)[P.length + k]? = some x.1 := by
  unfold lay
  have hk := (List.getElem?_eq_some_iff.1 hx).1
  rw [List.getElem?_map, List.append_assoc, List.getElem?_append_right (by omega), show P.length + k - P.length = k by omega, List.append_assoc, List.getElem?_append_left (by rw [List.length_take]; omega), List.getElem?_take_of_lt (by omega), hx]
  rfl
theorem map_sw {P C R : List (HV × Nat)} {y x : HV × Nat} {k : Nat} (hx : C[k]? = some x) : sw (lay P (C.take (k + 1) ++ y :: C.drop (k + 1)) R) (P.length + k + 1) (P.length + k) y.1 x.1 = lay P (C.take k ++ y :: C.drop k) R := by
  unfold lay
  have hk := (List.getElem?_eq_some_iff.1 hx).1
  have t : C.take (k + 1) = C.take k ++ [x] := by rw [List.take_add_one, hx]; rfl
  have d : C.drop k = x :: C.drop (k + 1) := by rw [List.drop_eq_getElem_cons hk]; congr 1; rw [List.getElem?_eq_getElem hk] at hx; exact Option.some.inj hx
  have e : (P ++ (C.take (k + 1) ++ y :: C.drop (k + 1)) ++ R).map (·.1) = ((P ++ C.take k).map (·.1)) ++ x.1 :: ([] ++ y.1 :: ((C.drop (k + 1) ++ R).map (·.1))) := by rw [t]; simp
  rw [e, sw_at' (by rw [List.length_map, List.length_append, List.length_take]; omega) (by rw [List.length_map, List.length_append, List.length_take]; simp only [List.length_nil]; omega), d]
  simp
theorem ins155 {c : HV → HV → Int} {S : HV → Prop} (hK : CmpK c S) {w : World} {B g cap : Nat} {P A Q : List (HV × Nat)} {a b N : Nat} (ha : a = P.length) (hb : b = P.length + A.length) (hN : N = P.length + A.length + Q.length) (hN2 : N ≤ 4194304) (hS : ∀ t ∈ A, S t.1) (hA : A.Pairwise fun x y => x.2 ≤ y.2)
    (h : HR w B g cap (lay P A Q)) : Calls Try.prog 155 #[.slice (some ⟨g, 0, none⟩) N cap, .int .i64 a, .int .i64 b, cmpF] w fun e w' => e = .returned (.tuple #[]) ∧ ∃ C : List (HV × Nat), C.Perm A ∧ So (leC c) C ∧ HR w' B g cap (lay P C Q) ∧ Tch (fun k => k = g) w w' := by
  have h0 : Hid (HR w B g cap (lay P (A.take 1) (A.drop 1 ++ Q))) := Lib.hid (by rw [lay_split]; exact h)
  have hs0 : So (leC c) (A.take 1) := by
    cases A with
    | nil => exact .nil
    | cons x l => exact List.pairwise_singleton _ _
  have wa : IntKind.i64.wrap ((a : Int) + 1) = ((a + 1 : Nat) : Int) := by rw [IntKind.wrap_i64]; omega
  replace h := Lib.hid h
  replace hK := Lib.hid hK
  replace ha := Lib.hid ha
  replace hb := Lib.hid hb
  replace hN := Lib.hid hN
  replace hS := Lib.hid hS
  replace hA := Lib.hid hA
  replace hs0 := Lib.hid hs0
  go_enter Try.func155, Try.ntmps155
  go_wp2
  go_loopg [8] (A.length + 2) (fun gg ic wx => ∃ (i u : Nat) (C : List (HV × Nat)), gg = A.length + 2 - u + 1 ∧ ic = .int .i64 i ∧ Hid (i = a + u) ∧ Hid (1 ≤ u ∧ u ≤ A.length + 1) ∧ Hid (C.Perm (A.take u)) ∧ Hid (So (leC c) C) ∧ Hid (HR wx B g cap (lay P C (A.drop u ++ Q))) ∧ Hid (Tch (fun k => k = g) w wx))
  case atStart => exact ⟨a + 1, 1, A.take 1, by omega, by first | rfl | rw [wa], Lib.hid rfl, Lib.hid ⟨Nat.le_refl _, by omega⟩, Lib.hid (.refl _), hs0, h0, Lib.hid (Tch.refl _ _)⟩
  case round =>
    clear h0 h hs0
    obtain ⟨i, u, C, rfl, rfl, hi, hu, hC, hs, hR, hT⟩ := hrel
    by_cases hlt : i < b
    · have hk0 : (i : Int) < (b : Int) := nn_lt hlt
      have hbN : b ≤ 4194304 := by have := hb.out; have := hN.out; omega
      have hwk := Lib.hid (nn_succ2 hlt (by omega))
      have hua : u < A.length := by have := hi.out; have := ha.out; have := hb.out; omega
      obtain ⟨y, hy⟩ : ∃ y, A[u]? = some y := ⟨_, List.getElem?_eq_getElem hua⟩
      have hCl : C.length = u := by rw [hC.out.length_eq, List.length_take]; omega
      have hdy : A.drop u = y :: A.drop (u + 1) := by rw [List.drop_eq_getElem_cons hua]; congr 1; rw [List.getElem?_eq_getElem hua] at hy; exact Option.some.inj hy
      have hR0 : Hid (HR wr B g cap (lay P (C.take u ++ y :: C.drop u) (A.drop (u + 1) ++ Q))) := Lib.hid (by
        have e : lay P (C.take u ++ y :: C.drop u) (A.drop (u + 1) ++ Q) = lay P C (A.drop u ++ Q) := by
          unfold lay
          rw [hdy, List.take_of_length_le (by omega), List.drop_eq_nil_of_le (by omega)]
          simp
        rw [e]; exact hR.out)
      have htag : ∀ z ∈ C, z.2 ≤ y.2 := fun z hz => by
        obtain ⟨q, hq⟩ := List.mem_iff_getElem?.1 (hC.out.mem_iff.1 hz)
        rw [List.getElem?_take] at hq
        split at hq
        · obtain ⟨h1, e1⟩ := List.getElem?_eq_some_iff.1 hq
          obtain ⟨h2, e2⟩ := List.getElem?_eq_some_iff.1 hy
          have := (List.pairwise_iff_getElem.1 hA.out) q u h1 h2 (by omega)
          rw [e1, e2] at this; exact this
        · cases hq
      have hfin : ∀ k, k ≤ u → (k = 0 ∨ ∀ x, C[k - 1]? = some x → leC c x.1 y.1 = true) → (k = u ∨ ∀ x, C[k]? = some x → leC c x.1 y.1 = false) → So (leC c) (C.take k ++ y :: C.drop k) ∧ (C.take k ++ y :: C.drop k).Perm (A.take (u + 1)) := fun k hk q1 q2 =>
        ⟨ins hK.out.tot hs.out htag (by omega) q1 (by rw [hCl]; exact q2), (perm_mid k).trans (by rw [List.take_add_one, hy]; exact hC.out.append_right [y])⟩
      have hSy : S y.1 := hS.out y (List.mem_of_getElem? hy)
      have hSC : ∀ z ∈ C, S z.1 := fun z hz => hS.out z (List.mem_of_mem_take (hC.out.mem_iff.1 hz))
      replace hbN := Lib.hid hbN
      replace hua := Lib.hid hua
      replace hy := Lib.hid hy
      replace hCl := Lib.hid hCl
      replace hdy := Lib.hid hdy
      replace htag := Lib.hid htag
      replace hfin := Lib.hid hfin
      replace hSy := Lib.hid hSy
      replace hSC := Lib.hid hSC
      clear hR
      go_upto_region 4 with fail
      go_loopg [9] (u + 1) (fun gg jc wx => ∃ (j k : Nat), gg = k + 1 ∧ jc = .int .i64 j ∧ Hid (j = a + k) ∧ Hid (k ≤ u) ∧ Hid (k = u ∨ ∀ x, C[k]? = some x → leC c x.1 y.1 = false) ∧ Hid (HR wx B g cap (lay P (C.take k ++ y :: C.drop k) (A.drop (u + 1) ++ Q))) ∧ Hid (Tch (fun k => k = g) w wx))
      case atStart => exact ⟨i, u, rfl, rfl, hi, Lib.hid (Nat.le_refl _), Lib.hid (.inl rfl), hR0, hT⟩
      case round =>
        clear hR0 hT
        obtain ⟨j, k, rfl, rfl, hj, hku, hq, hR, hT⟩ := hrel
        have hjN : j ≤ 4194304 := by have := hj.out; have := hi.out; have := hku.out; have := hbN.out; omega
        rcases Nat.eq_zero_or_pos k with rfl | hk0'
        · have g1 : decide ((a : Int) < (j : Int)) = false := decide_eq_false (by have := hj.out; omega)
          have g2 : ¬ (a : Int) < (j : Int) := by have := hj.out; omega
          obtain ⟨hF1, hF2⟩ := hfin.out 0 (Nat.zero_le _) (.inl rfl) hq.out
          replace hF1 := Lib.hid hF1
          replace hF2 := Lib.hid hF2
          replace hjN := Lib.hid hjN
          go_upto_region 4 with fail
          go_quiet (fail)
          all_goals
            go_wp2
            go_roundg (A.length + 2 - (u + 1) + 1)
            case rel => exact ⟨i + 1, u + 1, _, rfl, by first | rw [hwk.out] | go_num, Lib.hid (by have := hi.out; omega), Lib.hid ⟨by omega, by have := hua.out; omega⟩, hF2, hF1, Lib.hid (HR.drewN hR.out _), Lib.hid (Tch.drewN' hT.out _)⟩
            case measure => have := hu.out; have := hua.out; omega
        · obtain ⟨k', rfl⟩ : ∃ k', k = k' + 1 := ⟨k - 1, by omega⟩
          obtain ⟨j', hj'⟩ : ∃ j', j' + 1 = j := ⟨j - 1, by have := hj.out; omega⟩
          obtain ⟨x, hx⟩ : ∃ x, C[k']? = some x := ⟨_, List.getElem?_eq_getElem (by have := hku.out; have := hCl.out; omega)⟩
          have hja : j = P.length + (k' + 1) := by have := hj.out; have := ha.out; omega
          have hja' : j' = P.length + k' := by omega
          have m1 := map_mid (P := P) (C := C) (R := A.drop (u + 1) ++ Q) (y := y) (k' + 1) (by have := hku.out; have := hCl.out; omega)
          have m2 := map_pred (P := P) (R := A.drop (u + 1) ++ Q) (y := y) hx
          have m3 := map_sw (P := P) (R := A.drop (u + 1) ++ Q) (y := y) hx
          rw [← hja] at m1
          rw [← hja'] at m2
          rw [show P.length + k' + 1 = j by omega, ← hja'] at m3
          have hS8 : Hid (∀ w', Below wr.heap.size wr w' → w'.cell? ⟨g, j * 4, none⟩ = some (.string y.1.host) ∧ w'.cell? ⟨g, j * 4 + 1, none⟩ = some (.string y.1.route) ∧ w'.cell? ⟨g, j * 4 + 2, none⟩ = some (.slice y.1.eo y.1.en y.1.ec) ∧ w'.cell? ⟨g, j * 4 + 3, none⟩ = some (.slice y.1.po y.1.pn y.1.pc) ∧ w'.cell? ⟨g, j' * 4, none⟩ = some (.string x.1.host) ∧ w'.cell? ⟨g, j' * 4 + 1, none⟩ = some (.string x.1.route) ∧ w'.cell? ⟨g, j' * 4 + 2, none⟩ = some (.slice x.1.eo x.1.en x.1.ec) ∧ w'.cell? ⟨g, j' * 4 + 3, none⟩ = some (.slice x.1.po x.1.pn x.1.pc)) := Lib.hid (fun w' h => by
            obtain ⟨⟨a0, a1, a2, a3⟩, _⟩ := (hR.out.below h).cells m1
            obtain ⟨⟨b0, b1, b2, b3⟩, _⟩ := (hR.out.below h).cells m2
            exact ⟨a0, a1, a2, a3, b0, b1, b2, b3⟩)
          have hwp := wrap_pred hj' (by omega)
          have hlen : N = (lay P (C.take (k' + 1) ++ y :: C.drop (k' + 1)) (A.drop (u + 1) ++ Q)).length := by
            rw [lay_len, List.length_append, List.length_take, List.length_cons, List.length_drop, List.length_append, List.length_drop]
            have := hN.out; have := hCl.out; have := hku.out; have := hua.out; omega
          have i1 : (a : Int) < (j : Int) := by have := hj.out; omega
          have i2 : (0 : Int) ≤ (j : Int) := by omega
          have hjl : j < N := by rw [hlen]; exact (List.getElem?_eq_some_iff.1 m1).1
          have i3 : (j : Int) < (N : Int) := by omega
          have i4 : (0 : Int) ≤ (j' : Int) := by omega
          have i5 : (j' : Int) < (N : Int) := by omega
          have hcall := Lib.hid (hK.out.call y.1 x.1 hSy.out (hSC.out x (List.mem_of_getElem? hx)))
          have hcur2 : Hid (Below wr.heap.size wr wr.drew) := Lib.hid (drew_below wr 1)
          have hjn : j ≠ j' := by omega
          replace hx := Lib.hid hx
          replace hja := Lib.hid hja
          replace hja' := Lib.hid hja'
          replace m1 := Lib.hid m1
          replace m2 := Lib.hid m2
          replace m3 := Lib.hid m3
          replace hlen := Lib.hid hlen
          replace hjl := Lib.hid hjl
          replace hjn := Lib.hid hjn
          replace hjN := Lib.hid hjN
          go_upto_region 4 with fail
          go_cut [34] (fun b wx => b = .bool (decide (c y.1 x.1 < 0)) ∧ Hid (Below wr.heap.size wr wx))
          case first =>
            go_region_held3 (fun w' => w'.cell? ⟨g, j * 4, none⟩ = some (.string y.1.host) ∧ w'.cell? ⟨g, j * 4 + 1, none⟩ = some (.string y.1.route) ∧ w'.cell? ⟨g, j * 4 + 2, none⟩ = some (.slice y.1.eo y.1.en y.1.ec) ∧ w'.cell? ⟨g, j * 4 + 3, none⟩ = some (.slice y.1.po y.1.pn y.1.pc) ∧ w'.cell? ⟨g, j' * 4, none⟩ = some (.string x.1.host) ∧ w'.cell? ⟨g, j' * 4 + 1, none⟩ = some (.string x.1.route) ∧ w'.cell? ⟨g, j' * 4 + 2, none⟩ = some (.slice x.1.eo x.1.en x.1.ec) ∧ w'.cell? ⟨g, j' * 4 + 3, none⟩ = some (.slice x.1.po x.1.pn x.1.pc))
              (first | exact hS8.out _ hcur2.out | fail)
              (first
                | (go_at_call 102; (with_reducible refine (hcall.out _).mono ?_); rintro e w2 ⟨rfl, hb2⟩; replace hcur2 := Lib.hid (seq_below hcur2.out hb2); clear hb2)
                | fail)
            all_goals (first | (go_wp2; go_meet; exact ⟨rfl, hcur2⟩) | (go_meet; exact ⟨rfl, hcur2⟩))
          case rest =>
            obtain ⟨rfl, hbz⟩ := hcut
            have hRc := Lib.hid (hR.out.below hbz.out)
            have hTc := Lib.hid (hT.out.trans (Tch.of_below (S := fun k => k = g) hbz.out) (fun k h => .inl h))
            by_cases hc : c y.1 x.1 < 0
            · obtain ⟨⟨y0, y1, y2, y3⟩, fy0, fy1, fy2, fy3⟩ := hRc.out.cells m1.out
              obtain ⟨⟨x0, x1, x2, x3⟩, fx0, fx1, fx2, fx3⟩ := hRc.out.cells m2.out
              have hj1 := hjl.out
              have hl1 := hlen.out
              obtain ⟨⟨z0, z1, z2, z3⟩, fz0, fz1, fz2, fz3⟩ := hRc.out.between (i := j) (j := j') (y := x.1) (z := x.1) (by omega) hjn.out m2.out
              have hsw := Lib.hid (hRc.out.sw (i := j) (j := j') (x := y.1) (y := x.1) (by omega) (by omega))
              rw [m3.out] at hsw
              have hnq : Hid (k' = u ∨ ∀ z, C[k']? = some z → leC c z.1 y.1 = false) := Lib.hid (.inr fun z hz => by rw [hx.out] at hz; cases hz; exact leC_false.2 hc)
              replace hj1 := Lib.hid hj1
              replace hl1 := Lib.hid hl1
              go_wp2
              go_region
              go_wp2
              go_roundg (k' + 1)
              case rel => exact ⟨j', k', rfl, by first | rw [hwp] | go_num, Lib.hid (by have := hj.out; omega), Lib.hid (by have := hku.out; omega), hnq, Lib.hid hsw.out.1.drew, Lib.hid ((hTc.out.trans hsw.out.2 (fun k h => .inl h)).drew')⟩
              case measure => omega
            · have hcd : decide (c y.1 x.1 < 0) = false := decide_eq_false hc
              obtain ⟨hF1, hF2⟩ := hfin.out (k' + 1) hku.out (.inr fun z hz => by rw [Nat.add_sub_cancel, hx.out] at hz; cases hz; exact leC_true.2 hc) hq.out
              replace hF1 := Lib.hid hF1
              replace hF2 := Lib.hid hF2
              go_wp2
              go_roundg (A.length + 2 - (u + 1) + 1)
              case rel => exact ⟨i + 1, u + 1, _, rfl, by first | rw [hwk.out] | go_num, Lib.hid (by have := hi.out; omega), Lib.hid ⟨by omega, by have := hua.out; omega⟩, hF2, hF1, hRc, hTc⟩
              case measure => have := hu.out; have := hua.out; omega
    · have hk0 : decide ((i : Int) < (b : Int)) = false := decide_eq_false (by omega)
      have hk1 : ¬ (i : Int) < (b : Int) := by omega
      have hul : A.length ≤ u := by have := hi.out; have := ha.out; have := hb.out; omega
      have hCp := hC.out
      have hRr := hR.out
      rw [List.take_of_length_le hul] at hCp
      rw [List.drop_eq_nil_of_le hul, List.nil_append] at hRr
      replace hRr := Lib.hid hRr
      replace hul := Lib.hid hul
      replace hCp := Lib.hid hCp
      go_wp2
      refine bodyPost_end (results_none rfl _ _ _) rfl ?_
      exact ⟨rfl, C, hCp.out, hs.out, hRr.out, hT.out⟩
end Go.Proofs.Ytjepgpocmnijiaa
end

section

namespace Go.Proofs.Ytjepgpocmnijiaa
open Go.RowKit Go.Mp Go.Ck Go.Stab
set_option linter.unusedVariables false
set_option maxRecDepth 100000
set_option maxHeartbeats 8000000
theorem map_next {P C R : List (HV × Nat)} {y x : HV × Nat} {k : Nat} (hx : C[k]? = some x) : (lay P (C.take k ++ y :: C.drop k) R)[P.length + k + 1]? = some x.1 := by
  have hk := (List.getElem?_eq_some_iff.1 hx).1
  unfold lay
  rw [List.getElem?_map, List.append_assoc, List.getElem?_append_right (by omega), show P.length + k + 1 - P.length = k + 1 by omega, List.append_assoc, List.getElem?_append_right (by rw [List.length_take]; omega), show k + 1 - (C.take k).length = 0 + 1 by rw [List.length_take]; omega, List.cons_append, List.getElem?_cons_succ, List.getElem?_append_left (by rw [List.length_drop]; omega), List.getElem?_drop, Nat.add_zero, hx]
  rfl
theorem map_sw_up {P C R : List (HV × Nat)} {y x : HV × Nat} {k : Nat} (hx : C[k]? = some x) : sw (lay P (C.take k ++ y :: C.drop k) R) (P.length + k) (P.length + k + 1) y.1 x.1 = lay P (C.take (k + 1) ++ y :: C.drop (k + 1)) R := by
  have hk := (List.getElem?_eq_some_iff.1 hx).1
  have t : C.take (k + 1) = C.take k ++ [x] := by rw [List.take_add_one, hx]; rfl
  have d : C.drop k = x :: C.drop (k + 1) := by rw [List.drop_eq_getElem_cons hk]; congr 1; rw [List.getElem?_eq_getElem hk] at hx; exact Option.some.inj hx
  unfold lay
  have e : (P ++ (C.take k ++ y :: C.drop k) ++ R).map (·.1) = ((P ++ C.take k).map (·.1)) ++ y.1 :: ([] ++ x.1 :: ((C.drop (k + 1) ++ R).map (·.1))) := by rw [d]; simp
  rw [e, sw_at (by rw [List.length_map, List.length_append, List.length_take]; omega) (by rw [List.length_map, List.length_append, List.length_take]; simp only [List.length_nil]; omega), t]
  simp
theorem half (i j : Nat) (h : i + j ≤ 140737488355328) : ∃ s r : Nat, r = (i + j) / 2 ∧ IntKind.i64.wrap ((i : Int) + (j : Int)) = (s : Int) ∧ IntKind.u64.wrap (s : Int) = (s : Int) ∧ (s : Int) / 2 = (r : Int) ∧ IntKind.i64.wrap (r : Int) = (r : Int) := by
  refine ⟨i + j, (i + j) / 2, rfl, ?_, ?_, ?_, ?_⟩
  · rw [IntKind.wrap_i64]; omega
  · have h : IntKind.u64.wrap ((i + j : Nat) : Int) = ((i + j : Nat) : Int) % 18446744073709551616 := by simp [IntKind.wrap, IntKind.bits, IntKind.signed]
    rw [h]; omega
  · omega
  · rw [IntKind.wrap_i64]; omega
theorem lay_at {P C Q : List (HV × Nat)} {k : Nat} {y : HV × Nat} (h : C[k]? = some y) : (lay P C Q)[P.length + k]? = some y.1 := by
  have hk := (List.getElem?_eq_some_iff.1 h).1
  unfold lay
  rw [List.getElem?_map, List.append_assoc, List.getElem?_append_right (by omega), show P.length + k - P.length = k by omega, List.getElem?_append_left hk, h]
  rfl
/-- What a merge answers. -/
def MgO (c : HV → HV → Int) (w : World) (B g cap : Nat) (P A Q : List (HV × Nat)) (e : Ending) (w' : World) : Prop :=
  e = .returned (.tuple #[]) ∧ ∃ D : List (HV × Nat), D.Perm A ∧ So (leC c) D ∧ HR w' B g cap (lay P D Q) ∧ Tch (fun k => k = g) w w'
end Go.Proofs.Ytjepgpocmnijiaa
end
