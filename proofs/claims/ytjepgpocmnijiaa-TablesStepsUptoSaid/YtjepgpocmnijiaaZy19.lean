/- Two sorted parts of a row of hosts, merged in their place. -/
import Derived.Test.YtjepgpocmnijiaaZy16
section

namespace Go.Proofs.Ytjepgpocmnijiaa
open Go.RowKit Go.Mp Go.Ck Go.Stab
set_option linter.unusedVariables false
set_option maxRecDepth 100000
set_option maxHeartbeats 8000000
theorem lay_mid (P X Y Q : List (HV × Nat)) : lay P (X ++ Y) Q = lay P X (Y ++ Q) := by unfold lay; simp only [List.append_assoc]
theorem lay_put (P D Y Q : List (HV × Nat)) : lay (P ++ D) Y Q = lay P (D ++ Y) Q := by unfold lay; simp only [List.append_assoc]
theorem lay_four (P A1 A2 C1 C2 Q : List (HV × Nat)) : lay P (A1 ++ A2 ++ (C1 ++ C2)) Q = (P ++ A1).map (·.1) ++ A2.map (·.1) ++ C1.map (·.1) ++ (C2 ++ Q).map (·.1) := by unfold lay; simp only [List.append_assoc, List.map_append]
theorem lay_turn (P A1 A2 C1 C2 Q : List (HV × Nat)) : lay P (A1 ++ C1 ++ (A2 ++ C2)) Q = (P ++ A1).map (·.1) ++ C1.map (·.1) ++ A2.map (·.1) ++ (C2 ++ Q).map (·.1) := by unfold lay; simp only [List.append_assoc, List.map_append]
/-- Where a merge's search ends. -/
theorem sym_cut {le : HV → HV → Bool} (H : Tot le) {A C : List (HV × Nat)} {a m b mid p s s0 r0 : Nat} (hm : m = a + A.length) (hb : b = m + C.length) (hmid : mid = (a + b) / 2) (hp : p + 1 = mid + m) (h0 : mid < m ∧ s0 = mid + m - b ∧ r0 = mid ∨ m ≤ mid ∧ s0 = a ∧ r0 = m) (hs : s0 ≤ s ∧ s ≤ r0) (sA : So le A) (sC : So le C)
    (q1 : s = s0 ∨ ∀ x y, A[s - 1 - a]? = some x → C[p - (s - 1) - m]? = some y → le x.1 y.1 = true) (q2 : s = r0 ∨ ∀ x y, A[s - a]? = some x → C[p - s - m]? = some y → le x.1 y.1 = false) :
    ∃ A1 A2 C1 C2 : List (HV × Nat), A = A1 ++ A2 ∧ C = C1 ++ C2 ∧ s = a + A1.length ∧ mid = s + C1.length ∧ (∀ x ∈ A1, ∀ y ∈ C2, le x.1 y.1 = true) ∧ (∀ x ∈ A2, ∀ y ∈ C1, le x.1 y.1 = false) := by
  obtain ⟨x12, x21⟩ := cut H (u := s - a) (v := mid - s) sA sC (by omega) (by omega)
    (q1.elim (fun h => by
      rcases h0 with h0 | h0
      · right; left; omega
      · left; omega) (fun h => by
      rcases Nat.eq_or_lt_of_le hs.1 with e | e
      · rcases h0 with h0 | h0
        · right; left; omega
        · left; omega
      · right; right
        intro x y hx hy
        exact h x y (by rw [show s - 1 - a = s - a - 1 by omega]; exact hx) (by rw [show p - (s - 1) - m = mid - s by omega]; exact hy)))
    (q2.elim (fun h => by
      rcases h0 with h0 | h0
      · right; left; omega
      · left; omega) (fun h => by
      rcases Nat.eq_or_lt_of_le hs.2 with e | e
      · rcases h0 with h0 | h0
        · right; left; omega
        · left; omega
      · right; right
        intro x y hx hy
        exact h x y hx (by rw [show p - s - m = mid - s - 1 by omega]; exact hy)))
  exact ⟨A.take (s - a), A.drop (s - a), C.take (mid - s), C.drop (mid - s), (List.take_append_drop _ _).symm, (List.take_append_drop _ _).symm, by rw [List.length_take]; omega, by rw [List.length_take]; omega, x12, x21⟩
/-- Merges of less than s. -/
def SymK (c : HV → HV → Int) (S : HV → Prop) (B g cap N s : Nat) : Prop :=
  ∀ (wx : World) (P A C Q : List (HV × Nat)) (a m b : Nat), A.length + C.length < s → a = P.length → m = a + A.length → b = m + C.length → 0 < A.length → 0 < C.length → N = P.length + (A.length + C.length) + Q.length → (∀ t ∈ A ++ C, S t.1) → So (leC c) A → So (leC c) C → Lw A C → HR wx B g cap (lay P (A ++ C) Q) →
    Calls Try.prog 156 #[.slice (some ⟨g, 0, none⟩) N cap, .int .i64 a, .int .i64 m, .int .i64 b, cmpF] wx (MgO c wx B g cap P (A ++ C) Q)
theorem sym_gen {c : HV → HV → Int} {S : HV → Prop} (hK : CmpK c S) {w : World} {B g cap : Nat} {P A C Q : List (HV × Nat)} {a m b N : Nat} (ha : a = P.length) (hm : m = a + A.length) (hb : b = m + C.length) (hA2 : 2 ≤ A.length) (hC2 : 2 ≤ C.length) (hN : N = P.length + (A.length + C.length) + Q.length) (hN2 : N ≤ 4194304) (hS : ∀ t ∈ A ++ C, S t.1) (sA : So (leC c) A) (sC : So (leC c) C) (hl : Lw A C) (ih : SymK c S B g cap N (A.length + C.length))
    (h : HR w B g cap (lay P (A ++ C) Q)) : Calls Try.prog 156 #[.slice (some ⟨g, 0, none⟩) N cap, .int .i64 a, .int .i64 m, .int .i64 b, cmpF] w (MgO c w B g cap P (A ++ C) Q) := by
  have hbN : b ≤ 4194304 := by omega
  have e0 : IntKind.i64.wrap ((m : Int) - (a : Int)) = ((m - a : Nat) : Int) := by rw [IntKind.wrap_i64]; omega
  have e0' : ¬ ((m - a : Nat) : Int) = 1 := by omega
  have e0b : (((m - a : Nat) : Int) == 1) = false := by simp [e0']
  have e1 : IntKind.i64.wrap ((b : Int) - (m : Int)) = ((b - m : Nat) : Int) := by rw [IntKind.wrap_i64]; omega
  have e1' : ¬ ((b - m : Nat) : Int) = 1 := by omega
  have e1b : (((b - m : Nat) : Int) == 1) = false := by simp [e1']
  obtain ⟨sa, mid, hmid, f1, f2, f3, f4⟩ := half a b (by omega)
  obtain ⟨n, hn⟩ : ∃ n, n = mid + m := ⟨_, rfl⟩
  obtain ⟨p, hp⟩ : ∃ p, p + 1 = n := ⟨n - 1, by omega⟩
  have e2 : IntKind.i64.wrap ((mid : Int) + (m : Int)) = (n : Int) := by rw [IntKind.wrap_i64]; omega
  have e3 := wrap_pred hp (by omega)
  have hT0 := Lib.hid (Tch.refl (fun k => k = g) w)
  replace h := Lib.hid h
  replace hK := Lib.hid hK
  replace ha := Lib.hid ha
  replace hm := Lib.hid hm
  replace hb := Lib.hid hb
  replace hA2 := Lib.hid hA2
  replace hC2 := Lib.hid hC2
  replace hN := Lib.hid hN
  replace hS := Lib.hid hS
  replace sA := Lib.hid sA
  replace sC := Lib.hid sC
  replace hl := Lib.hid hl
  replace ih := Lib.hid ih
  replace hbN := Lib.hid hbN
  replace hmid := Lib.hid hmid
  replace hn := Lib.hid hn
  replace hp := Lib.hid hp
  go_enter Try.func156, Try.ntmps156
  go_upto_if 140 with fail
  go_cut [20, 21] (fun sv rv wx => ∃ s0 r0 : Nat, sv = .int .i64 s0 ∧ rv = .int .i64 r0 ∧ Hid (mid < m ∧ s0 = mid + m - b ∧ r0 = mid ∨ m ≤ mid ∧ s0 = a ∧ r0 = m) ∧ Hid (HR wx B g cap (lay P (A ++ C) Q)) ∧ Hid (Tch (fun k => k = g) w wx))
  case first =>
    as_aux_lemma =>
      by_cases hmm : mid < m
      · have c1 : (mid : Int) < (m : Int) := by omega
        have e4 : IntKind.i64.wrap ((n : Int) - (b : Int)) = ((n - b : Nat) : Int) := by have := hmid.out; have := hn.out; have := hm.out; have := hb.out; have := hbN.out; rw [IntKind.wrap_i64]; omega
        go_wp2
        go_meet
        exact ⟨n - b, mid, rfl, rfl, Lib.hid (.inl ⟨hmm, by rw [hn.out], rfl⟩), h, hT0⟩
      · have c1 : decide ((mid : Int) < (m : Int)) = false := decide_eq_false (by omega)
        have c2 : ¬ (mid : Int) < (m : Int) := by omega
        go_wp2
        go_meet
        exact ⟨a, m, rfl, rfl, Lib.hid (.inr ⟨by omega, rfl, rfl⟩), h, hT0⟩
  case rest =>
    clear h hT0
    obtain ⟨s0, r0, rfl, rfl, h0, h, hT0⟩ := hcut
    go_wp2
    go_loopg [20, 21] (r0 - s0 + 1) (fun gg sc rc wx => ∃ (s r : Nat), gg = r - s + 1 ∧ sc = .int .i64 s ∧ rc = .int .i64 r ∧ Hid (s0 ≤ s ∧ s ≤ r ∧ r ≤ r0) ∧ Hid (s = s0 ∨ ∀ x y, A[s - 1 - a]? = some x → C[p - (s - 1) - m]? = some y → leC c x.1 y.1 = true) ∧ Hid (r = r0 ∨ ∀ x y, A[r - a]? = some x → C[p - r - m]? = some y → leC c x.1 y.1 = false) ∧ Hid (HR wx B g cap (lay P (A ++ C) Q)) ∧ Hid (Tch (fun k => k = g) w wx))
    case atStart => exact ⟨s0, r0, rfl, rfl, rfl, Lib.hid ⟨Nat.le_refl _, by have := hm.out; have := hb.out; have := hmid.out; have := hA2.out; have := hC2.out; have := h0.out; omega, Nat.le_refl _⟩, Lib.hid (.inl rfl), Lib.hid (.inl rfl), h, hT0⟩
    case round =>
      clear h hT0
      obtain ⟨s, r, rfl, rfl, rfl, hij, q1, q2, hR, hT⟩ := hrel
      by_cases hlt : s < r
      · have hk0 : (s : Int) < (r : Int) := nn_lt hlt
        have hm' := hm.out
        have hb' := hb.out
        have ha' := ha.out
        have hij' := hij.out
        have hbN' := hbN.out
        have hmid' := hmid.out
        have hn' := hn.out
        have hp' := hp.out
        have h0' := h0.out
        have hN' := hN.out
        obtain ⟨s2, cc, hcc, g1, g2, g3, g4⟩ := half s r (by omega)
        have hc1 : a ≤ cc ∧ cc < m := by omega
        have hc2 : m ≤ p - cc ∧ p - cc < b := by omega
        obtain ⟨pc, hpc⟩ : ∃ pc, pc = p - cc := ⟨_, rfl⟩
        have hsc : s ≤ cc ∧ cc < r := by omega
        obtain ⟨x, hx⟩ : ∃ x, A[cc - a]? = some x := ⟨_, List.getElem?_eq_getElem (by omega)⟩
        obtain ⟨y, hy⟩ : ∃ y, C[pc - m]? = some y := ⟨_, List.getElem?_eq_getElem (by omega)⟩
        have m1 : (lay P (A ++ C) Q)[pc]? = some y.1 := by
          have := lay_at (P := P) (Q := Q) (C := A ++ C) (k := A.length + (pc - m)) (y := y) (by rw [List.getElem?_append_right (Nat.le_add_right _ _), Nat.add_sub_cancel_left]; exact hy)
          rw [show P.length + (A.length + (pc - m)) = pc by omega] at this; exact this
        have m2 : (lay P (A ++ C) Q)[cc]? = some x.1 := by
          have := lay_at (P := P) (Q := Q) (C := A ++ C) (k := cc - a) (y := x) (by rw [List.getElem?_append_left (by omega)]; exact hx)
          rw [show P.length + (cc - a) = cc by omega] at this; exact this
        have hcall := Lib.hid (hK.out.call y.1 x.1 (hS.out y (List.mem_append_right _ (List.mem_of_getElem? hy))) (hS.out x (List.mem_append_left _ (List.mem_of_getElem? hx))))
        have g5 : IntKind.i64.wrap ((p : Int) - (cc : Int)) = (pc : Int) := by rw [IntKind.wrap_i64]; omega
        have i2 : (0 : Int) ≤ (pc : Int) := by omega
        have i3 : (pc : Int) < (N : Int) := by omega
        have i4 : (0 : Int) ≤ (cc : Int) := by omega
        have i5 : (cc : Int) < (N : Int) := by omega
        have hwr := Lib.hid (nn_succ2 hsc.2 (by omega))
        replace hm' := Lib.hid hm'
        replace hb' := Lib.hid hb'
        replace ha' := Lib.hid ha'
        replace hij' := Lib.hid hij'
        replace hbN' := Lib.hid hbN'
        replace hmid' := Lib.hid hmid'
        replace hn' := Lib.hid hn'
        replace hp' := Lib.hid hp'
        replace h0' := Lib.hid h0'
        replace hN' := Lib.hid hN'
        replace hcc := Lib.hid hcc
        replace hc1 := Lib.hid hc1
        replace hc2 := Lib.hid hc2
        replace hpc := Lib.hid hpc
        replace hsc := Lib.hid hsc
        replace hx := Lib.hid hx
        replace hy := Lib.hid hy
        replace m1 := Lib.hid m1
        replace m2 := Lib.hid m2
        go_upto_region 35 with fail
        have hS8 : Hid (∀ w', Below wr.heap.size wr w' → w'.cell? ⟨g, pc * 4, none⟩ = some (.string y.1.host) ∧ w'.cell? ⟨g, pc * 4 + 1, none⟩ = some (.string y.1.route) ∧ w'.cell? ⟨g, pc * 4 + 2, none⟩ = some (.slice y.1.eo y.1.en y.1.ec) ∧ w'.cell? ⟨g, pc * 4 + 3, none⟩ = some (.slice y.1.po y.1.pn y.1.pc) ∧ w'.cell? ⟨g, cc * 4, none⟩ = some (.string x.1.host) ∧ w'.cell? ⟨g, cc * 4 + 1, none⟩ = some (.string x.1.route) ∧ w'.cell? ⟨g, cc * 4 + 2, none⟩ = some (.slice x.1.eo x.1.en x.1.ec) ∧ w'.cell? ⟨g, cc * 4 + 3, none⟩ = some (.slice x.1.po x.1.pn x.1.pc)) := Lib.hid (fun w' h => by
          obtain ⟨⟨a0, a1, a2, a3⟩, _⟩ := (hR.out.below h).cells m1.out
          obtain ⟨⟨b0, b1, b2, b3⟩, _⟩ := (hR.out.below h).cells m2.out
          exact ⟨a0, a1, a2, a3, b0, b1, b2, b3⟩)
        have hcur2 : Hid (Below wr.heap.size wr wr.drew) := Lib.hid (drew_below wr 1)
        go_cut [171] (fun b wx => ∃ t : Bool, b = .bool t ∧ Hid (t = (!decide (c y.1 x.1 < 0))) ∧ Hid (Below wr.heap.size wr wx))
        case first =>
          as_aux_lemma =>
            go_region_held3 (fun w' => w'.cell? ⟨g, pc * 4, none⟩ = some (.string y.1.host) ∧ w'.cell? ⟨g, pc * 4 + 1, none⟩ = some (.string y.1.route) ∧ w'.cell? ⟨g, pc * 4 + 2, none⟩ = some (.slice y.1.eo y.1.en y.1.ec) ∧ w'.cell? ⟨g, pc * 4 + 3, none⟩ = some (.slice y.1.po y.1.pn y.1.pc) ∧ w'.cell? ⟨g, cc * 4, none⟩ = some (.string x.1.host) ∧ w'.cell? ⟨g, cc * 4 + 1, none⟩ = some (.string x.1.route) ∧ w'.cell? ⟨g, cc * 4 + 2, none⟩ = some (.slice x.1.eo x.1.en x.1.ec) ∧ w'.cell? ⟨g, cc * 4 + 3, none⟩ = some (.slice x.1.po x.1.pn x.1.pc))
              (first | exact hS8.out _ hcur2.out | fail)
              (first
                | (go_at_call 102; (with_reducible refine (hcall.out _).mono ?_); rintro e w2 ⟨rfl, hb2⟩; replace hcur2 := Lib.hid (seq_below hcur2.out hb2); clear hb2)
                | fail)
            all_goals (first | (go_wp2; go_meet; exact ⟨_, rfl, Lib.hid rfl, hcur2⟩) | (go_meet; exact ⟨_, rfl, Lib.hid rfl, hcur2⟩))
        case rest =>
          obtain ⟨t, rfl, ht, hbz⟩ := hcut
          have hRc := Lib.hid (hR.out.below hbz.out)
          have hTc := Lib.hid (hT.out.trans (Tch.of_below (S := fun k => k = g) hbz.out) (fun k h => .inl h))
          clear hS8
          cases t
          · have hc : Hid (c y.1 x.1 < 0) := Lib.hid (by have := ht.out; revert this; simp)
            clear ht
            go_wp2
            go_roundg (cc - s + 1)
            case rel => exact ⟨s, cc, rfl, rfl, rfl, Lib.hid (by have := hij'.out; have := hsc.out; omega), q1, Lib.hid (.inr fun x1 y1 h1 h2 => by rw [hx.out] at h1; rw [← hpc.out, hy.out] at h2; cases h1; cases h2; exact leC_false.2 hc.out), hRc, hTc⟩
            case measure => have := hsc.out; omega
          · have hc : Hid (0 ≤ c y.1 x.1) := Lib.hid (by have := ht.out; revert this; simp)
            clear ht
            go_wp2
            go_roundg (r - (cc + 1) + 1)
            case rel => exact ⟨cc + 1, r, rfl, by first | rw [hwr.out] | go_num, rfl, Lib.hid (by have := hij'.out; have := hsc.out; omega), Lib.hid (.inr fun x1 y1 h1 h2 => by rw [Nat.add_sub_cancel, hx.out] at h1; rw [Nat.add_sub_cancel, ← hpc.out, hy.out] at h2; cases h1; cases h2; exact leC_true.2 (Int.not_lt.2 hc.out)), q2, hRc, hTc⟩
            case measure => have := hsc.out; omega
      · have hk0 : decide ((s : Int) < (r : Int)) = false := decide_eq_false (by omega)
        have hk1 : ¬ (s : Int) < (r : Int) := by omega
        have he : s = r := by have := hij.out; omega
        subst he
        obtain ⟨A1, A2, C1, C2, eA, eC, hs1, hs2, x12, x21⟩ := sym_cut hK.out.tot hm.out hb.out hmid.out (by rw [hp.out, hn.out]) h0.out ⟨hij.out.1, hij.out.2.2⟩ sA.out sC.out q1.out q2.out
        subst eA eC
        obtain ⟨ee, hee⟩ : ∃ ee, ee = n - s := ⟨_, rfl⟩
        have lA : (A1 ++ A2).length = A1.length + A2.length := List.length_append
        have lC : (C1 ++ C2).length = C1.length + C2.length := List.length_append
        have hm' := hm.out
        have hb' := hb.out
        have ha' := ha.out
        have hbN' := hbN.out
        have hmid' := hmid.out
        have hn' := hn.out
        have hN' := hN.out
        have g5 : IntKind.i64.wrap ((n : Int) - (s : Int)) = (ee : Int) := by rw [IntKind.wrap_i64]; omega
        have j1 : ee = mid + A2.length := by omega
        have j2 : b = ee + C2.length := by omega
        have j3 : m = s + A2.length := by omega
        have j4 : ee = m + C1.length := by omega
        clear q1 q2
        replace hs1 := Lib.hid hs1
        replace hs2 := Lib.hid hs2
        replace x12 := Lib.hid x12
        replace x21 := Lib.hid x21
        replace hee := Lib.hid hee
        replace lA := Lib.hid lA
        replace lC := Lib.hid lC
        replace hm' := Lib.hid hm'
        replace hb' := Lib.hid hb'
        replace ha' := Lib.hid ha'
        replace hbN' := Lib.hid hbN'
        replace hmid' := Lib.hid hmid'
        replace hn' := Lib.hid hn'
        replace hN' := Lib.hid hN'
        replace j1 := Lib.hid j1
        replace j2 := Lib.hid j2
        replace j3 := Lib.hid j3
        replace j4 := Lib.hid j4
        go_upto_region 39 with fail
        go_cut [185] (fun b wx => ∃ t : Bool, b = .bool t ∧ Hid (t = true ↔ (s < m ∧ m < ee)) ∧ Hid (HR wx B g cap (lay P (A1 ++ A2 ++ (C1 ++ C2)) Q)) ∧ Hid (Tch (fun k => k = g) w wx))
        case first =>
          as_aux_lemma =>
            clear hk0 hk1
            by_cases b1 : s < m
            · have b1' : (s : Int) < (m : Int) := by omega
              by_cases b2 : m < ee
              · have b2' : (m : Int) < (ee : Int) := by omega
                have b3 := Lib.hid (And.intro b1 b2)
                clear b1 b2
                go_wp2
                go_meet
                exact ⟨_, rfl, Lib.hid ⟨fun _ => b3.out, fun _ => rfl⟩, hR, hT⟩
              · have b2' : decide ((m : Int) < (ee : Int)) = false := decide_eq_false (by omega)
                have b3 := Lib.hid b2
                clear b1 b2
                go_wp2
                go_meet
                exact ⟨_, rfl, Lib.hid ⟨fun h => absurd h (by first | decide | (have := b3.out; simp; omega)), fun h => absurd h.2 b3.out⟩, hR, hT⟩
            · have b1' : decide ((s : Int) < (m : Int)) = false := decide_eq_false (by omega)
              have b3 := Lib.hid b1
              clear b1
              go_wp2
              go_meet
              exact ⟨_, rfl, Lib.hid ⟨fun h => absurd h (by decide), fun h => absurd h.1 b3.out⟩, hR, hT⟩
        case rest =>
          clear hR hT
          obtain ⟨t, rfl, ht, hR, hT⟩ := hcut
          go_upto_if 185 with fail
          go_cut [] (fun wx => Hid (HR wx B g cap (lay P (A1 ++ C1 ++ (A2 ++ C2)) Q)) ∧ Hid (Tch (fun k => k = g) w wx))
          case first =>
            as_aux_lemma =>
              cases t
              · have hn : ¬ (s < m ∧ m < ee) := fun h => by have := ht.out.2 h; cases this
                have c0 : A2 = [] ∨ C1 = [] := by
                  by_cases b1 : s < m
                  · exact .inr (List.eq_nil_of_length_eq_zero (by have := j4.out; omega))
                  · exact .inl (List.eq_nil_of_length_eq_zero (by have := j3.out; omega))
                have hR2 : Hid (HR wc B g cap (lay P (A1 ++ C1 ++ (A2 ++ C2)) Q)) := Lib.hid (by have := hR.out; rcases c0 with c0 | c0 <;> (rw [c0] at this ⊢; simpa only [List.append_nil, List.nil_append, List.append_assoc] using this))
                replace hn := Lib.hid hn
                replace c0 := Lib.hid c0
                clear ht
                go_wp2
                go_meet
                exact ⟨hR2, hT⟩
              · obtain ⟨b1, b2⟩ := ht.out.1 rfl
                clear ht
                have hrot := Lib.hid (rot171 (w := wc) (B := B) (g := g) (cap := cap) (f := cmpF) (P := (P ++ A1).map (·.1)) (A := A2.map (·.1)) (C := C1.map (·.1)) (Q := (C2 ++ Q).map (·.1)) (a := s) (m := m) (b := ee) (N := N) (lay_turn P A1 A2 C1 C2 Q) (by rw [List.length_map, List.length_append]; have := hs1.out; have := ha'.out; omega) (by rw [List.length_map, List.length_append, List.length_map]; have := hs1.out; have := ha'.out; have := j3.out; omega) (by rw [List.length_map, List.length_append, List.length_map, List.length_map]; have := hs1.out; have := ha'.out; have := j3.out; have := j4.out; omega) (by rw [List.length_map]; have := j3.out; omega) (by rw [List.length_map]; have := j4.out; omega) (by rw [List.length_map, List.length_append, List.length_map, List.length_map, List.length_map, List.length_append]; have := hN'.out; have := lA.out; have := lC.out; omega) hN2 (by rw [← lay_four]; exact hR.out))
                replace b1 := Lib.hid b1
                replace b2 := Lib.hid b2
                go_wp2_with (first
                  | (go_at_call 171; (with_reducible refine hrot.out.mono ?_); rintro e wC ⟨rfl, hR2, hT2⟩; replace hR2 := Lib.hid hR2; replace hT2 := Lib.hid (hT.out.trans hT2 (fun k h => .inl h)))
                  | fail)
                go_meet
                exact ⟨hR2, hT2⟩
          case rest =>
            clear hR hT
            obtain ⟨hR, hT⟩ := hcut
            have sA' := sA.out.split
            have sC' := sC.out.split
            have sA1 := Lib.hid sA'.1
            have sA2 := Lib.hid sA'.2.1
            have sC1 := Lib.hid sC'.1
            have sC2 := Lib.hid sC'.2.1
            clear sA' sC'
            go_upto_region 41 with fail
            go_cut [199] (fun b wx => ∃ t : Bool, b = .bool t ∧ Hid (t = true ↔ (a < s ∧ s < mid)) ∧ Hid (HR wx B g cap (lay P (A1 ++ C1 ++ (A2 ++ C2)) Q)) ∧ Hid (Tch (fun k => k = g) w wx))
            case first =>
              as_aux_lemma =>
                by_cases b1 : a < s
                · have b1' : (a : Int) < (s : Int) := by omega
                  by_cases b2 : s < mid
                  · have b2' : (s : Int) < (mid : Int) := by omega
                    have b3 := Lib.hid (And.intro b1 b2)
                    clear b1 b2
                    go_wp2
                    go_meet
                    exact ⟨_, rfl, Lib.hid ⟨fun _ => b3.out, fun _ => rfl⟩, hR, hT⟩
                  · have b2' : decide ((s : Int) < (mid : Int)) = false := decide_eq_false (by omega)
                    have b3 := Lib.hid b2
                    clear b1 b2
                    go_wp2
                    go_meet
                    exact ⟨_, rfl, Lib.hid ⟨fun h => absurd h (by first | decide | (have := b3.out; simp; omega)), fun h => absurd h.2 b3.out⟩, hR, hT⟩
                · have b1' : decide ((a : Int) < (s : Int)) = false := decide_eq_false (by omega)
                  have b3 := Lib.hid b1
                  clear b1
                  go_wp2
                  go_meet
                  exact ⟨_, rfl, Lib.hid ⟨fun h => absurd h (by decide), fun h => absurd h.1 b3.out⟩, hR, hT⟩
            case rest =>
              clear hR hT
              obtain ⟨t, rfl, ht, hR, hT⟩ := hcut
              go_upto_if 199 with fail
              go_cut [] (fun wx => ∃ D1 : List (HV × Nat), Hid (D1.Perm (A1 ++ C1)) ∧ Hid (So (leC c) D1) ∧ Hid (HR wx B g cap (lay (P ++ D1) (A2 ++ C2) Q)) ∧ Hid (Tch (fun k => k = g) w wx))
              case first =>
                as_aux_lemma =>
                  cases t
                  · have hn : ¬ (a < s ∧ s < mid) := fun h => by have := ht.out.2 h; cases this
                    have c0 : A1 = [] ∨ C1 = [] := by
                      by_cases b1 : a < s
                      · exact .inr (List.eq_nil_of_length_eq_zero (by have := hs2.out; omega))
                      · exact .inl (List.eq_nil_of_length_eq_zero (by have := hs1.out; omega))
                    have hD : Hid (So (leC c) (A1 ++ C1)) := Lib.hid (by rcases c0 with c0 | c0 <;> rw [c0]; exact sC1.out; rw [List.append_nil]; exact sA1.out)
                    have hR2 : Hid (HR wc B g cap (lay (P ++ (A1 ++ C1)) (A2 ++ C2) Q)) := Lib.hid (by rw [lay_put]; exact hR.out)
                    replace hn := Lib.hid hn
                    replace c0 := Lib.hid c0
                    clear ht
                    go_wp2
                    go_meet
                    exact ⟨_, Lib.hid (.refl _), hD, hR2, hT⟩
                  · obtain ⟨b1, b2⟩ := ht.out.1 rfl
                    clear ht
                    have hrec := Lib.hid (ih.out wc P A1 C1 (A2 ++ C2 ++ Q) a s mid (by have := lA.out; have := lC.out; have := hA2.out; have := hC2.out; have := hmid'.out; have := hs1.out; have := hs2.out; have := hm'.out; have := hb'.out; omega) ha'.out hs1.out hs2.out (by have := hs1.out; omega) (by have := hs2.out; omega) (by rw [List.length_append, List.length_append]; have := hN'.out; have := lA.out; have := lC.out; omega) (fun t ht => hS.out t (by simp only [List.mem_append] at ht ⊢; rcases ht with ht | ht; exact .inl (.inl ht); exact .inr (.inl ht))) sA1.out sC1.out (fun x hx y hy => hl.out x (List.mem_append_left _ hx) y (List.mem_append_left _ hy)) (by rw [← lay_mid]; exact hR.out))
                    replace b1 := Lib.hid b1
                    replace b2 := Lib.hid b2
                    go_wp2_with (first
                      | (go_at_call 156; (with_reducible refine hrec.out.mono ?_); unfold MgO; rintro e wC ⟨rfl, D, hD1, hD2, hD3, hD4⟩; replace hD1 := Lib.hid hD1; replace hD2 := Lib.hid hD2; rw [← lay_mid, ← lay_put] at hD3; replace hD3 := Lib.hid hD3; replace hD4 := Lib.hid (hT.out.trans hD4 (fun k h => .inl h)))
                      | fail)
                    go_meet
                    exact ⟨D, hD1, hD2, hD3, hD4⟩
              case rest =>
                clear hR hT
                obtain ⟨D1, hp1, hd1, hR, hT⟩ := hcut
                have hfin : Hid (∀ D2, D2.Perm (A2 ++ C2) → So (leC c) D2 → So (leC c) (D1 ++ D2) ∧ (D1 ++ D2).Perm (A1 ++ A2 ++ (C1 ++ C2))) := Lib.hid (fun D2 hp2 hd2 =>
                  ⟨halves hK.out.tot sA.out sC.out hl.out x12.out x21.out hd1.out hp1.out hd2 hp2, (hp1.out.append hp2).trans (by
                    rw [List.append_assoc, List.append_assoc]
                    refine List.Perm.append_left A1 ?_
                    rw [← List.append_assoc, ← List.append_assoc]
                    exact List.Perm.append_right C2 List.perm_append_comm)⟩)
                have lD : D1.length = A1.length + C1.length := by rw [hp1.out.length_eq, List.length_append]
                replace lD := Lib.hid lD
                go_upto_region 43 with fail
                go_cut [213] (fun bv wx => ∃ t : Bool, bv = .bool t ∧ Hid (t = true ↔ (mid < ee ∧ ee < b)) ∧ Hid (HR wx B g cap (lay (P ++ D1) (A2 ++ C2) Q)) ∧ Hid (Tch (fun k => k = g) w wx))
                case first =>
                  as_aux_lemma =>
                    by_cases b1 : mid < ee
                    · have b1' : (mid : Int) < (ee : Int) := by omega
                      by_cases b2 : ee < b
                      · have b2' : (ee : Int) < (b : Int) := by omega
                        have b3 := Lib.hid (And.intro b1 b2)
                        clear b1 b2
                        go_wp2
                        go_meet
                        exact ⟨_, rfl, Lib.hid ⟨fun _ => b3.out, fun _ => rfl⟩, hR, hT⟩
                      · have b2' : decide ((ee : Int) < (b : Int)) = false := decide_eq_false (by omega)
                        have b3 := Lib.hid b2
                        clear b1 b2
                        go_wp2
                        go_meet
                        exact ⟨_, rfl, Lib.hid ⟨fun h => absurd h (by first | decide | (have := b3.out; simp; omega)), fun h => absurd h.2 b3.out⟩, hR, hT⟩
                    · have b1' : decide ((mid : Int) < (ee : Int)) = false := decide_eq_false (by omega)
                      have b3 := Lib.hid b1
                      clear b1
                      go_wp2
                      go_meet
                      exact ⟨_, rfl, Lib.hid ⟨fun h => absurd h (by decide), fun h => absurd h.1 b3.out⟩, hR, hT⟩
                case rest =>
                  clear hR hT
                  obtain ⟨t, rfl, ht, hR, hT⟩ := hcut
                  go_upto_if 213 with fail
                  cases t
                  · have hn : ¬ (mid < ee ∧ ee < b) := fun h => by have := ht.out.2 h; cases this
                    have c0 : A2 = [] ∨ C2 = [] := by
                      by_cases b1 : mid < ee
                      · exact .inr (List.eq_nil_of_length_eq_zero (by have := j2.out; omega))
                      · exact .inl (List.eq_nil_of_length_eq_zero (by have := j1.out; omega))
                    have hD : Hid (So (leC c) (A2 ++ C2)) := Lib.hid (by rcases c0 with c0 | c0 <;> rw [c0]; exact sC2.out; rw [List.append_nil]; exact sA2.out)
                    have hR2 : Hid (HR wc B g cap (lay P (D1 ++ (A2 ++ C2)) Q)) := Lib.hid (by rw [← lay_put]; exact hR.out)
                    replace hn := Lib.hid hn
                    replace c0 := Lib.hid c0
                    clear ht
                    go_wp2
                    refine bodyPost_end (results_none rfl _ _ _) rfl ?_
                    have hff := hfin.out _ (List.Perm.refl _) hD.out
                    unfold MgO
                    exact ⟨rfl, _, by simpa only [List.append_assoc] using hff.2, hff.1, hR2.out, hT.out⟩
                  · obtain ⟨b1, b2⟩ := ht.out.1 rfl
                    clear ht
                    have hrec := Lib.hid (ih.out wc (P ++ D1) A2 C2 Q mid ee b (by have := lA.out; have := lC.out; have := hA2.out; have := hC2.out; have := hmid'.out; have := hs1.out; have := hs2.out; have := hm'.out; have := hb'.out; omega) (by rw [List.length_append]; have := lD.out; have := ha'.out; have := hs1.out; have := hs2.out; omega) j1.out j2.out (by have := j1.out; omega) (by have := j2.out; omega) (by rw [List.length_append]; have := hN'.out; have := lA.out; have := lC.out; have := lD.out; omega) (fun t ht => hS.out t (by simp only [List.mem_append] at ht ⊢; rcases ht with ht | ht; exact .inl (.inr ht); exact .inr (.inr ht))) sA2.out sC2.out (fun x hx y hy => hl.out x (List.mem_append_right _ hx) y (List.mem_append_right _ hy)) hR.out)
                    replace b1 := Lib.hid b1
                    replace b2 := Lib.hid b2
                    go_wp2_with (first
                      | (go_at_call 156; (with_reducible refine hrec.out.mono ?_); unfold MgO; rintro e wC ⟨rfl, D, hD1, hD2, hD3, hD4⟩; replace hD1 := Lib.hid hD1; replace hD2 := Lib.hid hD2; rw [lay_put] at hD3; replace hD3 := Lib.hid hD3; replace hD4 := Lib.hid (hT.out.trans hD4 (fun k h => .inl h)))
                      | fail)
                    refine bodyPost_end (results_none rfl _ _ _) rfl ?_
                    have hff := hfin.out _ (hD1.out) hD2.out
                    unfold MgO
                    exact ⟨rfl, _, by simpa only [List.append_assoc] using hff.2, hff.1, hD3.out, hD4.out⟩
end Go.Proofs.Ytjepgpocmnijiaa
end
