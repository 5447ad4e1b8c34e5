/- The walk of the law CheckMerges. -/
import Derived.Test.YtjepgpocmnijiaaZb26
section

namespace Go.Proofs.Ytjepgpocmnijiaa
open Go.RowKit Go.Mp Go.Ck
set_option linter.unusedVariables false
set_option maxRecDepth 100000
set_option maxHeartbeats 8000000
theorem own_reads2 {w : World} {B : Nat} {v : Value} {L : List Rw} (h : OwnM w B v (L.map Rw.rv)) (hl : L.length ≤ 140737488351232) : ResS w v (L.map Rw.r) := by
  have := h.reads (by rw [List.length_map]; exact hl)
  rw [List.map_map] at this
  exact this
theorem own_reads1 {w : World} {B : Nat} {v : Value} {L : List RV} {l : List Res} (h : OwnM w B v L) (hL : L.map RV.r = l) (hl : l.length ≤ 140737488351232) : ResS w v l := by
  subst hL
  exact h.reads (by rw [List.length_map] at hl; exact hl)
/-- own, as the laws need it. -/
theorem own18r {l : List Res} {v : Value} {w : World} (hl : ResS w v l) (hM : SzL l) : Calls Try.prog 18 #[v] w fun e w2 => ∃ o2 c2, e = .returned (.slice o2 l.length c2) ∧ ResS w2 (.slice o2 l.length c2) l ∧ Below w.heap.size w w2 := by
  refine (own18z l v w hl hM).mono ?_
  rintro e w2 ⟨v2, L2, rfl, hL2, hO2, hb⟩
  have hr := own_reads1 hO2 hL2 hl.1
  obtain ⟨o2, c2, rfl⟩ := slice_shape hr
  exact ⟨o2, c2, rfl, hr, hb⟩
theorem lists22r {l : List Res} {v1 v2 : Value} {w : World} (h1 : ResS w v1 l) (h2 : ResS w v2 l) : Calls Try.prog 22 #[v1, v2] w fun e w2 => e = .returned (.bool true) ∧ Below w.heap.size w w2 := by
  rw [← lists_refl l]; exact lists22 l l v1 v2 w h1 h2
theorem num21m (c : Int) (w : World) : Calls Try.prog 21 #[.int .i64 c] w fun e w' => e = .returned (.int .i64 c) ∧ w = w' := by
  go_enter Try.func21, Try.ntmps21
  go_wp2
  go_ret
  exact ⟨rfl, rfl⟩
theorem mge_len {C D L : List Res} {i f : Int} (h : MgE C D L i f) : L.length ≤ 64 := by
  cases h <;> first | exact Nat.zero_le _ | assumption
theorem merges4 (C D : List Res) (v1 v2 : Value) (w : World) (h1 : ResS w v1 C) (h2 : ResS w v2 D) (hC : listM C ≤ 1048576) (hD : listM D ≤ 1048576) : Calls Try.prog 4 #[v1, v2] w fun e w' => e = .returned (.bool true) ∧ Below w.heap.size w w' := by
  obtain ⟨ao, cap, rfl⟩ := slice_shape h1
  obtain ⟨bo, bcp, rfl⟩ := slice_shape h2
  have hC2 := Nat.le_trans (len_le C) hC
  have hD2 := Nat.le_trans (len_le D) hD
  have hK18 : ∀ (v' : Value) (w' : World) (l : List Res), ResS w' v' l → SzL l → Calls Try.prog 18 #[v'] w' fun e w2 => ∃ o2 c2, e = .returned (.slice o2 l.length c2) ∧ ResS w2 (.slice o2 l.length c2) l ∧ Below w'.heap.size w' w2 := fun v' w' l h hm => own18r h hm
  have hK22 : ∀ (v1 v2 : Value) (w' : World) (l : List Res), ResS w' v1 l → ResS w' v2 l → Calls Try.prog 22 #[v1, v2] w' fun e w2 => e = .returned (.bool true) ∧ Below w'.heap.size w' w2 := fun v1 v2 w' l h1 h2 => lists22r h1 h2
  have hK25 : ∀ (u1 u2 : Value) (w' : World), ResS w' u1 C → ResS w' u2 D → Calls Try.prog 25 #[u1, u2] w' fun e w2 => ∃ o2 c2 L i f, e = .returned (.tuple #[.slice o2 L.length c2, .int .i64 i, .int .i64 f]) ∧ MgE C D L i f ∧ ResS w2 (.slice o2 L.length c2) L ∧ Below w'.heap.size w' w2 := fun u1 u2 w' h1 h2 => by
    refine (merge25 C D u1 u2 w' h1 h2 (sz_of hC) (sz_of hD)).mono ?_
    rintro e w2 ⟨v2, L, i, f, rfl, hE, hO, hb⟩
    have hl := mge_len hE
    rw [List.length_map] at hl
    have hr := own_reads2 hO (by omega)
    obtain ⟨o2, c2, rfl⟩ := slice_shape hr
    exact ⟨o2, c2, _, i, f, rfl, hE, hr, hb⟩
  have hK26 : ∀ (u1 u2 : Value) (w' : World), ResS w' u1 C → ResS w' u2 D → Calls Try.prog 26 #[u1, u2] w' fun e w2 => ∃ o2 c2 L i f, e = .returned (.tuple #[.slice o2 L.length c2, .int .i64 i, .int .i64 f]) ∧ MgE C D L i f ∧ ResS w2 (.slice o2 L.length c2) L ∧ Below w'.heap.size w' w2 := fun u1 u2 w' h1 h2 => by
    refine (merge26 C D u1 u2 w' h1 h2 hC2 hD2).mono ?_
    rintro e w2 ⟨v2, L, i, f, rfl, hE, hr, hb⟩
    obtain ⟨o2, c2, rfl⟩ := slice_shape hr
    exact ⟨o2, c2, _, i, f, rfl, hE, hr, hb⟩
  replace h1 := Lib.hid h1
  replace h2 := Lib.hid h2
  replace hC := Lib.hid hC
  replace hD := Lib.hid hD
  replace hK18 := Lib.hid hK18
  replace hK22 := Lib.hid hK22
  replace hK25 := Lib.hid hK25
  replace hK26 := Lib.hid hK26
  clear hC2 hD2
  go_enter Try.func4, Try.ntmps4
  go_upto_region 2 with (first
    | (go_at_call 18; (with_reducible refine (hK18.out _ _ C h1.out (sz_of hC.out)).mono ?_); rintro e w1 ⟨p1, q1, rfl, ha, hb1⟩; have h21 := Lib.hid (h2.out.below hb1); replace ha := Lib.hid ha; replace hb1 := Lib.hid hb1)
    | (go_at_call 18; (with_reducible refine (hK18.out _ _ D h21.out (sz_of hD.out)).mono ?_); rintro e w2 ⟨p2, q2, rfl, hb, hb2⟩; have ha2 := Lib.hid (ha.out.below hb2); have hB2 := Lib.hid (seq_below hb1.out hb2); replace hb := Lib.hid hb; replace hb2 := Lib.hid hb2)
    | fail)
  go_upto_region 4 with (first
    | (go_at_call 25; (with_reducible refine (hK25.out _ _ _ ha2.out hb.out).mono ?_); rintro e w3 ⟨p3, q3, L3, i3, f3, rfl, hE3, hr3, hb3⟩; have hB3 := Lib.hid (seq_below hB2.out hb3); replace hE3 := Lib.hid hE3; replace hr3 := Lib.hid hr3; replace hb3 := Lib.hid hb3)
    | (go_at_call 26; (with_reducible refine (hK26.out _ _ _ (h1.out.below hB3.out) (h2.out.below hB3.out)).mono ?_); rintro e w4 ⟨p4, q4, L4, i4, f4, rfl, hE4, hr4, hb4⟩; (obtain ⟨rfl, rfl, rfl⟩ := hE4.one hE3.out); have hB4 := Lib.hid (seq_below hB3.out hb4); have hr3' := Lib.hid (hr3.out.below hb4); have ha4 := Lib.hid (ha2.out.below (seq_below hb3.out hb4)); have hb4' := Lib.hid (hb.out.below (seq_below hb3.out hb4)); replace hE4 := Lib.hid hE4; replace hr4 := Lib.hid hr4; replace hb4 := Lib.hid hb4)
    | fail)
  have hcur : Hid (Below w4.heap.size w4 w4) := Lib.hid (Below.refl _ _)
  go_wp2_with (first
    | (go_at_call 21; (with_reducible refine (num21m _ _).mono ?_); rintro e wC ⟨rfl, rfl⟩)
    | (go_at_call 22; (with_reducible refine (hK22.out _ _ _ _ (hr3'.out.below hcur.out) (hr4.out.below hcur.out)).mono ?_); rintro e wC ⟨rfl, hbC⟩; replace hcur := Lib.hid (seq_below hcur.out hbC); clear hbC)
    | (go_at_call 18; (with_reducible refine (hK18.out _ _ C (h1.out.below (seq_below hB4.out hcur.out)) (sz_of hC.out)).mono ?_); rintro e wC ⟨o2, c2, rfl, hv2, hbC⟩; replace hcur := Lib.hid (seq_below hcur.out hbC); replace hv2 := Lib.hid hv2; clear hbC)
    | (go_at_call 18; (with_reducible refine (hK18.out _ _ D (h2.out.below (seq_below hB4.out hcur.out)) (sz_of hD.out)).mono ?_); rintro e wC ⟨o2, c2, rfl, hv2, hbC⟩; replace hcur := Lib.hid (seq_below hcur.out hbC); replace hv2 := Lib.hid hv2; clear hbC)
    | (go_at_call 22; (with_reducible refine (hK22.out _ _ _ C (ha4.out.below hcur.out) hv2.out).mono ?_); rintro e wC ⟨rfl, hbC⟩; replace hcur := Lib.hid (seq_below hcur.out hbC); clear hbC)
    | (go_at_call 22; (with_reducible refine (hK22.out _ _ _ D (hb4'.out.below hcur.out) hv2.out).mono ?_); rintro e wC ⟨rfl, hbC⟩; replace hcur := Lib.hid (seq_below hcur.out hbC); clear hbC)
    | fail)
  go_ret
  exact ⟨rfl, seq_below hB4.out hcur.out⟩
end Go.Proofs.Ytjepgpocmnijiaa
end
