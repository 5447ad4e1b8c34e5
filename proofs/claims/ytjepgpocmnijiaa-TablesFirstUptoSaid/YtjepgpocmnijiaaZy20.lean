/- The walk of paths.Fold: a host, folded byte by byte in a copy. -/
import Derived.Test.YtjepgpocmnijiaaZy0
import Derived.Test.YtjepgpocmnijiaaZy17
import Derived.Test.YtjepgpocmnijiaaZy18
import Derived.Test.YtjepgpocmnijiaaZy19
import Derived.WalkKit
import Derived.Lib.Hide
import Derived.Deep.QuietTactic
import Derived.BigQuiet
import Derived.Test.YtjepgpocmnijiaaZy5
import Derived.Lib.ConvBytes
import Derived.Laws.BytesString
section
/- Plain: blocks that are sorted, then merged two by two. -/
namespace Go.Stab
set_option linter.unusedVariables false
variable {α : Type} {le : α → α → Bool}
/-- k blocks of bs are sorted, the rest stands as it did. -/
structure BlB (le : α → α → Bool) (bs k : Nat) (T0 T : List (α × Nat)) : Prop where
  perm : T.Perm T0
  done : ∀ j, j < k → Good le bs T0 T j
  rest : ∀ j, k ≤ j → seg bs j T = seg bs j T0
/-- k pairs of blocks of bs are merged, the other blocks are sorted. -/
structure Mr (le : α → α → Bool) (bs k : Nat) (T0 T : List (α × Nat)) : Prop where
  perm : T.Perm T0
  done : ∀ j, j < k → Good le (2 * bs) T0 T j
  rest : ∀ j, 2 * k ≤ j → Good le bs T0 T j
theorem seg_cut (bs k : Nat) (T : List α) : T = T.take (k * bs) ++ seg bs k T ++ T.drop ((k + 1) * bs) := by
  unfold seg
  rw [Nat.add_mul, Nat.one_mul, ← List.drop_drop, List.append_assoc, List.take_append_drop, List.take_append_drop]
theorem seg_none {bs k : Nat} {T : List α} (h : T.length ≤ k * bs) : seg bs k T = [] := by unfold seg; rw [List.drop_eq_nil_of_le h, List.take_nil]
theorem seg_tags {L : List α} (bs k : Nat) : (seg bs k L.zipIdx).Pairwise fun x y => x.2 ≤ y.2 := by
  have h : (L.zipIdx).Pairwise fun x y => x.2 ≤ y.2 := by
    rw [List.pairwise_iff_getElem]
    intro i j hi hj hij
    rw [List.getElem_zipIdx, List.getElem_zipIdx]
    simp only
    omega
  exact (h.sublist (List.drop_sublist _ _)).sublist (List.take_sublist _ _)
theorem BlB.start (T0 : List (α × Nat)) (bs : Nat) : BlB le bs 0 T0 T0 := ⟨.refl _, fun j h => absurd h (Nat.not_lt_zero j), fun _ _ => rfl⟩
theorem lt_mul {j k bs : Nat} (h : j < k) : (j + 1) * bs ≤ k * bs := Nat.mul_le_mul_right bs h
theorem BlB.split {L : List α} {T : List (α × Nat)} {bs k : Nat} (hb : 0 < bs) (h : BlB le bs k L.zipIdx T) (hk : k * bs ≤ T.length) :
    ∃ P A Q, T = P ++ A ++ Q ∧ P.length = k * bs ∧ A.length = min bs (T.length - k * bs) ∧ Q.length = T.length - k * bs - A.length ∧ (A.Pairwise fun x y => x.2 ≤ y.2) ∧ ∀ D, D.Perm A → So le D → BlB le bs (k + 1) L.zipIdx (P ++ D ++ Q) := by
  have hlp : (T.take (k * bs)).length = k * bs := by rw [List.length_take]; omega
  have hla := seg_len bs k T
  have e1 : (k + 1) * bs = k * bs + bs := by rw [Nat.add_mul, Nat.one_mul]
  refine ⟨T.take (k * bs), seg bs k T, T.drop ((k + 1) * bs), seg_cut bs k T, hlp, hla, by rw [List.length_drop, hla]; omega, by rw [h.rest k (Nat.le_refl _)]; exact seg_tags bs k, fun D hD hs => ?_⟩
  have hDl := hD.length_eq
  have hcut := seg_cut bs k T
  have hQ : D.length = bs ∨ T.drop ((k + 1) * bs) = [] := by
    rcases Nat.lt_or_ge (T.length - k * bs) bs with hl | hl
    · exact .inr (List.drop_eq_nil_of_le (by omega))
    · exact .inl (by rw [hDl, hla]; omega)
  have hin : seg bs k (T.take (k * bs) ++ D ++ T.drop ((k + 1) * bs)) = D := seg_in hlp (by rw [hDl, hla]; omega) hQ
  refine ⟨?_, fun j hj => ?_, fun j hj => ?_⟩
  · refine List.Perm.trans ?_ h.perm
    conv => rhs; rw [hcut]
    exact (hD.append_left _).append_right _
  · rcases Nat.lt_or_ge j k with hl | hl
    · have := h.done j hl
      unfold Good at this ⊢
      rw [seg_out (A := seg bs k T) hDl (.inl (by rw [hlp]; exact lt_mul hl)), ← hcut]
      exact this
    · have : j = k := by omega
      subst this
      unfold Good
      rw [hin]
      exact ⟨hs, by rw [← h.rest j (Nat.le_refl _)]; exact hD⟩
  · rw [seg_out (A := seg bs k T) hDl (.inr (by rw [hlp, hla]; have := lt_mul (bs := bs) hj; rw [e1] at this; omega)), ← hcut]
    exact h.rest j (by omega)
theorem good_none {bs j : Nat} {T T0 : List (α × Nat)} (hl : T.length = T0.length) (h : T.length ≤ j * bs) : Good le bs T0 T j := by
  unfold Good
  rw [seg_none h, seg_none (by omega)]
  exact ⟨.nil, .refl _⟩
theorem BlB.fin {T T0 : List (α × Nat)} {bs k : Nat} (h : BlB le bs k T0 T) (hk : T.length ≤ k * bs) (j : Nat) : Good le bs T0 T j := by
  rcases Nat.lt_or_ge j k with hl | hl
  · exact h.done j hl
  · exact good_none h.perm.length_eq (Nat.le_trans hk (Nat.mul_le_mul_right bs hl))
theorem Mr.start {T T0 : List (α × Nat)} {bs : Nat} (hp : T.Perm T0) (h : ∀ j, Good le bs T0 T j) : Mr le bs 0 T0 T := ⟨hp, fun j h => absurd h (Nat.not_lt_zero j), fun j _ => h j⟩
theorem Mr.split {L : List α} {T : List (α × Nat)} {bs k : Nat} (hb : 0 < bs) (h : Mr le bs k L.zipIdx T) (hk : k * (2 * bs) + bs < T.length) :
    ∃ P A C Q, T = P ++ (A ++ C) ++ Q ∧ P.length = k * (2 * bs) ∧ A.length = bs ∧ C.length = min bs (T.length - (k * (2 * bs) + bs)) ∧ Q.length = T.length - (k * (2 * bs) + bs) - C.length ∧ So le A ∧ So le C ∧ Lw A C ∧ ∀ D, D.Perm (A ++ C) → So le D → Mr le bs (k + 1) L.zipIdx (P ++ D ++ Q) := by
  have hlp : (T.take (k * (2 * bs))).length = k * (2 * bs) := by rw [List.length_take]; omega
  have ek : 2 * k * bs = k * (2 * bs) := by rw [Nat.mul_comm 2 k, Nat.mul_assoc]
  have ek1 : (2 * k + 1) * bs = k * (2 * bs) + bs := by rw [Nat.add_mul, Nat.one_mul, ek]
  have hla : (seg bs (2 * k) T).length = bs := by rw [seg_len, ek]; omega
  have hlc := seg_len bs (2 * k + 1) T
  rw [ek1] at hlc
  have hcut := seg_cut (2 * bs) k T
  have htwo := seg_two bs k T
  have e1 : (k + 1) * (2 * bs) = k * (2 * bs) + 2 * bs := by rw [Nat.add_mul, Nat.one_mul]
  obtain ⟨gA, gA2⟩ := h.rest (2 * k) (Nat.le_refl _)
  obtain ⟨gC, gC2⟩ := h.rest (2 * k + 1) (by omega)
  refine ⟨T.take (k * (2 * bs)), seg bs (2 * k) T, seg bs (2 * k + 1) T, T.drop ((k + 1) * (2 * bs)), by rw [← htwo]; exact hcut, hlp, hla, hlc, by rw [List.length_drop, hlc]; omega, gA, gC, seg_low gA2 gC2, fun D hD hs => ?_⟩
  have hDl : D.length = (seg (2 * bs) k T).length := by rw [hD.length_eq, htwo]
  have hDn : D.length = bs + min bs (T.length - (k * (2 * bs) + bs)) := by rw [hD.length_eq, List.length_append, hla, hlc]
  have hQ : D.length = 2 * bs ∨ T.drop ((k + 1) * (2 * bs)) = [] := by
    rcases Nat.lt_or_ge (T.length - (k * (2 * bs) + bs)) bs with hl | hl
    · exact .inr (List.drop_eq_nil_of_le (by omega))
    · exact .inl (by rw [hDn]; omega)
  have hin : seg (2 * bs) k (T.take (k * (2 * bs)) ++ D ++ T.drop ((k + 1) * (2 * bs))) = D := seg_in hlp (by rw [hDn]; omega) hQ
  refine ⟨?_, fun j hj => ?_, fun j hj => ?_⟩
  · refine List.Perm.trans ?_ h.perm
    conv => rhs; rw [hcut]
    rw [htwo]
    exact (hD.append_left _).append_right _
  · rcases Nat.lt_or_ge j k with hl | hl
    · have := h.done j hl
      unfold Good at this ⊢
      rw [seg_out (A := seg (2 * bs) k T) hDl (.inl (by rw [hlp]; exact lt_mul hl)), ← hcut]
      exact this
    · have : j = k := by omega
      subst this
      unfold Good
      rw [hin]
      refine ⟨hs, hD.trans ?_⟩
      rw [seg_two]
      exact gA2.append gC2
  · have := h.rest j (by omega)
    have hj2 : k * (2 * bs) + 2 * bs ≤ j * bs := by
      have := Nat.mul_le_mul_right bs hj
      rw [show 2 * (k + 1) * bs = (k + 1) * (2 * bs) by rw [Nat.mul_comm 2 (k + 1), Nat.mul_assoc], e1] at this
      exact this
    unfold Good at this ⊢
    rw [seg_out (A := seg (2 * bs) k T) hDl (.inr (by rw [hlp, ← hDl, hDn]; omega)), ← hcut]
    exact this
theorem Mr.fin {T T0 : List (α × Nat)} {bs k : Nat} (h : Mr le bs k T0 T) (hk : T.length ≤ k * (2 * bs) + bs) (j : Nat) : Good le (2 * bs) T0 T j := by
  have hl := h.perm.length_eq
  rcases Nat.lt_or_ge j k with hj | hj
  · exact h.done j hj
  · have ej : 2 * j * bs = j * (2 * bs) := by rw [Nat.mul_comm 2 j, Nat.mul_assoc]
    have ej1 : (2 * j + 1) * bs = j * (2 * bs) + bs := by rw [Nat.add_mul, Nat.one_mul, ej]
    have hm : k * (2 * bs) ≤ j * (2 * bs) := Nat.mul_le_mul_right _ hj
    obtain ⟨g1, g2⟩ := h.rest (2 * j) (by omega)
    unfold Good
    rw [seg_two, seg_two, seg_none (k := 2 * j + 1) (T := T) (by omega), seg_none (k := 2 * j + 1) (T := T0) (by omega), List.append_nil, List.append_nil]
    exact ⟨g1, g2⟩
end Go.Stab
end

section
/- A row of hosts, sorted: equals keep their order. -/
namespace Go.Proofs.Ytjepgpocmnijiaa
open Go.RowKit Go.Mp Go.Ck Go.Stab
set_option linter.unusedVariables false
set_option maxRecDepth 100000
set_option maxHeartbeats 8000000
theorem sym156 {c : HV → HV → Int} {S : HV → Prop} (hK : CmpK c S) {B g cap N : Nat} (hN2 : N ≤ 4194304) : ∀ s, SymK c S B g cap N s := by
  intro s
  induction s with
  | zero => intro wx P A C Q a m b h; exact absurd h (Nat.not_lt_zero _)
  | succ s ih =>
    intro wx P A C Q a m b hs ha hm hb hA0 hC0 hN hS sA sC hl h
    by_cases hA1 : A.length = 1
    · obtain ⟨x, rfl⟩ := List.length_eq_one_iff.1 hA1
      exact sym_left hK (C := C) (x := x) ha (by rw [hm, hA1]) hb (by rw [hN, hA1]; omega) hN2 (hS x (by simp)) (fun t ht => hS t (by simp [ht])) sC (fun t ht => hl x (by simp) t ht) h
    · by_cases hC1 : C.length = 1
      · obtain ⟨y, rfl⟩ := List.length_eq_one_iff.1 hC1
        exact sym_right hK (A := A) (y := y) ha hm (by rw [hb, hC1]) hA1 (by rw [hN, hC1]) hN2 (hS y (by simp)) (fun t ht => hS t (by simp [ht])) sA (fun t ht => hl t ht y (by simp)) h
      · refine sym_gen hK ha hm hb (by omega) (by omega) hN hN2 hS sA sC hl ?_ h
        intro wx P A' C' Q a m b hs'
        exact ih wx P A' C' Q a m b (by omega)
def row (T : List (HV × Nat)) : List HV := T.map (·.1)
theorem row_lay {T P A Q : List (HV × Nat)} (h : T = P ++ A ++ Q) : row T = lay P A Q := by rw [h]; rfl
theorem row_zip (L : List HV) : row L.zipIdx = L := by unfold row; exact List.zipIdx_map_fst 0 L
theorem stable138 {c : HV → HV → Int} {S : HV → Prop} (hK : CmpK c S) {w : World} {B g cap : Nat} {L : List HV} {N : Nat} (hN : N = L.length) (hN2 : N ≤ 4194304) (hS : ∀ x ∈ L, S x)
    (h : HR w B g cap L) : Calls Try.prog 138 #[.slice (some ⟨g, 0, none⟩) N cap, .int .i64 N, cmpF] w fun e w' => e = .returned (.tuple #[]) ∧ HR w' B g cap (L.mergeSort (leC c)) ∧ Tch (fun k => k = g) w w' := by
  have h0 : Hid (HR w B g cap (row L.zipIdx)) := Lib.hid (by rw [row_zip]; exact h)
  have hlen : ∀ T : List (HV × Nat), T.Perm L.zipIdx → T.length = N := fun T hp => by rw [hp.length_eq, List.length_zipIdx, hN]
  have hST : ∀ T : List (HV × Nat), T.Perm L.zipIdx → ∀ t ∈ T, S t.1 := fun T hp t ht => by
    have := List.mem_map_of_mem (f := (·.1)) (hp.mem_iff.1 ht)
    rw [List.zipIdx_map_fst] at this
    exact hS _ this
  have hT0 := Lib.hid (Tch.refl (fun k => k = g) w)
  replace h := Lib.hid h
  replace hK := Lib.hid hK
  replace hN := Lib.hid hN
  replace hS := Lib.hid hS
  replace hlen := Lib.hid hlen
  replace hST := Lib.hid hST
  go_enter Try.func138, Try.ntmps138
  go_wp2
  go_loopg [7, 8] (N + 1) (fun gg ac bc wx => ∃ (k a b : Nat) (T : List (HV × Nat)), gg = N - a + 1 ∧ ac = .int .i64 a ∧ bc = .int .i64 b ∧ Hid (a = k * 20) ∧ Hid (b = a + 20) ∧ Hid (a ≤ N) ∧ Hid (BlB (leC c) 20 k L.zipIdx T) ∧ Hid (HR wx B g cap (row T)) ∧ Hid (Tch (fun k => k = g) w wx))
  case atStart => exact ⟨0, 0, 20, _, rfl, rfl, rfl, Lib.hid rfl, Lib.hid rfl, Lib.hid (Nat.zero_le _), Lib.hid (BlB.start _ _), h0, hT0⟩
  case round =>
    clear h0 hT0 h
    obtain ⟨k, a, b, T, rfl, rfl, rfl, hak, hba, haN, hI, hR, hT⟩ := hrel
    have hTl := hlen.out T hI.out.perm
    have hak' := hak.out
    have hba' := hba.out
    have haN' := haN.out
    obtain ⟨P, A, Q, eT, lP, lA, lQ, tA, hnx⟩ := hI.out.split (by omega) (by omega)
    have hSA : ∀ t ∈ A, S t.1 := fun t ht => hST.out T hI.out.perm t (by rw [eT]; simp [ht])
    have hRl : HR wr B g cap (lay P A Q) := by rw [← row_lay eT]; exact hR.out
    by_cases hlt : b ≤ N
    · have hk0 : (b : Int) ≤ (N : Int) := by omega
      have hcall := Lib.hid (ins155 hK.out (a := a) (b := b) (N := N) (by omega) (by omega) (by omega) hN2 hSA tA hRl)
      obtain ⟨b', hb'⟩ : ∃ b', b' = b + 20 := ⟨_, rfl⟩
      have g1 : IntKind.i64.wrap ((b : Int) + 20) = (b' : Int) := by rw [IntKind.wrap_i64]; omega
      replace hTl := Lib.hid hTl
      replace hak' := Lib.hid hak'
      replace hba' := Lib.hid hba'
      replace haN' := Lib.hid haN'
      replace eT := Lib.hid eT
      replace lP := Lib.hid lP
      replace lA := Lib.hid lA
      replace lQ := Lib.hid lQ
      replace tA := Lib.hid tA
      replace hnx := Lib.hid hnx
      replace hSA := Lib.hid hSA
      replace hRl := Lib.hid hRl
      replace hb' := Lib.hid hb'
      clear hI hR
      go_wp2_with (first
        | (go_at_call 155; (with_reducible refine hcall.out.mono ?_); rintro e wC ⟨rfl, D, hD1, hD2, hR2, hT2⟩; have hI2 := Lib.hid (hnx.out D hD1 hD2); replace hR2 := Lib.hid hR2; replace hT2 := Lib.hid (hT.out.trans hT2 (fun k h => .inl h)); clear hD1 hD2)
        | fail)
      go_roundg (N - b + 1)
      case rel => exact ⟨k + 1, b, b', P ++ D ++ Q, rfl, rfl, by first | rfl | rw [g1] | go_num, Lib.hid (by have := hak'.out; have := hba'.out; omega), hb', Lib.hid hlt, hI2, hR2, hT2⟩
      case measure => have := hba'.out; omega
    · have hk0 : decide ((b : Int) ≤ (N : Int)) = false := decide_eq_false (by omega)
      have hk1 : ¬ (b : Int) ≤ (N : Int) := by omega
      have hcall := Lib.hid (ins155 hK.out (a := a) (b := N) (N := N) (by omega) (by omega) (by omega) hN2 hSA tA hRl)
      replace hTl := Lib.hid hTl
      replace hak' := Lib.hid hak'
      replace hba' := Lib.hid hba'
      replace haN' := Lib.hid haN'
      replace eT := Lib.hid eT
      replace lP := Lib.hid lP
      replace lA := Lib.hid lA
      replace lQ := Lib.hid lQ
      replace tA := Lib.hid tA
      replace hnx := Lib.hid hnx
      replace hSA := Lib.hid hSA
      replace hRl := Lib.hid hRl
      clear hI hR
      go_wp2_with (first
        | (go_at_call 155; (with_reducible refine hcall.out.mono ?_); rintro e wC ⟨rfl, D, hD1, hD2, hR2, hT2⟩; have hI2 := Lib.hid (hnx.out D hD1 hD2); replace hR2 := Lib.hid hR2; replace hT2 := Lib.hid (hT.out.trans hT2 (fun k h => .inl h)); clear hD1 hD2)
        | fail)
      have hG : Hid (∀ j, Stab.Good (leC c) 20 L.zipIdx (P ++ D ++ Q) j) := Lib.hid (hI2.out.fin (by have := hlen.out _ hI2.out.perm; have := hak'.out; have := hba'.out; omega))
      have hpD := Lib.hid hI2.out.perm
      go_loopg [6] (N - 20 + 1) (fun gg bc wx => ∃ (bs : Nat) (T : List (HV × Nat)), gg = N - bs + 1 ∧ bc = .int .i64 bs ∧ Hid (20 ≤ bs) ∧ Hid (T.Perm L.zipIdx) ∧ Hid (∀ j, Stab.Good (leC c) bs L.zipIdx T j) ∧ Hid (HR wx B g cap (row T)) ∧ Hid (Tch (fun k => k = g) w wx))
      case atStart => exact ⟨20, _, rfl, rfl, Lib.hid (Nat.le_refl _), hpD, hG, hR2, hT2⟩
      case round =>
        clear hG hpD hR2 hT2 hI2 hT hcall hRl hnx hSA
        obtain ⟨bs, T, rfl, rfl, hbs, hpT, hG, hR, hT⟩ := hrel
        by_cases hlt2 : bs < N
        · have hk2 : (bs : Int) < (N : Int) := nn_lt hlt2
          have hbs' := hbs.out
          obtain ⟨b2, hb2⟩ : ∃ b2, b2 = 2 * bs := ⟨_, rfl⟩
          have g1 : IntKind.i64.wrap (2 * (bs : Int)) = (b2 : Int) := by rw [IntKind.wrap_i64]; omega
          have g2 : IntKind.i64.wrap ((bs : Int) * 2) = (b2 : Int) := by rw [IntKind.wrap_i64]; omega
          have hM0 : Hid (Mr (leC c) bs 0 L.zipIdx T) := Lib.hid (Mr.start hpT.out hG.out)
          replace hbs' := Lib.hid hbs'
          replace hb2 := Lib.hid hb2
          clear hG hpT
          go_wp2
          go_loopg [7, 8] (N + 1) (fun gg ac bc wx => ∃ (k a b : Nat) (T : List (HV × Nat)), gg = N - a + 1 ∧ ac = .int .i64 a ∧ bc = .int .i64 b ∧ Hid (a = k * b2) ∧ Hid (b = a + b2) ∧ Hid (a ≤ N) ∧ Hid (Mr (leC c) bs k L.zipIdx T) ∧ Hid (HR wx B g cap (row T)) ∧ Hid (Tch (fun k => k = g) w wx))
          case atStart => exact ⟨0, 0, b2, T, rfl, rfl, rfl, Lib.hid (by rw [Nat.zero_mul]), Lib.hid (by rw [Nat.zero_add]), Lib.hid (Nat.zero_le _), hM0, hR, hT⟩
          case round =>
            clear hM0 hR hT
            obtain ⟨k, a, b, T, rfl, rfl, rfl, hak, hba, haN, hM, hR, hT⟩ := hrel
            have hTl := hlen.out T hM.out.perm
            have hak2 := hak.out
            have hba2 := hba.out
            have haN2 := haN.out
            have hb2' := hb2.out
            have hbs2 := hbs'.out
            have eK : k * (2 * bs) = a := by rw [hak2, hb2']
            obtain ⟨m, hm⟩ : ∃ m, m = a + bs := ⟨_, rfl⟩
            have g3 : IntKind.i64.wrap ((a : Int) + (bs : Int)) = (m : Int) := by rw [IntKind.wrap_i64]; omega
            by_cases hlt3 : b ≤ N
            · have hk3 : (b : Int) ≤ (N : Int) := by omega
              obtain ⟨P2, A2, C2, Q2, eT2, lP2, lA2, lC2, lQ2, sA2, sC2, lw2, hnx2⟩ := hM.out.split (by omega) (by omega)
              rw [eK] at lC2 lQ2 lP2
              have hcall2 := Lib.hid (sym156 hK.out hN2 (A2.length + C2.length + 1) wr P2 A2 C2 Q2 a m b (by omega) (by omega) (by omega) (by omega) (by omega) (by omega) (by omega) (fun t ht => hST.out T hM.out.perm t (by rw [eT2]; exact List.mem_append_left _ (List.mem_append_right _ ht))) sA2 sC2 lw2 (by rw [← row_lay eT2]; exact hR.out))
              obtain ⟨b', hb'⟩ : ∃ b', b' = b + b2 := ⟨_, rfl⟩
              have g4 : IntKind.i64.wrap ((b : Int) + (b2 : Int)) = (b' : Int) := by rw [IntKind.wrap_i64]; omega
              replace hb' := Lib.hid hb'
              replace hTl := Lib.hid hTl
              replace hak2 := Lib.hid hak2
              replace hba2 := Lib.hid hba2
              replace haN2 := Lib.hid haN2
              replace hb2' := Lib.hid hb2'
              replace hbs2 := Lib.hid hbs2
              replace hm := Lib.hid hm
              replace eK := Lib.hid eK
              replace eT2 := Lib.hid eT2
              replace lP2 := Lib.hid lP2
              replace lA2 := Lib.hid lA2
              replace lC2 := Lib.hid lC2
              replace lQ2 := Lib.hid lQ2
              replace sA2 := Lib.hid sA2
              replace sC2 := Lib.hid sC2
              replace lw2 := Lib.hid lw2
              replace hnx2 := Lib.hid hnx2
              clear hM hR
              go_wp2_with (first
                | (go_at_call 156; (with_reducible refine hcall2.out.mono ?_); unfold MgO; rintro e wD ⟨rfl, D2, hD1, hD2, hR2, hT2⟩; have hI2 := Lib.hid (hnx2.out D2 hD1 hD2); replace hR2 := Lib.hid hR2; replace hT2 := Lib.hid (hT.out.trans hT2 (fun k h => .inl h)); clear hD1 hD2)
                | fail)
              go_roundg (N - b + 1)
              case rel => exact ⟨k + 1, b, b', P2 ++ D2 ++ Q2, rfl, rfl, by first | rfl | rw [g4] | go_num, Lib.hid (by have := hak2.out; have := hba2.out; rw [Nat.add_mul, Nat.one_mul]; omega), hb', Lib.hid hlt3, hI2, hR2, hT2⟩
              case measure => have := hba2.out; have := hb2'.out; have := hbs2.out; omega
            · have hk3 : decide ((b : Int) ≤ (N : Int)) = false := decide_eq_false (by omega)
              have hk4 : ¬ (b : Int) ≤ (N : Int) := by omega
              by_cases hlt4 : m < N
              · have hk5 : (m : Int) < (N : Int) := by omega
                obtain ⟨P2, A2, C2, Q2, eT2, lP2, lA2, lC2, lQ2, sA2, sC2, lw2, hnx2⟩ := hM.out.split (by omega) (by omega)
                rw [eK] at lC2 lQ2 lP2
                have hcall2 := Lib.hid (sym156 hK.out hN2 (A2.length + C2.length + 1) wr P2 A2 C2 Q2 a m N (by omega) (by omega) (by omega) (by omega) (by omega) (by omega) (by omega) (fun t ht => hST.out T hM.out.perm t (by rw [eT2]; exact List.mem_append_left _ (List.mem_append_right _ ht))) sA2 sC2 lw2 (by rw [← row_lay eT2]; exact hR.out))
                replace hTl := Lib.hid hTl
                replace hak2 := Lib.hid hak2
                replace hba2 := Lib.hid hba2
                replace haN2 := Lib.hid haN2
                replace hb2' := Lib.hid hb2'
                replace hbs2 := Lib.hid hbs2
                replace hm := Lib.hid hm
                replace eK := Lib.hid eK
                replace eT2 := Lib.hid eT2
                replace lP2 := Lib.hid lP2
                replace lA2 := Lib.hid lA2
                replace lC2 := Lib.hid lC2
                replace lQ2 := Lib.hid lQ2
                replace sA2 := Lib.hid sA2
                replace sC2 := Lib.hid sC2
                replace lw2 := Lib.hid lw2
                replace hnx2 := Lib.hid hnx2
                replace hlt4 := Lib.hid hlt4
                clear hM hR
                go_wp2_with (first
                  | (go_at_call 156; (with_reducible refine hcall2.out.mono ?_); unfold MgO; rintro e wD ⟨rfl, D2, hD1, hD2, hR2, hT2⟩; have hI2 := Lib.hid (hnx2.out D2 hD1 hD2); replace hR2 := Lib.hid hR2; replace hT2 := Lib.hid (hT.out.trans hT2 (fun k h => .inl h)); clear hD1 hD2)
                  | fail)
                have hG2 : Hid (∀ j, Stab.Good (leC c) b2 L.zipIdx (P2 ++ D2 ++ Q2) j) := Lib.hid (fun j => by
                  have h1 := hlen.out _ hI2.out.perm
                  have h2 := eK.out
                  have h3 := hba2.out
                  have h4 := hb2'.out
                  rw [h4]
                  exact hI2.out.fin (by rw [Nat.add_mul, Nat.one_mul, h2]; omega) j)
                go_roundg (N - b2 + 1)
                case rel => exact ⟨b2, _, rfl, by first | rfl | rw [g2] | go_num, Lib.hid (by have := hb2'.out; have := hbs2.out; omega), Lib.hid hI2.out.perm, hG2, hR2, hT2⟩
                case measure => have := hb2'.out; have := hbs2.out; omega
              · have hk5 : decide ((m : Int) < (N : Int)) = false := decide_eq_false (by omega)
                have hk6 : ¬ (m : Int) < (N : Int) := by omega
                have hG2 : Hid (∀ j, Stab.Good (leC c) b2 L.zipIdx T j) := Lib.hid (fun j => by
                  rw [hb2']
                  exact hM.out.fin (by rw [eK]; omega) j)
                have hpm := Lib.hid hM.out.perm
                replace hTl := Lib.hid hTl
                replace hak2 := Lib.hid hak2
                replace hba2 := Lib.hid hba2
                replace haN2 := Lib.hid haN2
                replace hb2' := Lib.hid hb2'
                replace hbs2 := Lib.hid hbs2
                replace hm := Lib.hid hm
                replace eK := Lib.hid eK
                replace hlt4 := Lib.hid hlt4
                clear hM
                go_wp2
                go_roundg (N - b2 + 1)
                case rel => exact ⟨b2, T, rfl, by first | rfl | rw [g2] | go_num, Lib.hid (by have := hb2'.out; have := hbs2.out; omega), hpm, hG2, hR, hT⟩
                case measure => have := hb2'.out; have := hbs2.out; omega
        · have hk2 : decide ((bs : Int) < (N : Int)) = false := decide_eq_false (by omega)
          have hk3 : ¬ (bs : Int) < (N : Int) := by omega
          obtain ⟨hfs, hfp⟩ := good_all (by rw [hlen.out T hpT.out]; omega) (hpT.out.length_eq.symm) (hG.out 0)
          have hfin := unique hK.out.tot hfp hfs
          have hRf : Hid (HR wr B g cap (L.mergeSort (leC c))) := Lib.hid (by rw [← hfin]; exact hR.out)
          replace hfs := Lib.hid hfs
          replace hfp := Lib.hid hfp
          replace hfin := Lib.hid hfin
          go_wp2
          refine bodyPost_end (results_none rfl _ _ _) rfl ?_
          exact ⟨rfl, hRf.out, hT.out⟩
theorem sort101 {c : HV → HV → Int} {S : HV → Prop} (hK : CmpK c S) {w : World} {B g cap : Nat} {L : List HV} {N : Nat} (hN : N = L.length) (hN2 : N ≤ 4194304) (hS : ∀ x ∈ L, S x)
    (h : HR w B g cap L) : Calls Try.prog 101 #[.slice (some ⟨g, 0, none⟩) N cap, cmpF] w fun e w' => e = .returned (.tuple #[]) ∧ HR w' B g cap (L.mergeSort (leC c)) ∧ Tch (fun k => k = g) w w' := by
  have hcall := Lib.hid (stable138 hK hN hN2 hS h)
  replace h := Lib.hid h
  replace hK := Lib.hid hK
  replace hN := Lib.hid hN
  replace hS := Lib.hid hS
  go_enter Try.func101, Try.ntmps101
  go_wp2_with (first
    | (go_at_call 138; (with_reducible refine hcall.out.mono ?_); rintro e wC ⟨rfl, hR2, hT2⟩; replace hR2 := Lib.hid hR2; replace hT2 := Lib.hid hT2)
    | fail)
  refine bodyPost_end (results_none rfl _ _ _) rfl ?_
  exact ⟨rfl, hR2.out, hT2.out⟩
end Go.Proofs.Ytjepgpocmnijiaa
end

section
/- Small laws on memory that the walks of this seat share: an append of one element, stated with what it leaves. -/
namespace Go.Tp
open Go.RowKit

theorem grownBy_alloc_left {w w' : World} {o : Obj} {row : Option Nat} (h : (w.alloc o).grownBy w' row) : w.grownBy w' row :=
  ⟨h.os, h.tape, h.output, Nat.le_trans (by simp) h.size, fun k hk hne => (h.block k (by simp; omega) hne).trans (Below.heap_alloc w o k hk)⟩

/-- The value is a slice of doubles that reads as the list (a nil one as the empty list). -/
def RdF (w : World) (v : Value) (ls : List Nat) : Prop :=
  ∃ ao cap, v = .slice ao ls.length cap ∧ (ls = [] ∨ ∃ b off, ao = some ⟨b, off, none⟩ ∧ b < w.heap.size ∧ ∀ i, i < ls.length → w.cell? ⟨b, off + i, none⟩ = some (.float .f64 (ls.getD i 0)))
theorem RdF.below {w w' : World} {v : Value} {ls : List Nat} (h : RdF w v ls) (hb : Below w.heap.size w w') : RdF w' v ls := by
  obtain ⟨ao, cap, rfl, h⟩ := h
  refine ⟨ao, cap, rfl, ?_⟩
  rcases h with h | ⟨b, off, rfl, hb', hc⟩
  · exact .inl h
  · exact .inr ⟨b, off, rfl, Nat.lt_of_lt_of_le hb' hb.size, fun i hi => (hb.cell (by exact hb')).trans (hc i hi)⟩
theorem RdF.own {w : World} {base e : Nat} {v : Value} {ls : List Nat} (h : w.ownsRow base e 1 v ls.length (ls.map (Value.float .f64))) : RdF w v ls := by
  rcases h.2 with ⟨rfl, h0⟩ | ⟨g, cap, cur, rfl, hbg, hg, r⟩
  · exact ⟨none, 0, by rw [h0], .inl (List.eq_nil_of_length_eq_zero h0)⟩
  · refine ⟨_, cap, rfl, .inr ⟨g, 0, rfl, (Array.getElem?_eq_some_iff.1 hg).1, fun i hi => ?_⟩⟩
    rw [Nat.zero_add, h.cellAt i (by omega)]
    simp [List.getD, hi]
@[go_sem] theorem run_store_float {P : Program} (w : World) (a : Addr) (m : Mode) (n : Nat) : (store a (.float .f64 n) m).run P w = stored P w a (.float .f64 n) m := run_store P w a _ m rfl
theorem RdF.drewN {w : World} {v : Value} {ls : List Nat} (h : RdF w v ls) (n : Nat) : RdF (w.drewN n) v ls := h.below ⟨rfl, rfl, rfl, Nat.le_refl _, fun _ _ => rfl⟩
theorem Below_drewN {B : Nat} {w : World} (n : Nat) : Below B w (w.drewN n) := ⟨rfl, rfl, rfl, Nat.le_refl _, fun _ _ => rfl⟩
theorem Below_alloc (w : World) (o : Obj) : Below w.heap.size w (w.alloc o) := (Below.refl _ _).alloc (Nat.le_refl _) o
theorem Below_seq {a b c : World} (h : Below a.heap.size a b) (k : Below b.heap.size b c) : Below a.heap.size a c := h.trans (k.mono h.size)
section
variable {P : Program}
end
theorem RdF.src {w : World} {ao : Option Addr} {n cap : Nat} {ls : List Nat} (h : RdF w (.slice ao n cap) ls) : ∀ j u, (ls.map (Value.float .f64))[j]? = some u → ∃ ad, ao = some ad ∧ w.cell? (ad.add j) = some u := by
  obtain ⟨ao', cap', e, h⟩ := h
  cases e
  intro j u hj
  rcases h with rfl | ⟨b, off, rfl, _, hc⟩
  · simp at hj
  · refine ⟨_, rfl, ?_⟩
    have hjl : j < ls.length := by
      rcases Nat.lt_or_ge j ls.length with h | h
      · exact h
      · rw [List.getElem?_eq_none (by simpa using h)] at hj; cases hj
    have e : (⟨b, off, none⟩ : Addr).add j = ⟨b, off + j, none⟩ := by unfold Addr.add; split <;> simp_all
    rw [e, hc j hjl]
    rw [List.getElem?_map] at hj
    simp [hjl] at hj
    rw [← hj]; simp [List.getD, hjl]
end Go.Tp
end

section

namespace Go.Tp
open Go.RowKit
/-- 'string(b)' of a slice whose cells are these bytes. -/
theorem run_string_of_cells {P : Program} (w : World) (src dst e : TypeId) (a : Addr) (l : List UInt8) (n cap : Nat) (hn : l.length = n)
    (hs : P.underlying src = some (.slice e)) (he : P.underlying e = some (.int .u8)) (hd : P.underlying dst = some .string)
    (h : ∀ j, j < l.length → w.cell? (a.add j) = some (.int .u8 ((l.getD j 0).toNat : Int))) :
    (convert src dst (.slice (some a) n cap)).run P w = .ok (.string ⟨l.toArray⟩) w := by
  subst hn
  rw [run_convert_bytes_string w src dst e (some a) _ cap hs he hd]
  have h2 := run_loadCells_list (P := P) (w := w) a (l.map fun c => Value.int .u8 (c.toNat : Int)) (fun j v hv => by
    rw [List.getElem?_map] at hv
    obtain ⟨c, hc, rfl⟩ := Option.map_eq_some_iff.1 hv
    have hj := (List.getElem?_eq_some_iff.1 hc).1
    rw [h j hj]
    simp [List.getD, hc])
  rw [List.length_map] at h2
  have h3 := run_bytesToString (P := P) w a l.length cap (l.map fun c => (c.toNat : Int)) (by rw [h2]; simp)
  rw [h3]
  congr 2
  have hf : ∀ (l : List UInt8) (acc : ByteArray), (l.map fun c => (c.toNat : Int)).foldl (fun (r : ByteArray) n => r.push (UInt8.ofNat n.toNat)) acc = ⟨acc.data ++ l.toArray⟩ := by
    intro l
    induction l with
    | nil => intro acc; obtain ⟨d⟩ := acc; simp
    | cons c r ih =>
      intro acc
      rw [List.map_cons, List.foldl_cons, ih]
      obtain ⟨d⟩ := acc
      simp [ByteArray.push]
  rw [hf]
  show (⟨#[] ++ l.toArray⟩ : ByteArray) = _
  simp
theorem frozen_marked (w : World) (g j : Nat) (cs : Array Value) (t : TypeId) (a b : Nat) (hg : w.heap[g]? = some (.cells cs t (a, b))) (h : j < a) : w.frozen? ⟨g, j, none⟩ = false := by
  simp [World.frozen?, hg]; omega
theorem heap_set_m {w : World} {b i : Nat} {c : Array Value} {T : TypeId} {m : Nat × Nat} (v : Value) (h : w.heap[b]? = some (.cells c T m)) : (w.setCell ⟨b, i, none⟩ v).heap[b]? = some (.cells (c.setIfInBounds i v) T m) := by
  simp [World.setCell, Array.getElem?_modify, h]
end Go.Tp
namespace Go.Proofs.Ytjepgpocmnijiaa
open Go.ChangeShapes Go.WideShapes Go.ChangeAt Go.RowKit
open Go.Pa
set_option linter.unusedVariables false
set_option maxRecDepth 100000

def vb (c : UInt8) : Value := .int .u8 (c.toNat : Int)
/-- The copy's block behind k bytes. -/
structure FInv (w : World) (l : Bs) (k : Nat) (wr : World) : Prop where
  blk : ∃ (row : Array Value) (N : Nat), wr.heap[w.heap.size]? = some (.cells row 5 (N, N + 1)) ∧ l.length ≤ N ∧ row.size = N ∧ ∀ j, j < l.length → row[j]? = some (vb (if j < k then lowc (l.getD j 0) else l.getD j 0))
  below : Below w.heap.size w wr
theorem FInv.at {w wr : World} {l : Bs} {k : Nat} (h : FInv w l k wr) (hk : k < l.length) : wr.cell? ⟨w.heap.size, k, none⟩ = some (vb (l.getD k 0)) ∧ wr.frozen? ⟨w.heap.size, k, none⟩ = false := by
  obtain ⟨⟨row, N, h1, h2, h3, h4⟩, _⟩ := h
  refine ⟨?_, Tp.frozen_marked wr _ _ _ _ _ _ h1 (by omega)⟩
  rw [cell_of_row wr _ _ _ _ _ h1, h4 k hk, if_neg (by omega)]
theorem FInv.keep {w wr : World} {l : Bs} {k : Nat} (h : FInv w l k wr) (hk : k < l.length) (hc : lowc (l.getD k 0) = l.getD k 0) : FInv w l (k + 1) wr := by
  obtain ⟨⟨row, N, h1, h2, h3, h4⟩, h5⟩ := h
  refine ⟨⟨row, N, h1, h2, h3, fun j hj => ?_⟩, h5⟩
  rw [h4 j hj]
  rcases Nat.lt_trichotomy j k with h | h | h
  · rw [if_pos h, if_pos (by omega)]
  · subst h; rw [if_neg (by omega), if_pos (by omega), hc]
  · rw [if_neg (by omega), if_neg (by omega)]
theorem FInv.set {w wr : World} {l : Bs} {k : Nat} (h : FInv w l k wr) (hk : k < l.length) {v : Value} (hv : v = vb (lowc (l.getD k 0))) : FInv w l (k + 1) (wr.setCell ⟨w.heap.size, k, none⟩ v) := by
  obtain ⟨⟨row, N, h1, h2, h3, h4⟩, h5⟩ := h
  refine ⟨⟨_, N, Tp.heap_set_m v h1, h2, by rw [Array.size_setIfInBounds, h3], fun j hj => ?_⟩, h5.setCell (Nat.le_refl _) _⟩
  rw [Array.getElem?_setIfInBounds]
  rcases Nat.lt_trichotomy j k with h | h | h
  · rw [if_neg (by omega), h4 j hj, if_pos h, if_pos (by omega)]
  · subst h; rw [if_pos rfl, if_pos (by omega), if_pos (by omega), hv]
  · rw [if_neg (by omega), h4 j hj, if_neg (by omega), if_neg (by omega)]
theorem FInv.text {w wr : World} {l : Bs} (h : FInv w l l.length wr) (cap : Nat) : (convert 188 9 (.slice (some ⟨w.heap.size, 0, none⟩) l.length cap)).run Try.prog wr = .ok (.string (B (l.map lowc))) wr := by
  obtain ⟨⟨row, N, h1, h2, h3, h4⟩, h5⟩ := h
  refine Tp.run_string_of_cells wr 188 9 5 _ (l.map lowc) l.length cap (by simp) Try.underlying188 Try.underlying5 Try.underlying9 fun j hj => ?_
  rw [List.length_map] at hj
  have e : (⟨w.heap.size, 0, none⟩ : Addr).add j = ⟨w.heap.size, j, none⟩ := by unfold Addr.add; split <;> simp_all
  rw [e, cell_of_row wr _ _ _ _ _ h1, h4 j hj, if_pos hj]
  simp [vb, List.getD, hj]
theorem FInv.start (w : World) (s : ByteArray) : FInv w s.data.toList 0 (Lib.bytesWorld w 5 s) := by
  refine ⟨⟨_, _, Lib.bytesWorld_at_new w 5 s, ?_, rfl, fun j hj => ?_⟩, ?_⟩
  · rw [len_data]; unfold Lib.bytesCells; simp
  · rw [if_neg (by omega)]
    rw [len_data] at hj
    have h := Lib.bytesWorld_cell w 5 s j hj
    rw [cell_of_row _ _ _ _ _ _ (Lib.bytesWorld_at_new w 5 s)] at h
    exact h
  · refine ⟨rfl, rfl, rfl, by rw [Lib.bytesWorld_size]; omega, fun k hk => Lib.bytesWorld_at_old w 5 s k hk⟩
def FoldV (l : Bs) : Value := match foldH l with
  | none => .tuple #[.string ByteArray.empty, .bool false]
  | some h => .tuple #[.string (B h), .bool true]
theorem foldV_no {l : Bs} (h : foldOk l = false) : FoldV l = .tuple #[.string ⟨#[]⟩, .bool false] := by unfold FoldV foldH; rw [if_neg (by simp [h])]; rfl
theorem foldV_yes {l : Bs} (h : foldOk l = true) : FoldV l = .tuple #[.string (B (l.map lowc)), .bool true] := by unfold FoldV foldH; rw [if_pos h]
theorem low_big {c : UInt8} (h1 : (65 : Int) ≤ (c.toNat : Int)) (h2 : (c.toNat : Int) ≤ 90) : ((lowc c).toNat : Int) = (c.toNat : Int) + 32 := by
  unfold lowc
  rw [if_pos (by rw [Bool.and_eq_true, decide_eq_true_eq, decide_eq_true_eq]; exact ⟨(u8_lo (n := 65) (by decide)).2 h1, (u8_hi (n := 90) (by decide)).2 h2⟩)]
  rw [UInt8.toNat_add]
  have : (32 : UInt8).toNat = 32 := rfl
  rw [this]; omega
theorem low_self {c : UInt8} (h : ¬ ((65 : Int) ≤ (c.toNat : Int) ∧ (c.toNat : Int) ≤ 90)) : lowc c = c := by
  unfold lowc
  rw [if_neg]
  rw [Bool.and_eq_true, decide_eq_true_eq, decide_eq_true_eq]
  exact fun h' => h ⟨(u8_lo (n := 65) (by decide)).1 h'.1, (u8_hi (n := 90) (by decide)).1 h'.2⟩
theorem hostc_iff (c : UInt8) : hostc c = true ↔ ((97 : Int) ≤ (c.toNat : Int) ∧ (c.toNat : Int) ≤ 122) ∨ ((48 : Int) ≤ (c.toNat : Int) ∧ (c.toNat : Int) ≤ 57) ∨ (c.toNat : Int) = 45 ∨ (c.toNat : Int) = 46 := by
  unfold hostc
  simp only [Bool.or_eq_true, Bool.and_eq_true, decide_eq_true_eq]
  have e1 : (c == 45) = true ↔ (c.toNat : Int) = 45 := by rw [show (c == 45) = ((c.toNat : Int) == 45) from u8_eq (n := 45) (by decide), beq_iff_eq]
  have e2 : (c == 46) = true ↔ (c.toNat : Int) = 46 := by rw [show (c == 46) = ((c.toNat : Int) == 46) from u8_eq (n := 46) (by decide), beq_iff_eq]
  rw [e1, e2]
  exact or_congr (and_congr (u8_lo (n := 97) (by decide)) (u8_hi (n := 122) (by decide))) (or_congr (and_congr (u8_lo (n := 48) (by decide)) (u8_hi (n := 57) (by decide))) Iff.rfl)
theorem okc_iff (c : UInt8) : hostc (lowc c) = true ↔ ((65 : Int) ≤ (c.toNat : Int) ∧ (c.toNat : Int) ≤ 90) ∨ ((97 : Int) ≤ (c.toNat : Int) ∧ (c.toNat : Int) ≤ 122) ∨ ((48 : Int) ≤ (c.toNat : Int) ∧ (c.toNat : Int) ≤ 57) ∨ (c.toNat : Int) = 45 ∨ (c.toNat : Int) = 46 := by
  by_cases h : (65 : Int) ≤ (c.toNat : Int) ∧ (c.toNat : Int) ≤ 90
  · have := low_big h.1 h.2
    rw [hostc_iff, this]; omega
  · rw [low_self h, hostc_iff]; omega
theorem foldOk_short {s : ByteArray} (h : ¬ (1 ≤ s.size ∧ s.size ≤ 64)) : foldOk s.data.toList = false := by
  unfold foldOk; rw [len_data]
  by_cases h1 : 1 ≤ s.size
  · have : ¬ s.size ≤ 64 := by omega
    simp [this]
  · simp [h1]
theorem foldOk_bad {s : ByteArray} {k : Nat} (hk : k < s.size) (h : hostc (lowc s[k]) = false) : foldOk s.data.toList = false := by
  unfold foldOk; rw [all_no (f := fun c => hostc (lowc c)) s k hk h]; simp
theorem foldOk_good {s : ByteArray} (h1 : 1 ≤ s.size) (h2 : s.size ≤ 64) (h : s.data.toList.all (fun c => hostc (lowc c)) = true) : foldOk s.data.toList = true := by
  unfold foldOk; rw [h, len_data]; simp [h1, h2]
theorem getD_data (s : ByteArray) (k : Nat) (h : k < s.size) : s.data.toList.getD k 0 = s[k] := by
  have : k < s.data.toList.length := by rw [len_data]; exact h
  simp only [List.getD, List.getElem?_eq_getElem this]; rfl

set_option maxHeartbeats 2000000 in
theorem fold_any (s : ByteArray) (w : World) (hs : s.size ≤ maxLen) :
    Calls Try.prog 125 #[.string s] w fun e w' => e = .returned (FoldV s.data.toList) ∧ Below w.heap.size w w' := by
  unfold maxLen at hs
  rcases (show (s.size : Int) < 1 ∨ (1 ≤ s.size ∧ (64 : Int) < s.size) ∨ (1 ≤ s.size ∧ s.size ≤ 64) from by omega) with h | ⟨h, h2⟩ | ⟨h, h2⟩
  · have hr := Lib.hid (foldV_no (foldOk_short (s := s) (by omega)))
    go_enter Try.func125, Try.ntmps125
    go_wp2
    go_ret2
    exact ⟨by rw [hr.out]; rfl, Below.refl _ _⟩
  · have hr := Lib.hid (foldV_no (foldOk_short (s := s) (by omega)))
    go_enter Try.func125, Try.ntmps125
    go_wp2
    go_ret2
    exact ⟨by rw [hr.out]; rfl, Below.refl _ _⟩
  · have hcv := Lib.run_convert_string_bytes (P := Try.prog) w 9 188 5 s Try.underlying9 Try.underlying188 Try.underlying5
    have hF0 := FInv.start w s
    generalize grownCap w s.size 0 5 = cap at *
    generalize Lib.bytesWorld w 5 s = w1 at *
    replace hF0 := Lib.hid hF0
    have d1 : decide ((s.size : Int) < 1) = false := by simp; omega
    have d2 : decide ((64 : Int) < (s.size : Int)) = false := by simp; omega
    go_enter Try.func125, Try.ntmps125
    go_wp2
    clear hcv
    go_loopg [19] s.size (fun g i wr => ∃ k : Nat, k ≤ s.size ∧ g = s.size - k ∧ i = .int .i64 k ∧ (s.data.toList.take k).all (fun c => hostc (lowc c)) = true ∧ FInv w s.data.toList k wr)
    case atStart => exact ⟨0, by omega, rfl, rfl, rfl, hF0.out⟩
    case round =>
      obtain ⟨k, hk, rfl, rfl, ha, I⟩ := hrel
      clear hF0
      by_cases hlt : k < s.size
      · have hl : k < s.data.toList.length := by rw [len_data]; exact hlt
        have hcell := I.at hl
        rw [getD_data s k hlt] at hcell
        obtain ⟨hc0, hf0⟩ := hcell
        unfold vb at hc0
        by_cases hc : hostc (lowc s[k]) = true
        · have ha2 := Lib.hid (all_step (f := fun c => hostc (lowc c)) s k hlt ha hc)
          by_cases hbig : (65 : Int) ≤ (s[k].toNat : Int) ∧ (s[k].toNat : Int) ≤ 90
          · have hI2 := fun v hv => FInv.set (v := v) I hl hv
            rw [getD_data s k hlt] at hI2
            unfold vb at hI2
            rw [low_big hbig.1 hbig.2] at hI2
            have hI3 := Lib.hid (hI2 _ rfl)
            obtain ⟨b1, b2⟩ := hbig
            clear ha I hc hI2
            go_wp2
            go_roundg (s.size - (k + 1))
            case measure => omega
            case rel => exact ⟨k + 1, by omega, rfl, by go_num, ha2.out, hI3.out⟩
          · have hI2 := Lib.hid (FInv.keep I hl (by rw [getD_data s k hlt]; exact low_self hbig))
            have hcases := (okc_iff _).1 hc
            clear ha I hc
            rcases (show ((97 : Int) ≤ (s[k].toNat : Int) ∧ (s[k].toNat : Int) ≤ 122) ∨ ((48 : Int) ≤ (s[k].toNat : Int) ∧ (s[k].toNat : Int) ≤ 57) ∨ (s[k].toNat : Int) = 45 ∨ (s[k].toNat : Int) = 46 from by omega) with ⟨q1, q2⟩ | ⟨q1, q2⟩ | q1 | q1
            · clear hcases hbig
              go_wp2
              go_roundg (s.size - (k + 1))
              case measure => omega
              case rel => exact ⟨k + 1, by omega, rfl, by go_num, ha2.out, hI2.out⟩
            · clear hcases hbig
              go_wp2
              go_roundg (s.size - (k + 1))
              case measure => omega
              case rel => exact ⟨k + 1, by omega, rfl, by go_num, ha2.out, hI2.out⟩
            · clear hcases hbig
              rw [q1] at hc0
              go_wp2
              go_roundg (s.size - (k + 1))
              case measure => omega
              case rel => exact ⟨k + 1, by omega, rfl, by go_num, ha2.out, hI2.out⟩
            · clear hcases hbig
              rw [q1] at hc0
              go_wp2
              go_roundg (s.size - (k + 1))
              case measure => omega
              case rel => exact ⟨k + 1, by omega, rfl, by go_num, ha2.out, hI2.out⟩
        · have hr := Lib.hid (foldV_no (foldOk_bad (s := s) (k := k) hlt (by simpa using hc)))
          have hcases := mt (okc_iff (s[k]'hlt)).2 hc
          have hbel := Lib.hid I.below
          have e45 : ((s[k].toNat : Int) == 45) = false := by simp; omega
          have e46 : ((s[k].toNat : Int) == 46) = false := by simp; omega
          have h0 : (0 : Int) ≤ (s[k].toNat : Int) := by omega
          rcases (show (s[k].toNat : Int) < 48 ∨ ((57 : Int) < (s[k].toNat : Int) ∧ (s[k].toNat : Int) < 65) ∨ ((90 : Int) < (s[k].toNat : Int) ∧ (s[k].toNat : Int) < 97) ∨ (122 : Int) < (s[k].toNat : Int) from by omega) with q1 | ⟨q1, q2⟩ | ⟨q1, q2⟩ | q1
          all_goals
            clear ha I hc hcases
            go_wp2
            go_ret2
            exact ⟨by rw [hr.out]; rfl, hbel.out⟩
      · have hk2 : s.size = k := by omega
        have hl2 : s.data.toList.length = k := by rw [len_data]; exact hk2
        have hI2 := I
        rw [← hl2] at hI2
        have htx := hI2.text cap
        rw [len_data] at htx
        rw [take_all s (by omega)] at ha
        have hr := Lib.hid (foldV_yes (foldOk_good (by omega) (by omega) ha))
        have hbel := Lib.hid I.below
        clear ha I hk2 hl2 hI2
        go_wp2
        go_ret2
        exact ⟨by rw [hr.out]; rfl, hbel.out⟩
end Go.Proofs.Ytjepgpocmnijiaa
end
