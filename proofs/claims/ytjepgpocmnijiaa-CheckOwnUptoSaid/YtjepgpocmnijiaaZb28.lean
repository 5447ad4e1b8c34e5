/- The walk of the document's Diff. -/
import Derived.Test.YtjepgpocmnijiaaZb25
section

namespace Go.Ck
open Go.Proofs.Ytjepgpocmnijiaa (Key)
set_option linter.unusedVariables false
theorem findI_first {l : List Res} {i : Nat} {x : Res} (hx : l[i]? = some x) : findI l x.kind x.name = (i : Int) ↔ fnd (l.take i) (rk x) = none := by
  have hi := (List.getElem?_eq_some_iff.1 hx).1
  rcases findI_cases l (rk x) with ⟨e, h⟩ | ⟨j, y, e, hj, hy, hk, h, h2⟩
  · exact absurd rfl (fnd_none.1 h x (List.mem_of_getElem? hx))
  · have e' : findI l x.kind x.name = (j : Int) := e
    rw [e']
    constructor
    · intro h3
      have : j = i := by omega
      subst this
      exact h2
    · intro h3
      have h4 : ¬ j < i := fun q => by
        have h5 : (l.take i)[j]? = some y := by rw [List.getElem?_take_of_lt q]; exact hy
        exact fnd_none.1 h3 y (List.mem_of_getElem? h5) hk
      have h6 : ¬ i < j := fun q => by
        have h5 : (l.take j)[i]? = some x := by rw [List.getElem?_take_of_lt q]; exact hx
        exact fnd_none.1 h2 x (List.mem_of_getElem? h5) rfl
      omega
theorem findI_neg (l : List Res) (k : Key) : findI l k.1 k.2 < 0 ↔ fnd l k = none := by
  rcases findI_cases l k with ⟨e, h⟩ | ⟨j, y, e, _, _, _, h, _⟩
  · rw [e]; exact ⟨fun _ => h, fun _ => by omega⟩
  · rw [e, h]; exact ⟨fun q => absurd q (by omega), fun q => by cases q⟩
theorem fnd_take_not {l : List Res} {i : Nat} {x : Res} (hx : l[i]? = some x) {k : Key} (h : rk x ≠ k) : fnd (l.take (i + 1)) k = fnd (l.take i) k := by
  rw [fnd_take_succ hx, if_neg h]
  cases fnd (l.take i) k <;> rfl
theorem fnd_take_old {l : List Res} {i : Nat} {x : Res} (hx : l[i]? = some x) (h : fnd (l.take i) (rk x) ≠ none) (k : Key) : fnd (l.take (i + 1)) k = fnd (l.take i) k := by
  by_cases e : rk x = k
  · subst e
    rw [fnd_take_succ hx]
    cases h2 : fnd (l.take i) (rk x) with
    | none => exact absurd h2 h
    | some y => rfl
  · exact fnd_take_not hx e
theorem fnd_take_new {l : List Res} {i : Nat} {x : Res} (hx : l[i]? = some x) (h : fnd (l.take i) (rk x) = none) : fnd (l.take (i + 1)) (rk x) = some x := by
  rw [fnd_take_succ hx, h, if_pos rfl]; rfl
theorem fnd_of_take {l : List Res} {i : Nat} {k : Key} {y : Res} (h : fnd (l.take i) k = some y) : fnd l k = some y := by
  have e : l = l.take i ++ l.drop i := (List.take_append_drop i l).symm
  rw [e, fnd_append, h]; rfl
/-- The first loop of a diff. -/
structure D1 (A B : List Res) (i : Nat) (out : List Res) : Prop where
  srt : Srt out
  at' : ∀ k, fnd out k = goneK (A.take i) B k
  len : out.length ≤ i
theorem D1.zero (A B : List Res) : D1 A B 0 [] := ⟨List.Pairwise.nil, fun k => by unfold goneK; rw [List.take_zero, fnd_nil]; cases fnd B k <;> rfl, Nat.le_refl _⟩
theorem D1.old {A B : List Res} {i : Nat} {out : List Res} (h : D1 A B i out) {x : Res} (hx : A[i]? = some x) (ho : fnd (A.take i) (rk x) ≠ none) : D1 A B (i + 1) out :=
  ⟨h.srt, fun k => by rw [h.at']; unfold goneK; rw [fnd_take_old hx ho], Nat.le_succ_of_le h.len⟩
theorem D1.here {A B : List Res} {i : Nat} {out : List Res} (h : D1 A B i out) {x : Res} (hx : A[i]? = some x) (ho : fnd B (rk x) ≠ none) : D1 A B (i + 1) out :=
  ⟨h.srt, fun k => by
    rw [h.at']; unfold goneK
    by_cases e : rk x = k
    · subst e
      cases h2 : fnd B (rk x) with
      | none => exact absurd h2 ho
      | some y => rfl
    · rw [fnd_take_not hx e], Nat.le_succ_of_le h.len⟩
theorem D1.put {A B : List Res} {i : Nat} {out : List Res} (h : D1 A B i out) {x : Res} (hx : A[i]? = some x) (h1 : fnd (A.take i) (rk x) = none) (h2 : fnd B (rk x) = none) : D1 A B (i + 1) (putL out (delR (rk x))) := by
  have h3 : fnd out (rk (delR (rk x))) = none := by rw [rk_delR, h.at']; unfold goneK; rw [h2, h1]; rfl
  refine ⟨putL_srt h.srt h3, fun k => ?_, by rw [putL_len]; exact Nat.succ_le_succ h.len⟩
  rw [putL_fnd k h3, h.at', rk_delR]
  unfold goneK
  by_cases e : rk x = k
  · subst e
    rw [if_pos rfl, h2, fnd_take_new hx h1]; rfl
  · rw [if_neg e, fnd_take_not hx e]
def diffI (A B : List Res) (i : Nat) (k : Key) : Option Res := match fnd (B.take i) k with
  | some r => newK A B k (some r)
  | none => goneK A B k
structure D2 (A B : List Res) (i : Nat) (out : List Res) : Prop where
  srt : Srt out
  at' : ∀ k, fnd out k = diffI A B i k
  len : out.length ≤ A.length + i
theorem D1.fin {A B : List Res} {out : List Res} (h : D1 A B A.length out) : D2 A B 0 out :=
  ⟨h.srt, fun k => by rw [h.at', List.take_length]; unfold diffI; rw [List.take_zero, fnd_nil], h.len⟩
theorem D2.old {A B : List Res} {i : Nat} {out : List Res} (h : D2 A B i out) {x : Res} (hx : B[i]? = some x) (ho : fnd (B.take i) (rk x) ≠ none) : D2 A B (i + 1) out :=
  ⟨h.srt, fun k => by rw [h.at']; unfold diffI; rw [fnd_take_old hx ho], Nat.le_succ_of_le h.len⟩
theorem fnd_here {l : List Res} {i : Nat} {x : Res} (hx : l[i]? = some x) (h1 : fnd (l.take i) (rk x) = none) : fnd l (rk x) = some x := fnd_of_take (fnd_take_new hx h1)
theorem D2.same {A B : List Res} {i : Nat} {out : List Res} (h : D2 A B i out) {x y : Res} (hx : B[i]? = some x) (h1 : fnd (B.take i) (rk x) = none) (h2 : fnd A (rk x) = some y) (hs : sameR y x = true) : D2 A B (i + 1) out :=
  ⟨h.srt, fun k => by
    rw [h.at']; unfold diffI
    by_cases e : rk x = k
    · subst e
      rw [h1, fnd_take_new hx h1]
      unfold newK goneK
      rw [fnd_here hx h1]
      simp only
      rw [h2]
      simp only
      rw [if_pos hs]
    · rw [fnd_take_not hx e], Nat.le_succ_of_le h.len⟩
theorem D2.put {A B : List Res} {i : Nat} {out : List Res} (h : D2 A B i out) {x : Res} (hx : B[i]? = some x) (h1 : fnd (B.take i) (rk x) = none) (h2 : fnd A (rk x) = none ∨ ∃ y, fnd A (rk x) = some y ∧ sameR y x = false) : D2 A B (i + 1) (putL out x) := by
  have h3 : fnd out (rk x) = none := by rw [h.at']; unfold diffI goneK; rw [h1, fnd_here hx h1]
  refine ⟨putL_srt h.srt h3, fun k => ?_, by rw [putL_len]; exact Nat.succ_le_succ h.len⟩
  rw [putL_fnd k h3, h.at']
  unfold diffI
  by_cases e : rk x = k
  · subst e
    rw [if_pos rfl, fnd_take_new hx h1]
    unfold newK
    simp only
    rcases h2 with h2 | ⟨y, h2, hs⟩
    · rw [h2]
    · rw [h2]; simp only; rw [if_neg (by rw [hs]; simp)]
  · rw [if_neg e, fnd_take_not hx e]
theorem D2.fin {A B : List Res} {out : List Res} (h : D2 A B B.length out) : IsDiff A B out := ⟨h.srt, fun k => by rw [h.at']; unfold diffI diffK; rw [List.take_length]; cases fnd B k <;> rfl⟩
end Go.Ck
namespace Go.Proofs.Ytjepgpocmnijiaa
open Go.RowKit Go.Mp Go.Ck
set_option linter.unusedVariables false
set_option maxRecDepth 100000
set_option maxHeartbeats 8000000
def DiffOut (w : World) (A B : List Res) (e : Ending) (w' : World) : Prop := ∃ (v' : Value) (L : List Res), e = .returned v' ∧ IsDiff A B L ∧ ResS w' v' L ∧ L.length ≤ A.length + B.length ∧ Below w.heap.size w w'
theorem quiet_same {P : Program} {f : FuncId} {args : Array Value} {w : World} {n : Nat} {v : Value} (h : Calls P f args (w.drewN n) fun e w' => e = .returned v ∧ w.drewN n = w') : Calls P f args (w.drewN n) fun e w'' => e = .returned v ∧ ∃ m, w'' = w.drewN m :=
  h.mono fun _ _ ⟨he, hm⟩ => ⟨he, n, hm.symm⟩
theorem find_quiet {l : List Res} {v : Value} {w wr : World} (hl : ResS w v l) (k : Int) (n : ByteArray) (hb : Below w.heap.size w wr) (m : Nat) : Calls Try.prog 70 #[v, .int .i64 k, .string n] (wr.drewN m) fun e w2 => e = .returned (.int .i64 (findI l k n)) ∧ wr.drewN m = w2 :=
  find70_at hl k n (below_drewN hb m)
theorem rp_del {w : World} {r : Res} {ev tv rv : Value} (h : RP w r ev tv rv) (w' : World) : RP w' (delR (rk r)) (.slice none 0 0) (.slice none 0 0) (.slice none 0 0) :=
  ⟨h.k1, h.nm, ⟨by simp [delR], none, 0, rfl, Nat.le_refl _, .inl rfl⟩, ⟨by simp [delR], none, 0, rfl, Nat.le_refl _, .inl rfl⟩, by show (0 : Nat) ≤ maxLen; exact Nat.zero_le _, ⟨by simp [delR], none, 0, rfl, Nat.le_refl _, .inl rfl⟩, by show (0 : Nat) ≤ maxLen; exact Nat.zero_le _⟩
theorem diff28 (A B : List Res) (v1 v2 : Value) (w : World) (h1 : ResS w v1 A) (h2 : ResS w v2 B) (hA : A.length ≤ 1048576) (hB : B.length ≤ 1048576) : Calls Try.prog 28 #[v1, v2] w (DiffOut w A B) := by
  obtain ⟨ao, cap, rfl⟩ := slice_shape h1
  obtain ⟨bo, bcp, rfl⟩ := slice_shape h2
  have hlen1 := h1.1
  have hlen2 := h2.1
  have hZ := D1.zero A B
  have hn := nil_res w
  replace h1 := Lib.hid h1
  replace h2 := Lib.hid h2
  replace hZ := Lib.hid hZ
  replace hn := Lib.hid hn
  go_enter Try.func28, Try.ntmps28
  go_wp2
  go_loopg [5, 6] (A.length + 1) (fun gg ov ic wx => ∃ (i : Nat) (a : List Res), gg = A.length - i + 1 ∧ i ≤ A.length ∧ ic = .int .i64 i ∧ Hid (D1 A B i a) ∧ Hid (ResS wx ov a) ∧ Hid (Below w.heap.size w wx))
  case atStart => exact ⟨0, [], rfl, Nat.zero_le _, rfl, hZ, hn, Lib.hid (Below.refl _ _)⟩
  case round =>
    obtain ⟨i, a, rfl, hi, rfl, hg, hav, hbw⟩ := hrel
    obtain ⟨po, pc, rfl⟩ := slice_shape hav.out
    by_cases hlt : i < A.length
    · obtain ⟨x, hx⟩ : ∃ x, A[i]? = some x := ⟨_, List.getElem?_eq_getElem hlt⟩
      obtain ⟨b, off, eo, ec, ta, tc, ra, rc, rfl, hbl, c, hp⟩ := res_at2 h1.out hx
      obtain ⟨c0, c1, c2, c3, c4, c5, c6, c7⟩ := c.below hbl hbw.out
      clear c2 c3 c4 c5 c6 c7
      have hk0 : (i : Int) < (A.length : Int) := nn_lt hlt
      have hwk := Lib.hid (nn_succ2 hlt hlen1)
      obtain ⟨o1, ho1⟩ : ∃ o, o = findI A x.kind x.name := ⟨_, rfl⟩
      obtain ⟨o2, ho2⟩ : ∃ o, o = findI B x.kind x.name := ⟨_, rfl⟩
      have hK1 : Hid (∀ m, Calls Try.prog 70 #[.slice (some ⟨b, off, none⟩) A.length cap, .int .i64 x.kind, .string x.name] (wr.drewN m) fun e w2 => e = .returned (.int .i64 o1) ∧ wr.drewN m = w2) := Lib.hid (fun m => by rw [ho1]; exact find_quiet h1.out _ _ hbw.out m)
      have hK2 : Hid (∀ m, Calls Try.prog 70 #[.slice bo B.length bcp, .int .i64 x.kind, .string x.name] (wr.drewN m) fun e w2 => e = .returned (.int .i64 o2) ∧ wr.drewN m = w2) := Lib.hid (fun m => by rw [ho2]; exact find_quiet h2.out _ _ hbw.out m)
      have hal := Lib.hid (show a.length ≤ 4294967296 by have := hg.out.len; omega)
      by_cases hf1 : o1 = (i : Int)
      · have hf1' := (findI_first hx).1 (ho1.symm.trans hf1)
        subst hf1
        by_cases hf2 : o2 < 0
        · have hf2' := (findI_neg B (rk x)).1 (by rw [ho2] at hf2; exact hf2)
          have hG := hg.out.put hx hf1' hf2'
          have hK72 : Hid (∀ w', Below wr.heap.size wr w' → Calls Try.prog 72 #[.slice po a.length pc, .agg #[.int .i64 x.kind, .string x.name, .slice none 0 0, .slice none 0 0, .string ⟨#[]⟩, .slice none 0 0, .string ⟨#[]⟩, .bool true]] w' (LieOut w' (putL a (delR (rk x))))) := Lib.hid (fun w' h => put72 a _ (delR (rk x)) _ _ _ w' (hav.out.below h) (rp_del hp w') hal.out)
          replace hx := Lib.hid hx
          replace hf1' := Lib.hid hf1'
          replace hf2' := Lib.hid hf2'
          replace hG := Lib.hid hG
          replace ho1 := Lib.hid ho1
          replace ho2 := Lib.hid ho2
          go_upto_region 5 with fail
          go_quiet (first
            | (go_at_call 70; first | with_reducible exact quiet_same (hK1.out _) | with_reducible exact quiet_same (hK2.out _))
            | fail)
          have hC : Hid (∀ w', Below wr.heap.size wr w' → w'.cell? ⟨b, off + i * 8, none⟩ = some (.int .i64 x.kind) ∧ w'.cell? ⟨b, off + i * 8 + 1, none⟩ = some (.string x.name)) := Lib.hid (fun w' h => ⟨(c.below hbl (seq_below hbw.out h)).c0, (c.below hbl (seq_below hbw.out h)).c1⟩)
          obtain ⟨wd, hwd⟩ : ∃ wd, wd = wr.drewN nq := ⟨_, rfl⟩
          rw [← hwd]
          have hcur : Hid (Below wr.heap.size wr wd.drew) := Lib.hid (by rw [hwd]; exact drew_below wr (nq + 1))
          have hcur0 : Hid (Below wr.heap.size wr wd) := Lib.hid (by rw [hwd]; exact drew_below wr nq)
          obtain ⟨c0, c1⟩ := hC.out wd hcur0.out
          replace hwd := Lib.hid hwd
          replace hbl := Lib.hid hbl
          replace hp := Lib.hid hp
          replace c := Lib.hid c
          go_upto_region 6 with fail
          go_region_held3 (fun w' => Below wr.heap.size wr w' ∧ w'.cell? ⟨b, off + i * 8, none⟩ = some (.int .i64 x.kind) ∧ w'.cell? ⟨b, off + i * 8 + 1, none⟩ = some (.string x.name))
            (first | exact ⟨hcur.out, hC.out _ hcur.out⟩ | fail)
            (first
              | (go_at_call 72; (with_reducible refine (hK72.out _ hcur.out).mono ?_); rintro e wP ⟨vP, rfl, hvP, hbP⟩; replace hcur := Lib.hid (seq_below hcur.out hbP); replace hvP := Lib.hid hvP; clear hbP)
              | fail)
          all_goals
            go_wp2
            go_roundg (A.length - (i + 1) + 1)
            case rel => exact ⟨i + 1, _, rfl, hlt, by first | rw [hwk.out] | go_num, hG, hvP, Lib.hid (seq_below hbw.out hcur.out)⟩
            case measure => exact nn_downS hlt
        · have hf2' : fnd B (rk x) ≠ none := fun q => hf2 (by rw [ho2]; exact (findI_neg B (rk x)).2 q)
          have hG := hg.out.here hx hf2'
          replace hx := Lib.hid hx
          replace hf1' := Lib.hid hf1'
          replace hf2' := Lib.hid hf2'
          replace hG := Lib.hid hG
          replace ho1 := Lib.hid ho1
          replace ho2 := Lib.hid ho2
          replace hbl := Lib.hid hbl
          replace hp := Lib.hid hp
          replace c := Lib.hid c
          go_upto_region 5 with fail
          go_quiet (first
            | (go_at_call 70; first | with_reducible exact quiet_same (hK1.out _) | with_reducible exact quiet_same (hK2.out _))
            | fail)
          go_wp2
          go_roundg (A.length - (i + 1) + 1)
          case rel => exact ⟨i + 1, _, rfl, hlt, by first | rw [hwk.out] | go_num, hG, Lib.hid (hav.out.below (drew_below _ _)), Lib.hid (below_drewN hbw.out _)⟩
          case measure => exact nn_downS hlt
      · have hf1' : fnd (A.take i) (rk x) ≠ none := fun q => hf1 (by rw [ho1]; exact (findI_first hx).2 q)
        have hG := hg.out.old hx hf1'
        have hf1b : (o1 == (i : Int)) = false := beq_eq_false_iff_ne.2 hf1
        replace hx := Lib.hid hx
        replace hf1' := Lib.hid hf1'
        replace hG := Lib.hid hG
        replace ho1 := Lib.hid ho1
        replace ho2 := Lib.hid ho2
        replace hbl := Lib.hid hbl
        replace hp := Lib.hid hp
        replace c := Lib.hid c
        replace hf1 := Lib.hid hf1
        go_upto_region 5 with fail
        go_quiet (first
          | (go_at_call 70; first | with_reducible exact quiet_same (hK1.out _) | with_reducible exact quiet_same (hK2.out _))
          | fail)
        go_wp2
        go_roundg (A.length - (i + 1) + 1)
        case rel => exact ⟨i + 1, _, rfl, hlt, by first | rw [hwk.out] | go_num, hG, Lib.hid (hav.out.below (drew_below _ _)), Lib.hid (below_drewN hbw.out _)⟩
        case measure => exact nn_downS hlt
    · have hk0 : decide ((i : Int) < (A.length : Int)) = false := decide_eq_false (by omega)
      have hie : i = A.length := by omega
      subst hie
      clear hlt
      have hZ2 := Lib.hid hg.out.fin
      have hal0 := Lib.hid (show A.length ≤ 1048576 from hA)
      go_wp2
      have hav0 := hav
      have hbw0 := hbw
      clear hav hbw hg
      obtain ⟨wm, hwm⟩ : ∃ wm, wm = wr := ⟨_, rfl⟩
      rw [← hwm] at hav0 hbw0 ⊢
      clear hwm
      go_loopg [5, 7, 8] (B.length + 1) (fun gg ov ic av wx => ∃ (i : Nat) (a : List Res), gg = B.length - i + 1 ∧ i ≤ B.length ∧ ic = .int .i64 i ∧ Hid (D2 A B i a) ∧ Hid (ResS wx ov a) ∧ Hid (Below w.heap.size w wx))
      case atStart => exact ⟨0, a, rfl, Nat.zero_le _, rfl, hZ2, hav0, hbw0⟩
      case round =>
        clear hav0 hbw0 hZ2
        clear a po pc
        obtain ⟨i, a, rfl, hi, rfl, hg, hav, hbw⟩ := hrel
        obtain ⟨po, pc, rfl⟩ := slice_shape hav.out
        by_cases hlt : i < B.length
        · obtain ⟨x, hx⟩ : ∃ x, B[i]? = some x := ⟨_, List.getElem?_eq_getElem hlt⟩
          obtain ⟨b, off, eo, ec, ta, tc, ra, rc, rfl, hbl, c, hp⟩ := res_at2 h2.out hx
          obtain ⟨c0, c1, c2, c3, c4, c5, c6, c7⟩ := c.below hbl hbw.out
          clear c2 c3 c4 c5 c6 c7
          have hk0 : (i : Int) < (B.length : Int) := nn_lt hlt
          have hwk := Lib.hid (nn_succ2 hlt hlen2)
          obtain ⟨o1, ho1⟩ : ∃ o, o = findI B x.kind x.name := ⟨_, rfl⟩
          obtain ⟨o2, ho2⟩ : ∃ o, o = findI A x.kind x.name := ⟨_, rfl⟩
          have hK1 : Hid (∀ m, Calls Try.prog 70 #[.slice (some ⟨b, off, none⟩) B.length bcp, .int .i64 x.kind, .string x.name] (wr.drewN m) fun e w2 => e = .returned (.int .i64 o1) ∧ wr.drewN m = w2) := Lib.hid (fun m => by rw [ho1]; exact find_quiet h2.out _ _ hbw.out m)
          have hal := Lib.hid (show a.length ≤ 4294967296 by have := hg.out.len; have := hal0.out; omega)
          by_cases hf1 : o1 = (i : Int)
          · have hf1' := (findI_first hx).1 (ho1.symm.trans hf1)
            have hf1b : (o1 != (i : Int)) = false := by rw [bne, beq_iff_eq.2 hf1]; rfl
            subst hf1
            replace ho1 := Lib.hid ho1
            go_upto_region 10 with fail
            go_quiet (first
              | (go_at_call 70; with_reducible exact quiet_same (hK1.out _))
              | fail)
            obtain ⟨wd, hwd⟩ : ∃ wd, wd = wr.drewN nq := ⟨_, rfl⟩
            rw [← hwd]
            have hbd := Lib.hid (show Below w.heap.size w wd by rw [hwd]; exact below_drewN hbw.out nq)
            have hK2 : Hid (∀ m, Calls Try.prog 70 #[.slice ao A.length cap, .int .i64 x.kind, .string x.name] (wd.drewN m) fun e w2 => e = .returned (.int .i64 o2) ∧ wd.drewN m = w2) := Lib.hid (fun m => by rw [ho2]; exact find_quiet h1.out _ _ hbd.out m)
            obtain ⟨c0, c1, c2, c3, c4, c5, c6, c7⟩ := c.below hbl hbd.out
            have havd := Lib.hid (show ResS wd (.slice po a.length pc) a by rw [hwd]; exact hav.out.below (drew_below _ _))
            replace hwd := Lib.hid hwd
            replace hav := Lib.hid hav
            replace hbw := Lib.hid hbw
            go_upto_region 11 with fail
            go_quiet (first
              | (go_at_call 70; with_reducible exact quiet_same (hK2.out _))
              | fail)
            obtain ⟨we, hwe⟩ : ∃ we, we = wd.drewN nq := ⟨_, rfl⟩
            rw [← hwe]
            have hbe := Lib.hid (show Below w.heap.size w we by rw [hwe]; exact below_drewN hbd.out nq)
            have have' := Lib.hid (show ResS we (.slice po a.length pc) a by rw [hwe]; exact havd.out.below (drew_below _ _))
            clear c0 c1 c2 c3 c4 c5 c6 c7
            replace hwe := Lib.hid hwe
            replace havd := Lib.hid havd
            replace hbd := Lib.hid hbd
            have hK72 : Hid (∀ w', Below we.heap.size we w' → Calls Try.prog 72 #[.slice po a.length pc, .agg #[.int .i64 x.kind, .string x.name, .slice eo x.eps.length ec, .slice ta x.tgts.length tc, .string x.host, .slice ra x.rules.length rc, .string x.route, .bool x.del]] w' (LieOut w' (putL a x))) := Lib.hid (fun w' h => put72 a _ x _ _ _ w' (have'.out.below h) (hp.below (seq_below hbe.out h)) hal.out)
            have hC : Hid (∀ w', Below we.heap.size we w' → w'.cell? ⟨b, off + i * 8, none⟩ = some (.int .i64 x.kind) ∧ w'.cell? ⟨b, off + i * 8 + 1, none⟩ = some (.string x.name) ∧ w'.cell? ⟨b, off + i * 8 + 2, none⟩ = some (.slice eo x.eps.length ec) ∧ w'.cell? ⟨b, off + i * 8 + 3, none⟩ = some (.slice ta x.tgts.length tc) ∧ w'.cell? ⟨b, off + i * 8 + 4, none⟩ = some (.string x.host) ∧ w'.cell? ⟨b, off + i * 8 + 5, none⟩ = some (.slice ra x.rules.length rc) ∧ w'.cell? ⟨b, off + i * 8 + 6, none⟩ = some (.string x.route) ∧ w'.cell? ⟨b, off + i * 8 + 7, none⟩ = some (.bool x.del)) := Lib.hid (fun w' h => by
              obtain ⟨d0, d1, d2, d3, d4, d5, d6, d7⟩ := c.below hbl (seq_below hbe.out h)
              exact ⟨d0, d1, d2, d3, d4, d5, d6, d7⟩)
            rcases findI_cases A (rk x) with ⟨eo', hfa⟩ | ⟨n3, y, eo', hn3, hy, hky, hfa, _⟩
            · have eo2 : o2 = -1 := ho2.trans eo'
              clear eo'
              subst eo2
              have hG := hg.out.put hx hf1' (.inl hfa)
              replace hx := Lib.hid hx
              replace hf1' := Lib.hid hf1'
              replace hfa := Lib.hid hfa
              replace ho2 := Lib.hid ho2
              replace hG := Lib.hid hG
              replace hp := Lib.hid hp
              replace c := Lib.hid c
              replace hbl := Lib.hid hbl
              replace hg := Lib.hid hg
              go_upto_region 12 with fail
              go_quiet (fail)
              have hcur : Hid (Below we.heap.size we (we.drewN nq)) := Lib.hid (drew_below we nq)
              obtain ⟨c0, c1, c2, c3, c4, c5, c6, c7⟩ := hC.out (we.drewN nq) (drew_below we nq)
              all_goals
                go_wp2_with (first
                  | (go_at_call 72; (with_reducible refine (hK72.out _ hcur.out).mono ?_); rintro e wP ⟨vP, rfl, hvP, hbP⟩; replace hcur := Lib.hid (seq_below hcur.out hbP); replace hvP := Lib.hid hvP; clear hbP)
                  | fail)
                go_roundg (B.length - (i + 1) + 1)
                case rel => exact ⟨i + 1, _, rfl, hlt, by first | rw [hwk.out] | go_num, hG, hvP, Lib.hid (seq_below hbe.out hcur.out)⟩
                case measure => exact nn_downS hlt
            · have eo2 : o2 = (n3 : Int) := ho2.trans eo'
              clear eo'
              subst eo2
              have hn0 : (0 : Int) ≤ (n3 : Int) := by omega
              have hn1 : decide ((n3 : Int) < 0) = false := decide_eq_false (by omega)
              have hn2 : (n3 : Int) < (A.length : Int) := by omega
              obtain ⟨b2, off2, eo2, ec2, ta2, tc2, ra2, rc2, rfl, hbl2, c', hp'⟩ := res_at2 h1.out hy
              have hD : Hid (∀ w', Below we.heap.size we w' → w'.cell? ⟨b2, off2 + n3 * 8, none⟩ = some (.int .i64 y.kind) ∧ w'.cell? ⟨b2, off2 + n3 * 8 + 1, none⟩ = some (.string y.name) ∧ w'.cell? ⟨b2, off2 + n3 * 8 + 2, none⟩ = some (.slice eo2 y.eps.length ec2) ∧ w'.cell? ⟨b2, off2 + n3 * 8 + 3, none⟩ = some (.slice ta2 y.tgts.length tc2) ∧ w'.cell? ⟨b2, off2 + n3 * 8 + 4, none⟩ = some (.string y.host) ∧ w'.cell? ⟨b2, off2 + n3 * 8 + 5, none⟩ = some (.slice ra2 y.rules.length rc2) ∧ w'.cell? ⟨b2, off2 + n3 * 8 + 6, none⟩ = some (.string y.route) ∧ w'.cell? ⟨b2, off2 + n3 * 8 + 7, none⟩ = some (.bool y.del)) := Lib.hid (fun w' h => by
                obtain ⟨d0, d1, d2, d3, d4, d5, d6, d7⟩ := c'.below hbl2 (seq_below hbe.out h)
                exact ⟨d0, d1, d2, d3, d4, d5, d6, d7⟩)
              obtain ⟨sm, hsm⟩ : ∃ s, sameR y x = s := ⟨_, rfl⟩
              have hK30 : Hid (∀ w', Below we.heap.size we w' → Calls Try.prog 30 #[.agg #[.int .i64 y.kind, .string y.name, .slice eo2 y.eps.length ec2, .slice ta2 y.tgts.length tc2, .string y.host, .slice ra2 y.rules.length rc2, .string y.route, .bool y.del], .agg #[.int .i64 x.kind, .string x.name, .slice eo x.eps.length ec, .slice ta x.tgts.length tc, .string x.host, .slice ra x.rules.length rc, .string x.route, .bool x.del]] w' fun e w2 => e = .returned (.bool sm) ∧ Below w'.heap.size w' w2) := Lib.hid (fun w' h => by
                rw [← hsm]
                exact same30 y x _ _ _ _ _ _ w' (hp'.below (seq_below hbe.out h)) (hp.below (seq_below hbe.out h)))
              have hcur : Hid (Below we.heap.size we we.drew) := Lib.hid ⟨rfl, rfl, rfl, Nat.le_refl _, fun _ _ => rfl⟩
              obtain ⟨c0, c1, c2, c3, c4, c5, c6, c7⟩ := hC.out we (Below.refl _ _)
              obtain ⟨d0, d1, d2, d3, d4, d5, d6, d7⟩ := hD.out we (Below.refl _ _)
              cases sm with
              | true =>
                have hG := hg.out.same hx hf1' hfa hsm
                replace hx := Lib.hid hx
                replace hf1' := Lib.hid hf1'
                replace hfa := Lib.hid hfa
                replace ho2 := Lib.hid ho2
                replace hG := Lib.hid hG
                replace hp := Lib.hid hp
                replace c := Lib.hid c
                replace hbl := Lib.hid hbl
                replace hg := Lib.hid hg
                replace hp' := Lib.hid hp'
                replace c' := Lib.hid c'
                replace hbl2 := Lib.hid hbl2
                replace hy := Lib.hid hy
                replace hky := Lib.hid hky
                replace hn3 := Lib.hid hn3
                replace hsm := Lib.hid hsm
                go_upto_region 12 with fail
                go_region_held3 (fun w' => Below we.heap.size we w' ∧ w'.cell? ⟨b, off + i * 8, none⟩ = some (.int .i64 x.kind) ∧ w'.cell? ⟨b, off + i * 8 + 1, none⟩ = some (.string x.name) ∧ w'.cell? ⟨b, off + i * 8 + 2, none⟩ = some (.slice eo x.eps.length ec) ∧ w'.cell? ⟨b, off + i * 8 + 3, none⟩ = some (.slice ta x.tgts.length tc) ∧ w'.cell? ⟨b, off + i * 8 + 4, none⟩ = some (.string x.host) ∧ w'.cell? ⟨b, off + i * 8 + 5, none⟩ = some (.slice ra x.rules.length rc) ∧ w'.cell? ⟨b, off + i * 8 + 6, none⟩ = some (.string x.route) ∧ w'.cell? ⟨b, off + i * 8 + 7, none⟩ = some (.bool x.del) ∧ w'.cell? ⟨b2, off2 + n3 * 8, none⟩ = some (.int .i64 y.kind) ∧ w'.cell? ⟨b2, off2 + n3 * 8 + 1, none⟩ = some (.string y.name) ∧ w'.cell? ⟨b2, off2 + n3 * 8 + 2, none⟩ = some (.slice eo2 y.eps.length ec2) ∧ w'.cell? ⟨b2, off2 + n3 * 8 + 3, none⟩ = some (.slice ta2 y.tgts.length tc2) ∧ w'.cell? ⟨b2, off2 + n3 * 8 + 4, none⟩ = some (.string y.host) ∧ w'.cell? ⟨b2, off2 + n3 * 8 + 5, none⟩ = some (.slice ra2 y.rules.length rc2) ∧ w'.cell? ⟨b2, off2 + n3 * 8 + 6, none⟩ = some (.string y.route) ∧ w'.cell? ⟨b2, off2 + n3 * 8 + 7, none⟩ = some (.bool y.del))
                  (first | (obtain ⟨q0, q1, q2, q3, q4, q5, q6, q7⟩ := hC.out _ hcur.out; exact ⟨hcur.out, q0, q1, q2, q3, q4, q5, q6, q7, hD.out _ hcur.out⟩) | fail)
                  (first
                    | (go_at_call 30; (with_reducible refine (hK30.out _ hcur.out).mono ?_); rintro e wS ⟨rfl, hbS⟩; replace hcur := Lib.hid (seq_below hcur.out hbS); clear hbS)
                    | fail)
                all_goals
                  go_wp2
                  go_roundg (B.length - (i + 1) + 1)
                  case rel => exact ⟨i + 1, _, rfl, hlt, by first | rw [hwk.out] | go_num, hG, Lib.hid (have'.out.below hcur.out), Lib.hid (seq_below hbe.out hcur.out)⟩
                  case measure => exact nn_downS hlt
              | false =>
                have hG := hg.out.put hx hf1' (.inr ⟨y, hfa, hsm⟩)
                replace hx := Lib.hid hx
                replace hf1' := Lib.hid hf1'
                replace hfa := Lib.hid hfa
                replace ho2 := Lib.hid ho2
                replace hG := Lib.hid hG
                replace hp := Lib.hid hp
                replace c := Lib.hid c
                replace hbl := Lib.hid hbl
                replace hg := Lib.hid hg
                replace hp' := Lib.hid hp'
                replace c' := Lib.hid c'
                replace hbl2 := Lib.hid hbl2
                replace hy := Lib.hid hy
                replace hky := Lib.hid hky
                replace hn3 := Lib.hid hn3
                replace hsm := Lib.hid hsm
                go_upto_region 12 with fail
                go_region_held3 (fun w' => Below we.heap.size we w' ∧ w'.cell? ⟨b, off + i * 8, none⟩ = some (.int .i64 x.kind) ∧ w'.cell? ⟨b, off + i * 8 + 1, none⟩ = some (.string x.name) ∧ w'.cell? ⟨b, off + i * 8 + 2, none⟩ = some (.slice eo x.eps.length ec) ∧ w'.cell? ⟨b, off + i * 8 + 3, none⟩ = some (.slice ta x.tgts.length tc) ∧ w'.cell? ⟨b, off + i * 8 + 4, none⟩ = some (.string x.host) ∧ w'.cell? ⟨b, off + i * 8 + 5, none⟩ = some (.slice ra x.rules.length rc) ∧ w'.cell? ⟨b, off + i * 8 + 6, none⟩ = some (.string x.route) ∧ w'.cell? ⟨b, off + i * 8 + 7, none⟩ = some (.bool x.del) ∧ w'.cell? ⟨b2, off2 + n3 * 8, none⟩ = some (.int .i64 y.kind) ∧ w'.cell? ⟨b2, off2 + n3 * 8 + 1, none⟩ = some (.string y.name) ∧ w'.cell? ⟨b2, off2 + n3 * 8 + 2, none⟩ = some (.slice eo2 y.eps.length ec2) ∧ w'.cell? ⟨b2, off2 + n3 * 8 + 3, none⟩ = some (.slice ta2 y.tgts.length tc2) ∧ w'.cell? ⟨b2, off2 + n3 * 8 + 4, none⟩ = some (.string y.host) ∧ w'.cell? ⟨b2, off2 + n3 * 8 + 5, none⟩ = some (.slice ra2 y.rules.length rc2) ∧ w'.cell? ⟨b2, off2 + n3 * 8 + 6, none⟩ = some (.string y.route) ∧ w'.cell? ⟨b2, off2 + n3 * 8 + 7, none⟩ = some (.bool y.del))
                  (first | (obtain ⟨q0, q1, q2, q3, q4, q5, q6, q7⟩ := hC.out _ hcur.out; exact ⟨hcur.out, q0, q1, q2, q3, q4, q5, q6, q7, hD.out _ hcur.out⟩) | fail)
                  (first
                    | (go_at_call 30; (with_reducible refine (hK30.out _ hcur.out).mono ?_); rintro e wS ⟨rfl, hbS⟩; replace hcur := Lib.hid (seq_below hcur.out hbS); clear hbS)
                    | fail)
                all_goals (obtain ⟨c0, c1, c2, c3, c4, c5, c6, c7⟩ := hC.out _ hcur.out)
                all_goals
                  go_wp2_with (first
                    | (go_at_call 72; (with_reducible refine (hK72.out _ hcur.out).mono ?_); rintro e wP ⟨vP, rfl, hvP, hbP⟩; replace hcur := Lib.hid (seq_below hcur.out hbP); replace hvP := Lib.hid hvP; clear hbP)
                    | fail)
                  go_roundg (B.length - (i + 1) + 1)
                  case rel => exact ⟨i + 1, _, rfl, hlt, by first | rw [hwk.out] | go_num, hG, hvP, Lib.hid (seq_below hbe.out hcur.out)⟩
                  case measure => exact nn_downS hlt
          · have hf1' : fnd (B.take i) (rk x) ≠ none := fun q => hf1 (by rw [ho1]; exact (findI_first hx).2 q)
            have hG := hg.out.old hx hf1'
            have hf1b : (o1 != (i : Int)) = true := by rw [bne, beq_eq_false_iff_ne.2 hf1]; rfl
            replace hx := Lib.hid hx
            replace hf1' := Lib.hid hf1'
            replace hG := Lib.hid hG
            replace ho1 := Lib.hid ho1
            replace ho2 := Lib.hid ho2
            replace hbl := Lib.hid hbl
            replace hp := Lib.hid hp
            replace c := Lib.hid c
            replace hf1 := Lib.hid hf1
            go_upto_region 10 with fail
            go_quiet (first
              | (go_at_call 70; with_reducible exact quiet_same (hK1.out _))
              | fail)
            go_wp2
            go_roundg (B.length - (i + 1) + 1)
            case rel => exact ⟨i + 1, _, rfl, hlt, by first | rw [hwk.out] | go_num, hG, Lib.hid (hav.out.below (drew_below _ _)), Lib.hid (below_drewN hbw.out _)⟩
            case measure => exact nn_downS hlt
        · have hk0 : decide ((i : Int) < (B.length : Int)) = false := decide_eq_false (by omega)
          have hie : i = B.length := by omega
          subst hie
          clear hlt
          go_wp2
          go_ret
          exact ⟨_, a, rfl, hg.out.fin, hav.out, hg.out.len, hbw.out⟩
end Go.Proofs.Ytjepgpocmnijiaa
end
