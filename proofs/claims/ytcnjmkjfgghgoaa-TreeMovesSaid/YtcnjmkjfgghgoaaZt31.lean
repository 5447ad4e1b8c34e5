/- The document's Of: what holds at a round's head. -/
import Derived.Test.YtcnjmkjfgghgoaaZt30
import Derived.Test.YtcnjmkjfgghgoaaZt10
import Derived.Test.YtcnjmkjfgghgoaaZt26
section
/- The document's document. -/
namespace Go.Proofs.Ytcnjmkjfgghgoaa
open Go.RowKit Go.Mp Go.Tr
set_option linter.unusedVariables false
set_option maxRecDepth 100000
set_option maxHeartbeats 1000000
theorem rblock_all {l : List Tok} (hll : l.length < 4398046511104) (f : Nat) : RBlockOK l f := by
  induction f using Nat.strongRecOn with
  | _ f ih => exact rblock_any hll fun g hg => rvalue_any hll (ih g hg)
def RDoc (w : World) (B : Nat) (l : List Tok) (e : Ending) (w' : World) : Prop :=
  match doc l with
  | .error (ln, er) => ∃ p, e = .returned (.tuple #[.pointer p, .int .i64 ln, .int .i64 er]) ∧ Tch No w w'
  | .ok t => ∃ b F, e = .returned (.tuple #[ptr b, .int .i64 0, .int .i64 0]) ∧ PT w' B t b F ∧ Tch No w w' ∧ ∀ k, F k → k < w'.heap.size
theorem has_iff (t : Tok) : has t = (decide (2 ≤ t.kind) && decide (t.kind ≤ 4)) := by
  unfold has
  rw [Bool.eq_iff_iff]; simp; omega
theorem rdocument_any {w : World} {B : Nat} {lv : Value} {l : List Tok} {kb : Nat} (tk : TokS w kb lv l) (hk : kb < w.heap.size) (hB : B ≤ w.heap.size) (hne : l ≠ []) (hll : l.length < 4398046511104) : Calls Try.prog 35 #[lv] w (RDoc w B l) := by
  obtain ⟨x, hx⟩ : ∃ x, l[0]? = some x := by cases l with
    | nil => exact absurd rfl hne
    | cons a l => exact ⟨a, rfl⟩
  have hx' : (l[0]?).getD zero = x := by rw [hx]; rfl
  have hl0 := (List.getElem?_eq_some_iff.1 hx).1
  obtain ⟨ao, cap, rfl, _⟩ := id tk
  obtain ⟨w1, hw1⟩ : ∃ w1, w1 = w.alloc (.cells #[.slice ao l.length cap, .int .i64 0, .int .i64 0, .int .i64 0, .int .i64 0] 94) := ⟨_, rfl⟩
  have t1 : Tch No w w1 := by rw [hw1]; exact Tch.alloc No w _
  obtain ⟨rb, hrb⟩ : ∃ rb, rb = w.heap.size := ⟨_, rfl⟩
  have g1 : w1.heap[rb]? = some (.cells #[.slice ao l.length cap, .int .i64 0, .int .i64 0, .int .i64 0, .int .i64 0] 94) := by rw [hw1, hrb]; exact heap_alloc_new w _
  have hR : RR w1 rb kb (.slice ao l.length cap) l 0 0 := ⟨g1, tk.keep (t1.block kb hk id), Nat.lt_of_lt_of_le hk t1.size, by omega⟩
  obtain ⟨off, rfl, _, d0, d1, d2, d3, d4⟩ := hR.tk.at hx
  rw [Nat.zero_mul, Nat.add_zero] at d0 d1
  obtain ⟨c0, c1, c2, c3, c4⟩ := hR.cells
  have k0 : (0 : Int) < (l.length : Int) := by omega
  have hh := has_iff x
  have hdh := doc_head hx
  have hC := rblock_all hll l.length w1 B rb kb _ 0 1 0 hR (Nat.le_trans hB t1.size) (by omega) (by omega)
  rw [hx'] at hC
  have ht : Tch (fun k => k = rb) w1 w1 := Tch.refl _ _
  have hnew : ∀ w2 : World, Tch (fun k => k = rb) w1 w2 → Tch No w w2 := fun w2 t => t1.trans t (fun k hk => .inr (by rw [hk, hrb]; exact Nat.le_refl _))
  replace hnew := Lib.hid hnew
  replace hC := Lib.hid hC
  replace tk := Lib.hid tk
  replace hk := Lib.hid hk
  replace hx := Lib.hid hx
  replace hx' := Lib.hid hx'
  replace hl0 := Lib.hid hl0
  replace t1 := Lib.hid t1
  replace g1 := Lib.hid g1
  replace hR := Lib.hid hR
  replace hdh := Lib.hid hdh
  replace ht := Lib.hid ht
  replace hne := Lib.hid hne
  cases hhx : has x with
  | false =>
    have hd := hdh.out hhx
    rw [hhx] at hh
    have hDo : ∀ (e : Ending) (w' : World), e = .returned (.tuple #[.pointer none, .int .i64 x.line, .int .i64 90]) → Tch No w w' → RDoc w B l e w' := fun e w' he t => by unfold RDoc; rw [hd]; exact ⟨none, he, t⟩
    replace hDo := Lib.hid hDo
    replace hhx := Lib.hid hhx
    replace hd := Lib.hid hd
    by_cases k2 : x.kind < 2
    · have q2 : decide (x.kind < 2) = true := decide_eq_true k2
      replace hh := Lib.hid hh
      go_enter Try.func35, Try.ntmps35
      go_upto_region 2 with fail
      rw [← hw1, ← hrb]
      replace hw1 := Lib.hid hw1
      replace hrb := Lib.hid hrb
      go_wp2
      go_quiet (fail)
      go_wp2
      go_ret3
      exact hDo.out _ _ rfl (t1.out.trans (Tch.drewN No w1 nq) (fun _ h => h.elim))
    · have q2 : decide (x.kind < 2) = false := decide_eq_false k2
      have q4 : decide (4 < x.kind) = true := decide_eq_true (by
        rw [show decide (2 ≤ x.kind) = true from decide_eq_true (by omega)] at hh
        simp at hh; omega)
      replace k2 := Lib.hid k2
      replace hh := Lib.hid hh
      go_enter Try.func35, Try.ntmps35
      go_upto_region 2 with fail
      rw [← hw1, ← hrb]
      replace hw1 := Lib.hid hw1
      replace hrb := Lib.hid hrb
      go_wp2
      go_quiet (fail)
      go_wp2
      go_ret3
      exact hDo.out _ _ rfl (t1.out.trans (Tch.drewN No w1 nq) (fun _ h => h.elim))
  | true =>
    rw [hhx] at hh
    have h24 : 2 ≤ x.kind ∧ x.kind ≤ 4 := by
      have := hh.symm
      simpa using this
    have q2 : decide (x.kind < 2) = false := decide_eq_false (by omega)
    have q4 : decide (4 < x.kind) = false := decide_eq_false (by omega)
    have hh' : has ((l[0]?).getD zero) = true := by rw [hx'.out]; exact hhx
    have hC2 := hC.out hhx (by omega)
    have hd1 := fun x => doc_err hh' (x := x)
    have hd2 := fun t at2 m2 n => doc_more hh' (t := t) (at2 := at2) (m2 := m2) (n := n)
    have hd3 := fun t at2 m2 => doc_ok hh' (t := t) (at2 := at2) (m2 := m2)
    clear hC
    generalize blockW (loop l l.length) l 0 1 0 ⟨#[]⟩ = r at *
    replace hC2 := Lib.hid hC2
    replace hd1 := Lib.hid hd1
    replace hd2 := Lib.hid hd2
    replace hd3 := Lib.hid hd3
    replace hh := Lib.hid hh
    replace hh' := Lib.hid hh'
    replace hhx := Lib.hid hhx
    replace h24 := Lib.hid h24
    go_enter Try.func35, Try.ntmps35
    go_upto_region 2 with fail
    rw [← hw1, ← hrb]
    replace hw1 := Lib.hid hw1
    replace hrb := Lib.hid hrb
    go_upto_region 4 with fail
    rcases r with ⟨ln, er⟩ | ⟨t, at2, m2⟩
    · have hd := hd1.out _ rfl
      have hDo : ∀ (e : Ending) (w' : World), e = .returned (.tuple #[.pointer none, .int .i64 ln, .int .i64 er]) → Tch No w w' → RDoc w B l e w' := fun e w' he t => by unfold RDoc; rw [hd]; exact ⟨none, he, t⟩
      clear hd1 hd2 hd3
      replace hd := Lib.hid hd
      replace hDo := Lib.hid hDo
      go_upto_region 7 with (first
        | (go_at_call 49; refine hC2.out.mono ?_; clear hC2; rintro e w6 ⟨rfl, ⟨a6, m6, hR6⟩, tR⟩; replace tR := Lib.hid tR)
        | fail)
      clear c0 c1 c2 c3 c4
      have c2 : w6.cell? ⟨rb, 2, none⟩ = some (.int .i64 ln) := (cell_of_row _ _ 2 _ _ _ hR6).trans rfl
      have c3 : w6.cell? ⟨rb, 3, none⟩ = some (.int .i64 er) := (cell_of_row _ _ 3 _ _ _ hR6).trans rfl
      replace hR6 := Lib.hid hR6
      go_quiet (fail)
      go_wp2
      go_ret3
      exact hDo.out _ _ rfl (hnew.out _ (tR.out.trans (Tch.drewN _ w6 nq) (fun _ h => .inl h)))
    · have hde := fun n => hd2.out t at2 m2 n rfl
      have hdo := hd3.out _ _ _ rfl
      clear hd1 hd2 hd3
      replace hde := Lib.hid hde
      replace hdo := Lib.hid hdo
      go_upto_region 5 with (first
        | (go_at_call 49; refine hC2.out.mono ?_; clear hC2; rintro e w6 ⟨b, F, rfl, hP, hR6, tR, hF⟩; replace tR := Lib.hid tR; replace hP := Lib.hid hP; replace hF := Lib.hid hF)
        | fail)
      clear c0 c1 c2 c3 c4 d0 d1 d2 d3 d4
      obtain ⟨c0, c1, c2, c3, c4⟩ := hR6.cells
      cases hn : l[at2]? with
      | some n =>
        have k3 := nn_lt (List.getElem?_eq_some_iff.1 hn).1
        obtain ⟨o2, eo, _, d0, d1, d2, d3, d4⟩ := hR6.tk.at hn
        cases eo
        have hd := hde.out n hn
        have hDo : ∀ (e : Ending) (w' : World), e = .returned (.tuple #[.pointer none, .int .i64 n.line, .int .i64 90]) → Tch No w w' → RDoc w B l e w' := fun e w' he t => by unfold RDoc; rw [hd]; exact ⟨none, he, t⟩
        have hFl := Lib.hid (fail_any hR6 n.line 90)
        replace hR6 := Lib.hid hR6
        replace hDo := Lib.hid hDo
        replace hn := Lib.hid hn
        replace hd := Lib.hid hd
        go_upto_region 7 with (first
          | (go_at_call 50; refine hFl.out.mono ?_; clear hFl; rintro e w7 ⟨rfl, ⟨a7, m7, hR7⟩, tR7⟩; replace tR7 := Lib.hid tR7)
          | fail)
        clear c0 c1 c2 c3 c4 d0 d1 d2 d3 d4
        have c2 : w7.cell? ⟨rb, 2, none⟩ = some (.int .i64 n.line) := (cell_of_row _ _ 2 _ _ _ hR7).trans rfl
        have c3 : w7.cell? ⟨rb, 3, none⟩ = some (.int .i64 90) := (cell_of_row _ _ 3 _ _ _ hR7).trans rfl
        replace hR7 := Lib.hid hR7
        go_quiet (fail)
        go_wp2
        go_ret3
        exact hDo.out _ _ rfl (hnew.out _ ((tR.out.trans tR7.out (fun _ h => .inl h)).trans (Tch.drewN _ w7 nq) (fun _ h => .inl h)))
      | none =>
        have k3 := nn_ge (Nat.not_lt.2 (List.getElem?_eq_none_iff.1 hn))
        have k4 : decide (at2 < l.length) = false := decide_eq_false (Nat.not_lt.2 (List.getElem?_eq_none_iff.1 hn))
        have hd := hdo.out hn
        have hDo : ∀ (e : Ending) (w' : World), e = .returned (.tuple #[ptr b, .int .i64 0, .int .i64 0]) → PT w' B t b F → Tch No w w' → (∀ k, F k → k < w'.heap.size) → RDoc w B l e w' := fun e w' he hp t hf => by unfold RDoc; rw [hd]; exact ⟨b, F, he, hp, t, hf⟩
        replace hR6 := Lib.hid hR6
        replace hDo := Lib.hid hDo
        replace hn := Lib.hid hn
        replace hd := Lib.hid hd
        go_upto_region 7 with fail
        go_quiet (fail)
        go_wp2
        go_ret3
        exact hDo.out _ _ rfl (PT.tch (Tch.drewN No w6 nq) _ _ _ hP.out (fun _ _ h => h)) (hnew.out _ (tR.out.trans (Tch.drewN _ w6 nq) (fun _ h => .inl h))) (fun k hk => (hF.out k hk).2)
end Go.Proofs.Ytcnjmkjfgghgoaa
end

section
/- The document's trees, laid out as nodes. -/
namespace Go.Tr
theorem kid_size {ks : List T} {i : Nat} {t : T} (h : ks[i]? = some t) : t.size ≤ sizes ks := by
  induction ks generalizing i with
  | nil => simp at h
  | cons a ks ih =>
    cases i with
    | zero => simp at h; subst h; simp only [sizes]; omega
    | succ i => simp at h; have := ih h; simp only [sizes]; omega
theorem take_size {ks : List T} {i : Nat} {t : T} (h : ks[i]? = some t) : sizes (ks.take i) + t.size ≤ sizes ks := by
  have hi := (List.getElem?_eq_some_iff.1 h).1
  have e : ks.take (i + 1) = ks.take i ++ [t] := by
    rw [List.take_succ_eq_append_getElem hi]
    rw [List.getElem?_eq_getElem hi] at h
    cases h; rfl
  have h2 : sizes ks = sizes (ks.take (i + 1)) + sizes (ks.drop (i + 1)) := by rw [← sizes_append, List.take_append_drop]
  rw [e, sizes_append] at h2
  simp only [sizes] at h2
  omega
theorem doc_size {l : List Tok} {t : T} (h : doc l = .ok t) : t.size ≤ 4096 := by
  unfold doc at h
  split at h
  · split at h
    · cases h
    · rename_i t' a2 m2 he
      split at h
      · cases h
      · cases h
        have h1 := block_caps (loop_caps l _) (Nat.zero_le _) he
        have h2 := block_goes (loop_goes l _) he
        omega
  · cases h
end Go.Tr
namespace Go.Proofs.Ytcnjmkjfgghgoaa
open Go.RowKit Go.Mp Go.Tr
set_option linter.unusedVariables false
set_option maxRecDepth 100000
set_option maxHeartbeats 2000000
/-- A node's kids anew, out of a list beside the nodes. -/
theorem NM.putKid {w : World} {B : Nat} {F : Nat → Prop} {R : List (Nd × Value)} {g cap : Nat} {kv' : Value} (h : NM w B F (.slice (some ⟨g, 0, none⟩) R.length cap) R) {i : Nat} {x : Nd × Value} (hx : R[i]? = some x) {ks' : List Int} (row2 : w.ownsRow B 3 1 kv' ks'.length (icells ks')) (hn : ∀ g', kv'.ownBlock = some g' → ¬ F g') :
    w.cell? ⟨g, i * 6 + 5, none⟩ = some x.2 ∧ w.frozen? ⟨g, i * 6 + 5, none⟩ = false ∧ NM (w.setCell ⟨g, i * 6 + 5, none⟩ kv') B (fun k => F k ∨ kv'.ownBlock = some k) (.slice (some ⟨g, 0, none⟩) R.length cap) (R.set i ({ x.1 with kids := ks' }, kv')) := by
  have hil := (List.getElem?_eq_some_iff.1 hx).1
  obtain ⟨g', hg, _, _, c1, c2⟩ := ownsRow_cell h.row (j := i * 6 + 5) (u := x.2) (by rw [ncs_at hx 5 (by omega)]; rfl)
  cases hg
  refine ⟨c1, c2, ⟨?_, fun a y hy => ?_, fun a b y z hab hy hz g' hg => ?_, ⟨fun g' hg => .inl (h.own.1 g' hg), fun a y hy g' hg => ?_⟩, fun k hk => ?_⟩⟩
  · rw [List.length_set, ← ncs_set (x' := ({ x.1 with kids := ks' }, kv')) hx 5 (by omega) (u := kv') rfl]
    exact (h.row.stored (i * 6 + 5) kv').1
  · by_cases hij : i = a
    · subst hij
      rw [List.getElem?_set_self hil] at hy
      cases hy
      exact ownsRow_setCell_other (a := ⟨g, i * 6 + 5, none⟩) row2 (fun he => rows_apart row2 h.row (by decide) _ he rfl) kv'
    · rw [List.getElem?_set_ne hij] at hy
      exact ownsRow_setCell_other (a := ⟨g, i * 6 + 5, none⟩) (h.kid a y hy) (fun he => rows_apart (h.kid a y hy) h.row (by decide) _ he rfl) kv'
  · by_cases hia : i = a
    · subst hia
      rw [List.getElem?_set_self hil] at hy
      cases hy
      rw [List.getElem?_set_ne hab] at hz
      exact fun he => hn g' hg (h.own.2 b z hz g' he)
    · rw [List.getElem?_set_ne hia] at hy
      by_cases hib : i = b
      · subst hib
        rw [List.getElem?_set_self hil] at hz
        cases hz
        exact fun he => hn g' he (h.own.2 a y hy g' hg)
      · rw [List.getElem?_set_ne hib] at hz
        exact h.apart a b y z hab hy hz g' hg
  · by_cases hia : i = a
    · subst hia
      rw [List.getElem?_set_self hil] at hy
      cases hy
      exact .inr hg
    · rw [List.getElem?_set_ne hia] at hy
      exact .inl (h.own.2 a y hy g' hg)
  · rcases hk with hk | hk
    · exact ⟨(h.lt k hk).1, by simpa [World.setCell] using (h.lt k hk).2⟩
    · exact ⟨(ownsRow_ge row2 hk).1, by simpa [World.setCell] using (ownsRow_ge row2 hk).2⟩
def LOut (w : World) (B : Nat) (Fn : Nat → Prop) (R : List (Nd × Value)) (t : T) (e : Ending) (w' : World) : Prop := ∃ v' Fn' R', e = .returned v' ∧ NM w' B Fn' v' R' ∧ R'.map (·.1) = R.map (·.1) ++ lay R.length t ∧ Tch Fn w w' ∧ ∀ k, Fn' k → Fn k ∨ w.heap.size ≤ k
def LaidOK (t : T) : Prop := ∀ (w : World) (B b : Nat) (F Fn : Nat → Prop) (nv : Value) (R : List (Nd × Value)), PT w B t b F → NM w B Fn nv R → (∀ k, F k → ¬ Fn k ∧ k < w.heap.size) → B ≤ w.heap.size → R.length + t.size ≤ 4096 →
  Calls Try.prog 36 #[ptr b, nv] w (LOut w B Fn R t)
/-- What holds at a round's head. -/
structure LL (w wr : World) (B b : Nat) (F Fn : Nat → Prop) (R : List (Nd × Value)) (n0 : Nd) (ks : List T) (i : Nat) (ov kv : Value) (F1 : Nat → Prop) (R1 : List (Nd × Value)) : Prop where
  nm : NM wr B F1 ov R1
  map : R1.map (·.1) = R.map (·.1) ++ n0 :: lays (R.length + 1) (ks.take i)
  sub : ∀ k, F1 k → Fn k ∨ w.heap.size ≤ k
  row : wr.ownsRow w.heap.size 3 1 kv i (icells (kidAts (R.length + 1) (ks.take i)))
  kn : ∀ k, kv.ownBlock = some k → ¬ F1 k
  t : Tch Fn w wr
section
variable {w wr w2 : World} {B b i : Nat} {F Fn F1 : Nat → Prop} {R R1 : List (Nd × Value)} {n0 : Nd} {ks : List T} {ov kv : Value}
theorem LL.len (h : LL w wr B b F Fn R n0 ks i ov kv F1 R1) : R1.length = R.length + 1 + sizes (ks.take i) := by
  have := congrArg List.length h.map
  simp only [List.length_map, List.length_append, List.length_cons, lays_length] at this
  omega
/-- A kid's number more. -/
theorem LL.kidNo {kv2 : Value} (h : LL w wr B b F Fn R n0 ks i ov kv F1 R1) {t : T} (ht : ks[i]? = some t) (row : w2.ownsRow w.heap.size 3 1 kv2 (i + 1) (icells (kidAts (R.length + 1) (ks.take i)) ++ [.int .i64 (R1.length : Int)])) (hg : wr.grownBy w2 kv.ownBlock) (hl : ∀ g, kv2.ownBlock = some g → kv.ownBlock = some g ∨ wr.heap.size ≤ g) :
    NM w2 B F1 ov R1 ∧ w2.ownsRow w.heap.size 3 1 kv2 (i + 1) (icells (kidAts (R.length + 1) (ks.take (i + 1)))) ∧ (∀ k, kv2.ownBlock = some k → ¬ F1 k ∧ k < w2.heap.size) ∧ Tch Fn w w2 := by
  have tt : Tch (fun k => kv.ownBlock = some k) wr w2 := Tch.grown hg (fun k hk => .inl hk)
  have hi := (List.getElem?_eq_some_iff.1 ht).1
  have e : ks.take (i + 1) = ks.take i ++ [t] := by
    rw [List.take_succ_eq_append_getElem hi]
    rw [List.getElem?_eq_getElem hi] at ht
    cases ht; rfl
  refine ⟨h.nm.tch tt (fun k hk e => h.kn k e hk), ?_, fun k hk => ⟨fun hf => ?_, (ownsRow_ge row hk).2⟩, h.t.trans tt (fun k hk => .inr (ownsRow_ge h.row hk).1)⟩
  · rw [e, kidAts_append]
    rw [h.len] at row
    simpa [icells, kidAts] using row
  · rcases hl k hk with h1 | h1
    · exact h.kn k h1 hf
    · have := (h.nm.lt k hf).2; omega
end
theorem take_lay {ks : List T} {i b : Nat} {t : T} (ht : ks[i]? = some t) : lays b (ks.take (i + 1)) = lays b (ks.take i) ++ lay (b + sizes (ks.take i)) t := by
  have hi := (List.getElem?_eq_some_iff.1 ht).1
  have e : ks.take (i + 1) = ks.take i ++ [t] := by
    rw [List.take_succ_eq_append_getElem hi]
    rw [List.getElem?_eq_getElem hi] at ht
    cases ht; rfl
  rw [e, lays_append]
  simp [lays]
section
variable {w wr w2 w3 : World} {B b i : Nat} {F Fn F1 F2 : Nat → Prop} {R R1 R2 : List (Nd × Value)} {n0 : Nd} {ks : List T} {ov kv kv2 ov2 : Value}
theorem LL.next (h : LL w wr B b F Fn R n0 ks i ov kv F1 R1) {t : T} (ht : ks[i]? = some t) (hrow : w2.ownsRow w.heap.size 3 1 kv2 (i + 1) (icells (kidAts (R.length + 1) (ks.take (i + 1))))) (hkn : ∀ k, kv2.ownBlock = some k → ¬ F1 k ∧ k < w2.heap.size) (t2 : Tch Fn w w2)
    (hN : NM w3 B F2 ov2 R2) (hm : R2.map (·.1) = R1.map (·.1) ++ lay R1.length t) (t3 : Tch F1 w2 w3) (hs : ∀ k, F2 k → F1 k ∨ w2.heap.size ≤ k) : LL w w3 B b F Fn R n0 ks (i + 1) ov2 kv2 F2 R2 := by
  refine ⟨hN, ?_, fun k hk => ?_, ownsRow_tch hrow t3 (fun g hg => (hkn g hg).1), fun k hk hf => ?_, t2.trans t3 (fun k hk => h.sub k hk)⟩
  · rw [hm, h.map, h.len, take_lay ht, List.append_assoc]; rfl
  · rcases hs k hk with h1 | h1
    · exact h.sub k h1
    · exact .inr (Nat.le_trans t2.size h1)
  · rcases hs k hf with h1 | h1
    · exact (hkn k hk).1 h1
    · have := (hkn k hk).2; omega
/-- All kids are laid: the node gets them. -/
theorem LL.done {on oc : Nat} {oo : Option Addr} (h : LL w wr B b F Fn R n0 ks ks.length (.slice oo on oc) kv F1 R1) (hB : B ≤ w.heap.size) (h0 : n0.kids = []) :
    ∃ g u, oo = some ⟨g, 0, none⟩ ∧ on = R1.length ∧ R.length < R1.length ∧ wr.cell? ⟨g, R.length * 6 + 5, none⟩ = some u ∧ wr.frozen? ⟨g, R.length * 6 + 5, none⟩ = false ∧
      ∃ F2 R2, NM (wr.setCell ⟨g, R.length * 6 + 5, none⟩ kv) B F2 (.slice (some ⟨g, 0, none⟩) on oc) R2 ∧ R2.map (·.1) = R.map (·.1) ++ { n0 with kids := kidAts (R.length + 1) ks } :: lays (R.length + 1) ks ∧ Tch Fn w (wr.setCell ⟨g, R.length * 6 + 5, none⟩ kv) ∧ ∀ k, F2 k → Fn k ∨ w.heap.size ≤ k := by
  have hm := h.map
  rw [List.take_of_length_le (Nat.le_refl _)] at hm
  have hrow := h.row
  rw [List.take_of_length_le (Nat.le_refl _)] at hrow
  have hl := h.len
  have hx : ∃ x, R1[R.length]? = some x ∧ x.1 = n0 := by
    have h1 := congrArg (fun l => l[R.length]?) hm
    simp only [List.getElem?_map] at h1
    rw [List.getElem?_append_right (by simp)] at h1
    cases hr : R1[R.length]? with
    | none => rw [hr] at h1; simp at h1
    | some x => rw [hr] at h1; exact ⟨x, rfl, by simpa using h1⟩
  obtain ⟨x, hx, hxn⟩ := hx
  obtain ⟨g, cp, e, _⟩ := h.nm.at hx
  simp only [Value.slice.injEq] at e
  obtain ⟨rfl, rfl, rfl⟩ := e
  have hkl : (kidAts (R.length + 1) ks).length = ks.length := kidAts_length _ _
  obtain ⟨c1, c2, hN⟩ := h.nm.putKid hx (ks' := kidAts (R.length + 1) ks) (kv' := kv) (by rw [hkl]; exact ownsRow_base hrow hB) h.kn
  refine ⟨g, x.2, rfl, rfl, by omega, c1, c2, _, _, hN, ?_, h.t.trans (Tch.setCell (S := fun k => k = g) wr (p := ⟨g, R.length * 6 + 5, none⟩) rfl kv) (fun k hk => h.sub k (by rw [hk]; exact h.nm.own.1 g rfl)), fun k hk => ?_⟩
  · rw [List.map_set, hm, List.set_append_right _ _ (by simp)]
    simp [hxn]
  · rcases hk with hk | hk
    · exact h.sub k hk
    · exact .inr (ownsRow_ge h.row hk).1
end
end Go.Proofs.Ytcnjmkjfgghgoaa
end

section
/- Laid, walked. -/
namespace Go.Proofs.Ytcnjmkjfgghgoaa
open Go.RowKit Go.Mp Go.Tr
set_option linter.unusedVariables false
set_option maxRecDepth 100000
set_option maxHeartbeats 4000000
theorem five_keep' {w w7 : World} {row : Option Nat} {b : Nat} {x0 x1 x2 x3 x4 : Value} (hg : w.grownBy w7 row) (hn : row ≠ some b) (h0 : w.cell? ⟨b, 0, none⟩ = some x0) (h1 : w.cell? ⟨b, 1, none⟩ = some x1) (h2 : w.cell? ⟨b, 2, none⟩ = some x2) (h3 : w.cell? ⟨b, 3, none⟩ = some x3) (h4 : w.cell? ⟨b, 4, none⟩ = some x4) :
    w7.cell? ⟨b, 0, none⟩ = some x0 ∧ w7.cell? ⟨b, 1, none⟩ = some x1 ∧ w7.cell? ⟨b, 2, none⟩ = some x2 ∧ w7.cell? ⟨b, 3, none⟩ = some x3 ∧ w7.cell? ⟨b, 4, none⟩ = some x4 := by
  have t : Tch (fun k => row = some k) w w7 := Tch.grown hg (fun k hk => .inl hk)
  exact ⟨t.cell_some h0 hn, t.cell_some h1 hn, t.cell_some h2 hn, t.cell_some h3 hn, t.cell_some h4 hn⟩
theorem nn_nodes {a s : Nat} (h : a + (1 + s) ≤ 4096) : a + 1 ≤ maxLen ∧ (a + 1) * 80 ≤ 140737488355328 := by unfold maxLen; omega
theorem nn_kids {i n s : Nat} (h : i < n) (h2 : n ≤ s) (h3 : s ≤ 4096) : i + 1 ≤ maxLen ∧ (i + 1) * 8 ≤ 140737488355328 ∧ i < 8796093022208 := by unfold maxLen; omega
theorem nn_klen {n s : Nat} (h2 : n ≤ s) (h3 : s ≤ 4096) : n < 8796093022208 := by omega
theorem nn_lt' {a b : Nat} (h : a < b) : (a : Int) < (b : Int) := by omega
theorem laid_any : ∀ (n : Nat) (t : T), t.size ≤ n → LaidOK t := by
  intro n
  induction n with
  | zero => intro t ht; have := size_pos t; omega
  | succ n ih =>
    intro t ht
    obtain ⟨kd, key, text, q, ln, ks⟩ := t
    intro w B b F Fn nv R hp hN hF hB hsz
    have hks : ∀ (i : Nat) (t : T), ks[i]? = some t → LaidOK t := fun i t hi => ih t (by have := kid_size hi; simp only [T.size] at ht; omega)
    unfold PT at hp
    obtain ⟨kv0, bs, F', hb, hrow0, hpts, hFb, hFk, hF'⟩ := hp
    have hbl := PTs.len _ _ _ hpts
    obtain ⟨ao, cap, rfl⟩ := ownsRow_shape hN.row
    have d0 : w.cell? ⟨b, 0, none⟩ = some (.int .i64 kd) := (cell_of_row _ _ 0 _ _ _ hb).trans rfl
    have d1 : w.cell? ⟨b, 1, none⟩ = some (.string key) := (cell_of_row _ _ 1 _ _ _ hb).trans rfl
    have d2 : w.cell? ⟨b, 2, none⟩ = some (.string text) := (cell_of_row _ _ 2 _ _ _ hb).trans rfl
    have d3 : w.cell? ⟨b, 3, none⟩ = some (.bool q) := (cell_of_row _ _ 3 _ _ _ hb).trans rfl
    have d4 : w.cell? ⟨b, 4, none⟩ = some (.int .i64 ln) := (cell_of_row _ _ 4 _ _ _ hb).trans rfl
    have hnk := Lib.hid (show (Value.slice ao R.length cap).ownBlock ≠ some b from fun e => (hF b hFb).1 (hN.own.1 b e))
    have hrw := Lib.hid (show w.drew.ownsRow B 58 6 (.slice ao R.length cap) R.length (ncs R) from hN.row)
    obtain ⟨i0, hi, hz0, hz1, hz2⟩ := info_parts info58
    replace hi := Lib.hid hi
    replace hz0 := Lib.hid hz0
    replace hz1 := Lib.hid hz1
    replace hz2 := Lib.hid hz2
    have hsz' := hsz
    simp only [T.size] at hsz'
    replace hsz := Lib.hid hsz
    replace hsz' := Lib.hid hsz'
    replace hb := Lib.hid hb
    replace hrow0 := Lib.hid hrow0
    replace hpts := Lib.hid hpts
    replace hFk := Lib.hid hFk
    replace hF' := Lib.hid hF'
    replace hbl := Lib.hid hbl
    replace hks := Lib.hid hks
    replace ht := Lib.hid ht
    replace hN := Lib.hid hN
    replace hF := Lib.hid hF
    replace hFb := Lib.hid hFb
    have hBd := Lib.hid (show B ≤ w.drew.heap.size from hB)
    replace hB := Lib.hid hB
    clear ih
    go_enter Try.func36, Try.ntmps36
    go_upto_region 2 with fail
    go_region_held3 (fun w' => w'.cell? ⟨b, 0, none⟩ = some (.int .i64 kd) ∧ w'.cell? ⟨b, 1, none⟩ = some (.string key) ∧ w'.cell? ⟨b, 2, none⟩ = some (.string text) ∧ w'.cell? ⟨b, 3, none⟩ = some (.bool q) ∧ w'.cell? ⟨b, 4, none⟩ = some (.int .i64 ln)) (first | go_keep | exact five_keep' hg7.out hnk.out d0 d1 d2 d3 d4 | fail)
      ((refine step_append_us (by rfl) _ _ 50 (by rfl) B 58 i0 (.agg #[.int .i64 0, .string ⟨#[]⟩, .string ⟨#[]⟩, .bool false, .int .i64 0, .slice none 0 0]) 6 80 Try.underlying50 hi.out hz0.out hz1.out hz2.out rfl (by decide) _ R.length _ (by rfl) hrw.out 1 (by rfl) rfl (by simp [Value.oneCell']) (nn_nodes hsz'.out).1 (nn_nodes hsz'.out).2 hBd.out ?_; intro v7 w7 hr7 hg7 hl7; obtain ⟨o7, c7, rfl⟩ := ownsRow_shape hr7; replace hr7 := Lib.hid hr7; replace hg7 := Lib.hid hg7; replace hl7 := Lib.hid hl7))
    have hT7 : Tch (fun k => (Value.slice ao R.length cap).ownBlock = some k) w w7 := (Tch.drew _ w).trans (Tch.grown hg7.out (fun k hk => .inl hk)) (fun _ h => .inl h)
    have hN7 := hN.out.push (n := ⟨kd, key, text, q, ln, []⟩) rfl hr7.out hT7 hl7.out
    have hL7 : LL w w7 B b F Fn R ⟨kd, key, text, q, ln, []⟩ ks 0 (.slice o7 (R.length + 1) c7) (.slice none 0 0) _ _ := ⟨hN7, by simp [lays], fun k hk => by
      rcases hk with hk | hk
      · exact .inl hk
      · rcases hl7.out k hk with h1 | h1
        · exact .inl (hN.out.own.1 k h1)
        · exact .inr h1, World.ownsRow_nil _ _ _ _, (fun k hk => by cases hk), hT7.mono (fun k hk => hN.out.own.1 k hk)⟩
    replace hL7 := Lib.hid hL7
    replace hN7 := Lib.hid hN7
    replace hT7 := Lib.hid hT7
    clear d0 d1 d2 d3 d4
    go_wp2
    obtain ⟨j0, hj, hj0, hj1, hj2⟩ := info_parts info3
    replace hj := Lib.hid hj
    replace hj0 := Lib.hid hj0
    replace hj1 := Lib.hid hj1
    replace hj2 := Lib.hid hj2
    go_loopg [1, 6, 7] (ks.length + 1) (fun gg ov kv iv wr => ∃ (i : Nat) (F1 : Nat → Prop) (R1 : List (Nd × Value)), gg = ks.length - i + 1 ∧ iv = .int .i64 i ∧ i ≤ ks.length ∧ LL w wr B b F Fn R ⟨kd, key, text, q, ln, []⟩ ks i ov kv F1 R1)
    case atStart => exact ⟨0, _, _, rfl, rfl, Nat.zero_le _, hL7.out⟩
    case round =>
      obtain ⟨i, F1, R1, rfl, rfl, hil, hL⟩ := hrel
      have hbw := (hF.out b hFb.out).2
      have tb : wr.heap[b]? = w.heap[b]? := hL.t.block b hbw (hF.out b hFb.out).1
      have p5 : wr.cell? ⟨b, 5, none⟩ = some kv0 := (World.cell?_of_block tb).trans ((cell_of_row _ _ 5 _ _ _ hb.out).trans rfl)
      obtain ⟨ko0, kc0, ek0⟩ := ownsRow_shape hrow0.out
      rw [hbl.out] at ek0
      obtain ⟨on, oc, eov⟩ := ownsRow_shape hL.nm.row
      obtain ⟨ko, kc, ekv⟩ := ownsRow_shape hL.row
      subst eov ekv
      rw [ek0] at p5
      replace tb := Lib.hid tb
      replace hbw := Lib.hid hbw
      by_cases hlt : i < ks.length
      · have k0 := nn_lt hlt
        have hx := List.getElem?_eq_getElem hlt
        generalize ks[i] = t at *
        have hpr := PTs.tch hL.t _ _ _ hpts.out (fun k hk => (hF.out k (hF'.out k hk).1).1)
        obtain ⟨bi, Fi, hbi, hpi, hFi⟩ := PTs.at _ _ _ hpr i t hx
        have hr0 := ownsRow_tch hrow0.out hL.t (fun g hg => (hF.out g (hFk.out g hg)).1)
        rw [ek0] at hr0
        obtain ⟨g0, e0, _, _, ck, _⟩ := ownsRow_cell hr0 (j := i) (u := ptr bi) (by simp [hbi])
        subst e0
        have hFk0 : F g0 := hFk.out g0 (by rw [ek0]; rfl)
        have hLn := hL.len
        have hBr := Lib.hid (show w.heap.size ≤ wr.heap.size from hL.t.size)
        have hkr := Lib.hid hL.row
        have hlen4 := Lib.hid (show ks.length ≤ sizes ks from le_sizes ks)
        have hsk := Lib.hid (show sizes ks ≤ 4096 by have := hsz'.out; omega)
        have hkw : ∀ k, (Value.slice ko i kc).ownBlock = some k → w.heap.size ≤ k := fun k hk => (ownsRow_ge hL.row hk).1
        have hts := take_size hx
        replace hpr := Lib.hid hpr
        replace hpi := Lib.hid hpi
        replace hr0 := Lib.hid hr0
        replace hFk0 := Lib.hid hFk0
        replace hLn := Lib.hid hLn
        replace hL := Lib.hid hL
        replace hx := Lib.hid hx
        replace hbi := Lib.hid hbi
        replace hFi := Lib.hid hFi
        replace ek0 := Lib.hid ek0
        replace hkw := Lib.hid hkw
        replace hts := Lib.hid hts
        replace hil := Lib.hid hil
        have hwi := Lib.hid (nn_succ hlt (nn_klen hlen4.out hsk.out))
        go_upto_region 8 with (first
          | (at_builtin; refine wp_append_us rfl _ _ 56 (by rfl) w.heap.size 3 j0 (.int .i64 0) 1 8 Try.underlying56 hj.out hj0.out hj1.out hj2.out rfl (by decide) _ i _ (by rfl) hkr.out 1 (by rfl) rfl (by simp [Value.oneCell']) (nn_kids hlt hlen4.out hsk.out).1 (nn_kids hlt hlen4.out hsk.out).2.1 hBr.out ?_; intro v8 w8 hr8 hg8 hl8; obtain ⟨o8, c8, rfl⟩ := ownsRow_shape hr8; replace hr8 := Lib.hid hr8; replace hg8 := Lib.hid hg8; replace hl8 := Lib.hid hl8)
          | fail)
        obtain ⟨hN8, hrow8, hkn8, t8⟩ := hL.out.kidNo hx.out hr8.out hg8.out hl8.out
        have tk8 : Tch (fun k => (Value.slice ko i kc).ownBlock = some k) wr w8 := Tch.grown hg8.out (fun k hk => .inl hk)
        have nb : (Value.slice ko i kc).ownBlock ≠ some b := fun e => by have := hkw.out b e; have := hbw.out; omega
        have nk : ∀ k, F k → (Value.slice ko i kc).ownBlock ≠ some k := fun k hk e => by have := hkw.out k e; have := (hF.out k hk).2; omega
        have p8 : w8.cell? ⟨b, 5, none⟩ = some (.slice (some ⟨g0, 0, none⟩) ks.length kc0) := tk8.cell_some p5 nb
        have q8 : w8.cell? ⟨g0, i, none⟩ = some (ptr bi) := tk8.cell_some ck (nk g0 hFk0.out)
        have hp8 := PT.tch tk8 _ _ _ hpi.out (fun k hk e => nk k (hF'.out k (hFi.out k hk)).1 e)
        have hC := hks.out i t hx.out w8 B bi Fi F1 _ R1 hp8 hN8 (fun k hk => by
          have h1 := hF.out k (hF'.out k (hFi.out k hk)).1
          refine ⟨fun hf => ?_, by have := t8.size; omega⟩
          rcases hL.out.sub k hf with h2 | h2
          · exact h1.1 h2
          · omega) (Nat.le_trans hB.out t8.size) (by have := hLn.out; have := hts.out; have := hsz'.out; omega)
        replace hC := Lib.hid hC
        replace hN8 := Lib.hid hN8
        replace hrow8 := Lib.hid hrow8
        replace hkn8 := Lib.hid hkn8
        replace t8 := Lib.hid t8
        replace tk8 := Lib.hid tk8
        replace nb := Lib.hid nb
        replace nk := Lib.hid nk
        replace hp8 := Lib.hid hp8
        clear p5 ck
        go_wp2_with (first
          | (go_at_call 36; refine hC.out.mono ?_; clear hC; rintro e w9 ⟨v9, F9, R9, rfl, hN9, hm9, t9, hs9⟩; replace hN9 := Lib.hid hN9; replace hm9 := Lib.hid hm9; replace t9 := Lib.hid t9; replace hs9 := Lib.hid hs9)
          | fail)
        go_roundg (ks.length - (i + 1) + 1)
        case rel => exact ⟨i + 1, F9, R9, rfl, by rw [hwi.out], hlt, hL.out.next hx.out hrow8.out hkn8.out t8.out hN9.out hm9.out t9.out hs9.out⟩
        case measure => exact Nat.succ_lt_succ (nn_sub hlt)
      · have k0 := nn_ge hlt
        have k1 : decide (i < ks.length) = false := decide_eq_false hlt
        have e : i = ks.length := nn_eq hil hlt
        subst e
        obtain ⟨g, u, rfl, _, hlr, cu, cf, F2, R2, hN2, hm2, t2, hs2⟩ := hL.done hB.out rfl
        have k2 := nn_lt' hlr
        have hfin : R2.map (·.1) = R.map (·.1) ++ lay R.length (.node kd key text q ln ks) := hm2
        replace hm2 := Lib.hid hm2
        replace hfin := Lib.hid hfin
        replace hN2 := Lib.hid hN2
        replace t2 := Lib.hid t2
        replace hs2 := Lib.hid hs2
        replace hL := Lib.hid hL
        replace hlt := Lib.hid hlt
        replace hil := Lib.hid hil
        replace ek0 := Lib.hid ek0
        replace hlr := Lib.hid hlr
        go_wp2
        go_ret
        exact ⟨_, F2, R2, rfl, hN2.out, hfin.out, t2.out, hs2.out⟩
end Go.Proofs.Ytcnjmkjfgghgoaa
end

section

namespace Go.Tr
/-- What is left, tokens being gathered. -/
def restC (ts : List T) (cur r : List Tok) : Except (Nat × Fa) (List T) := match docsRun ts.length (segs cur r) with
  | .error x => .error x
  | .ok us => .ok (ts ++ us)
def restAt (l : List Tok) (ts : List T) (cur : List Tok) (i : Nat) : Except (Nat × Fa) (List T) := if i ≤ l.length then restC ts cur (l.drop i) else .ok ts
theorem restAt_start (l : List Tok) : ofRun l = restAt l [] [] 0 := by
  unfold restAt restC
  rw [if_pos (Nat.zero_le _), List.drop_zero]
  unfold ofRun
  rw [List.length_nil]
  split <;> simp_all
theorem restAt_end {l : List Tok} (ts : List T) (cur : List Tok) {i : Nat} (h : ¬ i ≤ l.length) : restAt l ts cur i = .ok ts := if_neg h
theorem drop_at {l : List Tok} {i : Nat} {t : Tok} (h : l[i]? = some t) : l.drop i = t :: l.drop (i + 1) := by
  have hi := (List.getElem?_eq_some_iff.1 h).1
  rw [List.drop_eq_getElem_cons hi]
  rw [List.getElem?_eq_getElem hi] at h
  cases h; rfl
theorem restAt_more {l : List Tok} {i : Nat} {t : Tok} (h : l[i]? = some t) (hk : t.kind ≠ 1) (ts : List T) (cur : List Tok) : restAt l ts cur i = restAt l ts (cur ++ [t]) (i + 1) := by
  have hi := (List.getElem?_eq_some_iff.1 h).1
  unfold restAt
  rw [if_pos (by omega), if_pos (by omega)]
  unfold restC
  rw [drop_at h, segs_cons, if_neg hk]
theorem restAt_none {l : List Tok} {i : Nat} (hi : i ≤ l.length) (h : ∀ t, l[i]? = some t → t.kind = 1) (ts : List T) : restAt l ts [] i = restAt l ts [] (i + 1) := by
  rcases Nat.lt_or_ge i l.length with h1 | h1
  · have hx := List.getElem?_eq_getElem h1
    unfold restAt
    rw [if_pos (by omega), if_pos (by omega)]
    unfold restC
    rw [drop_at hx, segs_cons, if_pos (h _ hx)]
    rfl
  · unfold restAt
    rw [if_pos hi, if_neg (by omega)]
    unfold restC
    rw [List.drop_eq_nil_of_le h1]
    simp [segs, docsRun]
theorem restAt_cut {l : List Tok} {i : Nat} (hi : i ≤ l.length) (h : ∀ t, l[i]? = some t → t.kind = 1) {cur : List Tok} (hc : cur ≠ []) (ts : List T) : restAt l ts cur i = match doc cur with
    | .error x => .error (ts.length, x)
    | .ok t => restAt l (ts ++ [t]) [] (i + 1) := by
  have hce : cur.isEmpty = false := by cases cur with
    | nil => exact absurd rfl hc
    | cons a b => rfl
  rcases Nat.lt_or_ge i l.length with h1 | h1
  · have hx := List.getElem?_eq_getElem h1
    conv => lhs; unfold restAt
    rw [if_pos (by omega)]
    unfold restC
    rw [drop_at hx, segs_cons, if_pos (h _ hx), hce]
    simp only [docsRun, Bool.false_eq_true, if_false]
    rcases doc cur with x | t
    · rfl
    · simp only
      unfold restAt
      rw [if_pos (by omega)]
      unfold restC
      simp only [List.length_append, List.length_cons, List.length_nil]
      rcases docsRun (ts.length + 1) (segs [] (l.drop (i + 1))) with x | us <;> simp
  · conv => lhs; unfold restAt
    rw [if_pos hi]
    unfold restC
    rw [List.drop_eq_nil_of_le h1]
    simp only [segs, hce, Bool.false_eq_true, if_false, docsRun]
    rcases doc cur with x | t
    · rfl
    · simp only
      rw [restAt_end _ _ (by omega)]
end Go.Tr
namespace Go.Proofs.Ytcnjmkjfgghgoaa
open Go.RowKit Go.Mp Go.Tr
set_option linter.unusedVariables false
set_option maxRecDepth 20000
theorem TokS.stay {S : Nat → Prop} {w w' : World} {kb : Nat} {v : Value} {l : List Tok} (h : TokS w kb v l) (hk : kb < w.heap.size ∨ l = []) (t : Tch S w w') (hn : ¬ S kb) : TokS w' kb v l := by
  rcases hk with hk | hk
  · exact h.keep (t.block kb hk hn)
  · subst hk
    obtain ⟨ao, cap, hv, _⟩ := h
    exact ⟨ao, cap, hv, fun i t ht => by cases ht⟩
theorem rowTok {w : World} {B n cap : Nat} {ao : Option Addr} {cur : List Tok} (h : w.ownsRow B 48 5 (.slice ao n cap) cur.length (tcs cur)) (hc : cur ≠ []) : ∃ g, ao = some ⟨g, 0, none⟩ ∧ n = cur.length ∧ g < w.heap.size ∧ TokS w g (.slice ao n cap) cur := by
  cases cur with
  | nil => exact absurd rfl hc
  | cons a r =>
    obtain ⟨g, e, e2, _, _⟩ := ownsRow_cell h (j := 0 * 5 + 0) (u := .int .i64 a.kind) (by rw [tcs_at (t := a) rfl 0 (by omega)]; rfl)
    subst e
    refine ⟨g, rfl, e2, (ownsRow_ge h rfl).2, _, cap, by rw [e2], fun i t ht => ⟨0, rfl, ?_⟩⟩
    have hcl : ∀ (j : Nat) (u : Value), j < 5 → (tc t)[j]? = some u → w.cell? ⟨g, i * 5 + j, none⟩ = some u := fun j u hj hu => by
      obtain ⟨g', e', _, _, c, _⟩ := ownsRow_cell h (j := i * 5 + j) (u := u) (by rw [tcs_at ht j hj, hu])
      cases e'
      exact c
    simp only [Nat.zero_add]
    exact ⟨hcl 0 _ (by omega) rfl, hcl 1 _ (by omega) rfl, hcl 2 _ (by omega) rfl, hcl 3 _ (by omega) rfl, hcl 4 _ (by omega) rfl⟩
structure ROf (w0 w : World) (kb fb : Nat) (lv dv ov : Value) (l : List Tok) (i : Nat) (cur : List Tok) (F : Nat → Prop) (L : List TrX) (r : Except (Nat × Fa) (List T)) : Prop where
  tk : TokS w kb lv l
  row : w.ownsRow w0.heap.size 48 5 dv cur.length (tcs cur)
  tm : TM w w0.heap.size F ov L
  t : Tch No w0 w
  fh : w.heap[fb]? = some (.cells #[.int .i64 0, .int .i64 0, .int .i64 0] 32)
  nf : ¬ F fb ∧ w0.heap.size ≤ fb
  dn : ∀ k, dv.ownBlock = some k → ¬ F k
  le : cur.length ≤ i ∧ L.length ≤ i
  run : r = restAt l (L.map (·.1)) cur i
section
variable {w0 w w2 : World} {kb fb i : Nat} {lv dv ov dv2 ov2 vx : Value} {l cur : List Tok} {F Fx : Nat → Prop} {L : List TrX} {r : Except (Nat × Fa) (List T)} {t : Tok}
theorem ROf.no (h : ROf w0 w kb fb lv dv ov l i cur F L r) (hk : kb < w0.heap.size ∨ l = []) (tt : Tch No w w2) : ROf w0 w2 kb fb lv dv ov l i cur F L r :=
  ⟨h.tk.stay (hk.imp (fun h1 => Nat.lt_of_lt_of_le h1 h.t.size) id) tt id, ownsRow_tch h.row tt (fun _ _ h => h), h.tm.tch tt (fun _ _ h => h), h.t.trans tt (fun _ h => h.elim), (tt.block fb (Array.getElem?_eq_some_iff.1 h.fh).1 id).trans h.fh, h.nf, h.dn, h.le, h.run⟩
/-- A token more is gathered. -/
theorem ROf.more (h : ROf w0 w kb fb lv dv ov l i cur F L r) (hk : kb < w0.heap.size ∨ l = []) (ht : l[i]? = some t) (hkd : t.kind ≠ 1) (row : w2.ownsRow w0.heap.size 48 5 dv2 (cur.length + 1) (tcs cur ++ tc t)) (hg : w.grownBy w2 dv.ownBlock) (hl : ∀ g, dv2.ownBlock = some g → dv.ownBlock = some g ∨ w.heap.size ≤ g) :
    ROf w0 w2 kb fb lv dv2 ov l (i + 1) (cur ++ [t]) F L r := by
  have tt : Tch (fun k => dv.ownBlock = some k) w w2 := Tch.grown hg (fun k hk => .inl hk)
  have hw0 : ∀ k, dv.ownBlock = some k → w0.heap.size ≤ k := fun k hk => (ownsRow_ge h.row hk).1
  refine ⟨?_, by rw [tcs_snoc]; simpa using row, h.tm.tch tt (fun k hk e => h.dn k e hk), h.t.trans tt (fun k hk => .inr (hw0 k hk)), (tt.block fb (Array.getElem?_eq_some_iff.1 h.fh).1 (row_not h.row h.fh (by decide))).trans h.fh, h.nf, fun k hk hf => ?_, ⟨by have := h.le.1; simp; omega, by have := h.le.2; omega⟩, by rw [h.run, restAt_more ht hkd]⟩
  · refine h.tk.stay (hk.imp (fun h1 => Nat.lt_of_lt_of_le h1 h.t.size) id) tt (fun e => ?_)
    rcases hk with h1 | h1
    · have := hw0 kb e; omega
    · rw [h1] at ht; simp at ht
  · rcases hl k hk with h1 | h1
    · exact h.dn k h1 hf
    · have := (h.tm.lt k hf).2; omega
/-- Nothing was gathered. -/
theorem ROf.skip (h : ROf w0 w kb fb lv dv ov l i [] F L r) (hi : i ≤ l.length) (hd : ∀ t, l[i]? = some t → t.kind = 1) : ROf w0 w kb fb lv dv ov l (i + 1) [] F L r :=
  ⟨h.tk, h.row, h.tm, h.t, h.fh, h.nf, h.dn, ⟨by simp, by have := h.le.2; omega⟩, by rw [h.run, restAt_none hi hd]⟩
/-- A tree more. -/
theorem ROf.push {tr : T} {R : List (Nd × Value)} (h : ROf w0 w kb fb lv dv ov l i cur F L r) (hk : kb < w0.heap.size ∨ l = []) (hx1 : R.map (·.1) = lay 0 tr) (hx : NM w w0.heap.size Fx vx R) (hd : ∀ k, Fx k → ¬ F k ∧ k ≠ fb)
    (row : w2.ownsRow w0.heap.size 50 1 ov2 (L.length + 1) (L.map (·.2.1) ++ [vx])) (hg : w.grownBy w2 ov.ownBlock) (hl : ∀ g, ov2.ownBlock = some g → ov.ownBlock = some g ∨ w.heap.size ≤ g) (hrun : r = restAt l (L.map (·.1) ++ [tr]) [] (i + 1)) :
    ROf w0 w2 kb fb lv (.slice none 0 0) ov2 l (i + 1) [] (fun k => F k ∨ Fx k ∨ ov2.ownBlock = some k) (L ++ [(tr, vx, Fx)]) r := by
  have tt : Tch (fun k => ov.ownBlock = some k) w w2 := Tch.grown hg (fun k hk => .inl hk)
  have hov : ∀ k, ov.ownBlock = some k → w0.heap.size ≤ k := fun k hk => (h.tm.lt k (h.tm.own k hk)).1
  have hfo : ov.ownBlock ≠ some fb := fun e => h.nf.1 (h.tm.own fb e)
  refine ⟨?_, World.ownsRow_nil _ _ _ _, h.tm.push hx1 hx (fun k hk => (hd k hk).1) row tt hl, h.t.trans tt (fun k hk => .inr (hov k hk)), (tt.block fb (Array.getElem?_eq_some_iff.1 h.fh).1 hfo).trans h.fh, ⟨fun hf => ?_, h.nf.2⟩, (fun k hk => by cases hk), ⟨by simp, by have := h.le.2; simp; omega⟩, by rw [hrun]; simp⟩
  · rcases hk with h1 | h1
    · exact h.tk.keep (tt.block kb (Nat.lt_of_lt_of_le h1 h.t.size) (fun e => by have := hov _ e; omega))
    · have := h.tk
      subst h1
      obtain ⟨ao, cap, hv, _⟩ := this
      exact ⟨ao, cap, hv, fun i t ht => by cases ht⟩
  · rcases hf with hf | hf | hf
    · exact h.nf.1 hf
    · exact (hd fb hf).2 rfl
    · rcases hl fb hf with h1 | h1
      · exact hfo h1
      · have := (Array.getElem?_eq_some_iff.1 h.fh).1; omega
end
end Go.Proofs.Ytcnjmkjfgghgoaa
end
