/- Trees in memory: a list of lists of nodes. -/
import Derived.Test.YtcnjmkjfgghgoaaZt8
import Derived.Test.YtcnjmkjfgghgoaaZt7
section
/- document: a tree, or what is wrong. -/
namespace Go.Proofs.Ytcnjmkjfgghgoaa
open Go.RowKit Go.Mp Go.Tr
set_option linter.unusedVariables false
set_option maxRecDepth 100000
set_option maxHeartbeats 1000000
def NodesM (w : World) (B : Nat) (v : Value) (N : List Nd) : Prop := ∃ F R, R.map (·.1) = N ∧ NM w B F v R
def DocOut (w : World) (l : List Tok) (e : Ending) (w' : World) : Prop :=
  match doc l with
  | .error (ln, er) => e = .returned (.tuple #[.slice none 0 0, .int .i64 ln, .int .i64 er]) ∧ Tch No w w'
  | .ok t => ∃ v, e = .returned (.tuple #[v, .int .i64 0, .int .i64 0]) ∧ NodesM w' w.heap.size v (lay 0 t) ∧ Tch No w w'
theorem mkf : ∀ (fn : Fn) (first cap : Array Value) (w : World), (Instr.makeFunc fn first cap).run Try.prog w = .ok (.func fn first cap) w := fun _ _ _ _ => rfl
theorem four_new (w : World) (lv : Value) (l : List Tok) (kb : Nat) (tk : TokS w kb lv l) (hk : kb < w.heap.size) {nb lb eb rb : Nat} (hnb : nb = w.heap.size) (hlb : lb = w.heap.size + 1) (heb : eb = w.heap.size + 1 + 1) (hrb : rb = w.heap.size + 1 + 1 + 1) :
    ∀ w4, w4 = (((w.alloc (.cells #[.slice none 0 0] 50)).alloc (.cells #[.int .i64 0] 3)).alloc (.cells #[.int .i64 0] 26)).alloc (.cells #[lv, .int .i64 0, .slice none 0 0] 89) →
    Tch No w w4 ∧ KS w4 w4 w.heap.size (fun k => k = rb) (fun k => k = rb) rb kb lv l 0 [] [(nb, .cells #[.slice none 0 0] 50), (lb, .cells #[.int .i64 0] 3), (eb, .cells #[.int .i64 0] 26)] := by
  subst hnb hlb heb hrb
  intro w4 h4
  obtain ⟨w1, h1⟩ : ∃ w1, w1 = w.alloc (.cells #[.slice none 0 0] 50) := ⟨_, rfl⟩
  obtain ⟨w2, h2⟩ : ∃ w2, w2 = w1.alloc (.cells #[.int .i64 0] 3) := ⟨_, rfl⟩
  obtain ⟨w3, h3⟩ : ∃ w3, w3 = w2.alloc (.cells #[.int .i64 0] 26) := ⟨_, rfl⟩
  rw [← h1, ← h2, ← h3] at h4
  have t1 : Tch No w w1 := by rw [h1]; exact Tch.alloc No w _
  have t2 : Tch No w1 w2 := by rw [h2]; exact Tch.alloc No w1 _
  have t3 : Tch No w2 w3 := by rw [h3]; exact Tch.alloc No w2 _
  have t4 : Tch No w3 w4 := by rw [h4]; exact Tch.alloc No w3 _
  have s1 : w1.heap.size = w.heap.size + 1 := by rw [h1]; simp
  have s2 : w2.heap.size = w.heap.size + 2 := by rw [h2]; simp [s1]
  have s3 : w3.heap.size = w.heap.size + 3 := by rw [h3]; simp [s2]
  have s4 : w4.heap.size = w.heap.size + 4 := by rw [h4]; simp [s3]
  have g1 : w1.heap[w.heap.size]? = some (.cells #[.slice none 0 0] 50) := by rw [h1]; exact heap_alloc_new w _
  have g2 : w2.heap[w.heap.size + 1]? = some (.cells #[.int .i64 0] 3) := by rw [h2, ← s1]; exact heap_alloc_new w1 _
  have g3 : w3.heap[w.heap.size + 2]? = some (.cells #[.int .i64 0] 26) := by rw [h3, ← s2]; exact heap_alloc_new w2 _
  have g4 : w4.heap[w.heap.size + 3]? = some (.cells #[lv, .int .i64 0, .slice none 0 0] 89) := by rw [h4, ← s3]; exact heap_alloc_new w3 _
  have t24 := t2.trans (t3.trans t4 (fun _ h => h.elim)) (fun _ h => h.elim)
  have t : Tch No w w4 := t1.trans t24 (fun _ h => h.elim)
  have z1 := (t24.block _ (by omega) id).trans g1
  have z2 := ((t3.trans t4 (fun _ h => h.elim)).block _ (by omega) id).trans g2
  have z3 := (t4.block _ (by omega) id).trans g3
  refine ⟨t, ⟨⟨.slice none 0 0, [], rfl, ⟨g4, ⟨World.ownsRow_nil _ _ _ _, (fun i x hx => by cases hx), (fun i j x y _ hx => by cases hx), ⟨(fun g hg => by cases hg), (fun i x hx => by cases hx)⟩, (fun k hk => by omega)⟩, rfl, tk.keep (t.block kb hk id), Nat.lt_of_lt_of_le hk t.size, fun e => by omega⟩⟩, Tch.refl _ _, fun _ h => .inl h, fun x hx => ?_⟩⟩
  simp only [List.mem_cons, List.not_mem_nil, or_false] at hx
  rcases hx with rfl | rfl | rfl
  · exact ⟨z1, by omega⟩
  · exact ⟨z2, by omega⟩
  · exact ⟨z3, by omega⟩
theorem doc_head {l : List Tok} {t : Tok} (h0 : l[0]? = some t) (hh : has t = false) : doc l = .error (t.line, 90) := by
  unfold doc; rw [h0]; simp [hh]
theorem doc_err {l : List Tok} (hh : has ((l[0]?).getD zero) = true) {x : Fa} (hr : blockW (loop l l.length) l 0 1 0 ⟨#[]⟩ = .error x) : doc l = .error x := by
  unfold doc; rw [if_pos hh, hr]
theorem doc_more {l : List Tok} (hh : has ((l[0]?).getD zero) = true) {t : T} {at2 m2 : Nat} (hr : blockW (loop l l.length) l 0 1 0 ⟨#[]⟩ = .ok (t, at2, m2)) {n : Tok} (hn : l[at2]? = some n) : doc l = .error (n.line, 90) := by
  unfold doc; rw [if_pos hh, hr]; simp only [hn]
theorem doc_ok {l : List Tok} (hh : has ((l[0]?).getD zero) = true) {t : T} {at2 m2 : Nat} (hr : blockW (loop l l.length) l 0 1 0 ⟨#[]⟩ = .ok (t, at2, m2)) (hn : l[at2]? = none) : doc l = .ok t := by
  unfold doc; rw [if_pos hh, hr]; simp only [hn]
theorem RdM.atCell {w : World} {B b kb at' : Nat} {F : Nat → Prop} {lv : Value} {l : List Tok} {N : List Nd} (h : RdM w B F b kb lv l at' N) : w.cell? ⟨b, 1, none⟩ = some (.int .i64 at') := by
  obtain ⟨v, R, rfl, h⟩ := h
  exact (cell_of_row _ _ 1 _ _ _ h.hb).trans rfl
theorem RdM.nodes {w : World} {B b kb at' : Nat} {F : Nat → Prop} {lv : Value} {l : List Tok} {N : List Nd} (h : RdM w B F b kb lv l at' N) : ∃ vo vn vc, w.cell? ⟨b, 2, none⟩ = some (.slice vo vn vc) ∧ ∃ R, R.map (·.1) = N ∧ NM w B F (.slice vo vn vc) R := by
  obtain ⟨v, R, e, h⟩ := h
  obtain ⟨vo, vc, rfl⟩ := ownsRow_shape h.nm.row
  exact ⟨vo, _, vc, (cell_of_row _ _ 2 _ _ _ h.hb).trans rfl, R, e, h.nm⟩
theorem docOut_err {w w' : World} {l : List Tok} {ln er : Int} (h : doc l = .error (ln, er)) (t : Tch No w w') : DocOut w l (.returned (.tuple #[.slice none 0 0, .int .i64 ln, .int .i64 er])) w' := by
  unfold DocOut; rw [h]; exact ⟨rfl, t⟩
theorem docOut_ok {w w' : World} {l : List Tok} {t : T} {v : Value} (h : doc l = .ok t) (hN : NodesM w' w.heap.size v (lay 0 t)) (ht : Tch No w w') : DocOut w l (.returned (.tuple #[v, .int .i64 0, .int .i64 0])) w' := by
  unfold DocOut; rw [h]; exact ⟨v, rfl, hN, ht⟩
/-- The door behind a panic. -/
theorem door {w w6 : World} {nb lb eb : Nat} {l : List Tok} {ln er : Int} {tm : Array Value} (hnb : nb = w.heap.size) (hlb : lb = w.heap.size + 1) (heb : eb = w.heap.size + 1 + 1) (t6 : Tch No w w6)
    (hg : ∀ x ∈ [((nb, .cells #[.slice none 0 0] 50) : Nat × Obj), (lb, .cells #[.int .i64 0] 3), (eb, .cells #[.int .i64 0] 26)], w6.heap[x.1]? = some x.2) (hd : doc l = .error (ln, er))
    (h0 : tm[2]?.getD undef = .pointer (some ⟨nb, 0, none⟩)) (h1 : tm[3]?.getD undef = .pointer (some ⟨lb, 0, none⟩)) (h2 : tm[4]?.getD undef = .pointer (some ⟨eb, 0, none⟩)) :
    bodyPostD Try.prog Try.f34 (DocOut w l) (Exit.panic [{ v := .iface 85 (.agg #[.int .i64 ln, .int .i64 er]), recovered := false }]) { tmps := tm, defers := [{ target := Target.fn (Fn.func 45) #[.pointer (some ⟨nb, 0, none⟩), .pointer (some ⟨lb, 0, none⟩), .pointer (some ⟨eb, 0, none⟩)], args := #[] }] } w6 := by
  refine leaves_cons (f := 45) (args := #[.pointer (some ⟨nb, 0, none⟩), .pointer (some ⟨lb, 0, none⟩), .pointer (some ⟨eb, 0, none⟩)]) (by simp) (by simp [go_sem]) ?_
  refine (catch_fault nb lb eb (.slice none 0 0) (.int .i64 0) (.int .i64 0) ln er _ (hg (nb, _) (by simp)) (hg (lb, _) (by simp)) (hg (eb, _) (by simp)) (by omega) (by omega) (by omega)).mono ?_
  rintro e u' w7 ⟨rfl, rfl, g1, g2, g3, t7⟩
  have c1 : w7.cell? ⟨nb, 0, none⟩ = some (.slice none 0 0) := (cell_of_row _ _ 0 _ _ _ g1).trans rfl
  have c2 : w7.cell? ⟨lb, 0, none⟩ = some (.int .i64 ln) := (cell_of_row _ _ 0 _ _ _ g2).trans rfl
  have c3 : w7.cell? ⟨eb, 0, none⟩ = some (.int .i64 er) := (cell_of_row _ _ 0 _ _ _ g3).trans rfl
  have tt : Tch No w w7 := t6.trans t7 (fun k hk => .inr (by rcases hk with h | h | h <;> omega))
  simp [Leaves, settle, results, Try.results34, go_sem, h0, h1, h2, c1, c2, c3]
  exact docOut_err hd tt
theorem field_line (t : Tok) (w : World) : (Instr.field 39 (tokA t) 1).run Try.prog w = .ok (.int .i64 t.line) w := by kernel_rfl
theorem document_any {w : World} {lv : Value} {l : List Tok} {kb : Nat} (tk : TokS w kb lv l) (hk : kb < w.heap.size) (hne : l ≠ []) (hll : l.length < 4398046511104) : Calls Try.prog 34 #[lv] w (DocOut w l) := by
  obtain ⟨w4, hw4⟩ : ∃ w4, w4 = (((w.alloc (.cells #[.slice none 0 0] 50)).alloc (.cells #[.int .i64 0] 3)).alloc (.cells #[.int .i64 0] 26)).alloc (.cells #[lv, .int .i64 0, .slice none 0 0] 89) := ⟨_, rfl⟩
  obtain ⟨nb, hnb⟩ : ∃ nb, nb = w.heap.size := ⟨_, rfl⟩
  obtain ⟨lb, hlb⟩ : ∃ lb, lb = w.heap.size + 1 := ⟨_, rfl⟩
  obtain ⟨eb, heb⟩ : ∃ eb, eb = w.heap.size + 1 + 1 := ⟨_, rfl⟩
  obtain ⟨rb, hrb⟩ : ∃ rb, rb = w.heap.size + 1 + 1 + 1 := ⟨_, rfl⟩
  obtain ⟨t4, hK⟩ := four_new w lv l kb tk hk hnb hlb heb hrb w4 hw4
  obtain ⟨x, hx⟩ : ∃ x, l[0]? = some x := by cases l with
    | nil => exact absurd rfl hne
    | cons a l => exact ⟨a, rfl⟩
  have hn := hK.rd.next
  have hx' : (l[0]?).getD zero = x := by rw [hx]; rfl
  rw [hx'] at hn
  have hb := fun w5 (hK5 : KS w4 w5 w.heap.size (fun k => k = rb) (fun k => k = rb) rb kb lv l 0 [] [(nb, .cells #[.slice none 0 0] 50), (lb, .cells #[.int .i64 0] 3), (eb, .cells #[.int .i64 0] 26)]) (hh : has x = true) => block_all hll l.length w5 w.heap.size _ _ _ _ _ _ 1 ⟨#[]⟩ hK5.rd (Nat.le_trans t4.size hK5.t.size) (by simp) (by omega) (by rw [hx']; exact hh) (by omega)
  have hxs := doc_head hx
  obtain ⟨ao, cap, rfl, _⟩ := id tk
  replace hb := Lib.hid hb
  replace hn := Lib.hid hn
  replace hK := Lib.hid hK
  replace t4 := Lib.hid t4
  replace tk := Lib.hid tk
  replace hx := Lib.hid hx
  replace hx' := Lib.hid hx'
  replace hxs := Lib.hid hxs
  replace hne := Lib.hid hne
  replace hk := Lib.hid hk
  cases hh : has x with
  | false =>
    replace hh := Lib.hid hh
    have hmk := mkf
    go_enter_defers Try.func34, Try.ntmps34
    go_upto_region 3 with fail
    rw [← hw4, ← hrb, ← heb, ← hlb, ← hnb]
    replace hw4 := Lib.hid hw4
    replace hnb := Lib.hid hnb
    replace hlb := Lib.hid hlb
    replace heb := Lib.hid heb
    replace hrb := Lib.hid hrb
    go_upto_region 5 with (first
      | (go_at_call 47; refine hn.out.mono ?_; clear hn; rintro _ w5 ⟨rfl, _, t5⟩; have hK5 := Lib.hid (hK.out.same t5); have hH := Lib.hid (has_any (w := w5) x); replace t5 := Lib.hid t5)
      | (go_at_call 46; have _t := hH; refine hH.out.mono ?_; clear _t hH; rintro _ w6 ⟨rfl, t6⟩; rw [hh.out]; have hK6 := Lib.hid (hK5.out.same t6))
      | fail)
    have c1 : w6.cell? ⟨rb, 1, none⟩ = some (.int .i64 0) := hK6.out.rd.atCell
    have ln : decide (0 < l.length) = true := decide_eq_true (List.getElem?_eq_some_iff.1 hx.out).1
    have hf := field_line x
    have hn2 := hK6.out.rd.next
    rw [hx'.out] at hn2
    replace hn2 := Lib.hid hn2
    go_wp2_with (first
      | (go_at_call 47; refine hn2.out.mono ?_; clear hn2; rintro _ w7 ⟨rfl, _, t7⟩; have hK7 := Lib.hid (hK6.out.same t7); replace t7 := Lib.hid t7)
      | fail)
    exact door hnb.out hlb.out heb.out (t4.out.trans hK7.out.t (fun k hk => .inr (by have := hrb.out; omega))) (fun x hx => (hK7.out.gu x hx).1) (hxs.out hh.out) rfl rfl rfl
  | true =>
    have hh' : has ((l[0]?).getD zero) = true := by rw [hx'.out]; exact hh
    have hd1 := fun x => doc_err hh' (x := x)
    have hd2 := fun t at2 m2 => doc_more hh' (t := t) (at2 := at2) (m2 := m2)
    have hd3 := fun t at2 m2 => doc_ok hh' (t := t) (at2 := at2) (m2 := m2)
    have hb2 := fun w5 h5 => hb.out w5 h5 hh
    replace hh' := Lib.hid hh'
    clear hb
    replace hh := Lib.hid hh
    simp only [List.length_nil] at hb2
    generalize blockW (loop l l.length) l 0 1 0 ⟨#[]⟩ = r at *
    replace hb2 := Lib.hid hb2
    replace hd1 := Lib.hid hd1
    replace hd2 := Lib.hid hd2
    replace hd3 := Lib.hid hd3
    have hmk := mkf
    go_enter_defers Try.func34, Try.ntmps34
    go_upto_region 3 with fail
    rw [← hw4, ← hrb, ← heb, ← hlb, ← hnb]
    replace hw4 := Lib.hid hw4
    replace hnb := Lib.hid hnb
    replace hlb := Lib.hid hlb
    replace heb := Lib.hid heb
    replace hrb := Lib.hid hrb
    go_upto_region 4 with (first
      | (go_at_call 47; refine hn.out.mono ?_; clear hn; rintro _ w5 ⟨rfl, _, t5⟩; have hK5 := Lib.hid (hK.out.same t5); have hH := Lib.hid (has_any (w := w5) x); replace t5 := Lib.hid t5)
      | (go_at_call 46; have _t := hH; refine hH.out.mono ?_; clear _t hH; rintro _ w6 ⟨rfl, t6⟩; rw [hh.out]; have hK6 := Lib.hid (hK5.out.same t6))
      | fail)
    have hC := Lib.hid (hb2.out w6 hK6.out)
    rcases r with ⟨ln, er⟩ | ⟨t, at2, m2⟩
    · have hde := hd1.out _ rfl
      clear hd1 hd2 hd3
      replace hde := Lib.hid hde
      go_wp2_with (first
        | (go_at_call 48; refine hC.out.mono ?_; clear hC; rintro e w7 ⟨he, t7⟩; simp only [faultP] at he; subst he)
        | fail)
      exact door hnb.out hlb.out heb.out ((t4.out.trans hK6.out.t (fun k hk => .inr (by have := hrb.out; omega))).trans t7 (fun k hk => .inr (by have := hrb.out; omega))) (fun x hx => (t7.block x.1 (Array.getElem?_eq_some_iff.1 (hK6.out.gu x hx).1).1 (hK6.out.gu x hx).2).trans (hK6.out.gu x hx).1) hde.out rfl rfl rfl
    · have hde := fun n => hd2.out _ _ _ rfl (n := n)
      have hdo := hd3.out _ _ _ rfl
      clear hd1 hd2 hd3
      replace hde := Lib.hid hde
      replace hdo := Lib.hid hdo
      go_upto_region 5 with (first
        | (go_at_call 48; refine hC.out.mono ?_; clear hC; rintro e w7 ⟨he, hP⟩; subst he; obtain ⟨F7, hK7⟩ := hK6.out.post hP; clear hP; replace hK7 := Lib.hid hK7)
        | fail)
      have c1 := hK7.out.rd.atCell
      cases hn : l[at2]? with
      | some n =>
        have ln := nn_lt (List.getElem?_eq_some_iff.1 hn).1
        have hde := Lib.hid (hde.out _ hn)
        have hf := field_line n
        have hn2 := hK7.out.rd.next
        rw [hn] at hn2
        simp only [Option.getD_some] at hn2
        replace hn2 := Lib.hid hn2
        replace hn := Lib.hid hn
        go_wp2_with (first
          | (go_at_call 47; refine hn2.out.mono ?_; clear hn2; rintro _ w8 ⟨rfl, _, t8⟩; have hK8 := Lib.hid (hK7.out.same t8); replace t8 := Lib.hid t8)
          | fail)
        exact door hnb.out hlb.out heb.out (t4.out.trans hK8.out.t (fun k hk => .inr (by have := hrb.out; omega))) (fun x hx => (hK8.out.gu x hx).1) hde.out rfl rfl rfl
      | none =>
        have ln := nn_ge (Nat.not_lt.2 (List.getElem?_eq_none_iff.1 hn))
        have ln2 : decide (at2 < l.length) = false := decide_eq_false (Nat.not_lt.2 (List.getElem?_eq_none_iff.1 hn))
        have hdo := Lib.hid (hdo.out hn)
        obtain ⟨vo, vn, vc, c2, hN⟩ := hK7.out.rd.nodes
        replace hN := Lib.hid hN
        have g1 := (hK7.out.gu (nb, .cells #[.slice none 0 0] 50) (by simp)).1
        have g2 := (hK7.out.gu (lb, .cells #[.int .i64 0] 3) (by simp)).1
        have g3 := (hK7.out.gu (eb, .cells #[.int .i64 0] 26) (by simp)).1
        have c3 : w7.cell? ⟨nb, 0, none⟩ = some (.slice none 0 0) := (cell_of_row _ _ 0 _ _ _ g1).trans rfl
        have c4 : w7.cell? ⟨lb, 0, none⟩ = some (.int .i64 0) := (cell_of_row _ _ 0 _ _ _ g2).trans rfl
        have c5 : w7.cell? ⟨eb, 0, none⟩ = some (.int .i64 0) := (cell_of_row _ _ 0 _ _ _ g3).trans rfl
        have z3 : w7.frozen? ⟨nb, 0, none⟩ = false := frozen_of_row _ _ _ _ _ g1
        have z4 : w7.frozen? ⟨lb, 0, none⟩ = false := frozen_of_row _ _ _ _ _ g2
        have z5 : w7.frozen? ⟨eb, 0, none⟩ = false := frozen_of_row _ _ _ _ _ g3
        replace g1 := Lib.hid g1
        replace g2 := Lib.hid g2
        replace g3 := Lib.hid g3
        replace hn := Lib.hid hn
        have d1 : nb ≠ lb := by have := hnb.out; have := hlb.out; omega
        have d2 : nb ≠ eb := by have := hnb.out; have := heb.out; omega
        have d3 : lb ≠ eb := by have := hlb.out; have := heb.out; omega
        have q1 : (nb = lb) = False := eq_false d1
        have q1' : (lb = nb) = False := eq_false d1.symm
        have q2 : (nb = eb) = False := eq_false d2
        have q2' : (eb = nb) = False := eq_false d2.symm
        have q3 : (lb = eb) = False := eq_false d3
        have q3' : (eb = lb) = False := eq_false d3.symm
        replace d1 := Lib.hid d1
        replace d2 := Lib.hid d2
        replace d3 := Lib.hid d3
        go_wp2
        refine leaves_cons (f := 45) (args := #[.pointer (some ⟨nb, 0, none⟩), .pointer (some ⟨lb, 0, none⟩), .pointer (some ⟨eb, 0, none⟩)]) (by simp) (by simp [go_sem]) ?_
        refine (catch_idle ⟨nb, 0, none⟩ ⟨lb, 0, none⟩ ⟨eb, 0, none⟩ _).mono ?_
        rintro e u' w8 ⟨rfl, rfl, rfl⟩
        have hS : Tch (fun k => k = nb ∨ k = lb ∨ k = eb) w7 (((w7.setCell ⟨nb, 0, none⟩ (.slice vo vn vc)).setCell ⟨lb, 0, none⟩ (.int .i64 0)).setCell ⟨eb, 0, none⟩ (.int .i64 0)) :=
          (Tch.setCell (S := fun k => k = nb ∨ k = lb ∨ k = eb) _ (p := ⟨nb, 0, none⟩) (.inl rfl) (.slice vo vn vc)).trans ((Tch.setCell (S := fun k => k = nb ∨ k = lb ∨ k = eb) _ (p := ⟨lb, 0, none⟩) (.inr (.inl rfl)) (.int .i64 0)).trans (Tch.setCell (S := fun k => k = nb ∨ k = lb ∨ k = eb) _ (p := ⟨eb, 0, none⟩) (.inr (.inr rfl)) (.int .i64 0)) (fun _ h => .inl h)) (fun _ h => .inl h)
        simp [Leaves, settle, results, Try.results34, go_sem, c3, c4, c5, q1, q2, q3, q1', q2', q3']
        obtain ⟨R, hR1, hR2⟩ := hN.out
        exact docOut_ok hdo.out ⟨F7, R, hR1, hR2.tch hS (fun k hk hs => by rcases hs with hs | hs | hs <;> rw [hs] at hk; exact (hK7.out.gu (nb, .cells #[.slice none 0 0] 50) (by simp)).2 hk; exact (hK7.out.gu (lb, .cells #[.int .i64 0] 3) (by simp)).2 hk; exact (hK7.out.gu (eb, .cells #[.int .i64 0] 26) (by simp)).2 hk)⟩ ((t4.out.trans hK7.out.t (fun k hk => .inr (by have := hrb.out; omega))).trans hS (fun k hk => .inr (by have := hnb.out; have := hlb.out; have := heb.out; omega)))
end Go.Proofs.Ytcnjmkjfgghgoaa
end

section

namespace Go.Proofs.Ytcnjmkjfgghgoaa
open Go.RowKit Go.Mp Go.Tr
set_option linter.unusedVariables false
abbrev TrX := T × Value × (Nat → Prop)
structure TM (w : World) (B : Nat) (F : Nat → Prop) (v : Value) (L : List TrX) : Prop where
  row : w.ownsRow B 50 1 v L.length (L.map (·.2.1))
  el : ∀ (i : Nat) (x : TrX), L[i]? = some x → ∃ R, R.map (·.1) = lay 0 x.1 ∧ NM w B x.2.2 x.2.1 R
  sub : ∀ (i : Nat) (x : TrX), L[i]? = some x → ∀ k, x.2.2 k → F k ∧ v.ownBlock ≠ some k
  apart : ∀ (i j : Nat) (x y : TrX), i ≠ j → L[i]? = some x → L[j]? = some y → ∀ k, x.2.2 k → ¬ y.2.2 k
  own : ∀ g, v.ownBlock = some g → F g
  lt : ∀ k, F k → B ≤ k ∧ k < w.heap.size
section
variable {w w2 w3 : World} {B : Nat} {F S : Nat → Prop} {v v' vx : Value} {L : List TrX} {t : T} {Fx : Nat → Prop}
theorem TM.nil (w : World) (B : Nat) : TM w B No (.slice none 0 0) [] :=
  ⟨World.ownsRow_nil _ _ _ _, (fun i x hx => by cases hx), (fun i x hx => by cases hx), (fun i j x y _ hx => by cases hx), (fun g hg => by cases hg), fun k hk => hk.elim⟩
theorem TM.tch (h : TM w B F v L) (t : Tch S w w2) (hn : ∀ k, F k → ¬ S k) : TM w2 B F v L :=
  ⟨ownsRow_tch h.row t (fun g hg => hn g (h.own g hg)), fun i x hx => by
    obtain ⟨R, h1, h2⟩ := h.el i x hx
    exact ⟨R, h1, h2.tch t (fun k hk => hn k (h.sub i x hx k hk).1)⟩, h.sub, h.apart, h.own, fun k hk => ⟨(h.lt k hk).1, Nat.lt_of_lt_of_le (h.lt k hk).2 t.size⟩⟩
theorem TM.lower {B' : Nat} (h : TM w B F v L) (hb : B' ≤ B) : TM w B' F v L :=
  ⟨ownsRow_base h.row hb, fun i x hx => by
    obtain ⟨R, h1, h2⟩ := h.el i x hx
    exact ⟨R, h1, ⟨ownsRow_base h2.row hb, fun i x hx => ownsRow_base (h2.kid i x hx) hb, h2.apart, h2.own, fun k hk => ⟨Nat.le_trans hb (h2.lt k hk).1, (h2.lt k hk).2⟩⟩⟩, h.sub, h.apart, h.own, fun k hk => ⟨Nat.le_trans hb (h.lt k hk).1, (h.lt k hk).2⟩⟩
/-- A tree more. -/
theorem TM.push (h : TM w B F v L) {R : List (Nd × Value)} (hx1 : R.map (·.1) = lay 0 t) (hx : NM w B Fx vx R) (hd : ∀ k, Fx k → ¬ F k)
    (row : w2.ownsRow B 50 1 v' (L.length + 1) (L.map (·.2.1) ++ [vx])) (tt : Tch (fun k => v.ownBlock = some k) w w2) (hloc : ∀ g, v'.ownBlock = some g → v.ownBlock = some g ∨ w.heap.size ≤ g) :
    TM w2 B (fun k => F k ∨ Fx k ∨ v'.ownBlock = some k) v' (L ++ [(t, vx, Fx)]) := by
  have hat : ∀ (i : Nat) (x : TrX), (L ++ [(t, vx, Fx)])[i]? = some x → L[i]? = some x ∨ i = L.length ∧ x = (t, vx, Fx) := fun i x hx => by
    by_cases hi : i < L.length
    · rw [List.getElem?_append_left hi] at hx; exact .inl hx
    · rw [List.getElem?_append_right (by omega)] at hx
      have h0 : i - L.length = 0 := by have := (List.getElem?_eq_some_iff.1 hx).1; simp at this; omega
      rw [h0] at hx; simp at hx
      exact .inr ⟨by omega, hx.symm⟩
  have hv : ∀ k, Fx k → v.ownBlock ≠ some k := fun k hk e => hd k hk (h.own k e)
  refine ⟨?_, fun i x hx' => ?_, fun i x hx' k hk => ?_, fun i j x y hij hx' hy k hk hk' => ?_, fun g hg => .inr (.inr hg), fun k hk => ?_⟩
  · simpa using row
  · rcases hat i x hx' with h1 | ⟨_, rfl⟩
    · obtain ⟨R', e1, e2⟩ := h.el i x h1
      exact ⟨R', e1, e2.tch tt (fun k hk e => (h.sub i x h1 k hk).2 e)⟩
    · exact ⟨R, hx1, hx.tch tt (fun k hk e => hv k hk e)⟩
  · rcases hat i x hx' with h1 | ⟨_, rfl⟩
    · refine ⟨.inl (h.sub i x h1 k hk).1, fun e => ?_⟩
      rcases hloc k e with h2 | h2
      · exact (h.sub i x h1 k hk).2 h2
      · have := (h.lt k (h.sub i x h1 k hk).1).2; omega
    · refine ⟨.inr (.inl hk), fun e => ?_⟩
      rcases hloc k e with h2 | h2
      · exact hv k hk h2
      · have := (hx.lt k hk).2; omega
  · rcases hat i x hx' with h1 | ⟨h1, rfl⟩ <;> rcases hat j y hy with h2 | ⟨h2, rfl⟩
    · exact h.apart i j x y hij h1 h2 k hk hk'
    · exact hd k hk' (h.sub i x h1 k hk).1
    · exact hd k hk (h.sub j y h2 k hk').1
    · omega
  · rcases hk with hk | hk | hk
    · exact ⟨(h.lt k hk).1, Nat.lt_of_lt_of_le (h.lt k hk).2 tt.size⟩
    · exact ⟨(hx.lt k hk).1, Nat.lt_of_lt_of_le (hx.lt k hk).2 tt.size⟩
    · exact ownsRow_ge row hk
end
/-- What 'Of' answers. -/
def OfOut (w : World) (r : Except (Nat × Fa) (List T)) (e : Ending) (w' : World) : Prop :=
  match r with
  | .error (k, ln, er) => e = .returned (.tuple #[.slice none 0 0, .agg #[.int .i64 k, .int .i64 ln, .int .i64 er]]) ∧ Tch No w w'
  | .ok ts => ∃ v F L, e = .returned (.tuple #[v, .agg #[.int .i64 0, .int .i64 0, .int .i64 0]]) ∧ L.map (·.1) = ts ∧ TM w' w.heap.size F v L ∧ Tch No w w'
theorem ofOut_err {w w' : World} {r : Except (Nat × Fa) (List T)} {k : Nat} {ln er : Int} (h : r = .error (k, ln, er)) (t : Tch No w w') : OfOut w r (.returned (.tuple #[.slice none 0 0, .agg #[.int .i64 k, .int .i64 ln, .int .i64 er]])) w' := by
  rw [h]; exact ⟨rfl, t⟩
theorem ofOut_ok {w w' : World} {r : Except (Nat × Fa) (List T)} {v : Value} {F : Nat → Prop} {L : List TrX} (h : r = .ok (L.map (·.1))) (hT : TM w' w.heap.size F v L) (t : Tch No w w') : OfOut w r (.returned (.tuple #[v, .agg #[.int .i64 0, .int .i64 0, .int .i64 0]])) w' := by
  rw [h]; exact ⟨v, F, L, rfl, rfl, hT, t⟩
/-- Tokens in memory, room and all. -/
def TokV (w : World) (kb : Nat) (v : Value) (l : List Tok) : Prop := TokS w kb v l ∧ ∃ ao cap, v = .slice ao l.length cap ∧ l.length ≤ cap
theorem TokV.take {w : World} {kb cap n : Nat} {ao : Option Addr} {l : List Tok} (h : TokV w kb (.slice ao l.length cap) l) (hn : n ≤ l.length) : TokV w kb (.slice ao n cap) (l.take n) := by
  obtain ⟨⟨ao', cap', e, h⟩, ao2, cap2, e2, hc⟩ := h
  cases e; cases e2
  have hl : (l.take n).length = n := by simp; omega
  refine ⟨⟨ao, cap, by rw [hl], fun i t ht => h i t ?_⟩, ao, cap, by rw [hl], by rw [hl]; omega⟩
  rw [List.getElem?_take] at ht
  split at ht
  · exact ht
  · cases ht
theorem TokV.drop {w : World} {kb cap n : Nat} {ao : Option Addr} {l : List Tok} (h : TokV w kb (.slice ao l.length cap) l) (hn : n ≤ l.length) : TokV w kb (.slice (ao.map (·.add (n * 5))) (l.length - n) (cap - n)) (l.drop n) := by
  obtain ⟨⟨ao', cap', e, h⟩, ao2, cap2, e2, hc⟩ := h
  cases e; cases e2
  have hl : (l.drop n).length = l.length - n := by simp
  refine ⟨⟨_, _, by rw [hl], fun i t ht => ?_⟩, _, _, by rw [hl], by rw [hl]; omega⟩
  rw [List.getElem?_drop] at ht
  obtain ⟨off, h0, h1⟩ := h (n + i) t ht
  refine ⟨off + n * 5, by rw [h0]; simp [add_at], ?_⟩
  have e : off + n * 5 + i * 5 = off + (n + i) * 5 := by omega
  rw [e]; exact h1
theorem TokV.any {w : World} {kb cap : Nat} {ao : Option Addr} {l : List Tok} (hl : l = []) : TokV w kb (.slice ao 0 cap) l := by
  subst hl
  exact ⟨⟨ao, cap, rfl, fun i t ht => by cases ht⟩, ao, cap, rfl, Nat.zero_le _⟩
theorem TokV.keep {w w' : World} {kb : Nat} {v : Value} {l : List Tok} (h : TokV w kb v l) (hb : w'.heap[kb]? = w.heap[kb]?) : TokV w' kb v l := ⟨h.1.keep hb, h.2⟩
end Go.Proofs.Ytcnjmkjfgghgoaa
end
