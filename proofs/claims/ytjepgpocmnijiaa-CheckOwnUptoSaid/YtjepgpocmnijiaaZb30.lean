/- The walk of the program's Diff. -/
import Derived.Test.YtjepgpocmnijiaaZb27
import Derived.Test.YtjepgpocmnijiaaZb28
import Derived.Test.YtjepgpocmnijiaaZb29
section

namespace Go.Proofs.Ytjepgpocmnijiaa
open Go.RowKit Go.Mp Go.Ck Go.Shelf
attribute [local go_sem] Oper.semAt_some
set_option linter.unusedVariables false
set_option maxRecDepth 100000
set_option maxHeartbeats 8000000
theorem seqB_rev {Pr : Rw → Prop} (L : List { x : Rw // Pr x }) : ∀ i, i ≤ L.length → (((seqB L i).map fun x => x.2.1.r).reverse) = (L.take i).map fun x => x.1.r
  | 0, _ => by simp [seqB]
  | i + 1, h => by
    have hx : L[i]? = some L[i] := List.getElem?_eq_getElem (by omega)
    rw [seqB_succ hx, List.map_cons, List.reverse_cons, seqB_rev L i (by omega), List.take_add_one, hx, List.map_append]
    rfl
/-- The two maps of a diff and their boxes. -/
structure R1 (w W : World) (ob nb p5 p6 : Nat) (g gn : Key → Option Rw) (a an : List Res) : Prop where
  o : AllR w W ob g a
  n : AllR w W nb gn an
  c5 : W.heap[p5]? = some (.cells #[.map (some ob)] 121 (0, 0))
  c6 : W.heap[p6]? = some (.cells #[.map (some nb)] 121 (0, 0))
  bel : Below w.heap.size w W
/-- How the four blocks lie. -/
structure Q1 (w : World) (ob nb p5 p6 B : Nat) : Prop where
  o : w.heap.size ≤ ob ∧ ob < B
  n : w.heap.size ≤ nb ∧ nb < B
  c5 : w.heap.size ≤ p5 ∧ p5 < B
  c6 : w.heap.size ≤ p6 ∧ p6 < B
  on : ob ≠ nb
  o5 : p5 ≠ ob ∧ p6 ≠ ob ∧ p5 ≠ nb ∧ p6 ≠ nb
theorem R1.tch {w W W' : World} {ob nb p5 p6 : Nat} {g gn : Key → Option Rw} {a an : List Res} (h : R1 w W ob nb p5 p6 g gn a an) {S : Nat → Prop} (t : Tch S W W') (h1 : ¬ S ob) (h2 : ¬ S nb) (h3 : ¬ S p5) (h4 : ¬ S p6) (hs : ∀ k, S k → w.heap.size ≤ k) : R1 w W' ob nb p5 p6 g gn a an :=
  ⟨h.o.tch t h1, h.n.tch t h2, (t.block p5 (Array.getElem?_eq_some_iff.1 h.c5).1 h3).trans h.c5, (t.block p6 (Array.getElem?_eq_some_iff.1 h.c6).1 h4).trans h.c6, Tch.below h.bel t h.bel.size hs⟩
theorem R1.own {w : World} {ob nb p5 p6 B : Nat} (q : Q1 w ob nb p5 p6 B) {W W' : World} {g gn : Key → Option Rw} {a an : List Res} (h : R1 w W ob nb p5 p6 g gn a an) {row : Option Nat} (hg : W.grownBy W' row) (hr : ∀ r, row = some r → B ≤ r ∧ ∃ o : Obj, W.heap[r]? = some o ∧ o.isCells = false) : R1 w W' ob nb p5 p6 g gn a an := by
  have t : Tch (fun k => B ≤ k) W W' := Tch.grown hg (fun k hk => .inl (hr k hk).1)
  exact h.tch t (fun k => by have := q.o.2; omega) (fun k => by have := q.n.2; omega) (fun k => by have := q.c5.2; omega) (fun k => by have := q.c6.2; omega) (fun k hk => by have := q.o; omega)
theorem R1.below {w W W' : World} {ob nb p5 p6 : Nat} {g gn : Key → Option Rw} {a an : List Res} (h : R1 w W ob nb p5 p6 g gn a an) (hb : Below W.heap.size W W') : R1 w W' ob nb p5 p6 g gn a an :=
  h.tch (Tch.of_below (S := No) hb) id id id id (fun _ h => h.elim)
theorem R1.putO {w W W' : World} {ob nb p5 p6 B : Nat} (q : Q1 w ob nb p5 p6 B) {g gn : Key → Option Rw} {a a' an : List Res} (h : R1 w W ob nb p5 p6 g gn a an) {x : Rw} (hx : Fine w x) (hm : MapS keyKey W' ob (upd (valR g) (rk x.r) (valW x))) (ht : W.mapTurned W' ob) (ha : ∀ k, fnd a' k = if rk x.r = k then some x.r else fnd a k) : R1 w W' ob nb p5 p6 (updK g (rk x.r) x) gn a' an := by
  have t := Tch.turned (S := fun k => k = ob) ht rfl
  have r := h.n.tch t (fun e => q.on e.symm)
  exact ⟨h.o.put hx hm ha, r, (t.block p5 (Array.getElem?_eq_some_iff.1 h.c5).1 q.o5.1).trans h.c5, (t.block p6 (Array.getElem?_eq_some_iff.1 h.c6).1 q.o5.2.1).trans h.c6, Tch.below h.bel t h.bel.size (fun k e => by rw [e]; exact q.o.1)⟩
theorem R1.putN {w W W' : World} {ob nb p5 p6 B : Nat} (q : Q1 w ob nb p5 p6 B) {g gn : Key → Option Rw} {a an an' : List Res} (h : R1 w W ob nb p5 p6 g gn a an) {x : Rw} (hx : Fine w x) (hm : MapS keyKey W' nb (upd (valR gn) (rk x.r) (valW x))) (ht : W.mapTurned W' nb) (ha : ∀ k, fnd an' k = if rk x.r = k then some x.r else fnd an k) : R1 w W' ob nb p5 p6 g (updK gn (rk x.r) x) a an' := by
  have t := Tch.turned (S := fun k => k = nb) ht rfl
  have r := h.o.tch t q.on
  exact ⟨r, h.n.put hx hm ha, (t.block p5 (Array.getElem?_eq_some_iff.1 h.c5).1 q.o5.2.2.1).trans h.c5, (t.block p6 (Array.getElem?_eq_some_iff.1 h.c6).1 q.o5.2.2.2).trans h.c6, Tch.below h.bel t h.bel.size (fun k e => by rw [e]; exact q.n.1)⟩
theorem keeps_tch {B : Nat} {S : Nat → Prop} {W W' : World} (t : Tch S W W') (hS : ∀ k, S k → k < B) : KeepsFrom B W W' := ⟨t.size, fun k o hk ho _ => (t.block k (Array.getElem?_eq_some_iff.1 ho).1 (fun h => by have := hS k h; omega)).trans ho⟩
theorem kb_tch {S : Nat → Prop} {W W' : World} (t : Tch S W W') (hS : ∀ k o, S k → W.heap[k]? = some o → o.isCells = false) : Kb W W' := ⟨t.size, fun k o ho hc => (t.block k (Array.getElem?_eq_some_iff.1 ho).1 (fun h => by rw [hS k o h ho] at hc; cases hc)).trans ho⟩
theorem map_obj {w : World} {b : Nat} {f : Key → Option Value} (h : MapS keyKey w b f) {o : Obj} (ho : w.heap[b]? = some o) : o.isCells = false := by
  obtain ⟨es, clock, hb, _⟩ := h
  rw [hb] at ho; cases ho; rfl
theorem kb_put {W : World} {l : Nat} {o o' : Obj} (h : W.heap[l]? = some o) (hc : o.isCells = false) : Kb W (W.putObj l o') :=
  kb_tch (S := fun k => k = l) (Tch.grown (grownBy_putObj' W l o') (fun k e => by cases e; exact .inl rfl)) (fun k x e hx => by rw [e, h] at hx; cases hx; exact hc)
/-- What lies beside the map that is ranged over. -/
structure B1 (w W : World) (b p5 p6 o5 o6 D D2 : Nat) (g : Key → Option Rw) : Prop where
  o : MapS keyKey W b (valR g)
  c5 : W.heap[p5]? = some (.cells #[.map (some o5)] 121 (0, 0))
  c6 : W.heap[p6]? = some (.cells #[.map (some o6)] 121 (0, 0))
  d1 : W.heap[D]? = some (.deferred (some []))
  d2 : W.heap[D2]? = some (.deferred (some []))
  bel : Below w.heap.size w W
theorem B1.tch {w W W' : World} {b p5 p6 o5 o6 D D2 : Nat} {g : Key → Option Rw} (h : B1 w W b p5 p6 o5 o6 D D2 g) {S : Nat → Prop} (t : Tch S W W') (h1 : ¬ S b) (h2 : ¬ S p5) (h3 : ¬ S p6) (h4 : ¬ S D) (h5 : ¬ S D2) (hs : ∀ k, S k → w.heap.size ≤ k) : B1 w W' b p5 p6 o5 o6 D D2 g :=
  ⟨h.o.tch t h1, (t.block p5 (Array.getElem?_eq_some_iff.1 h.c5).1 h2).trans h.c5, (t.block p6 (Array.getElem?_eq_some_iff.1 h.c6).1 h3).trans h.c6, (t.block D (Array.getElem?_eq_some_iff.1 h.d1).1 h4).trans h.d1, (t.block D2 (Array.getElem?_eq_some_iff.1 h.d2).1 h5).trans h.d2, Tch.below h.bel t h.bel.size hs⟩
theorem B1.below {w W W' : World} {b p5 p6 o5 o6 D D2 : Nat} {g : Key → Option Rw} (h : B1 w W b p5 p6 o5 o6 D D2 g) (hb : Below W.heap.size W W') : B1 w W' b p5 p6 o5 o6 D D2 g :=
  h.tch (Tch.of_below (S := No) hb) id id id id id (fun _ h => h.elim)
def DiffO (w : World) (A B : List Res) (e : Ending) (w' : World) : Prop := ∃ (v' : Value) (L : List Rw), e = .returned v' ∧ IsDiff A B (L.map Rw.r) ∧ OwnM w' w.heap.size v' (L.map Rw.rv) ∧ Below w.heap.size w w'
theorem diff27 (A B : List Res) (v1 v2 : Value) (w : World) (h1 : ResS w v1 A) (h2 : ResS w v2 B) (hA : SzL A) (hB : SzL B) (hN : A.length + B.length ≤ 4194304) : Calls Try.prog 27 #[v1, v2] w (DiffO w A B) := by
  obtain ⟨ao, cap, rfl⟩ := slice_shape h1
  obtain ⟨bo, bcp, rfl⟩ := slice_shape h2
  obtain ⟨A', hAm, hAs, hAp⟩ := lies h1
  obtain ⟨B', hBm, hBs, hBp⟩ := lies h2
  have hAf := fine_list hAm hAp hA
  have hBf := fine_list hBm hBp hB
  have hAl : A'.length = A.length := by rw [← hAm, List.length_map]
  have hBl : B'.length = B.length := by rw [← hBm, List.length_map]
  have c73 := back73
  obtain ⟨ob, hob⟩ : ∃ n, n = w.heap.size := ⟨_, rfl⟩
  obtain ⟨nb, hnb⟩ : ∃ n, n = ob + 1 := ⟨_, rfl⟩
  obtain ⟨p5, hp5⟩ : ∃ n, n = nb + 1 := ⟨_, rfl⟩
  obtain ⟨p6, hp6⟩ : ∃ n, n = p5 + 1 := ⟨_, rfl⟩
  obtain ⟨w1, hw1⟩ : ∃ w1, w1 = (((w.alloc (.map #[] 0)).alloc (.map #[] 0)).alloc (.cells #[.map (some ob)] 121)).alloc (.cells #[.map (some nb)] 121) := ⟨_, rfl⟩
  have hR1 : R1 w w1 ob nb p5 p6 (fun _ => none) (fun _ => none) [] [] ∧ w1.heap.size = p6 + 1 := by
    have m1 := MapS.made keyKey w
    rw [← hob] at m1
    have m2 := MapS.made keyKey (w.alloc (.map #[] 0))
    have e2 : (w.alloc (.map #[] 0)).heap.size = nb := by simp; omega
    rw [e2] at m2
    have e3 : ((w.alloc (.map #[] 0)).alloc (.map #[] 0)).heap.size = p5 := by simp; omega
    have e4 : (((w.alloc (.map #[] 0)).alloc (.map #[] 0)).alloc (.cells #[.map (some ob)] 121)).heap.size = p6 := by simp; omega
    have t1 : Tch No (w.alloc (.map #[] 0)) w1 := by rw [hw1]; exact ((Tch.alloc No _ _).trans (Tch.alloc No _ _) (fun _ h => h.elim)).trans (Tch.alloc No _ _) (fun _ h => h.elim)
    have t2 : Tch No ((w.alloc (.map #[] 0)).alloc (.map #[] 0)) w1 := by rw [hw1]; exact (Tch.alloc No _ _).trans (Tch.alloc No _ _) (fun _ h => h.elim)
    have x5 := heap_alloc_new ((w.alloc (.map #[] 0)).alloc (.map #[] 0)) (.cells #[.map (some ob)] 121)
    rw [e3] at x5
    have x6 := heap_alloc_new (((w.alloc (.map #[] 0)).alloc (.map #[] 0)).alloc (.cells #[.map (some ob)] 121)) (.cells #[.map (some nb)] 121)
    rw [e4] at x6
    refine ⟨⟨⟨m1.tch t1 id, (fun k x h => by cases h), (fun k => rfl)⟩, ⟨m2.tch t2 id, (fun k x h => by cases h), (fun k => rfl)⟩, ?_, by rw [hw1]; exact x6, ?_⟩, by rw [hw1]; simp; omega⟩
    · rw [hw1, Below.heap_alloc _ _ p5 (by rw [e4]; omega)]; exact x5
    · rw [hw1]; exact seq_below (seq_below (seq_below (alloc_below _ _) (alloc_below _ _)) (alloc_below _ _)) (alloc_below _ _)
  obtain ⟨hR1, hsz1⟩ := hR1
  obtain ⟨bt, hbt⟩ : ∃ n, n = p6 + 1 := ⟨_, rfl⟩
  obtain ⟨w2, hw2⟩ : ∃ w2, w2 = w1.alloc (.cells #[.slice ao A.length cap] 22) := ⟨_, rfl⟩
  have hsz2 : w2.heap.size = bt + 1 := by rw [hw2]; simp; omega
  have hQ1 : Q1 w ob nb p5 p6 w2.heap.size := ⟨⟨by omega, by omega⟩, ⟨by omega, by omega⟩, ⟨by omega, by omega⟩, ⟨by omega, by omega⟩, by omega, by omega, by omega, by omega, by omega⟩
  have hb12 : Below w1.heap.size w1 w2 := by rw [hw2]; exact alloc_below _ _
  have hR2 := hR1.below hb12
  have hbtc : w2.cell? ⟨bt, 0, none⟩ = some (.slice ao A'.length cap) := by
    have x := heap_alloc_new w1 (.cells #[.slice ao A.length cap] 22)
    rw [hsz1, ← hbt, ← hw2] at x
    rw [hAl]
    exact box_at x rfl
  have hA2 : Rd.SliceOf rwE w2 (.slice ao A'.length cap) A' := by rw [hAl]; exact hAs.below hR2.bel
  have hI0 : ∃ g, R1 w w2 ob nb p5 p6 g (fun _ => none) (([] : List (RwP (Fine w))).map fun x => x.2.1.r).reverse [] := ⟨_, hR2⟩
  obtain ⟨LA, hLA⟩ : ∃ LA : List { x : Rw // Fine w x }, LA.map Subtype.val = A' := ⟨A'.attachWith (Fine w) hAf, List.attachWith_map_subtype_val hAf⟩
  obtain ⟨LB, hLB⟩ : ∃ LB : List { x : Rw // Fine w x }, LB.map Subtype.val = B' := ⟨B'.attachWith (Fine w) hBf, List.attachWith_map_subtype_val hBf⟩
  have hLAl : LA.length = A.length := by rw [← hAl, ← hLA, List.length_map]
  have hLBl : LB.length = B.length := by rw [← hBl, ← hLB, List.length_map]
  rw [hAl, ← hLAl] at hbtc
  rw [← hLA, List.length_map] at hA2
  have hws : w.heap.size ≤ w2.heap.size := by omega
  replace h1 := Lib.hid h1
  replace h2 := Lib.hid h2
  replace hA := Lib.hid hA
  replace hB := Lib.hid hB
  replace hAm := Lib.hid hAm
  replace hAs := Lib.hid hAs
  replace hAp := Lib.hid hAp
  replace hBm := Lib.hid hBm
  replace hBs := Lib.hid hBs
  replace hBp := Lib.hid hBp
  replace hAf := Lib.hid hAf
  replace hBf := Lib.hid hBf
  replace c73 := Lib.hid c73
  replace hw1 := Lib.hid hw1
  replace hw2 := Lib.hid hw2
  replace hR1 := Lib.hid hR1
  replace hR2 := Lib.hid hR2
  replace hb12 := Lib.hid hb12
  replace hob := Lib.hid hob
  replace hnb := Lib.hid hnb
  replace hp5 := Lib.hid hp5
  replace hp6 := Lib.hid hp6
  replace hbt := Lib.hid hbt
  replace hsz1 := Lib.hid hsz1
  replace hsz2 := Lib.hid hsz2
  replace hAl := Lib.hid hAl
  replace hBl := Lib.hid hBl
  replace hQ1 := Lib.hid hQ1
  replace hLA := Lib.hid hLA
  replace hLB := Lib.hid hLB
  replace hLAl := Lib.hid hLAl
  replace hLBl := Lib.hid hLBl
  have hmm := @run_makeMap Try.prog
  refine callsIn_wide.1 (callsIn_of_wp_marks (n := 9) Try.func27 rfl trivial ?_ rfl)
  refine (wpIn_wide (n := 9)).2 ?_
  simp only [Try.ntmps27, List.size_toArray, List.length_cons, List.length_nil, Nat.reduceAdd, Nat.reduceSub, Array.replicate_succ, Array.replicate_zero, List.push_toArray, List.append_toArray, List.nil_append, List.cons_append]
  go_upto_region 2 with fail
  rw [← hob.out, ← hnb.out, ← hp5.out, ← hp6.out, ← hw1.out]
  go_wp2_with (first
    | (go_at_call 73; (with_reducible refine (c73.out _ _ _ _).mono ?_); rintro e w2 ⟨rfl, rfl⟩)
    | fail)
  rw [hsz1.out, ← hbt.out, ← hw2.out]
  clear hmm
  refine (wpIn_wide (n := 9)).1 ?_
  refine wpIn_rangeFunc_ownH rfl (by omega) (gf := 124) (lb := #[.pointer (some ⟨bt, 0, none⟩)]) rfl trivial (enters_of Try.func124 (by kernel_rfl) rfl)
    (back_stops (Pr := Fine w) 8 bt ao cap LA w2 hbtc hA2) Kb.trans (fun W l o o' hl hW hc _ => kb_put hW hc) (Below.refl _ _) (fun _ => rfl)
    (fun pre W => ∃ g, R1 w W ob nb p5 p6 g (fun _ => none) (pre.map fun x => x.2.1.r).reverse []) (fun _ _ _ => False)
    (fun pre X Y row h hg hr => by obtain ⟨g, h⟩ := h; exact ⟨g, h.own hQ1.out hg hr⟩)
    (fun c pre X Y row h hg hr => h)
    hI0
    (fun x a' W => ∃ g0, W.heap[g0]? = some (.cells #[.int .i64 x.2.1.r.kind, .string x.2.1.r.name, .slice x.2.1.eo x.2.1.r.eps.length x.2.1.ec, .slice x.2.1.ta x.2.1.r.tgts.length x.2.1.tc, .string x.2.1.r.host, .slice x.2.1.ra x.2.1.r.rules.length x.2.1.rc, .string x.2.1.r.route, .bool x.2.1.r.del] 52 (0, 0)) ∧ a' = { tmps := #[.slice ao A.length cap, .slice bo B.length bcp, undef, undef, .slice none 0 0, .pointer (some ⟨p5, 0, none⟩), .pointer (some ⟨p6, 0, none⟩), undef, .pointer (some ⟨g0, 0, none⟩), undef, undef, undef, undef, undef, undef, undef, undef, undef, .map (some ob), .map (some nb), .slice ao A.length cap, .func (.func 124) #[] #[.pointer (some ⟨bt, 0, none⟩)], .int .i64 x.1, .agg #[.int .i64 x.2.1.r.kind, .string x.2.1.r.name, .slice x.2.1.eo x.2.1.r.eps.length x.2.1.ec, .slice x.2.1.ta x.2.1.r.tgts.length x.2.1.tc, .string x.2.1.r.host, .slice x.2.1.ra x.2.1.r.rules.length x.2.1.rc, .string x.2.1.r.route, .bool x.2.1.r.del], undef, undef, undef, undef, undef, undef, undef, undef, undef, undef, undef, undef, undef, undef, undef, undef, undef, undef, undef, undef, undef, undef, undef, undef, undef, undef, undef, undef, undef, undef, undef, undef, undef, undef, undef, undef, undef, undef, undef, undef, undef, undef, undef, undef, undef, undef, undef, undef, undef, undef, undef, undef, undef, undef, undef, undef, undef, undef], defers := [] })
    (fun x a' _ X Y row hs hg hr => by
      obtain ⟨g0, e1, e2⟩ := hs
      refine ⟨g0, (hg.block g0 (Array.getElem?_eq_some_iff.1 e1).1 (fun e => ?_)).trans e1, e2⟩
      obtain ⟨_, o, ho, hc⟩ := hr g0 e.symm; rw [e1] at ho; cases ho; cases hc)
    ?assign ?body ?done ?stop
  case assign =>
    rintro l pre x W K ⟨g, hi⟩ hK
    dsimp only [encB, valW]
    replace hK := Lib.hid hK
    replace hi := Lib.hid hi
    gi_wp2
    have hal := Tch.alloc No W (.cells #[.int .i64 x.2.1.r.kind, .string x.2.1.r.name, .slice x.2.1.eo x.2.1.r.eps.length x.2.1.ec, .slice x.2.1.ta x.2.1.r.tgts.length x.2.1.tc, .string x.2.1.r.host, .slice x.2.1.ra x.2.1.r.rules.length x.2.1.rc, .string x.2.1.r.route, .bool x.2.1.r.del] 52)
    refine hK.out _ _ (keeps_tch hal (fun _ h => h.elim)) (kb_tch hal (fun _ _ h => h.elim)) ⟨g, hi.out.tch hal id id id id (fun _ h => h.elim)⟩ ⟨W.heap.size, heap_alloc_new W _, rfl⟩
  case body =>
    rintro l pre x a' W hl hlr ⟨g, hi⟩ ⟨g0, hg0, rfl⟩ hlt
    have hbk : g0 < W.heap.size := (Array.getElem?_eq_some_iff.1 hg0).1
    have hS : Hid (∀ w', Below W.heap.size W w' → w'.cell? ⟨p5, 0, none⟩ = some (.map (some ob)) ∧ w'.cell? ⟨g0, 0, none⟩ = some (.int .i64 x.2.1.r.kind) ∧ w'.cell? ⟨g0, 1, none⟩ = some (.string x.2.1.r.name) ∧ w'.cell? ⟨g0, 2, none⟩ = some (.slice x.2.1.eo x.2.1.r.eps.length x.2.1.ec) ∧ w'.cell? ⟨g0, 3, none⟩ = some (.slice x.2.1.ta x.2.1.r.tgts.length x.2.1.tc) ∧ w'.cell? ⟨g0, 4, none⟩ = some (.string x.2.1.r.host) ∧ w'.cell? ⟨g0, 5, none⟩ = some (.slice x.2.1.ra x.2.1.r.rules.length x.2.1.rc) ∧ w'.cell? ⟨g0, 6, none⟩ = some (.string x.2.1.r.route) ∧ w'.cell? ⟨g0, 7, none⟩ = some (.bool x.2.1.r.del)) := Lib.hid (fun w' h => by
      have y := (h.block g0 hbk).trans hg0
      have z := (h.block p5 (Array.getElem?_eq_some_iff.1 hi.c5).1).trans hi.c5
      exact ⟨box_at z rfl, box_at y rfl, box_at y rfl, box_at y rfl, box_at y rfl, box_at y rfl, box_at y rfl, box_at y rfl, box_at y rfl⟩)
    have hcur : Hid (Below W.heap.size W W.drew) := Lib.hid (drew_below W 1)
    have h61 : Hid (∀ w', CallsIn (Fence.wide.inRound l) 6 Try.prog 61 #[.agg #[.int .i64 x.2.1.r.kind, .string x.2.1.r.name, .slice x.2.1.eo x.2.1.r.eps.length x.2.1.ec, .slice x.2.1.ta x.2.1.r.tgts.length x.2.1.tc, .string x.2.1.r.host, .slice x.2.1.ra x.2.1.r.rules.length x.2.1.rc, .string x.2.1.r.route, .bool x.2.1.r.del]] w' fun e w'' => e = .returned (.agg #[.int .i64 x.2.1.r.kind, .string x.2.1.r.name]) ∧ Below w'.heap.size w' w'') := Lib.hid (fun w' => CallsIn.inRound l (callsIn_wide.2 (of61 x.2.1.r _ _ _ w')))
    have hmx : Try.prog.follows Departure.mixedOrders = true := by kernel_rfl
    obtain ⟨s5, s0, s1, s2, s3, s4, s6, s7, s8⟩ := hS.out _ hcur.out
    replace hl := Lib.hid hl
    replace hlr := Lib.hid hlr
    replace hi := Lib.hid hi
    replace hg0 := Lib.hid hg0
    replace hbk := Lib.hid hbk
    replace hlt := Lib.hid hlt
    gi_wp2_with fail
    gi_region_with_o (first
      | (refine ⟨trivial, wide_no, ?_⟩; gi_at_call 61; refine (h61.out _).mono ?_; rintro e w3 ⟨rfl, hb3⟩; replace hcur := Lib.hid (seq_below hcur.out hb3); (obtain ⟨s5, s0, s1, s2, s3, s4, s6, s7, s8⟩ := hS.out _ hcur.out); clear hb3; have hi3 := Lib.hid (hi.out.below hcur.out); (obtain ⟨w4, hrun, hm4, ht4⟩ := hi3.out.o.m.store (t := 121) (e := 52) Try.underlying121 (rk x.2.1.r) (valW x.2.1)); replace hrun : (Instr.mapUpdate 121 (.map (some ob)) (.agg #[.int .i64 x.2.1.r.kind, .string x.2.1.r.name]) (.agg #[.int .i64 x.2.1.r.kind, .string x.2.1.r.name, .slice x.2.1.eo x.2.1.r.eps.length x.2.1.ec, .slice x.2.1.ta x.2.1.r.tgts.length x.2.1.tc, .string x.2.1.r.host, .slice x.2.1.ra x.2.1.r.rules.length x.2.1.rc, .string x.2.1.r.route, .bool x.2.1.r.del])).run Try.prog w3 = .ok () w4 := hrun; replace hm4 := Lib.hid hm4; replace ht4 := Lib.hid ht4)
      | (refine ⟨trivial, ?_⟩; gi_at_call 61; refine (h61.out _).mono ?_; rintro e w3 ⟨rfl, hb3⟩; replace hcur := Lib.hid (seq_below hcur.out hb3); (obtain ⟨s5, s0, s1, s2, s3, s4, s6, s7, s8⟩ := hS.out _ hcur.out); clear hb3; have hi3 := Lib.hid (hi.out.below hcur.out); (obtain ⟨w4, hrun, hm4, ht4⟩ := hi3.out.o.m.store (t := 121) (e := 52) Try.underlying121 (rk x.2.1.r) (valW x.2.1)); replace hrun : (Instr.mapUpdate 121 (.map (some ob)) (.agg #[.int .i64 x.2.1.r.kind, .string x.2.1.r.name]) (.agg #[.int .i64 x.2.1.r.kind, .string x.2.1.r.name, .slice x.2.1.eo x.2.1.r.eps.length x.2.1.ec, .slice x.2.1.ta x.2.1.r.tgts.length x.2.1.tc, .string x.2.1.r.host, .slice x.2.1.ra x.2.1.r.rules.length x.2.1.rc, .string x.2.1.r.route, .bool x.2.1.r.del])).run Try.prog w3 = .ok () w4 := hrun; replace hm4 := Lib.hid hm4; replace ht4 := Lib.hid ht4)
      | fail)
    all_goals
      gi_wp2
      have tt : Tch (fun k => k = ob) W w4 := (Tch.of_below (S := fun k => k = ob) hcur.out).trans (Tch.turned (S := fun k => k = ob) ht4.out rfl) (fun _ h => .inl h)
      refine ⟨keeps_tch tt (fun k e => by rw [e]; exact hQ1.out.o.2), kb_tch tt (fun k o e ho => by rw [e] at ho; exact map_obj hi.out.o.m ho), _, hi3.out.putO hQ1.out x.2.2 hm4.out ht4.out (fun k => ?_)⟩
      rw [List.map_append, List.reverse_append]
      exact fnd_cons _ _ _
  case done =>
    rintro D zs W hD rfl ⟨g, hi⟩ hK
    rw [seqB_rev LA _ (Nat.le_refl _), List.take_length, show (fun x : { x : Rw // Fine w x } => x.1.r) = (fun y : Rw => y.r) ∘ Subtype.val from rfl, ← List.map_map, hLA.out, hAm.out] at hi
    obtain ⟨bt1, hbt1⟩ : ∃ n, n = W.heap.size := ⟨_, rfl⟩
    obtain ⟨w5, hw5⟩ : ∃ w5, w5 = W.alloc (.cells #[.slice bo B.length bcp] 22) := ⟨_, rfl⟩
    replace hD := Lib.hid hD
    replace hK := Lib.hid hK
    replace hi := Lib.hid hi
    replace hbt1 := Lib.hid hbt1
    replace hw5 := Lib.hid hw5
    go_wp2_with (first
      | (go_at_call 73; (with_reducible refine (c73.out _ _ _ _).mono ?_); rintro e w6 ⟨rfl, rfl⟩)
      | fail)
    have hDl : D < W.heap.size := (Array.getElem?_eq_some_iff.1 hK.out).1
    have hsz5 : w5.heap.size = W.heap.size + 1 := by rw [hw5.out]; simp
    have hD' := hD.out
    have hbt1' := hbt1.out
    have hQ5 : Hid (Q1 w ob nb p5 p6 w5.heap.size) := Lib.hid ⟨⟨hQ1.out.o.1, by have := hQ1.out.o.2; omega⟩, ⟨hQ1.out.n.1, by have := hQ1.out.n.2; omega⟩, ⟨hQ1.out.c5.1, by have := hQ1.out.c5.2; omega⟩, ⟨hQ1.out.c6.1, by have := hQ1.out.c6.2; omega⟩, hQ1.out.on, hQ1.out.o5⟩
    have hDn : D ≠ nb := by have := hQ1.out.n.2; omega
    have hR5 : R1 w w5 ob nb p5 p6 g (fun _ => none) A [] := hi.out.below (by rw [hw5.out]; exact alloc_below _ _)
    have hK5 : w5.heap[D]? = some (.deferred (some [])) := by rw [hw5.out, Below.heap_alloc _ _ D hDl]; exact hK.out
    have hbtc5 : w5.cell? ⟨bt1, 0, none⟩ = some (.slice bo LB.length bcp) := by
      have x := heap_alloc_new W (.cells #[.slice bo B.length bcp] 22)
      rw [← hbt1.out, ← hw5.out] at x
      rw [hLBl.out]
      exact box_at x rfl
    have hB5 : Rd.SliceOf rwE w5 (.slice bo LB.length bcp) (LB.map Subtype.val) := by rw [hLBl.out, hLB.out]; exact hBs.out.below hR5.bel
    have hI5 : ∃ gn, R1 w w5 ob nb p5 p6 g gn A (([] : List (RwP (Fine w))).map fun x => x.2.1.r).reverse ∧ w5.heap[D]? = some (.deferred (some [])) := ⟨_, hR5, hK5⟩
    rw [← hbt1.out, ← hw5.out]
    replace hR5 := Lib.hid hR5
    replace hK5 := Lib.hid hK5
    replace hDn := Lib.hid hDn
    replace hDl := Lib.hid hDl
    replace hsz5 := Lib.hid hsz5
    clear hD' hbt1'
    refine (wpIn_wide (n := 9)).1 ?_
    refine wpIn_rangeFunc_ownH rfl (by omega) (gf := 124) (lb := #[.pointer (some ⟨bt1, 0, none⟩)]) rfl trivial (enters_of Try.func124 (by kernel_rfl) rfl)
      (back_stops (Pr := Fine w) 8 bt1 bo bcp LB w5 hbtc5 hB5) Kb.trans (fun W l o o' hl hW hc _ => kb_put hW hc) (Below.refl _ _) (fun _ => rfl)
      (fun pre W => ∃ gn, R1 w W ob nb p5 p6 g gn A (pre.map fun x => x.2.1.r).reverse ∧ W.heap[D]? = some (.deferred (some []))) (fun _ _ _ => False)
      (fun pre X Y row h hg hr => by obtain ⟨gn, h, hk⟩ := h; exact ⟨gn, h.own hQ5.out hg hr, (hg.block D (Array.getElem?_eq_some_iff.1 hk).1 (fun e => by have := (hr D e.symm).1; have := hDl.out; have := hsz5.out; omega)).trans hk⟩)
      (fun c pre X Y row h hg hr => h)
      hI5
      (fun x a' W => ∃ g0, W.heap[g0]? = some (.cells #[.int .i64 x.2.1.r.kind, .string x.2.1.r.name, .slice x.2.1.eo x.2.1.r.eps.length x.2.1.ec, .slice x.2.1.ta x.2.1.r.tgts.length x.2.1.tc, .string x.2.1.r.host, .slice x.2.1.ra x.2.1.r.rules.length x.2.1.rc, .string x.2.1.r.route, .bool x.2.1.r.del] 52 (0, 0)) ∧ a' = { tmps := #[.slice ao A.length cap, .slice bo B.length bcp, undef, undef, .slice none 0 0, .pointer (some ⟨p5, 0, none⟩), .pointer (some ⟨p6, 0, none⟩), undef, undef, undef, .pointer (some ⟨g0, 0, none⟩), undef, undef, undef, undef, undef, undef, undef, .map (some ob), .map (some nb), .slice ao A.length cap, .func (.func 124) #[] #[.pointer (some ⟨bt, 0, none⟩)], undef, undef, undef, undef, undef, undef, .slice bo B.length bcp, .func (.func 124) #[] #[.pointer (some ⟨bt1, 0, none⟩)], .int .i64 x.1, .agg #[.int .i64 x.2.1.r.kind, .string x.2.1.r.name, .slice x.2.1.eo x.2.1.r.eps.length x.2.1.ec, .slice x.2.1.ta x.2.1.r.tgts.length x.2.1.tc, .string x.2.1.r.host, .slice x.2.1.ra x.2.1.r.rules.length x.2.1.rc, .string x.2.1.r.route, .bool x.2.1.r.del], undef, undef, undef, undef, undef, undef, undef, undef, undef, undef, undef, undef, undef, undef, undef, undef, undef, undef, undef, undef, undef, undef, undef, undef, undef, undef, undef, undef, undef, undef, undef, undef, undef, undef, undef, undef, undef, undef, undef, undef, undef, undef, undef, undef, undef, undef, undef, undef, undef, undef], defers := [] })
      (fun x a' _ X Y row hs hg hr => by
        obtain ⟨g0, e1, e2⟩ := hs
        refine ⟨g0, (hg.block g0 (Array.getElem?_eq_some_iff.1 e1).1 (fun e => ?_)).trans e1, e2⟩
        obtain ⟨_, o, ho, hc⟩ := hr g0 e.symm; rw [e1] at ho; cases ho; cases hc)
      ?assign2 ?body2 ?done2 ?stop2
    case stop2 =>
      rintro D2 c pre W2 hD2 hp h hK2
      exact h.elim
    case assign2 =>
      rintro l pre x W2 K ⟨gn, hi2, hk2⟩ hK2
      dsimp only [encB, valW]
      replace hK2 := Lib.hid hK2
      replace hi2 := Lib.hid hi2
      replace hk2 := Lib.hid hk2
      gi_wp2
      have hal := Tch.alloc No W2 (.cells #[.int .i64 x.2.1.r.kind, .string x.2.1.r.name, .slice x.2.1.eo x.2.1.r.eps.length x.2.1.ec, .slice x.2.1.ta x.2.1.r.tgts.length x.2.1.tc, .string x.2.1.r.host, .slice x.2.1.ra x.2.1.r.rules.length x.2.1.rc, .string x.2.1.r.route, .bool x.2.1.r.del] 52)
      refine hK2.out _ _ (keeps_tch hal (fun _ h => h.elim)) (kb_tch hal (fun _ _ h => h.elim)) ⟨gn, hi2.out.tch hal id id id id (fun _ h => h.elim), (hal.block D (Array.getElem?_eq_some_iff.1 hk2.out).1 (fun h => h)).trans hk2.out⟩ ⟨W2.heap.size, heap_alloc_new W2 _, rfl⟩
    case body2 =>
      rintro l pre x a' W2 hl hlr ⟨gn, hi2, hk2⟩ ⟨g0, hg0, rfl⟩ hlt
      have hbk : g0 < W2.heap.size := (Array.getElem?_eq_some_iff.1 hg0).1
      have hS : Hid (∀ w', Below W2.heap.size W2 w' → w'.cell? ⟨p6, 0, none⟩ = some (.map (some nb)) ∧ w'.cell? ⟨g0, 0, none⟩ = some (.int .i64 x.2.1.r.kind) ∧ w'.cell? ⟨g0, 1, none⟩ = some (.string x.2.1.r.name) ∧ w'.cell? ⟨g0, 2, none⟩ = some (.slice x.2.1.eo x.2.1.r.eps.length x.2.1.ec) ∧ w'.cell? ⟨g0, 3, none⟩ = some (.slice x.2.1.ta x.2.1.r.tgts.length x.2.1.tc) ∧ w'.cell? ⟨g0, 4, none⟩ = some (.string x.2.1.r.host) ∧ w'.cell? ⟨g0, 5, none⟩ = some (.slice x.2.1.ra x.2.1.r.rules.length x.2.1.rc) ∧ w'.cell? ⟨g0, 6, none⟩ = some (.string x.2.1.r.route) ∧ w'.cell? ⟨g0, 7, none⟩ = some (.bool x.2.1.r.del)) := Lib.hid (fun w' h => by
        have y := (h.block g0 hbk).trans hg0
        have z := (h.block p6 (Array.getElem?_eq_some_iff.1 hi2.c6).1).trans hi2.c6
        exact ⟨box_at z rfl, box_at y rfl, box_at y rfl, box_at y rfl, box_at y rfl, box_at y rfl, box_at y rfl, box_at y rfl, box_at y rfl⟩)
      have hcur : Hid (Below W2.heap.size W2 W2.drew) := Lib.hid (drew_below W2 1)
      have h61 : Hid (∀ w', CallsIn (Fence.wide.inRound l) 6 Try.prog 61 #[.agg #[.int .i64 x.2.1.r.kind, .string x.2.1.r.name, .slice x.2.1.eo x.2.1.r.eps.length x.2.1.ec, .slice x.2.1.ta x.2.1.r.tgts.length x.2.1.tc, .string x.2.1.r.host, .slice x.2.1.ra x.2.1.r.rules.length x.2.1.rc, .string x.2.1.r.route, .bool x.2.1.r.del]] w' fun e w'' => e = .returned (.agg #[.int .i64 x.2.1.r.kind, .string x.2.1.r.name]) ∧ Below w'.heap.size w' w'') := Lib.hid (fun w' => CallsIn.inRound l (callsIn_wide.2 (of61 x.2.1.r _ _ _ w')))
      have hmx : Try.prog.follows Departure.mixedOrders = true := by kernel_rfl
      obtain ⟨s5, s0, s1, s2, s3, s4, s6, s7, s8⟩ := hS.out _ hcur.out
      replace hl := Lib.hid hl
      replace hlr := Lib.hid hlr
      replace hi2 := Lib.hid hi2
      replace hk2 := Lib.hid hk2
      replace hg0 := Lib.hid hg0
      replace hbk := Lib.hid hbk
      replace hlt := Lib.hid hlt
      gi_wp2_with fail
      gi_region_with_o (first
        | (refine ⟨trivial, wide_no, ?_⟩; gi_at_call 61; refine (h61.out _).mono ?_; rintro e w3 ⟨rfl, hb3⟩; replace hcur := Lib.hid (seq_below hcur.out hb3); (obtain ⟨s5, s0, s1, s2, s3, s4, s6, s7, s8⟩ := hS.out _ hcur.out); clear hb3; have hi3 := Lib.hid (hi2.out.below hcur.out); (obtain ⟨w4, hrun, hm4, ht4⟩ := hi3.out.n.m.store (t := 121) (e := 52) Try.underlying121 (rk x.2.1.r) (valW x.2.1)); replace hrun : (Instr.mapUpdate 121 (.map (some nb)) (.agg #[.int .i64 x.2.1.r.kind, .string x.2.1.r.name]) (.agg #[.int .i64 x.2.1.r.kind, .string x.2.1.r.name, .slice x.2.1.eo x.2.1.r.eps.length x.2.1.ec, .slice x.2.1.ta x.2.1.r.tgts.length x.2.1.tc, .string x.2.1.r.host, .slice x.2.1.ra x.2.1.r.rules.length x.2.1.rc, .string x.2.1.r.route, .bool x.2.1.r.del])).run Try.prog w3 = .ok () w4 := hrun; replace hm4 := Lib.hid hm4; replace ht4 := Lib.hid ht4)
        | (refine ⟨trivial, ?_⟩; gi_at_call 61; refine (h61.out _).mono ?_; rintro e w3 ⟨rfl, hb3⟩; replace hcur := Lib.hid (seq_below hcur.out hb3); (obtain ⟨s5, s0, s1, s2, s3, s4, s6, s7, s8⟩ := hS.out _ hcur.out); clear hb3; have hi3 := Lib.hid (hi2.out.below hcur.out); (obtain ⟨w4, hrun, hm4, ht4⟩ := hi3.out.n.m.store (t := 121) (e := 52) Try.underlying121 (rk x.2.1.r) (valW x.2.1)); replace hrun : (Instr.mapUpdate 121 (.map (some nb)) (.agg #[.int .i64 x.2.1.r.kind, .string x.2.1.r.name]) (.agg #[.int .i64 x.2.1.r.kind, .string x.2.1.r.name, .slice x.2.1.eo x.2.1.r.eps.length x.2.1.ec, .slice x.2.1.ta x.2.1.r.tgts.length x.2.1.tc, .string x.2.1.r.host, .slice x.2.1.ra x.2.1.r.rules.length x.2.1.rc, .string x.2.1.r.route, .bool x.2.1.r.del])).run Try.prog w3 = .ok () w4 := hrun; replace hm4 := Lib.hid hm4; replace ht4 := Lib.hid ht4)
        | fail)
      all_goals
        gi_wp2
        have tt : Tch (fun k => k = nb) W2 w4 := (Tch.of_below (S := fun k => k = nb) hcur.out).trans (Tch.turned (S := fun k => k = nb) ht4.out rfl) (fun _ h => .inl h)
        refine ⟨keeps_tch tt (fun k e => by rw [e]; exact hQ5.out.n.2), kb_tch tt (fun k o e ho => by rw [e] at ho; exact map_obj hi2.out.n.m ho), _, hi3.out.putN hQ5.out x.2.2 hm4.out ht4.out (fun k => ?_), (tt.block D (Array.getElem?_eq_some_iff.1 hk2.out).1 (fun e => hDn.out e)).trans hk2.out⟩
        rw [List.map_append, List.reverse_append]
        exact fnd_cons _ _ _
    case done2 =>
      rintro D2 zs W2 hD2 rfl ⟨gn, hi2, hk2⟩ hK2
      rw [seqB_rev LB _ (Nat.le_refl _), List.take_length, show (fun x : { x : Rw // Fine w x } => x.1.r) = (fun y : Rw => y.r) ∘ Subtype.val from rfl, ← List.map_map, hLB.out, hBm.out] at hi2
      replace hD2 := Lib.hid hD2
      replace hi2 := Lib.hid hi2
      replace hk2 := Lib.hid hk2
      replace hK2 := Lib.hid hK2
      clear hR5 hK5 hi hK hbtc5 hB5 hI5
      have hp6c : W2.cell? ⟨p6, 0, none⟩ = some (.map (some nb)) := box_at hi2.out.c6 rfl
      have hp5c : W2.cell? ⟨p5, 0, none⟩ = some (.map (some ob)) := box_at hi2.out.c5 rfl
      have hu : Try.prog.underlying 121 = some (.map 111 52) := Try.underlying121
      obtain ⟨F, hF⟩ : ∃ F, F = valR gn := ⟨_, rfl⟩
      have hm2 := hi2.out.n.m
      rw [← hF] at hm2
      have hEr0 := Lib.hid (Er.zero g gn hF)
      have hDD : Hid (D ≠ D2) := Lib.hid (by have := hDl.out; have := hsz5.out; have := hD2.out; omega)
      obtain ⟨ik, hik⟩ : ∃ n, n = W2.heap.size := ⟨_, rfl⟩
      have hD2l : D2 < W2.heap.size := (Array.getElem?_eq_some_iff.1 hK2.out).1
      have hDl2 : D < W2.heap.size := (Array.getElem?_eq_some_iff.1 hk2.out).1
      have hob2 : ob < W2.heap.size := hi2.out.o.m.lt
      have hnb2 : nb < W2.heap.size := hi2.out.n.m.lt
      have hp52 : p5 < W2.heap.size := (Array.getElem?_eq_some_iff.1 hi2.out.c5).1
      have hp62 : p6 < W2.heap.size := (Array.getElem?_eq_some_iff.1 hi2.out.c6).1
      rw [← hik] at hD2l hDl2 hob2 hnb2 hp52 hp62
      have hapt : Hid (nb ≠ ob ∧ nb ≠ p5 ∧ nb ≠ p6 ∧ nb ≠ D ∧ nb ≠ D2 ∧ ob ≠ p5 ∧ ob ≠ p6 ∧ ob ≠ D ∧ ob ≠ D2) := Lib.hid (by
        have h1 := hQ5.out; have h2 := hD2.out; have h3 := hD.out; have h4 := hQ1.out
        have q1 := h1.on; have q2 := h1.o5; have q3 := h1.o.2; have q4 := h1.n.2; have q5 := h4.o.2; have q6 := h4.n.2
        refine ⟨?_, ?_, ?_, ?_, ?_, ?_, ?_, ?_, ?_⟩ <;> omega)
      have hbw2 : w.heap.size ≤ nb ∧ w.heap.size ≤ ob ∧ w.heap.size ≤ ik := ⟨hQ5.out.n.1, hQ5.out.o.1, by rw [hik]; exact hi2.out.bel.size⟩
      replace hm2 := Lib.hid hm2
      replace hD2l := Lib.hid hD2l
      replace hDl2 := Lib.hid hDl2
      replace hob2 := Lib.hid hob2
      replace hnb2 := Lib.hid hnb2
      replace hp52 := Lib.hid hp52
      replace hp62 := Lib.hid hp62
      replace hbw2 := Lib.hid hbw2
      go_wp2_with (first | (at_range; refine wp_range rfl _ 121 rfl keyKey 52 hu nb F rfl hm2.out ?_; intro w7 hrg hb7 hs7) | fail)
      rw [← hik] at hrg hb7 hs7 ⊢
      have hB7 : Hid (B1 w w7 ob p5 p6 ob nb D D2 g) := Lib.hid ((⟨hi2.out.o.m, hi2.out.c5, hi2.out.c6, hk2.out, hK2.out, hi2.out.bel⟩ : B1 w W2 ob p5 p6 ob nb D D2 g).below (by rw [← hik]; exact hb7))
      rw [hF] at hrg
      go_frame
      clear hp5c hp6c
      replace hF := Lib.hid hF
      replace hik := Lib.hid hik
      replace hs7 := Lib.hid hs7
      go_loopg [] (w7.rangeLeft nb ik) (fun gg wr => ∃ (left : Key → Prop) (gO gW : Key → Option Rw), gg = wr.rangeLeft nb ik ∧ RangeS keyKey wr nb ik (valR gW) left ∧ Hid (B1 w wr ob p5 p6 ob nb D D2 gO) ∧ Hid (Er g gn gO gW left) ∧ Hid (ik < wr.heap.size))
      case atStart => exact ⟨_, g, gn, rfl, hrg, hB7, by rw [← hF.out]; exact hEr0, Lib.hid (by have := hs7.out; omega)⟩
      case round =>
        obtain ⟨left, gO, gW, rfl, hrg, hB, hEr, hsz⟩ := hrel
        go_wp2_with (first | (at_next; refine wp_next rfl _ rfl keyKey nb ik (valR gW) left rfl hrg ?_ ?_) | fail)
        · intro hl0
          have hl1 : ∀ k, ¬ left k := fun k => hl0 k.1 k.2
          have q5 : wr.cell? ⟨p5, 0, none⟩ = some (.map (some ob)) := box_at hB.out.c5 rfl
          have hmW := hrg.map
          have hzw := hsz.out
          obtain ⟨F2, hF2⟩ : ∃ F, F = valR gO := ⟨_, rfl⟩
          have hmO := hB.out.o
          rw [← hF2] at hmO
          have hPu0 := Lib.hid (Pu.zero gO gW hF2)
          obtain ⟨jk, hjk⟩ : ∃ n, n = wr.heap.size := ⟨_, rfl⟩
          rw [← hjk] at hzw
          replace hl1 := Lib.hid hl1
          replace hmW := Lib.hid hmW
          replace hzw := Lib.hid hzw
          replace hmO := Lib.hid hmO
          clear hl0 hrg
          go_wp2_with (first | (at_range; refine wp_range rfl _ 121 rfl keyKey 52 hu ob F2 rfl hmO.out ?_; intro w8 hrg8 hb8 hs8) | fail)
          rw [← hjk] at hrg8 hb8 hs8 ⊢
          rw [hF2] at hrg8
          go_frame
          have hB8 : Hid (B1 w w8 nb p5 p6 ob nb D D2 gW) := Lib.hid ((⟨hmW.out, hB.out.c5, hB.out.c6, hB.out.d1, hB.out.d2, hB.out.bel⟩ : B1 w wr nb p5 p6 ob nb D D2 gW).below (by rw [← hjk]; exact hb8))
          have hjw : Hid (w.heap.size ≤ jk) := Lib.hid (by rw [hjk]; exact hB.out.bel.size)
          clear q5
          replace hjk := Lib.hid hjk
          replace hs8 := Lib.hid hs8
          replace hb8 := Lib.hid hb8
          replace hF2 := Lib.hid hF2
          go_loopg [] (w8.rangeLeft ob jk) (fun gg wx => ∃ (left2 : Key → Prop) (gV : Key → Option Rw), gg = wx.rangeLeft ob jk ∧ RangeS keyKey wx ob jk (valR gO) left2 ∧ Hid (B1 w wx nb p5 p6 ob nb D D2 gV) ∧ Hid (Pu gO gW gV left2) ∧ Hid (jk < wx.heap.size))
          case atStart => exact ⟨_, gW, rfl, hrg8, hB8, by rw [← hF2.out]; exact hPu0, Lib.hid (by have := hs8.out; omega)⟩
          case round =>
            obtain ⟨left2, gV, rfl, hrg, hBx, hPu, hszx⟩ := hrel
            go_wp2_with (first | (at_next; refine wp_next rfl _ rfl keyKey ob jk (valR gO) left2 rfl hrg ?_ ?_) | fail)
            · intro hl0
              have hl2 : ∀ k, ¬ left2 k := fun k => hl0 k.1 k.2
              replace hl2 := Lib.hid hl2
              clear hl0 hrg
              have q6 : wr.cell? ⟨p6, 0, none⟩ = some (.map (some nb)) := box_at hBx.out.c6 rfl
              have hgV : ∀ k x, gV k = some x → (gW k = some x ∧ gn k = some x) ∨ (x = delW k ∧ ∃ o, g k = some o) := fun k x hx => by
                rcases hPu.out.el k with h | ⟨h, h'⟩
                · rw [h] at hx
                  rcases (hEr.out.el k).2 with q | q
                  · rw [q] at hx; cases hx
                  · exact .inl ⟨hx, by rw [← q]; exact hx⟩
                · rw [h] at hx; cases hx
                  rcases (hEr.out.el k).1 with q | q
                  · exact absurd q h'
                  · rw [q] at h'
                    exact .inr ⟨rfl, Option.ne_none_iff_exists'.1 h'⟩
              have hmr : MapR wr nb gV (A.map rk ++ B.map rk) := by
                refine ⟨hBx.out.o, fun k x hx => ?_, fun k hk => ?_, by rw [List.length_append, List.length_map, List.length_map]; exact hN⟩
                · rcases hgV k x hx with ⟨_, h⟩ | ⟨rfl, o, ho⟩
                  · obtain ⟨h1, h2⟩ := hi2.out.n.el k x h
                    exact ⟨h1, RP.below h2.p hBx.out.bel, h2.s⟩
                  · obtain ⟨h1, h2⟩ := hi2.out.o.el k o ho
                    have hf := delW_fine wr k (by rw [← h1]; exact h2.p.k1) (by rw [← h1]; exact h2.p.nm)
                    exact ⟨rfl, hf.p, hf.s⟩
                · obtain ⟨x, hx⟩ := Option.ne_none_iff_exists'.1 hk
                  rcases hgV k x hx with ⟨_, h⟩ | ⟨_, o, ho⟩
                  · have e := hi2.out.n.eq k
                    rw [h] at e
                    obtain ⟨e1, e2⟩ := fnd_some e.symm
                    exact List.mem_append_right _ (List.mem_map.2 ⟨x.r, by first | exact e1 | exact e2, by first | exact e2 | exact e1⟩)
                  · have e := hi2.out.o.eq k
                    rw [ho] at e
                    obtain ⟨e1, e2⟩ := fnd_some e.symm
                    exact List.mem_append_left _ (List.mem_map.2 ⟨o.r, by first | exact e1 | exact e2, by first | exact e2 | exact e1⟩)
              have h69 := Lib.hid (sorted69 nb gV (A.map rk ++ B.map rk) wr hmr)
              have hdf : Hid (∀ k, (gV k).map Rw.r = diffK A B k) := Lib.hid (diff_of hi2.out.o.eq hi2.out.n.eq hEr.out hl1.out hPu.out hl2.out)
              replace hgV := Lib.hid hgV
              replace hmr := Lib.hid hmr
              go_wp2_with (first
                | (go_at_call 69; (with_reducible refine h69.out.mono ?_); rintro e w5 ⟨v5, L5, rfl, hO5, hS5, hF5, hn5, hb5⟩; replace hO5 := Lib.hid hO5; replace hS5 := Lib.hid hS5; replace hF5 := Lib.hid hF5; replace hb5 := Lib.hid hb5; replace hn5 := Lib.hid hn5)
                | fail)
              have hB5 := hBx.out.below hb5.out
              have hd1 : (w5.putObj D2 (.deferred none)).heap[D]? = some (.deferred (some [])) := by
                show (w5.heap.setIfInBounds D2 _)[D]? = _
                rw [Array.getElem?_setIfInBounds, if_neg (fun e => hDD.out e.symm)]; exact hB5.d1
              refine ⟨by simp, .inl ⟨_, _, rfl, run_takeDeferred hB5.d2, ?_⟩⟩
              refine ⟨by simp, .inl ⟨_, _, rfl, run_takeDeferred hd1, ?_⟩⟩
              have tE : Tch (fun q => q = D ∨ q = D2) w5 ((w5.putObj D2 (.deferred none)).putObj D (.deferred none)) :=
                (Tch.grown (grownBy_putObj' w5 D2 _) (fun q e => by cases e; exact .inl (.inr rfl))).trans (Tch.grown (S := fun q => q = D) (grownBy_putObj' (w5.putObj D2 (.deferred none)) D _) (fun q e => by cases e; exact .inl rfl)) (fun q e => .inl (.inl e))
              have hDw : w.heap.size ≤ D := by have := hD.out; have := hws; omega
              have hD2w : w.heap.size ≤ D2 := by have := hD2.out; have := hsz5.out; have := hDl.out; omega
              have hbE := Tch.below (seq_below hBx.out.bel hb5.out) tE (seq_below hBx.out.bel hb5.out).size (fun q e => by rcases e with e | e <;> rw [e] <;> assumption)
              refine ⟨v5, by simp [results, Try.results27, go_sem], v5, L5, rfl, ⟨hS5.out, fun k => (hF5.out k).trans (hdf.out k)⟩, ?_, hbE⟩
              have hDr : D < wr.heap.size := (Array.getElem?_eq_some_iff.1 hBx.out.d1).1
              have hD2r : D2 < wr.heap.size := (Array.getElem?_eq_some_iff.1 hBx.out.d2).1
              have hno : ∀ g, wr.heap.size ≤ g → ¬ (g = D ∨ g = D2) := fun g hg q => by omega
              refine ownM_base (ownM_tch hO5.out tE (fun g hg => hno g (ownsRow_ge hO5.out.row hg).1) (fun x hx g hg => ?_)) hBx.out.bel.size
              rcases hg with h | h | h
              · exact hno g (ownsRow_ge (hO5.out.el x hx).e h).1
              · exact hno g (ownsRow_ge (hO5.out.el x hx).t h).1
              · exact hno g (ownsRow_ge (hO5.out.el x hx).ru h).1
            · intro k1 k2 v w9 hlk hfk hrg1 hlt1 hg1 hs1 hen
              obtain ⟨k, hk12⟩ : ∃ k : Key, k = (k1, k2) := ⟨_, rfl⟩
              rw [← hk12] at hlk hfk
              simp only [← hk12] at hrg1
              obtain ⟨x, hgx, hvx⟩ := Option.map_eq_some_iff.1 hfk
              subst hvx
              replace hen : (Instr.entry (.pointer (some ⟨jk, 0, none⟩))).run Try.prog w9 = .ok (.tuple #[.agg #[.int .i64 k1, .string k2], .agg #[.int .i64 x.r.kind, .string x.r.name, .slice x.eo x.r.eps.length x.ec, .slice x.ta x.r.tgts.length x.tc, .string x.r.host, .slice x.ra x.r.rules.length x.rc, .string x.r.route, .bool x.r.del]]) w9 := hen
              have hVk : gV k = gW k := hPu.out.l k hlk
              have t9 : Tch (fun q => q = jk) wr w9 := Tch.grown hg1 (fun j hj => by cases hj; exact .inl rfl)
              have hz := hzw.out
              have hB9 := hBx.out.tch t9 (by have := hnb2.out; omega) (by have := hp52.out; omega) (by have := hp62.out; omega) (by have := hDl2.out; omega) (by have := hD2l.out; omega) (fun q e => by rw [e]; exact hjw.out)
              obtain ⟨kb, hkb⟩ : ∃ n, n = w9.heap.size := ⟨_, rfl⟩
              obtain ⟨w10, hw10⟩ : ∃ w10, w10 = w9.alloc (.cells #[.int .i64 k1, .string k2] 111) := ⟨_, rfl⟩
              have hk10 : w10.heap[kb]? = some (.cells #[.int .i64 k1, .string k2] 111 (0, 0)) := by
                rw [hw10, hkb]; exact heap_alloc_new w9 _
              have hb10 : Below w9.heap.size w9 w10 := by rw [hw10]; exact alloc_below _ _
              have hB10 := hB9.below hb10
              replace hk12 := Lib.hid hk12
              replace hlk := Lib.hid hlk
              replace hgx := Lib.hid hgx
              replace t9 := Lib.hid t9
              replace hB9 := Lib.hid hB9
              replace hk10 := Lib.hid hk10
              replace hb10 := Lib.hid hb10
              replace hB10 := Lib.hid hB10
              replace hlt1 := Lib.hid hlt1
              replace hg1 := Lib.hid hg1
              replace hs1 := Lib.hid hs1
              replace hfk := Lib.hid hfk
              replace hkb := Lib.hid hkb
              replace hw10 := Lib.hid hw10
              replace hVk := Lib.hid hVk
              replace hz := Lib.hid hz
              clear hrg
              go_upto_region 18 with fail
              rw [← hw10.out, ← hkb.out]
              obtain ⟨k0, k1'⟩ : w10.cell? ⟨kb, 0, none⟩ = some (.int .i64 k1) ∧ w10.cell? ⟨kb, 1, none⟩ = some (.string k2) := ⟨box_at hk10.out rfl, box_at hk10.out rfl⟩
              have q6 : w10.cell? ⟨p6, 0, none⟩ = some (.map (some nb)) := box_at hB10.out.c6 rfl
              have hlook := hB10.out.o.look (t := 121) (e := 52) Try.underlying121 (Try.zeroValue52 w10) true (k1, k2)
              cases hgk : gW k with
              | some y =>
                have hv : valR gV (k1, k2) = some (valW y) := by unfold valR; rw [← hk12.out, hVk.out, hgk]; rfl
                rw [hv] at hlook
                replace hlook : (Instr.lookup 121 (.map (some nb)) (.agg #[.int .i64 k1, .string k2]) true).run Try.prog w10 = .ok (.tuple #[.agg #[.int .i64 y.r.kind, .string y.r.name, .slice y.eo y.r.eps.length y.ec, .slice y.ta y.r.tgts.length y.tc, .string y.r.host, .slice y.ra y.r.rules.length y.rc, .string y.r.route, .bool y.r.del], .bool true]) w10 := hlook
                obtain ⟨w11, hw11⟩ : ∃ w11, w11 = w10.alloc (.cells #[.int .i64 y.r.kind, .string y.r.name, .slice y.eo y.r.eps.length y.ec, .slice y.ta y.r.tgts.length y.tc, .string y.r.host, .slice y.ra y.r.rules.length y.rc, .string y.r.route, .bool y.r.del] 52) := ⟨_, rfl⟩
                have hb11 : Below w10.heap.size w10 w11 := by rw [hw11]; exact alloc_below _ _
                have t11 : Tch No w9 w11 := Tch.of_below (seq_below hb10.out hb11)
                have hrg11 := hrg1.tch t11 id id
                have e11 : w11.rangeLeft ob jk = w9.rangeLeft ob jk := by unfold World.rangeLeft; rw [t11.block ob hrg1.map.lt id, t11.block jk hrg1.rlt id]
                have hB11 := Lib.hid (hB10.out.below hb11)
                have hsz11 := Lib.hid hrg11.rlt
                have hPu11 := Lib.hid (hPu.out.stay hlk.out (by rw [hgk]; simp))
                replace hv := Lib.hid hv
                replace hgk := Lib.hid hgk
                replace e11 := Lib.hid e11
                replace hrg11 := Lib.hid hrg11
                replace t11 := Lib.hid t11
                replace hw11 := Lib.hid hw11
                replace hb11 := Lib.hid hb11
                go_upto_region 19 with fail
                rw [← hw11.out]
                clear hlook
                go_wp2
                go_roundg (w11.rangeLeft ob jk)
                case rel => exact ⟨_, gV, rfl, hrg11.out, hB11, hPu11, hsz11⟩
                case measure => rw [e11.out]; exact hlt1.out
              | none =>
                have hv : valR gV (k1, k2) = none := by unfold valR; rw [← hk12.out, hVk.out, hgk]; rfl
                rw [hv] at hlook
                replace hlook : (Instr.lookup 121 (.map (some nb)) (.agg #[.int .i64 k1, .string k2]) true).run Try.prog w10 = .ok (.tuple #[.agg #[.int .i64 0, .string ⟨#[]⟩, .slice none 0 0, .slice none 0 0, .string ⟨#[]⟩, .slice none 0 0, .string ⟨#[]⟩, .bool false], .bool false]) w10 := hlook
                obtain ⟨w11, hw11⟩ : ∃ w11, w11 = w10.alloc (.cells #[.int .i64 0, .string ⟨#[]⟩, .slice none 0 0, .slice none 0 0, .string ⟨#[]⟩, .slice none 0 0, .string ⟨#[]⟩, .bool false] 52) := ⟨_, rfl⟩
                have hb11 : Below w10.heap.size w10 w11 := by rw [hw11]; exact alloc_below _ _
                have hk11 : w11.heap[kb]? = some (.cells #[.int .i64 k1, .string k2] 111 (0, 0)) := (hb11.block kb (Array.getElem?_eq_some_iff.1 hk10.out).1).trans hk10.out
                have t11 : Tch No w9 w11 := Tch.of_below (seq_below hb10.out hb11)
                have hrg11 := hrg1.tch t11 id id
                have e11 : w11.rangeLeft ob jk = w9.rangeLeft ob jk := by unfold World.rangeLeft; rw [t11.block ob hrg1.map.lt id, t11.block jk hrg1.rlt id]
                have hB11 := hB10.out.below hb11
                have hPu11 := Lib.hid (hPu.out.put hlk.out (by rw [hgx.out]; simp) hgk)
                replace hv := Lib.hid hv
                replace hgk := Lib.hid hgk
                replace e11 := Lib.hid e11
                replace hrg11 := Lib.hid hrg11
                replace t11 := Lib.hid t11
                replace hw11 := Lib.hid hw11
                replace hb11 := Lib.hid hb11
                replace hk11 := Lib.hid hk11
                replace hB11 := Lib.hid hB11
                go_upto_region 19 with fail
                rw [← hw11.out]
                clear hlook k0 k1' q6
                obtain ⟨k0, k1'⟩ : w11.cell? ⟨kb, 0, none⟩ = some (.int .i64 k1) ∧ w11.cell? ⟨kb, 1, none⟩ = some (.string k2) := ⟨box_at hk11.out rfl, box_at hk11.out rfl⟩
                have q6 : w11.cell? ⟨p6, 0, none⟩ = some (.map (some nb)) := box_at hB11.out.c6 rfl
                go_wp2_with (first
                  | (at_mapUpdate; refine wp_store rfl _ _ _ 121 rfl keyKey 52 hu nb (valR gV) (k1, k2) (valW (delW (k1, k2))) rfl hB11.out.o rfl rfl ?_; intro w12 hm12 ht12)
                  | fail)
                have t12 : Tch (fun q => q = nb) w11 w12 := Tch.turned ht12 rfl
                rw [← hk12.out, valR_upd] at hm12
                have hB12 : Hid (B1 w w12 nb p5 p6 ob nb D D2 (updK gV k (delW k))) := Lib.hid ⟨hm12, (t12.block p5 (Array.getElem?_eq_some_iff.1 hB11.out.c5).1 (fun e => hapt.out.2.1 e.symm)).trans hB11.out.c5, (t12.block p6 (Array.getElem?_eq_some_iff.1 hB11.out.c6).1 (fun e => hapt.out.2.2.1 e.symm)).trans hB11.out.c6, (t12.block D (Array.getElem?_eq_some_iff.1 hB11.out.d1).1 (fun e => hapt.out.2.2.2.1 e.symm)).trans hB11.out.d1, (t12.block D2 (Array.getElem?_eq_some_iff.1 hB11.out.d2).1 (fun e => hapt.out.2.2.2.2.1 e.symm)).trans hB11.out.d2, Tch.below hB11.out.bel t12 hB11.out.bel.size (fun q e => by rw [e]; exact hbw2.out.1)⟩
                have kn := t12.block ob hrg11.out.map.lt (fun e => hapt.out.1 e.symm)
                have ki := t12.block jk hrg11.out.rlt (fun e => by have := hnb2.out; have := hz.out; omega)
                have hrg12 := hrg11.out.keep kn ki
                have e12 : w12.rangeLeft ob jk = w11.rangeLeft ob jk := by unfold World.rangeLeft; rw [kn, ki]
                have hsz12 := Lib.hid hrg12.rlt
                replace e12 := Lib.hid e12
                replace hrg12 := Lib.hid hrg12
                replace t12 := Lib.hid t12
                replace hm12 := Lib.hid hm12
                replace ht12 := Lib.hid ht12
                clear kn ki k0 k1' q6
                go_roundg (w12.rangeLeft ob jk)
                case rel => exact ⟨_, updK gV k (delW k), rfl, hrg12.out, hB12, hPu11, hsz12⟩
                case measure => rw [e12.out, e11.out]; exact hlt1.out
        · intro k1 k2 v w8 hlk hfk hrg1 hlt1 hg1 hs1 hen
          obtain ⟨k, hk12⟩ : ∃ k : Key, k = (k1, k2) := ⟨_, rfl⟩
          rw [← hk12] at hlk hfk
          simp only [← hk12] at hrg1
          obtain ⟨x, hgx, hvx⟩ := Option.map_eq_some_iff.1 hfk
          subst hvx
          replace hen : (Instr.entry (.pointer (some ⟨ik, 0, none⟩))).run Try.prog w8 = .ok (.tuple #[.agg #[.int .i64 k1, .string k2], .agg #[.int .i64 x.r.kind, .string x.r.name, .slice x.eo x.r.eps.length x.ec, .slice x.ta x.r.tgts.length x.tc, .string x.r.host, .slice x.ra x.r.rules.length x.rc, .string x.r.route, .bool x.r.del]]) w8 := hen
          have hgnx : gn k = some x := by rw [← hEr.out.w1 k hlk]; exact hgx
          have hOk : gO k = g k := hEr.out.o1 k hlk
          have hxf := (hi2.out.n.el k x hgnx)
          have t8 : Tch (fun q => q = ik) wr w8 := Tch.grown hg1 (fun j hj => by cases hj; exact .inl rfl)
          have hB8 := hB.out.tch t8 (by have := hob2.out; omega) (by have := hp52.out; omega) (by have := hp62.out; omega) (by have := hDl2.out; omega) (by have := hD2l.out; omega) (fun q e => by rw [e]; exact hbw2.out.2.2)
          obtain ⟨kb, hkb⟩ : ∃ n, n = w8.heap.size := ⟨_, rfl⟩
          obtain ⟨xb, hxb⟩ : ∃ n, n = kb + 1 := ⟨_, rfl⟩
          obtain ⟨w9, hw9⟩ : ∃ w9, w9 = (w8.alloc (.cells #[.int .i64 k1, .string k2] 111)).alloc (.cells #[.int .i64 x.r.kind, .string x.r.name, .slice x.eo x.r.eps.length x.ec, .slice x.ta x.r.tgts.length x.tc, .string x.r.host, .slice x.ra x.r.rules.length x.rc, .string x.r.route, .bool x.r.del] 52) := ⟨_, rfl⟩
          have hk9 : w9.heap[kb]? = some (.cells #[.int .i64 k1, .string k2] 111 (0, 0)) := by
            rw [hw9, hkb, Below.heap_alloc _ _ w8.heap.size (by simp)]; exact heap_alloc_new w8 _
          have hx9 : w9.heap[xb]? = some (.cells #[.int .i64 x.r.kind, .string x.r.name, .slice x.eo x.r.eps.length x.ec, .slice x.ta x.r.tgts.length x.tc, .string x.r.host, .slice x.ra x.r.rules.length x.rc, .string x.r.route, .bool x.r.del] 52 (0, 0)) := by
            have y := heap_alloc_new (w8.alloc (.cells #[.int .i64 k1, .string k2] 111)) (.cells #[.int .i64 x.r.kind, .string x.r.name, .slice x.eo x.r.eps.length x.ec, .slice x.ta x.r.tgts.length x.tc, .string x.r.host, .slice x.ra x.r.rules.length x.rc, .string x.r.route, .bool x.r.del] 52)
            rw [World.size_alloc, ← hkb, ← hxb, ← hw9] at y; exact y
          have hb9 : Below w8.heap.size w8 w9 := by rw [hw9]; exact seq_below (alloc_below _ _) (alloc_below _ _)
          have hB9 := hB8.below hb9
          have hrg9 := hrg1.tch (Tch.of_below (S := No) hb9) id id
          replace hk12 := Lib.hid hk12
          replace hB := Lib.hid hB
          replace hEr := Lib.hid hEr
          replace hlk := Lib.hid hlk
          replace hgnx := Lib.hid hgnx
          replace hOk := Lib.hid hOk
          replace hxf := Lib.hid hxf
          replace t8 := Lib.hid t8
          replace hB8 := Lib.hid hB8
          replace hk9 := Lib.hid hk9
          replace hx9 := Lib.hid hx9
          replace hb9 := Lib.hid hb9
          replace hB9 := Lib.hid hB9
          replace hrg9 := Lib.hid hrg9
          replace hlt1 := Lib.hid hlt1
          replace hg1 := Lib.hid hg1
          replace hs1 := Lib.hid hs1
          replace hfk := Lib.hid hfk
          replace hgx := Lib.hid hgx
          replace hkb := Lib.hid hkb
          replace hxb := Lib.hid hxb
          replace hw9 := Lib.hid hw9
          clear hrg
          go_upto_region 11 with fail
          rw [← hw9.out, ← hkb.out, ← hxb.out]
          obtain ⟨k0, k1'⟩ : w9.cell? ⟨kb, 0, none⟩ = some (.int .i64 k1) ∧ w9.cell? ⟨kb, 1, none⟩ = some (.string k2) := ⟨box_at hk9.out rfl, box_at hk9.out rfl⟩
          have q5 : w9.cell? ⟨p5, 0, none⟩ = some (.map (some ob)) := box_at hB9.out.c5 rfl
          have hlook := hB9.out.o.look (t := 121) (e := 52) Try.underlying121 (Try.zeroValue52 w9) true (k1, k2)
          cases hgk : g k with
          | none =>
            have hv : valR gO (k1, k2) = none := by unfold valR; rw [← hk12.out, hOk.out, hgk]; rfl
            rw [hv] at hlook
            replace hlook : (Instr.lookup 121 (.map (some ob)) (.agg #[.int .i64 k1, .string k2]) true).run Try.prog w9 = .ok (.tuple #[.agg #[.int .i64 0, .string ⟨#[]⟩, .slice none 0 0, .slice none 0 0, .string ⟨#[]⟩, .slice none 0 0, .string ⟨#[]⟩, .bool false], .bool false]) w9 := hlook
            have hne : ¬ eqK g gn k := fun ⟨o, r, h1, _⟩ => by rw [hgk] at h1; cases h1
            obtain ⟨w10, hw10⟩ : ∃ w10, w10 = w9.alloc (.cells #[.int .i64 0, .string ⟨#[]⟩, .slice none 0 0, .slice none 0 0, .string ⟨#[]⟩, .slice none 0 0, .string ⟨#[]⟩, .bool false] 52) := ⟨_, rfl⟩
            have hb10 : Below w9.heap.size w9 w10 := by rw [hw10]; exact alloc_below _ _
            replace hv := Lib.hid hv
            replace hgk := Lib.hid hgk
            replace hne := Lib.hid hne
            replace hw10 := Lib.hid hw10
            replace hb10 := Lib.hid hb10
            go_upto_region 12 with fail
            rw [← hw10.out]
            have t10 : Tch No w8 w10 := Tch.of_below (seq_below hb9.out hb10.out)
            have hrg10 := hrg1.tch t10 id id
            have e10 : w10.rangeLeft nb ik = w8.rangeLeft nb ik := by unfold World.rangeLeft; rw [t10.block nb hrg1.map.lt id, t10.block ik hrg1.rlt id]
            have hB10 := Lib.hid (hB9.out.below hb10.out)
            have hsz10 := Lib.hid hrg10.rlt
            have hEr10 := Lib.hid (hEr.out.differ hlk.out hne.out)
            replace e10 := Lib.hid e10
            replace hrg10 := Lib.hid hrg10
            replace t10 := Lib.hid t10
            clear hlook
            go_wp2
            go_roundg (w10.rangeLeft nb ik)
            case rel => exact ⟨_, gO, gW, rfl, hrg10.out, hB10, hEr10, hsz10⟩
            case measure => rw [e10.out]; exact hlt1.out
          | some y =>
            have hv : valR gO (k1, k2) = some (valW y) := by unfold valR; rw [← hk12.out, hOk.out, hgk]; rfl
            rw [hv] at hlook
            replace hlook : (Instr.lookup 121 (.map (some ob)) (.agg #[.int .i64 k1, .string k2]) true).run Try.prog w9 = .ok (.tuple #[.agg #[.int .i64 y.r.kind, .string y.r.name, .slice y.eo y.r.eps.length y.ec, .slice y.ta y.r.tgts.length y.tc, .string y.r.host, .slice y.ra y.r.rules.length y.rc, .string y.r.route, .bool y.r.del], .bool true]) w9 := hlook
            obtain ⟨yb, hyb⟩ : ∃ n, n = w9.heap.size := ⟨_, rfl⟩
            obtain ⟨w10, hw10⟩ : ∃ w10, w10 = w9.alloc (.cells #[.int .i64 y.r.kind, .string y.r.name, .slice y.eo y.r.eps.length y.ec, .slice y.ta y.r.tgts.length y.tc, .string y.r.host, .slice y.ra y.r.rules.length y.rc, .string y.r.route, .bool y.r.del] 52) := ⟨_, rfl⟩
            have hy10 : w10.heap[yb]? = some (.cells #[.int .i64 y.r.kind, .string y.r.name, .slice y.eo y.r.eps.length y.ec, .slice y.ta y.r.tgts.length y.tc, .string y.r.host, .slice y.ra y.r.rules.length y.rc, .string y.r.route, .bool y.r.del] 52 (0, 0)) := by rw [hw10, hyb]; exact heap_alloc_new w9 _
            have hb10 : Below w9.heap.size w9 w10 := by rw [hw10]; exact alloc_below _ _
            have hx10 : w10.heap[xb]? = some (.cells #[.int .i64 x.r.kind, .string x.r.name, .slice x.eo x.r.eps.length x.ec, .slice x.ta x.r.tgts.length x.tc, .string x.r.host, .slice x.ra x.r.rules.length x.rc, .string x.r.route, .bool x.r.del] 52 (0, 0)) := (hb10.block xb (Array.getElem?_eq_some_iff.1 hx9.out).1).trans hx9.out
            have hk10 : w10.heap[kb]? = some (.cells #[.int .i64 k1, .string k2] 111 (0, 0)) := (hb10.block kb (Array.getElem?_eq_some_iff.1 hk9.out).1).trans hk9.out
            have hyf := (hi2.out.o.el k y hgk)
            obtain ⟨sm, hsm⟩ : ∃ s, sameR y.r x.r = s := ⟨_, rfl⟩
            have hB10 := hB9.out.below hb10
            have c29 := same29 y.r x.r _ _ _ _ _ _ w10 (RP.below hyf.2.p hB10.bel) (RP.below hxf.out.2.p hB10.bel)
            rw [hsm] at c29
            obtain ⟨yc0, yc1, yc2, yc3, yc4, yc5, yc6, yc7⟩ : w10.cell? ⟨yb, 0, none⟩ = some (.int .i64 y.r.kind) ∧ w10.cell? ⟨yb, 1, none⟩ = some (.string y.r.name) ∧ w10.cell? ⟨yb, 2, none⟩ = some (.slice y.eo y.r.eps.length y.ec) ∧ w10.cell? ⟨yb, 3, none⟩ = some (.slice y.ta y.r.tgts.length y.tc) ∧ w10.cell? ⟨yb, 4, none⟩ = some (.string y.r.host) ∧ w10.cell? ⟨yb, 5, none⟩ = some (.slice y.ra y.r.rules.length y.rc) ∧ w10.cell? ⟨yb, 6, none⟩ = some (.string y.r.route) ∧ w10.cell? ⟨yb, 7, none⟩ = some (.bool y.r.del) := ⟨box_at hy10 rfl, box_at hy10 rfl, box_at hy10 rfl, box_at hy10 rfl, box_at hy10 rfl, box_at hy10 rfl, box_at hy10 rfl, box_at hy10 rfl⟩
            obtain ⟨xc0, xc1, xc2, xc3, xc4, xc5, xc6, xc7⟩ : w10.cell? ⟨xb, 0, none⟩ = some (.int .i64 x.r.kind) ∧ w10.cell? ⟨xb, 1, none⟩ = some (.string x.r.name) ∧ w10.cell? ⟨xb, 2, none⟩ = some (.slice x.eo x.r.eps.length x.ec) ∧ w10.cell? ⟨xb, 3, none⟩ = some (.slice x.ta x.r.tgts.length x.tc) ∧ w10.cell? ⟨xb, 4, none⟩ = some (.string x.r.host) ∧ w10.cell? ⟨xb, 5, none⟩ = some (.slice x.ra x.r.rules.length x.rc) ∧ w10.cell? ⟨xb, 6, none⟩ = some (.string x.r.route) ∧ w10.cell? ⟨xb, 7, none⟩ = some (.bool x.r.del) := ⟨box_at hx10 rfl, box_at hx10 rfl, box_at hx10 rfl, box_at hx10 rfl, box_at hx10 rfl, box_at hx10 rfl, box_at hx10 rfl, box_at hx10 rfl⟩
            replace hv := Lib.hid hv
            replace hgk := Lib.hid hgk
            replace hw10 := Lib.hid hw10
            replace hb10 := Lib.hid hb10
            replace hy10 := Lib.hid hy10
            replace hx10 := Lib.hid hx10
            replace hk10 := Lib.hid hk10
            replace hyf := Lib.hid hyf
            replace hsm := Lib.hid hsm
            replace hB10 := Lib.hid hB10
            replace c29 := Lib.hid c29
            replace hyb := Lib.hid hyb
            go_upto_region 12 with fail
            rw [← hw10.out, ← hyb.out]
            clear hlook k0 k1' q5
            cases sm with
            | false =>
              go_wp2_with (first
                | (go_at_call 29; (with_reducible refine c29.out.mono ?_); rintro e w11 ⟨rfl, hb11⟩; replace hb11 := Lib.hid hb11)
                | fail)
              have hne : ¬ eqK g gn k := fun ⟨o, r, h1, h2, h3⟩ => by
                rw [hgk.out] at h1; rw [hgnx.out] at h2; cases h1; cases h2; rw [hsm.out] at h3; cases h3
              have t11 : Tch No w8 w11 := Tch.of_below (seq_below (seq_below hb9.out hb10.out) hb11.out)
              have hrg11 := hrg1.tch t11 id id
              have e11 : w11.rangeLeft nb ik = w8.rangeLeft nb ik := by unfold World.rangeLeft; rw [t11.block nb hrg1.map.lt id, t11.block ik hrg1.rlt id]
              have hB11 := Lib.hid (hB10.out.below hb11.out)
              have hsz11 := Lib.hid hrg11.rlt
              have hEr11 := Lib.hid (hEr.out.differ hlk.out hne)
              replace e11 := Lib.hid e11
              replace hrg11 := Lib.hid hrg11
              replace t11 := Lib.hid t11
              replace hne := Lib.hid hne
              go_roundg (w11.rangeLeft nb ik)
              case rel => exact ⟨_, gO, gW, rfl, hrg11.out, hB11, hEr11, hsz11⟩
              case measure => rw [e11.out]; exact hlt1.out
            | true =>
              go_upto_region 13 with (first
                | (go_at_call 29; (with_reducible refine c29.out.mono ?_); rintro e w11 ⟨rfl, hb11⟩; replace hb11 := Lib.hid hb11)
                | fail)
              have t11 : Tch No w8 w11 := Tch.of_below (seq_below (seq_below hb9.out hb10.out) hb11.out)
              have hrg11 := hrg1.tch t11 id id
              have e11 : w11.rangeLeft nb ik = w8.rangeLeft nb ik := by unfold World.rangeLeft; rw [t11.block nb hrg1.map.lt id, t11.block ik hrg1.rlt id]
              have hB11 := hB10.out.below hb11.out
              have hk11 : w11.heap[kb]? = some (.cells #[.int .i64 k1, .string k2] 111 (0, 0)) := (hb11.out.block kb (Array.getElem?_eq_some_iff.1 hk10.out).1).trans hk10.out
              have hEr11 := Lib.hid (hEr.out.same hlk.out hgk.out hgnx.out hsm.out)
              have hkbl : w8.heap.size ≤ kb := by rw [hkb.out]; exact Nat.le_refl _
              have hnb8 := hrg1.map.lt
              have hik8 := hrg1.rlt
              have hob8 := hB8.out.o.lt
              clear yc0 yc1 yc2 yc3 yc4 yc5 yc6 yc7 xc0 xc1 xc2 xc3 xc4 xc5 xc6 xc7
              obtain ⟨k0, k1'⟩ : w11.cell? ⟨kb, 0, none⟩ = some (.int .i64 k1) ∧ w11.cell? ⟨kb, 1, none⟩ = some (.string k2) := ⟨box_at hk11 rfl, box_at hk11 rfl⟩
              have q6 : w11.cell? ⟨p6, 0, none⟩ = some (.map (some nb)) := box_at hB11.c6 rfl
              replace t11 := Lib.hid t11
              replace hrg11 := Lib.hid hrg11
              replace e11 := Lib.hid e11
              replace hB11 := Lib.hid hB11
              replace hk11 := Lib.hid hk11
              replace hkbl := Lib.hid hkbl
              replace hnb8 := Lib.hid hnb8
              replace hik8 := Lib.hid hik8
              replace hob8 := Lib.hid hob8
              go_upto_region 14 with (first
                | (at_delete; refine wp_delete_range rfl _ _ 121 rfl keyKey 52 hu nb ik (valR gW) (fun j => left j ∧ j ≠ k) (k1, k2) rfl hrg11.out rfl ?_; intro w12 hrg12 ht12 hle12)
                | fail)
              have t12 : Tch (fun q => q = nb) w11 w12 := Tch.turned ht12 rfl
              have hB12 := hB11.out.tch t12 (fun e => hapt.out.1 e.symm) (fun e => hapt.out.2.1 e.symm) (fun e => hapt.out.2.2.1 e.symm) (fun e => hapt.out.2.2.2.1 e.symm) (fun e => hapt.out.2.2.2.2.1 e.symm) (fun q e => by rw [e]; exact hbw2.out.1)
              have hk12b : w12.heap[kb]? = some (.cells #[.int .i64 k1, .string k2] 111 (0, 0)) := (t12.block kb (Array.getElem?_eq_some_iff.1 hk11.out).1 (fun e => by have := hkbl.out; have := hnb8.out; omega)).trans hk11.out
              clear k0 k1' q6
              obtain ⟨k0, k1'⟩ : w12.cell? ⟨kb, 0, none⟩ = some (.int .i64 k1) ∧ w12.cell? ⟨kb, 1, none⟩ = some (.string k2) := ⟨box_at hk12b rfl, box_at hk12b rfl⟩
              have q5 : w12.cell? ⟨p5, 0, none⟩ = some (.map (some ob)) := box_at hB12.c5 rfl
              have hrg12' : RangeS keyKey w12 nb ik (valR (delK gW k)) (fun j => left j ∧ j ≠ k) := by
                rw [← hk12.out, valR_del] at hrg12
                have e : (fun j => (left j ∧ j ≠ k) ∧ j ≠ k) = (fun j => left j ∧ j ≠ k) := funext fun j => propext ⟨fun h => h.1, fun h => ⟨h, h.2⟩⟩
                rw [e] at hrg12
                exact hrg12
              clear hrg12
              replace t12 := Lib.hid t12
              replace hB12 := Lib.hid hB12
              replace hk12b := Lib.hid hk12b
              replace hrg12' := Lib.hid hrg12'
              replace ht12 := Lib.hid ht12
              replace hle12 := Lib.hid hle12
              go_wp2_with (first
                | (at_delete; refine wp_delete rfl _ _ 121 rfl keyKey 52 hu ob (valR gO) (k1, k2) rfl hB12.out.o rfl ?_; intro w13 hm13 ht13)
                | fail)
              have t13 : Tch (fun q => q = ob) w12 w13 := Tch.turned ht13 rfl
              rw [← hk12.out, valR_del] at hm13
              have hB13 : Hid (B1 w w13 ob p5 p6 ob nb D D2 (delK gO k)) := Lib.hid ⟨hm13, (t13.block p5 (Array.getElem?_eq_some_iff.1 hB12.out.c5).1 (fun e => hapt.out.2.2.2.2.2.1 e.symm)).trans hB12.out.c5, (t13.block p6 (Array.getElem?_eq_some_iff.1 hB12.out.c6).1 (fun e => hapt.out.2.2.2.2.2.2.1 e.symm)).trans hB12.out.c6, (t13.block D (Array.getElem?_eq_some_iff.1 hB12.out.d1).1 (fun e => hapt.out.2.2.2.2.2.2.2.1 e.symm)).trans hB12.out.d1, (t13.block D2 (Array.getElem?_eq_some_iff.1 hB12.out.d2).1 (fun e => hapt.out.2.2.2.2.2.2.2.2 e.symm)).trans hB12.out.d2, Tch.below hB12.out.bel t13 hB12.out.bel.size (fun q e => by rw [e]; exact hbw2.out.2.1)⟩
              have kn := t13.block nb hrg12'.out.map.lt hapt.out.1
              have ki := t13.block ik hrg12'.out.rlt (fun e => by have := hob2.out; omega)
              have hrg13 := hrg12'.out.keep kn ki
              have e13 : w13.rangeLeft nb ik = w12.rangeLeft nb ik := by unfold World.rangeLeft; rw [kn, ki]
              have hsz13 := Lib.hid hrg13.rlt
              replace e13 := Lib.hid e13
              replace hrg13 := Lib.hid hrg13
              replace t13 := Lib.hid t13
              replace hm13 := Lib.hid hm13
              replace ht13 := Lib.hid ht13
              clear kn ki k0 k1' q5
              go_roundg (w13.rangeLeft nb ik)
              case rel => exact ⟨_, delK gO k, delK gW k, rfl, hrg13.out, hB13, hEr11, hsz13⟩
              case measure => rw [e13.out]; exact Nat.lt_of_le_of_lt hle12.out (by rw [e11.out]; exact hlt1.out)
  case stop =>
    rintro D c pre W hD hp h hK
    exact h.elim
end Go.Proofs.Ytjepgpocmnijiaa
end
