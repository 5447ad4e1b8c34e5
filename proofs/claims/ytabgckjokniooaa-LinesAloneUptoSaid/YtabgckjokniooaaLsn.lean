/- Scan: the tokens of a text, or what is wrong. -/
import Derived.Maps.OwnIn
import Derived.Test.YtabgckjokniooaaLea
namespace Go.Proofs.Ytabgckjokniooaa
open Go.RowKit Go.Ln Go.Mp Go.Tr Go.Shelf
attribute [local go_sem] Oper.semAt_some
set_option linter.unusedVariables false
set_option maxRecDepth 100000
set_option maxHeartbeats 4000000
/-- 'append(v, x)' in a fence, x one element of some cells, new. -/
theorem wpIn_append_us {F : Fence} {nF : Nat} {P : Program} {w : World} {ops : Array Oper} {rest : List Oper} {o : Oper} {a : Act} {Q : Exit → Act → World → Prop} {us : List Value} {e' : TypeId} (hgd : o.guard = none) (s x : Operand) (t : TypeId)
    (ho : o.op = .call { callee := .builtin .append, args := #[s, x], argTypes := #[t, t] })
    (base : Nat) (e : TypeId) (i : TypeInfo) (z : Value) (size bytes : Nat) (ht : P.underlying t = some (.slice e)) (hi : P.info? e = some i) (hz : i.zero = some z)
    (hsize : i.size = size) (hby : i.bytes = bytes) (hzs : z.cells.size = size) (hpos : 0 < size)
    (v : Value) (n : Nat) (xs : List Value) (hs : a.eval s = v) (hown : w.ownsRow base e size v n xs)
    (c : Nat) (hx : a.eval x = .slice (some ⟨w.heap.size, 0, none⟩) 1 c) (hlen : us.length = size) (h1 : ∀ u ∈ us, u.oneCell' = true)
    (h63 : n + 1 ≤ maxLen) (hbytes : (n + 1) * bytes ≤ 140737488355328) (hbase : base ≤ w.heap.size)
    (h : ∀ v' w', w'.ownsRow base e size v' (n + 1) (xs ++ us) → w.grownBy w' v.ownBlock → (∀ g, v'.ownBlock = some g → v.ownBlock = some g ∨ w.heap.size ≤ g) → wpListIn F nF P ops Q rest (a.put o.dst v') w') :
    wpListIn F nF P ops Q (o :: rest) a (w.alloc (.cells us.toArray e')) := by
  refine wpListIn_append_own_at _ hgd s x t ho base e i z size bytes ht hi hz hsize hby hzs hpos v n xs hs (hown.alloc _) ⟨w.heap.size, 0, none⟩ 1 c us hx (by omega) (new_cells w us e') h1 h63 hbytes (by simp; omega) ?_
  intro v' w' hown' hg hnil hloc
  refine h v' w' hown' (grownBy_alloc_left hg) ?_
  intro g hg'
  rcases hloc with hl | hl
  · exact .inl (by rw [← hl]; exact hg')
  · rw [hl] at hg'; cases hg'; exact .inr (by simp)
theorem each_stops (n : Nat) (Bt bt B n0 : Nat) (m : Int) (tv : Value) (text : List UInt8) (w : World)
    (hBt : w.cell? ⟨Bt, 0, none⟩ = some tv) (htx : BytS w bt tv text)
    (hm : w.cell? ⟨0, 0, none⟩ = some (.int .i64 m)) (hb1 : bt < n0) (hb2 : bt ≠ B) (hb3 : 0 < n0) (hb4 : B ≠ 0) (hb5 : n0 ≤ w.heap.size) (hBs : w.cell? ⟨B, 0, none⟩ = some (.slice none 0 0)) :
    SeqStopsK Fence.wide n Try.prog 12 #[.pointer (some ⟨Bt, 0, none⟩)] encE (Kp B) (fun xs => xs = seqOf text) (fun pre => pre <+: seqOf text) (seqOf text).length w := by
  intro l J Jx W hW hJ hJx hY h0
  obtain ⟨ao, cap, rfl⟩ := htx.shape
  have hc : ∀ b off x, w.cell? ⟨b, off, none⟩ = some x → W.cell? ⟨b, off, none⟩ = some x := fun b off x h => by
    obtain ⟨o, ho, _⟩ := cell_obj h
    exact (hW.cell (p := ⟨b, off, none⟩) (heap_lt ho)).trans h
  have hB1 := hc _ _ _ hBs
  obtain ⟨o, ho, _⟩ := cell_obj hB1
  by_cases hl : text.length ≤ 65536
  · exact each_short n l Bt bt B n0 m ao cap text J Jx W hJ hY (hc _ _ _ hBt) (htx.keep (hW.block _ (by omega))) hl h0 (hc _ _ _ hm) hb1 hb2 hb3 hb4 (Nat.le_trans hb5 hW.size) (fun k ⟨v, h1, h2⟩ => by rw [hB1] at h1; cases h1; cases h2) (heap_lt ho)
  · exact each_long n l Bt bt B ao cap text J Jx W hY (hc _ _ _ hBt) (by omega) h0
theorem each_any (n : Nat) (ao : Option Addr) (len cap : Nat) (w : World) :
    CallsIn Fence.wide n Try.prog 10 #[.slice ao len cap] w fun e w' => e = .returned (.func (.func 12) #[] #[.pointer (some ⟨w.heap.size, 0, none⟩)]) ∧ w' = w.alloc (.cells #[.slice ao len cap] 22) := by
  refine callsIn_of_wp Try.func10 rfl trivial ?_ rfl
  simp only [Try.ntmps10, List.size_toArray, List.length_cons, List.length_nil, Nat.reduceAdd, Nat.reduceSub, Array.replicate_succ, Array.replicate_zero, List.push_toArray, List.append_toArray, List.nil_append, List.cons_append]
  gi_wp2
  go_ret
  exact ⟨rfl, rfl⟩
/-- What stands in the boxes between two rounds. -/
structure SBox (B : Nat) (w0 : World) (O : Value) (ts : List Tk) (f : Nat × Nat × Int) (W : World) : Prop where
  out : Boxed W B 24 O
  flt : W.heap[B + 1]? = some (.cells #[.int .i64 f.1, .int .i64 f.2.1, .int .i64 f.2.2] 27 (0, 0))
  row : tkRow W w0.heap.size O ts
  bel : Below w0.heap.size w0 W
def SI (B : Nat) (w0 : World) (pre : List Ev) (W : World) : Prop := (∃ O, SBox B w0 O (pre.map (·.1)) (0, 0, 0) W) ∧ ∀ x ∈ pre, x.2.2.2 = 0
def SX (B : Nat) (w0 : World) (c : Code) (pre : List Ev) (W : World) : Prop := c = .ret ∧ ∃ pre' x, pre = pre' ++ [x] ∧ x.2.2.2 ≠ 0 ∧ SBox B w0 (.slice none 0 0) [] x.2 W
theorem ownsRow_grown {w w' : World} {base e size n : Nat} {v : Value} {xs : List Value} {row : Option Nat} (h : w.ownsRow base e size v n xs) (hg : w.grownBy w' row) (hr : ∀ r, row = some r → ∃ o : Obj, w.heap[r]? = some o ∧ o.isCells = false) : w'.ownsRow base e size v n xs := by
  obtain ⟨h1, h2⟩ := h
  refine ⟨h1, ?_⟩
  rcases h2 with h2 | ⟨g, cap, cur, e1, h3, h4, h5⟩
  · exact .inl h2
  · refine .inr ⟨g, cap, cur, e1, h3, (hg.block g (heap_lt h4) (fun e2 => ?_)).trans h4, h5⟩
    obtain ⟨o, ho, hc⟩ := hr g e2.symm
    rw [h4] at ho; cases ho; cases hc
theorem SBox.own {B N : Nat} {w0 : World} {O : Value} {ts : List Tk} {f : Nat × Nat × Int} {W W' : World} {row : Option Nat} (h : SBox B w0 O ts f W) (hg : W.grownBy W' row) (hr : ∀ r, row = some r → N ≤ r ∧ ∃ o : Obj, W.heap[r]? = some o ∧ o.isCells = false) (hN : w0.heap.size ≤ N) : SBox B w0 O ts f W' where
  out := (hg.block B (heap_lt h.out) (fun e => by obtain ⟨_, o, ho, hc⟩ := hr B e.symm; rw [show W.heap[B]? = _ from h.out] at ho; cases ho; cases hc)).trans h.out
  flt := (hg.block (B + 1) (heap_lt h.flt) (fun e => by obtain ⟨_, o, ho, hc⟩ := hr (B + 1) e.symm; rw [h.flt] at ho; cases ho; cases hc)).trans h.flt
  row := ownsRow_grown h.row hg (fun r e => (hr r e).2)
  bel := h.bel.grown hg h.bel.size (fun k e => by have := (hr k e).1; omega)
theorem SBox.tch {B : Nat} {w0 : World} {O O' : Value} {ts ts' : List Tk} {f f' : Nat × Nat × Int} {W W' : World} {S : Nat → Prop} (h : SBox B w0 O ts f W) (t : Tch S W W') (hs : ∀ k, S k → w0.heap.size ≤ k) (h1 : Boxed W' B 24 O') (h2 : W'.heap[B + 1]? = some (.cells #[.int .i64 f'.1, .int .i64 f'.2.1, .int .i64 f'.2.2] 27 (0, 0))) (h3 : tkRow W' w0.heap.size O' ts') : SBox B w0 O' ts' f' W' :=
  ⟨h1, h2, h3, Tch.below h.bel t h.bel.size hs⟩
theorem SBox.put {B : Nat} {w0 : World} {O : Value} {ts : List Tk} {f : Nat × Nat × Int} {W : World} {D : Nat} {o o' : Obj} (h : SBox B w0 O ts f W) (hD : w0.heap.size ≤ D) (ho : W.heap[D]? = some o) (hc : o.isCells = false) : SBox B w0 O ts f (W.putObj D o') :=
  h.own (N := w0.heap.size) (grownBy_putObj' W D o') (fun r e => by cases e; exact ⟨hD, o, ho, hc⟩) (Nat.le_refl _)
/-- The stores of a return. -/
theorem SBox.store {B : Nat} {w0 : World} {O : Value} {ts : List Tk} {f : Nat × Nat × Int} {W : World} (h : SBox B w0 O ts f W) (hB : w0.heap.size ≤ B) (O' : Value) (ts' : List Tk) (f' : Nat × Nat × Int) (hO : (O' = O ∧ ts' = ts) ∨ (O' = .slice none 0 0 ∧ ts' = [])) :
    SBox B w0 O' ts' f' ((((W.setCell ⟨B, 0, none⟩ O').setCell ⟨B + 1, 0, none⟩ (.int .i64 f'.1)).setCell ⟨B + 1, 1, none⟩ (.int .i64 f'.2.1)).setCell ⟨B + 1, 2, none⟩ (.int .i64 f'.2.2)) ∧
    KeepsOthers W ((((W.setCell ⟨B, 0, none⟩ O').setCell ⟨B + 1, 0, none⟩ (.int .i64 f'.1)).setCell ⟨B + 1, 1, none⟩ (.int .i64 f'.2.1)).setCell ⟨B + 1, 2, none⟩ (.int .i64 f'.2.2)) := by
  have hf : (W.setCell ⟨B, 0, none⟩ O').heap[B + 1]? = some (.cells #[.int .i64 f.1, .int .i64 f.2.1, .int .i64 f.2.2] 27 (0, 0)) := (heap_setCell_other W ⟨B, 0, none⟩ (B + 1) O' (by simp)).trans h.flt
  obtain ⟨s1, s2⟩ := set3 hf (.int .i64 f'.1) (.int .i64 f'.2.1) (.int .i64 f'.2.2)
  have t := (Tch.setCell (S := fun k => k = B ∨ k = B + 1) W (p := ⟨B, 0, none⟩) (.inl rfl) O').trans (s2.mono (S' := fun k => k = B ∨ k = B + 1) (fun k h => .inr h)) (fun _ h => .inl h)
  refine ⟨h.tch t (fun k hk => by rcases hk with rfl | rfl <;> omega) ((s2.block B (by have := h.out.lt; simpa using this) (by simp)).trans (h.out.set O')) s1 ?_, ?_⟩
  · rcases hO with ⟨rfl, rfl⟩ | ⟨rfl, rfl⟩
    · exact ownsRow_tch h.row t (fun g hg hk => by
        rcases hk with rfl | rfl
        · exact row_not h.row h.out (by decide) hg
        · exact row_not h.row h.flt (by decide) hg)
    · exact row_nil _ _
  · exact (((KeepsOthers.setCell _ _ _).trans (KeepsOthers.setCell _ _ _)).trans (KeepsOthers.setCell _ _ _)).trans (KeepsOthers.setCell _ _ _)
theorem SBox.store2 {B : Nat} {w0 : World} {O : Value} {ts : List Tk} {f : Nat × Nat × Int} {W : World} (h : SBox B w0 O ts f W) (hB : w0.heap.size ≤ B) (O' : Value) (ts' : List Tk) (f' : Nat × Nat × Int) (hO : (O' = O ∧ ts' = ts) ∨ (O' = .slice none 0 0 ∧ ts' = [])) :
    SBox B w0 O' ts' f' ((((W.setCell ⟨B + 1, 0, none⟩ (.int .i64 f'.1)).setCell ⟨B + 1, 1, none⟩ (.int .i64 f'.2.1)).setCell ⟨B + 1, 2, none⟩ (.int .i64 f'.2.2)).setCell ⟨B, 0, none⟩ O') ∧
    KeepsOthers W ((((W.setCell ⟨B + 1, 0, none⟩ (.int .i64 f'.1)).setCell ⟨B + 1, 1, none⟩ (.int .i64 f'.2.1)).setCell ⟨B + 1, 2, none⟩ (.int .i64 f'.2.2)).setCell ⟨B, 0, none⟩ O') := by
  obtain ⟨s1, s2⟩ := set3 h.flt (.int .i64 f'.1) (.int .i64 f'.2.1) (.int .i64 f'.2.2)
  have hb : Boxed (((W.setCell ⟨B + 1, 0, none⟩ (.int .i64 f'.1)).setCell ⟨B + 1, 1, none⟩ (.int .i64 f'.2.1)).setCell ⟨B + 1, 2, none⟩ (.int .i64 f'.2.2)) B 24 O := (s2.block B h.out.lt (by simp)).trans h.out
  have t := (s2.mono (S' := fun k => k = B ∨ k = B + 1) (fun k h => .inr h)).trans (Tch.setCell (S := fun k => k = B ∨ k = B + 1) _ (p := ⟨B, 0, none⟩) (.inl rfl) O') (fun _ h => .inl h)
  refine ⟨h.tch t (fun k hk => by rcases hk with rfl | rfl <;> omega) (hb.set O') ((heap_setCell_other _ ⟨B, 0, none⟩ (B + 1) O' (by simp)).trans s1) ?_, ?_⟩
  · rcases hO with ⟨rfl, rfl⟩ | ⟨rfl, rfl⟩
    · exact ownsRow_tch h.row t (fun g hg hk => by
        rcases hk with rfl | rfl
        · exact row_not h.row h.out (by decide) hg
        · exact row_not h.row h.flt (by decide) hg)
    · exact row_nil _ _
  · exact (((KeepsOthers.setCell _ _ _).trans (KeepsOthers.setCell _ _ _)).trans (KeepsOthers.setCell _ _ _)).trans (KeepsOthers.setCell _ _ _)
theorem SBox.drew {B : Nat} {w0 : World} {O : Value} {ts : List Tk} {f : Nat × Nat × Int} {W : World} (h : SBox B w0 O ts f W) : SBox B w0 O ts f W.drew :=
  h.own (N := w0.heap.size) (Tch.drew No W).grownNone (fun r e => by cases e) (Nat.le_refl _)
theorem res37 {B : Nat} {w0 : World} {O : Value} {ts : List Tk} {f : Nat × Nat × Int} {W : World} (h : SBox B w0 O ts f W) (tmps : Array Value) (h2 : tmps[2]? = some (.pointer (some ⟨B, 0, none⟩))) (h3 : tmps[3]? = some (.pointer (some ⟨B + 1, 0, none⟩))) :
    (results Try.f7 tmps).run Try.prog W = .ok (.tuple #[O, fltA f]) W := by
  have c0 := h.out.cell
  have c1 : W.cell? ⟨B + 1, 0, none⟩ = some (.int .i64 f.1) := cell_of_row W _ 0 _ _ _ h.flt
  have c2 : W.cell? ⟨B + 1, 1, none⟩ = some (.int .i64 f.2.1) := cell_of_row W _ 1 _ _ _ h.flt
  have c3 : W.cell? ⟨B + 1, 2, none⟩ = some (.int .i64 f.2.2) := cell_of_row W _ 2 _ _ _ h.flt
  simp [results, Try.results7, go_sem, fltA, c0, c1, c2, c3, h2, h3]
def ScanPost (w : World) (x : List Tk × Option (Nat × Nat × Int)) (e : Ending) (w' : World) : Prop :=
  ∃ O f, e = .returned (.tuple #[O, fltA f]) ∧ (match x.2 with
    | none => f = (0, 0, 0) ∧ tkRow w' w.heap.size O x.1
    | some g => f = g ∧ O = .slice none 0 0) ∧ Below w.heap.size w w'
theorem scan_any (bt : Nat) (v : Value) (text : List UInt8) (w : World) (m : Int) (hby : BytS w bt v text) (hbt : bt < w.heap.size) (hm : w.cell? ⟨0, 0, none⟩ = some (.int .i64 m)) :
    Calls Try.prog 7 #[v] w (ScanPost w (scan text)) := by
  obtain ⟨ao, cap, rfl⟩ := hby.shape
  refine (callsIn_wide (n := 9)).1 ?_
  obtain ⟨oo, ho, _⟩ := cell_obj hm
  have h0w := heap_lt ho
  obtain ⟨i0, hi, hz0, hz1, hz2⟩ := info_parts info31
  replace hby := Lib.hid hby
  replace hm := Lib.hid hm
  replace hi := Lib.hid hi
  replace hz0 := Lib.hid hz0
  replace hz1 := Lib.hid hz1
  replace hz2 := Lib.hid hz2
  refine callsIn_of_wp_marks Try.func7 rfl trivial ?_ rfl
  simp only [Try.ntmps7, List.size_toArray, List.length_cons, List.length_nil, Nat.reduceAdd, Nat.reduceSub, Array.replicate_succ, Array.replicate_zero, List.push_toArray, List.append_toArray, List.nil_append, List.cons_append]
  gi_wp2_with (first
    | (refine ⟨trivial, ?_⟩; gi_at_call 10; refine (each_any _ _ _ _ _).mono ?_; rintro e w' ⟨rfl, rfl⟩)
    | fail)
  obtain ⟨w1, hw1⟩ : ∃ w1, w1 = ((w.alloc (.cells #[.slice none 0 0] 24)).alloc (.cells #[.int .i64 0, .int .i64 0, .int .i64 0] 27)).alloc (.cells #[.slice ao text.length cap] 22) := ⟨_, rfl⟩
  have hsz : w1.heap.size = w.heap.size + 3 := by rw [hw1]; simp
  have hb0 : Below w.heap.size w w1 := by rw [hw1]; exact (((Below.refl _ w).alloc (Nat.le_refl _) _).alloc (by simp) _).alloc (by simp; omega) _
  have hbx1 : Boxed w1 w.heap.size 24 (.slice none 0 0) := by rw [hw1]; exact ((Boxed.new w 24 _).alloc _).alloc _
  have hbx2 : w1.heap[w.heap.size + 1]? = some (.cells #[.int .i64 0, .int .i64 0, .int .i64 0] 27 (0, 0)) := by
    rw [hw1]
    have := heap_alloc_new (w.alloc (.cells #[.slice none 0 0] 24)) (.cells #[.int .i64 0, .int .i64 0, .int .i64 0] 27)
    rw [World.size_alloc] at this
    exact (Below.heap_alloc _ _ _ (by simp)).trans this
  have hbx3 : Boxed w1 (w.heap.size + 1 + 1) 22 (.slice ao text.length cap) := by
    rw [hw1]
    have := Boxed.new ((w.alloc (.cells #[.slice none 0 0] 24)).alloc (.cells #[.int .i64 0, .int .i64 0, .int .i64 0] 27)) 22 (.slice ao text.length cap)
    simpa using this
  rw [← hw1]
  clear hw1
  have hby1 : BytS w1 bt (.slice ao text.length cap) text := hby.out.keep (hb0.block _ hbt)
  have hm1 : w1.cell? ⟨0, 0, none⟩ = some (.int .i64 m) := (hb0.cell (p := ⟨0, 0, none⟩) h0w).trans hm.out
  have hst : SI w.heap.size w [] w1 := ⟨⟨_, hbx1, hbx2, row_nil _ _, hb0⟩, fun x h => by cases h⟩
  refine wpIn_rangeFunc_ownH rfl (by omega) (gf := 12) (lb := #[.pointer (some ⟨w.heap.size + 1 + 1, 0, none⟩)]) rfl trivial (enters_of Try.func12 (by kernel_rfl) rfl)
    (each_stops 8 (w.heap.size + 1 + 1) bt w.heap.size w.heap.size m (.slice ao text.length cap) text w1 hbx3.cell hby1 hm1 hbt (by omega) h0w (by omega) (by omega) hbx1.cell) Kp.trans
    (fun W l o o' hl hW hc _ => Kp.put (by omega) hW hc) (Below.refl _ _) (fun _ => rfl)
    (SI w.heap.size w) (SX w.heap.size w)
    (fun pre A A' row h hg hr => ⟨by obtain ⟨O, h⟩ := h.1; exact ⟨O, h.own hg hr (by omega)⟩, h.2⟩)
    (fun c pre A A' row h hg hr => by obtain ⟨e, pre', x, e1, e2, h⟩ := h; exact ⟨e, pre', x, e1, e2, h.own hg hr (by omega)⟩)
    hst
    (fun x a' W => ∃ g, w.heap.size + 1 < g ∧ W.heap[g]? = some (tokO (tokOf x.1) 31) ∧ W.heap[g + 1]? = some (.cells #[.int .i64 x.2.1, .int .i64 x.2.2.1, .int .i64 x.2.2.2] 27 (0, 0)) ∧ a' = { tmps := #[.slice ao text.length cap, undef, .pointer (some ⟨w.heap.size, 0, none⟩), .pointer (some ⟨w.heap.size + 1, 0, none⟩), .pointer (some ⟨g, 0, none⟩), .pointer (some ⟨g + 1, 0, none⟩), .slice ao text.length cap, .func (.func 12) #[] #[.pointer (some ⟨w.heap.size + 1 + 1, 0, none⟩)], tokA (tokOf x.1), fltA x.2, undef, undef, undef, undef, undef, undef, undef, undef, undef, undef], defers := [] })
    (fun x a' _ X Y row hs hg hr => by
      obtain ⟨g, h1, h2, h3, h4⟩ := hs
      refine ⟨g, h1, (hg.block g (heap_lt h2) (fun e => ?_)).trans h2, (hg.block (g + 1) (heap_lt h3) (fun e => ?_)).trans h3, h4⟩
      · obtain ⟨_, o, ho, hc⟩ := hr g e.symm; rw [h2] at ho; cases ho; cases hc
      · obtain ⟨_, o, ho, hc⟩ := hr (g + 1) e.symm; rw [h3] at ho; cases ho; cases hc)
    ?assign ?body ?done ?stop
  case assign =>
    rintro l pre ⟨xt, xd, xl, xe⟩ W K hi hK
    dsimp only [encE, tokA, fltA, tokOf]
    have hbl : w.heap.size + 1 < W.heap.size := by obtain ⟨O, hO⟩ := hi.1; exact heap_lt hO.flt
    have hal : ∀ o1 o2, Tch No W ((W.alloc o1).alloc o2) := fun o1 o2 => (Tch.alloc No W o1).trans (Tch.alloc No _ o2) (fun _ h => h.elim)
    have hi2 : ∀ o1 o2, SI w.heap.size w pre ((W.alloc o1).alloc o2) := fun o1 o2 => ⟨by obtain ⟨O, hO⟩ := hi.1; exact ⟨O, hO.own (N := w.heap.size) (hal o1 o2).grownNone (fun r e => by cases e) (Nat.le_refl _)⟩, hi.2⟩
    replace hK := Lib.hid hK
    replace hi := Lib.hid hi
    replace hal := Lib.hid hal
    replace hi2 := Lib.hid hi2
    replace hbl := Lib.hid hbl
    gi_wp2
    refine hK.out _ _ (((KeepsOthers.alloc _ _).trans (KeepsOthers.alloc _ _)).from _) (Kp.of_none (hal.out _ _) (by have := hbl.out; omega)) (hi2.out _ _) ⟨W.heap.size, hbl.out, (Below.heap_alloc _ _ _ (by simp)).trans (heap_alloc_new W _), ?_, rfl⟩
    have := heap_alloc_new (W.alloc (.cells #[.int .i64 xt.kind, .int .i64 xt.line, .int .i64 xt.col, .string ⟨xt.text.toArray⟩, .bool xt.quoted] 31)) (.cells #[.int .i64 xd, .int .i64 xl, .int .i64 xe] 27)
    rwa [World.size_alloc] at this
  case body =>
    rintro l pre x a' W hl ⟨r, hr⟩ ⟨⟨O, hO⟩, hall⟩ ⟨g, hg, hg1, hg2, rfl⟩ hlt
    obtain ⟨xt, xd, xl, xe⟩ := x
    obtain ⟨oo2, oc, rfl⟩ := ownsRow_shape hO.row
    have c0 := hO.out.cell
    obtain ⟨d0, d1, d2, d3, d4⟩ := tokO_cells hg1
    have e0 := (cell_of_row W (g + 1) 0 _ _ _ hg2)
    have e1 := (cell_of_row W (g + 1) 1 _ _ _ hg2)
    have e2 := (cell_of_row W (g + 1) 2 _ _ _ hg2)
    have hrow : W.ownsRow w.heap.size 31 5 (.slice oo2 pre.length oc) pre.length (tcs ((pre.map (·.1)).map tokOf)) := by have h := hO.row; unfold tkRow at h; rwa [List.length_map] at h
    rw [List.length_map] at c0 hO
    have hlt2 : pre.length < 2932031007400 := by have := seq_len text; omega
    have hBw : w.heap.size ≤ W.heap.size := hO.bel.size
    cases hxe : (xe == 0) with
    | true =>
      have hxn : (xe != 0) = false := by rw [bne, hxe]; rfl
      have hall2 : ∀ x ∈ pre ++ [((xt, xd, xl, xe) : Ev)], x.2.2.2 = 0 := fun y hy => by
        rcases List.mem_append.1 hy with h | h
        · exact hall y h
        · rw [List.mem_singleton.1 h]; exact beq_iff_eq.1 hxe
      replace hO := Lib.hid hO
      replace hlt := Lib.hid hlt
      replace hr := Lib.hid hr
      replace hall := Lib.hid hall
      replace hg1 := Lib.hid hg1
      replace hg2 := Lib.hid hg2
      replace hl := Lib.hid hl
      replace hlt2 := Lib.hid hlt2
      replace hBw := Lib.hid hBw
      replace hrow := Lib.hid hrow
      replace hall2 := Lib.hid hall2
      gi_wp2_with (first
        | (gi_at_builtin; refine wpIn_append_us rfl _ _ 24 (by rfl) w.heap.size 31 i0 (.agg #[.int .i64 0, .int .i64 0, .int .i64 0, .string ⟨#[]⟩, .bool false]) 5 48 Try.underlying24 hi.out hz0.out hz1.out hz2.out rfl (by decide) _ pre.length _ (by rfl) hrow.out 1 (by rfl) rfl (by simp [Value.oneCell']) (nn_own (Nat.le_refl _) hlt2.out).1 (nn_own (Nat.le_refl _) hlt2.out).2 hBw.out ?_; intro v7 w7 hr7 hg7 hl7; obtain ⟨po, pc, rfl⟩ := ownsRow_shape hr7; have hb7 := Boxed.kept hO.out.out hg7 (fun e => row_not hrow.out hO.out.out (by decide) e.symm); have hc7 := hb7.cell; have hf7 := hb7.frozen; replace hb7 := Lib.hid hb7; replace hr7 := Lib.hid hr7; replace hg7 := Lib.hid hg7; replace hl7 := Lib.hid hl7)
        | fail)
      have hw0 : ∀ k, (Value.slice oo2 pre.length oc).ownBlock = some k → w.heap.size ≤ k := fun k hk => (ownsRow_ge hrow.out hk).1
      have t7 : Tch (fun k => (Value.slice oo2 pre.length oc).ownBlock = some k) W w7 := Tch.grown hg7.out (fun k hk => .inl hk)
      have t8 : Tch (fun k => k = w.heap.size ∨ (Value.slice oo2 pre.length oc).ownBlock = some k) W (w7.setCell ⟨w.heap.size, 0, none⟩ (.slice po (pre.length + 1) pc)) := (t7.mono (fun k h => .inr h)).trans (Tch.setCell w7 (p := ⟨w.heap.size, 0, none⟩) (.inl rfl) _) (fun _ h => .inl h)
      have hb8 := hb7.out.set (.slice po (pre.length + 1) pc)
      have hr8 : (w7.setCell ⟨w.heap.size, 0, none⟩ (.slice po (pre.length + 1) pc)).ownsRow w.heap.size 31 5 (.slice po (pre.length + 1) pc) (pre.length + 1) _ := ownsRow_tch hr7.out (Tch.setCell (S := fun k => k = w.heap.size) w7 (p := ⟨w.heap.size, 0, none⟩) rfl _) (fun g hg hk => by subst hk; exact row_not hr7.out hb7.out (by decide) hg)
      have hout : ∀ k, (Value.slice oo2 pre.length oc).ownBlock = some k → outB w.heap.size W k := fun k hk => ⟨_, hO.out.out.cell, hk⟩
      refine ⟨KeepsFrom.trans ((KeepsOthers.of_grownBy hg7.out (fun j o hj ho2 => ?_)).from _) ((KeepsOthers.setCell _ _ _).from _), Kp.of_append (t8.mono (fun k hk => hk.elim .inl (fun h => .inr (hout k h)))) hb8.cell (fun g hg => ?_) (fun g hg => (ownsRow_ge hr8 hg).2), ⟨⟨.slice po (pre.length + 1) pc, hO.out.tch t8 (fun k hk => ?_) hb8 ?_ ?_⟩, hall2.out⟩⟩
      · obtain ⟨cur, hcur⟩ := row_block hrow.out hj
        rw [hcur] at ho2; cases ho2; rfl
      · rcases hl7.out g hg with h | h
        · exact .inl (hout g h)
        · exact .inr h
      · rcases hk with rfl | h
        · exact Nat.le_refl _
        · exact hw0 k h
      · refine (t8.block (w.heap.size + 1) (heap_lt hO.out.flt) (fun hk => ?_)).trans hO.out.flt
        rcases hk with h | h
        · omega
        · exact row_not hrow.out hO.out.flt (by decide) h
      · unfold tkRow
        rw [List.length_map, List.length_append, List.length_singleton, List.map_append, List.map_append, List.map_singleton, List.map_singleton, tcs_snoc]
        exact hr8
    | false =>
      have hxn : (xe != 0) = true := by rw [bne, hxe]; rfl
      obtain ⟨y0, y1, y2, y3⟩ : W.frozen? ⟨w.heap.size + 1, 0, none⟩ = false ∧ W.frozen? ⟨w.heap.size + 1, 1, none⟩ = false ∧ W.frozen? ⟨w.heap.size + 1, 2, none⟩ = false ∧ W.frozen? ⟨w.heap.size, 0, none⟩ = false := ⟨frozen_of_row _ _ _ _ _ hO.flt, frozen_of_row _ _ _ _ _ hO.flt, frozen_of_row _ _ _ _ _ hO.flt, hO.out.frozen⟩
      obtain ⟨b0, b1, b2⟩ : W.cell? ⟨w.heap.size + 1, 0, none⟩ = some (.int .i64 0) ∧ W.cell? ⟨w.heap.size + 1, 1, none⟩ = some (.int .i64 0) ∧ W.cell? ⟨w.heap.size + 1, 2, none⟩ = some (.int .i64 0) := ⟨cell_of_row W _ 0 _ _ _ hO.flt, cell_of_row W _ 1 _ _ _ hO.flt, cell_of_row W _ 2 _ _ _ hO.flt⟩
      have hgB : ¬ g + 1 = w.heap.size := by omega
      have hmx : Try.prog.follows Departure.mixedOrders = true := by kernel_rfl
      replace hO := Lib.hid hO
      replace hlt := Lib.hid hlt
      replace hr := Lib.hid hr
      replace hall := Lib.hid hall
      replace hg1 := Lib.hid hg1
      replace hg2 := Lib.hid hg2
      replace hl := Lib.hid hl
      replace hlt2 := Lib.hid hlt2
      replace hBw := Lib.hid hBw
      replace hrow := Lib.hid hrow
      gi_wp2_with fail
      gi_region_with_o fail
      all_goals
        gi_wp2
        first
          | (obtain ⟨s1, s2⟩ := hO.out.store (Nat.le_refl _) (.slice none 0 0) [] (xd, xl, xe) (.inr ⟨rfl, rfl⟩); exact ⟨(s2.trans (KeepsOthers.drew _)).from _, rfl, _, _, rfl, beq_eq_false_iff_ne.1 hxe, s1.drew⟩)
          | (obtain ⟨s1, s2⟩ := hO.out.store2 (Nat.le_refl _) (.slice none 0 0) [] (xd, xl, xe) (.inr ⟨rfl, rfl⟩); exact ⟨(s2.trans (KeepsOthers.drew _)).from _, rfl, _, _, rfl, beq_eq_false_iff_ne.1 hxe, s1.drew⟩)
  case done =>
    rintro D zs W hD rfl ⟨⟨O, hO⟩, hall⟩ hK
    have c0 := hO.out.cell
    obtain ⟨oo2, oc, rfl⟩ := ownsRow_shape hO.row
    rw [List.length_map] at c0 hO
    obtain ⟨b0, b1, b2⟩ : W.cell? ⟨w.heap.size + 1, 0, none⟩ = some (.int .i64 0) ∧ W.cell? ⟨w.heap.size + 1, 1, none⟩ = some (.int .i64 0) ∧ W.cell? ⟨w.heap.size + 1, 2, none⟩ = some (.int .i64 0) := ⟨cell_of_row W _ 0 _ _ _ hO.flt, cell_of_row W _ 1 _ _ _ hO.flt, cell_of_row W _ 2 _ _ _ hO.flt⟩
    obtain ⟨y0, y1, y2, y3⟩ : W.frozen? ⟨w.heap.size + 1, 0, none⟩ = false ∧ W.frozen? ⟨w.heap.size + 1, 1, none⟩ = false ∧ W.frozen? ⟨w.heap.size + 1, 2, none⟩ = false ∧ W.frozen? ⟨w.heap.size, 0, none⟩ = false := ⟨frozen_of_row _ _ _ _ _ hO.flt, frozen_of_row _ _ _ _ _ hO.flt, frozen_of_row _ _ _ _ _ hO.flt, hO.out.frozen⟩
    replace hall := Lib.hid hall
    replace hO := Lib.hid hO
    gi_wp2
    obtain ⟨s1, s2⟩ := hO.out.store (Nat.le_refl _) (.slice oo2 (seqOf text).length oc) _ (0, 0, 0) (.inl ⟨rfl, rfl⟩)
    have hK2 := s2.same D _ hK rfl
    have s3 := s1.put (o' := .deferred none) (by omega) hK2 rfl
    refine ⟨by simp, .inl ⟨_, _, rfl, run_takeDeferred hK2, ?_⟩⟩
    refine ⟨_, res37 s3 _ rfl rfl, _, _, rfl, ?_, s3.bel⟩
    obtain ⟨q1, q2⟩ := seq_all2 hall.out (fun f => scan_err)
    rw [q1]
    exact ⟨rfl, by rw [q2]; exact s3.row⟩
  case stop =>
    rintro D c pre W hD hp ⟨rfl, pre', x, rfl, hx, hO⟩ hK
    gi_wp2
    have s3 := hO.put (o' := .deferred none) (by omega) hK rfl
    refine ⟨by simp, .inl ⟨_, _, rfl, run_takeDeferred hK, ?_⟩⟩
    refine ⟨_, res37 s3 _ rfl rfl, _, _, rfl, ?_, s3.bel⟩
    rw [seq_end hp hx]
    exact ⟨rfl, rfl⟩
end Go.Proofs.Ytabgckjokniooaa
