/- Parse: the trees of a text. -/
import Derived.Maps.OwnIn
import Derived.Test.YtcnjmkjfgghgoaaZt25
import Derived.Test.YtcnjmkjfgghgoaaZt9
import Derived.RegionTactic
import Derived.ChangeAlike
section
/- Scan: the tokens of a text, or what is wrong. -/
namespace Go.Proofs.Ytcnjmkjfgghgoaa
open Go.RowKit Go.Ln Go.Mp Go.Tr Go.Shelf
attribute [local go_sem] Oper.semAt_some
set_option linter.unusedVariables false
set_option maxRecDepth 100000
set_option maxHeartbeats 4000000
/-- 'append(v, x)' in a fence, x one element of some cells, new. -/
theorem wpIn_append_us {F : Fence} {nF : Nat} {P : Program} {w : World} {ops : Array Oper} {rest : List Oper} {o : Oper} {a : Act} {Q : Exit → Act → World → Prop} {us : List Value} {e' : TypeId} (hgd : o.guard = none) (s x : Operand) (t : TypeId)
    (ho : o.op = .call { callee := .builtin .append, args := #[s, x], argTypes := #[t, t] })
    (base : Nat) (e : TypeId) (i : TypeInfo) (z : Value) (size bytes : Nat) (ht : P.underlying t = some (.slice e)) (hi : P.info? e = some i) (hz : i.zero = some z)
    (hsize : i.size = size) (hby : i.bytes = bytes) (hzs : z.cells.size = size) (hpos : 0 < size)
    (v : Value) (n : Nat) (xs : List Value) (hs : a.eval s = v) (hown : w.ownsRow base e size v n xs)
    (c : Nat) (hx : a.eval x = .slice (some ⟨w.heap.size, 0, none⟩) 1 c) (hlen : us.length = size) (h1 : ∀ u ∈ us, u.oneCell' = true)
    (h63 : n + 1 ≤ maxLen) (hbytes : (n + 1) * bytes ≤ 140737488355328) (hbase : base ≤ w.heap.size)
    (h : ∀ v' w', w'.ownsRow base e size v' (n + 1) (xs ++ us) → w.grownBy w' v.ownBlock → (∀ g, v'.ownBlock = some g → v.ownBlock = some g ∨ w.heap.size ≤ g) → wpListIn F nF P ops Q rest (a.put o.dst v') w') :
    wpListIn F nF P ops Q (o :: rest) a (w.alloc (.cells us.toArray e')) := by
  refine wpListIn_append_own_at _ hgd s x t ho base e i z size bytes ht hi hz hsize hby hzs hpos v n xs hs (hown.alloc _) ⟨w.heap.size, 0, none⟩ 1 c us hx (by omega) (new_cells w us e') h1 h63 hbytes (by simp; omega) ?_
  intro v' w' hown' hg hnil hloc
  refine h v' w' hown' (grownBy_alloc_left hg) ?_
  intro g hg'
  rcases hloc with hl | hl
  · exact .inl (by rw [← hl]; exact hg')
  · rw [hl] at hg'; cases hg'; exact .inr (by simp)
theorem each_stops (n : Nat) (Bt bt B n0 : Nat) (m : Int) (tv : Value) (text : List UInt8) (w : World)
    (hBt : w.cell? ⟨Bt, 0, none⟩ = some tv) (htx : BytS w bt tv text)
    (hm : w.cell? ⟨0, 0, none⟩ = some (.int .i64 m)) (hb1 : bt < n0) (hb2 : bt ≠ B) (hb3 : 0 < n0) (hb4 : B ≠ 0) (hb5 : n0 ≤ w.heap.size) (hBs : w.cell? ⟨B, 0, none⟩ = some (.slice none 0 0)) :
    SeqStopsK Fence.wide n Try.prog 58 #[.pointer (some ⟨Bt, 0, none⟩)] encE (Kp B) (fun xs => xs = seqOf text) (fun pre => pre <+: seqOf text) (seqOf text).length w := by
  intro l J Jx W hW hJ hJx hY h0
  obtain ⟨ao, cap, rfl⟩ := htx.shape
  have hc : ∀ b off x, w.cell? ⟨b, off, none⟩ = some x → W.cell? ⟨b, off, none⟩ = some x := fun b off x h => by
    obtain ⟨o, ho, _⟩ := cell_obj h
    exact (hW.cell (p := ⟨b, off, none⟩) (heap_lt ho)).trans h
  have hB1 := hc _ _ _ hBs
  obtain ⟨o, ho, _⟩ := cell_obj hB1
  by_cases hl : text.length ≤ 65536
  · exact each_short n l Bt bt B n0 m ao cap text J Jx W hJ hY (hc _ _ _ hBt) (htx.keep (hW.block _ (by omega))) hl h0 (hc _ _ _ hm) hb1 hb2 hb3 hb4 (Nat.le_trans hb5 hW.size) (fun k ⟨v, h1, h2⟩ => by rw [hB1] at h1; cases h1; cases h2) (heap_lt ho)
  · exact each_long n l Bt bt B ao cap text J Jx W hY (hc _ _ _ hBt) (by omega) h0
theorem each_any (n : Nat) (ao : Option Addr) (len cap : Nat) (w : World) :
    CallsIn Fence.wide n Try.prog 51 #[.slice ao len cap] w fun e w' => e = .returned (.func (.func 58) #[] #[.pointer (some ⟨w.heap.size, 0, none⟩)]) ∧ w' = w.alloc (.cells #[.slice ao len cap] 41) := by
  refine callsIn_of_wp Try.func51 rfl trivial ?_ rfl
  simp only [Try.ntmps51, List.size_toArray, List.length_cons, List.length_nil, Nat.reduceAdd, Nat.reduceSub, Array.replicate_succ, Array.replicate_zero, List.push_toArray, List.append_toArray, List.nil_append, List.cons_append]
  gi_wp2
  go_ret
  exact ⟨rfl, rfl⟩
/-- What stands in the boxes between two rounds. -/
structure SBox (B : Nat) (w0 : World) (O : Value) (ts : List Tk) (f : Nat × Nat × Int) (W : World) : Prop where
  out : Boxed W B 23 O
  flt : W.heap[B + 1]? = some (.cells #[.int .i64 f.1, .int .i64 f.2.1, .int .i64 f.2.2] 28 (0, 0))
  row : tkRow W w0.heap.size O ts
  bel : Below w0.heap.size w0 W
def SI (B : Nat) (w0 : World) (pre : List Ev) (W : World) : Prop := (∃ O, SBox B w0 O (pre.map (·.1)) (0, 0, 0) W) ∧ ∀ x ∈ pre, x.2.2.2 = 0
def SX (B : Nat) (w0 : World) (c : Code) (pre : List Ev) (W : World) : Prop := c = .ret ∧ ∃ pre' x, pre = pre' ++ [x] ∧ x.2.2.2 ≠ 0 ∧ SBox B w0 (.slice none 0 0) [] x.2 W
theorem ownsRow_grown {w w' : World} {base e size n : Nat} {v : Value} {xs : List Value} {row : Option Nat} (h : w.ownsRow base e size v n xs) (hg : w.grownBy w' row) (hr : ∀ r, row = some r → ∃ o : Obj, w.heap[r]? = some o ∧ o.isCells = false) : w'.ownsRow base e size v n xs := by
  obtain ⟨h1, h2⟩ := h
  refine ⟨h1, ?_⟩
  rcases h2 with h2 | ⟨g, cap, cur, e1, h3, h4, h5⟩
  · exact .inl h2
  · refine .inr ⟨g, cap, cur, e1, h3, (hg.block g (heap_lt h4) (fun e2 => ?_)).trans h4, h5⟩
    obtain ⟨o, ho, hc⟩ := hr g e2.symm
    rw [h4] at ho; cases ho; cases hc
theorem SBox.own {B N : Nat} {w0 : World} {O : Value} {ts : List Tk} {f : Nat × Nat × Int} {W W' : World} {row : Option Nat} (h : SBox B w0 O ts f W) (hg : W.grownBy W' row) (hr : ∀ r, row = some r → N ≤ r ∧ ∃ o : Obj, W.heap[r]? = some o ∧ o.isCells = false) (hN : w0.heap.size ≤ N) : SBox B w0 O ts f W' where
  out := (hg.block B (heap_lt h.out) (fun e => by obtain ⟨_, o, ho, hc⟩ := hr B e.symm; rw [show W.heap[B]? = _ from h.out] at ho; cases ho; cases hc)).trans h.out
  flt := (hg.block (B + 1) (heap_lt h.flt) (fun e => by obtain ⟨_, o, ho, hc⟩ := hr (B + 1) e.symm; rw [h.flt] at ho; cases ho; cases hc)).trans h.flt
  row := ownsRow_grown h.row hg (fun r e => (hr r e).2)
  bel := h.bel.grown hg h.bel.size (fun k e => by have := (hr k e).1; omega)
theorem SBox.tch {B : Nat} {w0 : World} {O O' : Value} {ts ts' : List Tk} {f f' : Nat × Nat × Int} {W W' : World} {S : Nat → Prop} (h : SBox B w0 O ts f W) (t : Tch S W W') (hs : ∀ k, S k → w0.heap.size ≤ k) (h1 : Boxed W' B 23 O') (h2 : W'.heap[B + 1]? = some (.cells #[.int .i64 f'.1, .int .i64 f'.2.1, .int .i64 f'.2.2] 28 (0, 0))) (h3 : tkRow W' w0.heap.size O' ts') : SBox B w0 O' ts' f' W' :=
  ⟨h1, h2, h3, Tch.below h.bel t h.bel.size hs⟩
theorem SBox.put {B : Nat} {w0 : World} {O : Value} {ts : List Tk} {f : Nat × Nat × Int} {W : World} {D : Nat} {o o' : Obj} (h : SBox B w0 O ts f W) (hD : w0.heap.size ≤ D) (ho : W.heap[D]? = some o) (hc : o.isCells = false) : SBox B w0 O ts f (W.putObj D o') :=
  h.own (N := w0.heap.size) (grownBy_putObj' W D o') (fun r e => by cases e; exact ⟨hD, o, ho, hc⟩) (Nat.le_refl _)
/-- The stores of a return. -/
theorem SBox.store {B : Nat} {w0 : World} {O : Value} {ts : List Tk} {f : Nat × Nat × Int} {W : World} (h : SBox B w0 O ts f W) (hB : w0.heap.size ≤ B) (O' : Value) (ts' : List Tk) (f' : Nat × Nat × Int) (hO : (O' = O ∧ ts' = ts) ∨ (O' = .slice none 0 0 ∧ ts' = [])) :
    SBox B w0 O' ts' f' ((((W.setCell ⟨B, 0, none⟩ O').setCell ⟨B + 1, 0, none⟩ (.int .i64 f'.1)).setCell ⟨B + 1, 1, none⟩ (.int .i64 f'.2.1)).setCell ⟨B + 1, 2, none⟩ (.int .i64 f'.2.2)) ∧
    KeepsOthers W ((((W.setCell ⟨B, 0, none⟩ O').setCell ⟨B + 1, 0, none⟩ (.int .i64 f'.1)).setCell ⟨B + 1, 1, none⟩ (.int .i64 f'.2.1)).setCell ⟨B + 1, 2, none⟩ (.int .i64 f'.2.2)) := by
  have hf : (W.setCell ⟨B, 0, none⟩ O').heap[B + 1]? = some (.cells #[.int .i64 f.1, .int .i64 f.2.1, .int .i64 f.2.2] 28 (0, 0)) := (heap_setCell_other W ⟨B, 0, none⟩ (B + 1) O' (by simp)).trans h.flt
  obtain ⟨s1, s2⟩ := set3 hf (.int .i64 f'.1) (.int .i64 f'.2.1) (.int .i64 f'.2.2)
  have t := (Tch.setCell (S := fun k => k = B ∨ k = B + 1) W (p := ⟨B, 0, none⟩) (.inl rfl) O').trans (s2.mono (S' := fun k => k = B ∨ k = B + 1) (fun k h => .inr h)) (fun _ h => .inl h)
  refine ⟨h.tch t (fun k hk => by rcases hk with rfl | rfl <;> omega) ((s2.block B (by have := h.out.lt; simpa using this) (by simp)).trans (h.out.set O')) s1 ?_, ?_⟩
  · rcases hO with ⟨rfl, rfl⟩ | ⟨rfl, rfl⟩
    · exact ownsRow_tch h.row t (fun g hg hk => by
        rcases hk with rfl | rfl
        · exact row_not h.row h.out (by decide) hg
        · exact row_not h.row h.flt (by decide) hg)
    · exact row_nil _ _
  · exact (((KeepsOthers.setCell _ _ _).trans (KeepsOthers.setCell _ _ _)).trans (KeepsOthers.setCell _ _ _)).trans (KeepsOthers.setCell _ _ _)
theorem SBox.store2 {B : Nat} {w0 : World} {O : Value} {ts : List Tk} {f : Nat × Nat × Int} {W : World} (h : SBox B w0 O ts f W) (hB : w0.heap.size ≤ B) (O' : Value) (ts' : List Tk) (f' : Nat × Nat × Int) (hO : (O' = O ∧ ts' = ts) ∨ (O' = .slice none 0 0 ∧ ts' = [])) :
    SBox B w0 O' ts' f' ((((W.setCell ⟨B + 1, 0, none⟩ (.int .i64 f'.1)).setCell ⟨B + 1, 1, none⟩ (.int .i64 f'.2.1)).setCell ⟨B + 1, 2, none⟩ (.int .i64 f'.2.2)).setCell ⟨B, 0, none⟩ O') ∧
    KeepsOthers W ((((W.setCell ⟨B + 1, 0, none⟩ (.int .i64 f'.1)).setCell ⟨B + 1, 1, none⟩ (.int .i64 f'.2.1)).setCell ⟨B + 1, 2, none⟩ (.int .i64 f'.2.2)).setCell ⟨B, 0, none⟩ O') := by
  obtain ⟨s1, s2⟩ := set3 h.flt (.int .i64 f'.1) (.int .i64 f'.2.1) (.int .i64 f'.2.2)
  have hb : Boxed (((W.setCell ⟨B + 1, 0, none⟩ (.int .i64 f'.1)).setCell ⟨B + 1, 1, none⟩ (.int .i64 f'.2.1)).setCell ⟨B + 1, 2, none⟩ (.int .i64 f'.2.2)) B 23 O := (s2.block B h.out.lt (by simp)).trans h.out
  have t := (s2.mono (S' := fun k => k = B ∨ k = B + 1) (fun k h => .inr h)).trans (Tch.setCell (S := fun k => k = B ∨ k = B + 1) _ (p := ⟨B, 0, none⟩) (.inl rfl) O') (fun _ h => .inl h)
  refine ⟨h.tch t (fun k hk => by rcases hk with rfl | rfl <;> omega) (hb.set O') ((heap_setCell_other _ ⟨B, 0, none⟩ (B + 1) O' (by simp)).trans s1) ?_, ?_⟩
  · rcases hO with ⟨rfl, rfl⟩ | ⟨rfl, rfl⟩
    · exact ownsRow_tch h.row t (fun g hg hk => by
        rcases hk with rfl | rfl
        · exact row_not h.row h.out (by decide) hg
        · exact row_not h.row h.flt (by decide) hg)
    · exact row_nil _ _
  · exact (((KeepsOthers.setCell _ _ _).trans (KeepsOthers.setCell _ _ _)).trans (KeepsOthers.setCell _ _ _)).trans (KeepsOthers.setCell _ _ _)
theorem SBox.drew {B : Nat} {w0 : World} {O : Value} {ts : List Tk} {f : Nat × Nat × Int} {W : World} (h : SBox B w0 O ts f W) : SBox B w0 O ts f W.drew :=
  h.own (N := w0.heap.size) (Tch.drew No W).grownNone (fun r e => by cases e) (Nat.le_refl _)
theorem res37 {B : Nat} {w0 : World} {O : Value} {ts : List Tk} {f : Nat × Nat × Int} {W : World} (h : SBox B w0 O ts f W) (tmps : Array Value) (h2 : tmps[2]? = some (.pointer (some ⟨B, 0, none⟩))) (h3 : tmps[3]? = some (.pointer (some ⟨B + 1, 0, none⟩))) :
    (results Try.f37 tmps).run Try.prog W = .ok (.tuple #[O, fltA f]) W := by
  have c0 := h.out.cell
  have c1 : W.cell? ⟨B + 1, 0, none⟩ = some (.int .i64 f.1) := cell_of_row W _ 0 _ _ _ h.flt
  have c2 : W.cell? ⟨B + 1, 1, none⟩ = some (.int .i64 f.2.1) := cell_of_row W _ 1 _ _ _ h.flt
  have c3 : W.cell? ⟨B + 1, 2, none⟩ = some (.int .i64 f.2.2) := cell_of_row W _ 2 _ _ _ h.flt
  simp [results, Try.results37, go_sem, fltA, c0, c1, c2, c3, h2, h3]
def ScanPost (w : World) (x : List Tk × Option (Nat × Nat × Int)) (e : Ending) (w' : World) : Prop :=
  ∃ O f, e = .returned (.tuple #[O, fltA f]) ∧ (match x.2 with
    | none => f = (0, 0, 0) ∧ tkRow w' w.heap.size O x.1
    | some g => f = g ∧ O = .slice none 0 0) ∧ Below w.heap.size w w'
theorem scan_any (bt : Nat) (v : Value) (text : List UInt8) (w : World) (m : Int) (hby : BytS w bt v text) (hbt : bt < w.heap.size) (hm : w.cell? ⟨0, 0, none⟩ = some (.int .i64 m)) :
    Calls Try.prog 37 #[v] w (ScanPost w (scan text)) := by
  obtain ⟨ao, cap, rfl⟩ := hby.shape
  refine (callsIn_wide (n := 9)).1 ?_
  obtain ⟨oo, ho, _⟩ := cell_obj hm
  have h0w := heap_lt ho
  obtain ⟨i0, hi, hz0, hz1, hz2⟩ := info_parts info39
  replace hby := Lib.hid hby
  replace hm := Lib.hid hm
  replace hi := Lib.hid hi
  replace hz0 := Lib.hid hz0
  replace hz1 := Lib.hid hz1
  replace hz2 := Lib.hid hz2
  refine callsIn_of_wp_marks Try.func37 rfl trivial ?_ rfl
  simp only [Try.ntmps37, List.size_toArray, List.length_cons, List.length_nil, Nat.reduceAdd, Nat.reduceSub, Array.replicate_succ, Array.replicate_zero, List.push_toArray, List.append_toArray, List.nil_append, List.cons_append]
  gi_wp2_with (first
    | (refine ⟨trivial, ?_⟩; gi_at_call 51; refine (each_any _ _ _ _ _).mono ?_; rintro e w' ⟨rfl, rfl⟩)
    | fail)
  obtain ⟨w1, hw1⟩ : ∃ w1, w1 = ((w.alloc (.cells #[.slice none 0 0] 23)).alloc (.cells #[.int .i64 0, .int .i64 0, .int .i64 0] 28)).alloc (.cells #[.slice ao text.length cap] 41) := ⟨_, rfl⟩
  have hsz : w1.heap.size = w.heap.size + 3 := by rw [hw1]; simp
  have hb0 : Below w.heap.size w w1 := by rw [hw1]; exact (((Below.refl _ w).alloc (Nat.le_refl _) _).alloc (by simp) _).alloc (by simp; omega) _
  have hbx1 : Boxed w1 w.heap.size 23 (.slice none 0 0) := by rw [hw1]; exact ((Boxed.new w 23 _).alloc _).alloc _
  have hbx2 : w1.heap[w.heap.size + 1]? = some (.cells #[.int .i64 0, .int .i64 0, .int .i64 0] 28 (0, 0)) := by
    rw [hw1]
    have := heap_alloc_new (w.alloc (.cells #[.slice none 0 0] 23)) (.cells #[.int .i64 0, .int .i64 0, .int .i64 0] 28)
    rw [World.size_alloc] at this
    exact (Below.heap_alloc _ _ _ (by simp)).trans this
  have hbx3 : Boxed w1 (w.heap.size + 1 + 1) 41 (.slice ao text.length cap) := by
    rw [hw1]
    have := Boxed.new ((w.alloc (.cells #[.slice none 0 0] 23)).alloc (.cells #[.int .i64 0, .int .i64 0, .int .i64 0] 28)) 41 (.slice ao text.length cap)
    simpa using this
  rw [← hw1]
  clear hw1
  have hby1 : BytS w1 bt (.slice ao text.length cap) text := hby.out.keep (hb0.block _ hbt)
  have hm1 : w1.cell? ⟨0, 0, none⟩ = some (.int .i64 m) := (hb0.cell (p := ⟨0, 0, none⟩) h0w).trans hm.out
  have hst : SI w.heap.size w [] w1 := ⟨⟨_, hbx1, hbx2, row_nil _ _, hb0⟩, fun x h => by cases h⟩
  refine wpIn_rangeFunc_ownH rfl (by omega) (gf := 58) (lb := #[.pointer (some ⟨w.heap.size + 1 + 1, 0, none⟩)]) rfl trivial (enters_of Try.func58 (by kernel_rfl) rfl)
    (each_stops 8 (w.heap.size + 1 + 1) bt w.heap.size w.heap.size m (.slice ao text.length cap) text w1 hbx3.cell hby1 hm1 hbt (by omega) h0w (by omega) (by omega) hbx1.cell) Kp.trans
    (fun W l o o' hl hW hc _ => Kp.put (by omega) hW hc) (Below.refl _ _) (fun _ => rfl)
    (SI w.heap.size w) (SX w.heap.size w)
    (fun pre A A' row h hg hr => ⟨by obtain ⟨O, h⟩ := h.1; exact ⟨O, h.own hg hr (by omega)⟩, h.2⟩)
    (fun c pre A A' row h hg hr => by obtain ⟨e, pre', x, e1, e2, h⟩ := h; exact ⟨e, pre', x, e1, e2, h.own hg hr (by omega)⟩)
    hst
    (fun x a' W => ∃ g, w.heap.size + 1 < g ∧ W.heap[g]? = some (tokO (tokOf x.1) 39) ∧ W.heap[g + 1]? = some (.cells #[.int .i64 x.2.1, .int .i64 x.2.2.1, .int .i64 x.2.2.2] 28 (0, 0)) ∧ a' = { tmps := #[.slice ao text.length cap, undef, .pointer (some ⟨w.heap.size, 0, none⟩), .pointer (some ⟨w.heap.size + 1, 0, none⟩), .pointer (some ⟨g, 0, none⟩), .pointer (some ⟨g + 1, 0, none⟩), .slice ao text.length cap, .func (.func 58) #[] #[.pointer (some ⟨w.heap.size + 1 + 1, 0, none⟩)], tokA (tokOf x.1), fltA x.2, undef, undef, undef, undef, undef, undef, undef, undef, undef, undef], defers := [] })
    (fun x a' _ X Y row hs hg hr => by
      obtain ⟨g, h1, h2, h3, h4⟩ := hs
      refine ⟨g, h1, (hg.block g (heap_lt h2) (fun e => ?_)).trans h2, (hg.block (g + 1) (heap_lt h3) (fun e => ?_)).trans h3, h4⟩
      · obtain ⟨_, o, ho, hc⟩ := hr g e.symm; rw [h2] at ho; cases ho; cases hc
      · obtain ⟨_, o, ho, hc⟩ := hr (g + 1) e.symm; rw [h3] at ho; cases ho; cases hc)
    ?assign ?body ?done ?stop
  case assign =>
    rintro l pre ⟨xt, xd, xl, xe⟩ W K hi hK
    dsimp only [encE, tokA, fltA, tokOf]
    have hbl : w.heap.size + 1 < W.heap.size := by obtain ⟨O, hO⟩ := hi.1; exact heap_lt hO.flt
    have hal : ∀ o1 o2, Tch No W ((W.alloc o1).alloc o2) := fun o1 o2 => (Tch.alloc No W o1).trans (Tch.alloc No _ o2) (fun _ h => h.elim)
    have hi2 : ∀ o1 o2, SI w.heap.size w pre ((W.alloc o1).alloc o2) := fun o1 o2 => ⟨by obtain ⟨O, hO⟩ := hi.1; exact ⟨O, hO.own (N := w.heap.size) (hal o1 o2).grownNone (fun r e => by cases e) (Nat.le_refl _)⟩, hi.2⟩
    replace hK := Lib.hid hK
    replace hi := Lib.hid hi
    replace hal := Lib.hid hal
    replace hi2 := Lib.hid hi2
    replace hbl := Lib.hid hbl
    gi_wp2
    refine hK.out _ _ (((KeepsOthers.alloc _ _).trans (KeepsOthers.alloc _ _)).from _) (Kp.of_none (hal.out _ _) (by have := hbl.out; omega)) (hi2.out _ _) ⟨W.heap.size, hbl.out, (Below.heap_alloc _ _ _ (by simp)).trans (heap_alloc_new W _), ?_, rfl⟩
    have := heap_alloc_new (W.alloc (.cells #[.int .i64 xt.kind, .int .i64 xt.line, .int .i64 xt.col, .string ⟨xt.text.toArray⟩, .bool xt.quoted] 39)) (.cells #[.int .i64 xd, .int .i64 xl, .int .i64 xe] 28)
    rwa [World.size_alloc] at this
  case body =>
    rintro l pre x a' W hl ⟨r, hr⟩ ⟨⟨O, hO⟩, hall⟩ ⟨g, hg, hg1, hg2, rfl⟩ hlt
    obtain ⟨xt, xd, xl, xe⟩ := x
    obtain ⟨oo2, oc, rfl⟩ := ownsRow_shape hO.row
    have c0 := hO.out.cell
    obtain ⟨d0, d1, d2, d3, d4⟩ := tokO_cells hg1
    have e0 := (cell_of_row W (g + 1) 0 _ _ _ hg2)
    have e1 := (cell_of_row W (g + 1) 1 _ _ _ hg2)
    have e2 := (cell_of_row W (g + 1) 2 _ _ _ hg2)
    have hrow : W.ownsRow w.heap.size 39 5 (.slice oo2 pre.length oc) pre.length (tcs ((pre.map (·.1)).map tokOf)) := by have h := hO.row; unfold tkRow at h; rwa [List.length_map] at h
    rw [List.length_map] at c0 hO
    have hlt2 : pre.length < 2932031007400 := by have := seq_len text; omega
    have hBw : w.heap.size ≤ W.heap.size := hO.bel.size
    cases hxe : (xe == 0) with
    | true =>
      have hxn : (xe != 0) = false := by rw [bne, hxe]; rfl
      have hall2 : ∀ x ∈ pre ++ [((xt, xd, xl, xe) : Ev)], x.2.2.2 = 0 := fun y hy => by
        rcases List.mem_append.1 hy with h | h
        · exact hall y h
        · rw [List.mem_singleton.1 h]; exact beq_iff_eq.1 hxe
      replace hO := Lib.hid hO
      replace hlt := Lib.hid hlt
      replace hr := Lib.hid hr
      replace hall := Lib.hid hall
      replace hg1 := Lib.hid hg1
      replace hg2 := Lib.hid hg2
      replace hl := Lib.hid hl
      replace hlt2 := Lib.hid hlt2
      replace hBw := Lib.hid hBw
      replace hrow := Lib.hid hrow
      replace hall2 := Lib.hid hall2
      gi_wp2_with (first
        | (gi_at_builtin; refine wpIn_append_us rfl _ _ 23 (by rfl) w.heap.size 39 i0 (.agg #[.int .i64 0, .int .i64 0, .int .i64 0, .string ⟨#[]⟩, .bool false]) 5 48 Try.underlying23 hi.out hz0.out hz1.out hz2.out rfl (by decide) _ pre.length _ (by rfl) hrow.out 1 (by rfl) rfl (by simp [Value.oneCell']) (nn_own (Nat.le_refl _) hlt2.out).1 (nn_own (Nat.le_refl _) hlt2.out).2 hBw.out ?_; intro v7 w7 hr7 hg7 hl7; obtain ⟨po, pc, rfl⟩ := ownsRow_shape hr7; have hb7 := Boxed.kept hO.out.out hg7 (fun e => row_not hrow.out hO.out.out (by decide) e.symm); have hc7 := hb7.cell; have hf7 := hb7.frozen; replace hb7 := Lib.hid hb7; replace hr7 := Lib.hid hr7; replace hg7 := Lib.hid hg7; replace hl7 := Lib.hid hl7)
        | fail)
      have hw0 : ∀ k, (Value.slice oo2 pre.length oc).ownBlock = some k → w.heap.size ≤ k := fun k hk => (ownsRow_ge hrow.out hk).1
      have t7 : Tch (fun k => (Value.slice oo2 pre.length oc).ownBlock = some k) W w7 := Tch.grown hg7.out (fun k hk => .inl hk)
      have t8 : Tch (fun k => k = w.heap.size ∨ (Value.slice oo2 pre.length oc).ownBlock = some k) W (w7.setCell ⟨w.heap.size, 0, none⟩ (.slice po (pre.length + 1) pc)) := (t7.mono (fun k h => .inr h)).trans (Tch.setCell w7 (p := ⟨w.heap.size, 0, none⟩) (.inl rfl) _) (fun _ h => .inl h)
      have hb8 := hb7.out.set (.slice po (pre.length + 1) pc)
      have hr8 : (w7.setCell ⟨w.heap.size, 0, none⟩ (.slice po (pre.length + 1) pc)).ownsRow w.heap.size 39 5 (.slice po (pre.length + 1) pc) (pre.length + 1) _ := ownsRow_tch hr7.out (Tch.setCell (S := fun k => k = w.heap.size) w7 (p := ⟨w.heap.size, 0, none⟩) rfl _) (fun g hg hk => by subst hk; exact row_not hr7.out hb7.out (by decide) hg)
      have hout : ∀ k, (Value.slice oo2 pre.length oc).ownBlock = some k → outB w.heap.size W k := fun k hk => ⟨_, hO.out.out.cell, hk⟩
      refine ⟨KeepsFrom.trans ((KeepsOthers.of_grownBy hg7.out (fun j o hj ho2 => ?_)).from _) ((KeepsOthers.setCell _ _ _).from _), Kp.of_append (t8.mono (fun k hk => hk.elim .inl (fun h => .inr (hout k h)))) hb8.cell (fun g hg => ?_) (fun g hg => (ownsRow_ge hr8 hg).2), ⟨⟨.slice po (pre.length + 1) pc, hO.out.tch t8 (fun k hk => ?_) hb8 ?_ ?_⟩, hall2.out⟩⟩
      · obtain ⟨cur, hcur⟩ := row_block hrow.out hj
        rw [hcur] at ho2; cases ho2; rfl
      · rcases hl7.out g hg with h | h
        · exact .inl (hout g h)
        · exact .inr h
      · rcases hk with rfl | h
        · exact Nat.le_refl _
        · exact hw0 k h
      · refine (t8.block (w.heap.size + 1) (heap_lt hO.out.flt) (fun hk => ?_)).trans hO.out.flt
        rcases hk with h | h
        · omega
        · exact row_not hrow.out hO.out.flt (by decide) h
      · unfold tkRow
        rw [List.length_map, List.length_append, List.length_singleton, List.map_append, List.map_append, List.map_singleton, List.map_singleton, tcs_snoc]
        exact hr8
    | false =>
      have hxn : (xe != 0) = true := by rw [bne, hxe]; rfl
      obtain ⟨y0, y1, y2, y3⟩ : W.frozen? ⟨w.heap.size + 1, 0, none⟩ = false ∧ W.frozen? ⟨w.heap.size + 1, 1, none⟩ = false ∧ W.frozen? ⟨w.heap.size + 1, 2, none⟩ = false ∧ W.frozen? ⟨w.heap.size, 0, none⟩ = false := ⟨frozen_of_row _ _ _ _ _ hO.flt, frozen_of_row _ _ _ _ _ hO.flt, frozen_of_row _ _ _ _ _ hO.flt, hO.out.frozen⟩
      obtain ⟨b0, b1, b2⟩ : W.cell? ⟨w.heap.size + 1, 0, none⟩ = some (.int .i64 0) ∧ W.cell? ⟨w.heap.size + 1, 1, none⟩ = some (.int .i64 0) ∧ W.cell? ⟨w.heap.size + 1, 2, none⟩ = some (.int .i64 0) := ⟨cell_of_row W _ 0 _ _ _ hO.flt, cell_of_row W _ 1 _ _ _ hO.flt, cell_of_row W _ 2 _ _ _ hO.flt⟩
      have hgB : ¬ g + 1 = w.heap.size := by omega
      have hmx : Try.prog.follows Departure.mixedOrders = true := by kernel_rfl
      replace hO := Lib.hid hO
      replace hlt := Lib.hid hlt
      replace hr := Lib.hid hr
      replace hall := Lib.hid hall
      replace hg1 := Lib.hid hg1
      replace hg2 := Lib.hid hg2
      replace hl := Lib.hid hl
      replace hlt2 := Lib.hid hlt2
      replace hBw := Lib.hid hBw
      replace hrow := Lib.hid hrow
      gi_wp2_with fail
      gi_region_with_o fail
      all_goals
        gi_wp2
        first
          | (obtain ⟨s1, s2⟩ := hO.out.store (Nat.le_refl _) (.slice none 0 0) [] (xd, xl, xe) (.inr ⟨rfl, rfl⟩); exact ⟨(s2.trans (KeepsOthers.drew _)).from _, rfl, _, _, rfl, beq_eq_false_iff_ne.1 hxe, s1.drew⟩)
          | (obtain ⟨s1, s2⟩ := hO.out.store2 (Nat.le_refl _) (.slice none 0 0) [] (xd, xl, xe) (.inr ⟨rfl, rfl⟩); exact ⟨(s2.trans (KeepsOthers.drew _)).from _, rfl, _, _, rfl, beq_eq_false_iff_ne.1 hxe, s1.drew⟩)
  case done =>
    rintro D zs W hD rfl ⟨⟨O, hO⟩, hall⟩ hK
    have c0 := hO.out.cell
    obtain ⟨oo2, oc, rfl⟩ := ownsRow_shape hO.row
    rw [List.length_map] at c0 hO
    obtain ⟨b0, b1, b2⟩ : W.cell? ⟨w.heap.size + 1, 0, none⟩ = some (.int .i64 0) ∧ W.cell? ⟨w.heap.size + 1, 1, none⟩ = some (.int .i64 0) ∧ W.cell? ⟨w.heap.size + 1, 2, none⟩ = some (.int .i64 0) := ⟨cell_of_row W _ 0 _ _ _ hO.flt, cell_of_row W _ 1 _ _ _ hO.flt, cell_of_row W _ 2 _ _ _ hO.flt⟩
    obtain ⟨y0, y1, y2, y3⟩ : W.frozen? ⟨w.heap.size + 1, 0, none⟩ = false ∧ W.frozen? ⟨w.heap.size + 1, 1, none⟩ = false ∧ W.frozen? ⟨w.heap.size + 1, 2, none⟩ = false ∧ W.frozen? ⟨w.heap.size, 0, none⟩ = false := ⟨frozen_of_row _ _ _ _ _ hO.flt, frozen_of_row _ _ _ _ _ hO.flt, frozen_of_row _ _ _ _ _ hO.flt, hO.out.frozen⟩
    replace hall := Lib.hid hall
    replace hO := Lib.hid hO
    gi_wp2
    obtain ⟨s1, s2⟩ := hO.out.store (Nat.le_refl _) (.slice oo2 (seqOf text).length oc) _ (0, 0, 0) (.inl ⟨rfl, rfl⟩)
    have hK2 := s2.same D _ hK rfl
    have s3 := s1.put (o' := .deferred none) (by omega) hK2 rfl
    refine ⟨by simp, .inl ⟨_, _, rfl, run_takeDeferred hK2, ?_⟩⟩
    refine ⟨_, res37 s3 _ rfl rfl, _, _, rfl, ?_, s3.bel⟩
    obtain ⟨q1, q2⟩ := seq_all2 hall.out (fun f => scan_err)
    rw [q1]
    exact ⟨rfl, by rw [q2]; exact s3.row⟩
  case stop =>
    rintro D c pre W hD hp ⟨rfl, pre', x, rfl, hx, hO⟩ hK
    gi_wp2
    have s3 := hO.put (o' := .deferred none) (by omega) hK rfl
    refine ⟨by simp, .inl ⟨_, _, rfl, run_takeDeferred hK, ?_⟩⟩
    refine ⟨_, res37 s3 _ rfl rfl, _, _, rfl, ?_, s3.bel⟩
    rw [seq_end hp hx]
    exact ⟨rfl, rfl⟩
end Go.Proofs.Ytcnjmkjfgghgoaa
end

section
/- Of: all documents of some tokens. -/
namespace Go.Proofs.Ytcnjmkjfgghgoaa
open Go.RowKit Go.Mp Go.Tr
set_option linter.unusedVariables false
set_option maxRecDepth 100000
set_option maxHeartbeats 2000000
/-- What holds at a round's head. -/
structure OfM (w wr : World) (kb fb : Nat) (tv ov : Value) (l : List Tok) (F : Nat → Prop) (L : List TrX) (r : Except (Nat × Fa) (List T)) (m : Nat) : Prop where
  tk : TokV wr kb tv l
  tm : TM wr w.heap.size F ov L
  t : Tch No w wr
  fh : wr.heap[fb]? = some (.cells #[.int .i64 0, .int .i64 0, .int .i64 0] 28)
  nf : ¬ F fb
  le : L.length + l.length ≤ m
  run : r = rest (L.map (·.1)) l
theorem OfM.same {w wr w2 : World} {kb fb m : Nat} {tv ov : Value} {l : List Tok} {F : Nat → Prop} {L : List TrX} {r : Except (Nat × Fa) (List T)} (h : OfM w wr kb fb tv ov l F L r m) (hk : kb < w.heap.size) (t : Tch No wr w2) : OfM w w2 kb fb tv ov l F L r m :=
  ⟨h.tk.keep (t.block kb (Nat.lt_of_lt_of_le hk h.t.size) id), h.tm.tch t (fun _ _ h => h), h.t.trans t (fun _ h => h.elim), (t.block fb (Array.getElem?_eq_some_iff.1 h.fh).1 id).trans h.fh, h.nf, h.le, h.run⟩
theorem NM.lower {w : World} {B B' : Nat} {F : Nat → Prop} {v : Value} {R : List (Nd × Value)} (h : NM w B F v R) (hb : B' ≤ B) : NM w B' F v R :=
  ⟨ownsRow_base h.row hb, fun i x hx => ownsRow_base (h.kid i x hx) hb, h.apart, h.own, fun k hk => ⟨Nat.le_trans hb (h.lt k hk).1, (h.lt k hk).2⟩⟩
theorem OfM.push {w w3 w4 : World} {kb fb m B3 : Nat} {tv ov tv2 ov2 vx : Value} {l l2 : List Tok} {F F3 : Nat → Prop} {L : List TrX} {r : Except (Nat × Fa) (List T)} {t : T} {R3 : List (Nd × Value)} (h : OfM w w3 kb fb tv ov l F L r m) (hk : kb < w.heap.size)
    (h1 : R3.map (·.1) = lay 0 t) (hN : NM w3 B3 F3 vx R3) (hB3 : w.heap.size ≤ B3) (hFl : ∀ k, F k → k < B3) (hfl : fb < B3)
    (row : w4.ownsRow w.heap.size 50 1 ov2 (L.length + 1) (L.map (·.2.1) ++ [vx])) (hg : w3.grownBy w4 ov.ownBlock) (hl : ∀ g, ov2.ownBlock = some g → ov.ownBlock = some g ∨ w3.heap.size ≤ g)
    (tk2 : TokV w3 kb tv2 l2) (hle : l2.length < l.length) (hrun : r = rest (L.map (·.1) ++ [t]) l2) :
    OfM w w4 kb fb tv2 ov2 l2 (fun k => F k ∨ F3 k ∨ ov2.ownBlock = some k) (L ++ [(t, vx, F3)]) r m := by
  have hT : Tch (fun k => ov.ownBlock = some k) w3 w4 := Tch.grown hg (fun k hk => .inl hk)
  have hov : ∀ k, ov.ownBlock = some k → w.heap.size ≤ k := fun k hk => (h.tm.lt k (h.tm.own k hk)).1
  refine ⟨tk2.keep (hT.block kb (Nat.lt_of_lt_of_le hk h.t.size) (fun e => by have := hov kb e; omega)), h.tm.push h1 (hN.lower hB3) (fun k h3 hF => by have := (hN.lt k h3).1; have := hFl k hF; omega) row hT hl, h.t.trans hT (fun k hk => .inr (hov k hk)), (hT.block fb (Array.getElem?_eq_some_iff.1 h.fh).1 (fun e => h.nf (h.tm.own fb e))).trans h.fh, fun hf => ?_, ?_, by rw [hrun]; simp⟩
  · rcases hf with hf | hf | hf
    · exact h.nf hf
    · have := (hN.lt fb hf).1; omega
    · rcases hl fb hf with h2 | h2
      · exact h.nf (h.tm.own fb h2)
      · have := (Array.getElem?_eq_some_iff.1 h.fh).1; omega
  · have := h.le
    simp; omega
theorem OfM.skip {w w3 : World} {kb fb m : Nat} {tv ov tv2 : Value} {l l2 : List Tok} {F : Nat → Prop} {L : List TrX} {r : Except (Nat × Fa) (List T)} (h : OfM w w3 kb fb tv ov l F L r m) (tk2 : TokV w3 kb tv2 l2) (hle : l2.length < l.length) (hrun : r = rest (L.map (·.1)) l2) : OfM w w3 kb fb tv2 ov l2 F L r m :=
  ⟨tk2, h.tm, h.t, h.fh, h.nf, Nat.le_trans (by omega) h.le, hrun⟩
theorem info50 : (Try.prog.info? 50).map (fun i => (i.zero, i.size, i.bytes)) = some (some (.slice none 0 0), 1, 24) := by kernel_rfl
theorem drop_run {w : World} {kb cap k : Nat} {ao : Option Addr} {l : List Tok} (h : TokV w kb (.slice ao l.length cap) l) (hk : k ≤ l.length) (i : Int) (hi : i = (k : Int)) {n2 : Nat} (hn2 : n2 = l.length - k) :
    ∃ ao' cap', (∀ w, (Instr.sliceAt 23 (.slice ao l.length cap) (some (.int .i64 i)) none none).run Try.prog w = .ok (.slice ao' n2 cap') w) ∧ (∀ w, (Instr.slice 23 (.slice ao l.length cap) (some (.int .i64 i)) none none).run Try.prog w = .ok (.slice ao' n2 cap') w) ∧ TokV w kb (.slice ao' n2 cap') (l.drop k) := by
  obtain ⟨_, _, e, hc⟩ := h.2
  cases e
  subst hn2
  have hl : (l.drop k).length = l.length - k := by simp
  have e : Try.prog.underlying 23 = some (.slice (Try.prog.elem 23)) := by kernel_rfl
  have run2 : ∀ w, (Instr.slice 23 (.slice ao l.length cap) (some (.int .i64 i)) none none).run Try.prog w = .ok (sliced ao k l.length cap 5) w := fun w => by
    have z : (sizeOf (Try.prog.elem 23)).run Try.prog w = .ok 5 w := by kernel_rfl
    rw [run_slice_l (ht := e) (h0 := by omega) (h1 := by omega), z]
    rw [show i.toNat = k by omega]
    rfl
  have run : ∀ w, (Instr.sliceAt 23 (.slice ao l.length cap) (some (.int .i64 i)) none none).run Try.prog w = .ok (sliced ao k l.length cap 5) w := fun w => by
    rw [run_sliceAt_slice (h := e)]; exact run2 w
  by_cases hck : cap = k
  · have hs : sliced ao k l.length cap 5 = .slice ao (l.length - k) 0 := by simp [sliced, hck]
    rw [hs] at run2 run
    refine ⟨ao, 0, run, run2, ?_⟩
    have : l.drop k = [] := List.drop_eq_nil_of_le (by omega)
    rw [this, show l.length - k = 0 by omega]; exact TokV.any rfl
  · have hs : sliced ao k l.length cap 5 = .slice (ao.map (·.add (k * 5))) (l.length - k) (cap - k) := by simp [sliced, hck]
    rw [hs] at run2 run
    exact ⟨_, _, run, run2, h.drop hk⟩
theorem set3 {w : World} {cb : Nat} {e : TypeId} {x0 x1 x2 : Value} (h : w.heap[cb]? = some (.cells #[x0, x1, x2] e)) (y0 y1 y2 : Value) :
    (((w.setCell ⟨cb, 0, none⟩ y0).setCell ⟨cb, 1, none⟩ y1).setCell ⟨cb, 2, none⟩ y2).heap[cb]? = some (.cells #[y0, y1, y2] e) ∧
    Tch (fun k => k = cb) w (((w.setCell ⟨cb, 0, none⟩ y0).setCell ⟨cb, 1, none⟩ y1).setCell ⟨cb, 2, none⟩ y2) := by
  refine ⟨by simp [World.setCell, Array.getElem?_modify, h], ?_⟩
  exact ((Tch.setCell (S := fun k => k = cb) w (p := ⟨cb, 0, none⟩) rfl y0).trans (Tch.setCell (S := fun k => k = cb) _ (p := ⟨cb, 1, none⟩) rfl y1) (fun _ h => .inl h)).trans (Tch.setCell (S := fun k => k = cb) _ (p := ⟨cb, 2, none⟩) rfl y2) (fun _ h => .inl h)
theorem row3_cells {w : World} {cb : Nat} {e : TypeId} {x0 x1 x2 : Value} (h : w.heap[cb]? = some (.cells #[x0, x1, x2] e)) : w.cell? ⟨cb, 0, none⟩ = some x0 ∧ w.cell? ⟨cb, 1, none⟩ = some x1 ∧ w.cell? ⟨cb, 2, none⟩ = some x2 ∧ w.frozen? ⟨cb, 0, none⟩ = false ∧ w.frozen? ⟨cb, 1, none⟩ = false ∧ w.frozen? ⟨cb, 2, none⟩ = false :=
  ⟨(cell_of_row _ _ 0 _ _ _ h).trans rfl, (cell_of_row _ _ 1 _ _ _ h).trans rfl, (cell_of_row _ _ 2 _ _ _ h).trans rfl, frozen_of_row _ _ _ _ _ h, frozen_of_row _ _ _ _ _ h, frozen_of_row _ _ _ _ _ h⟩
theorem min_a {a b : Nat} (h : a < b) : min ((a : Int) + 1) (b : Int) = (a : Int) + 1 := by omega
theorem min_b {a b : Nat} (h : b = a) : min ((a : Int) + 1) (b : Int) = (b : Int) := by omega
theorem nn_docs {a b m : Nat} (h : a + b ≤ m) (hb : 0 < b) (hm : m < 4398046511104) : a + 1 ≤ maxLen ∧ (a + 1) * 24 ≤ 140737488355328 := by unfold maxLen; omega
theorem of_any {w : World} {kb : Nat} {lv : Value} {l : List Tok} (tk : TokV w kb lv l) (hk : kb < w.heap.size) (hll : l.length < 4398046511104) :
    Calls Try.prog 10 #[lv] w (OfOut w (ofRun l)) := by
  obtain ⟨w1, hw1⟩ : ∃ w1, w1 = w.alloc (.cells #[.int .i64 0, .int .i64 0, .int .i64 0] 28) := ⟨_, rfl⟩
  have t1 : Tch No w w1 := by rw [hw1]; exact Tch.alloc No w _
  obtain ⟨fb, hfb⟩ : ∃ fb, fb = w.heap.size := ⟨_, rfl⟩
  have h1 : OfM w w1 kb fb lv (.slice none 0 0) l No [] (ofRun l) l.length := ⟨tk.keep (t1.block kb hk id), TM.nil _ _, t1, by rw [hw1, hfb]; exact heap_alloc_new w _, id, by simp, rest_start l⟩
  obtain ⟨ao, cap, rfl, _⟩ := id tk.2
  generalize ofRun l = r at *
  obtain ⟨m, hm⟩ : ∃ m, m = l.length := ⟨_, rfl⟩
  replace hll : m < 4398046511104 := hm ▸ hll
  rw [← hm] at h1 ⊢
  replace hm := Lib.hid hm
  replace tk := Lib.hid tk
  replace hk := Lib.hid hk
  replace t1 := Lib.hid t1
  replace h1 := Lib.hid h1
  replace hll := Lib.hid hll
  go_enter Try.func10, Try.ntmps10
  go_upto_region 1 with fail
  rw [← hw1, ← hfb]
  replace hw1 := Lib.hid hw1
  replace hfb := Lib.hid hfb
  go_wp2
  go_loopg [0, 4] (l.length + 1) (fun gg tv ov wr => ∃ (l' : List Tok) (F : Nat → Prop) (L : List TrX), gg = l'.length + 1 ∧ OfM w wr kb fb tv ov l' F L r m)
  case atStart => exact ⟨l, No, [], rfl, by rw [hm.out] at h1 ⊢; exact h1.out⟩
  case round =>
    obtain ⟨l', F, L, rfl, hM⟩ := hrel
    obtain ⟨ao', cap', rfl, hc⟩ := id hM.tk.2
    obtain ⟨oo, oc, rfl⟩ := ownsRow_shape hM.tm.row
    by_cases hl : l' = []
    · subst hl
      have hrun : r = .ok (L.map (·.1)) := by rw [hM.run, rest_end]
      have hfh := hM.fh
      obtain ⟨c0, c1, c2, f0, f1, f2⟩ := row3_cells hfh
      obtain ⟨hs, ts⟩ := set3 hfh (.int .i64 0) (.int .i64 0) (.int .i64 0)
      obtain ⟨s0, s1, s2, _, _, _⟩ := row3_cells hs
      obtain ⟨w4, hw4⟩ : ∃ w4, w4 = ((wr.setCell ⟨fb, 0, none⟩ (.int .i64 0)).setCell ⟨fb, 1, none⟩ (.int .i64 0)).setCell ⟨fb, 2, none⟩ (.int .i64 0) := ⟨_, rfl⟩
      rw [← hw4] at s0 s1 s2 ts
      replace hrun := Lib.hid hrun
      replace hfh := Lib.hid hfh
      replace hM := Lib.hid hM
      replace hs := Lib.hid hs
      replace ts := Lib.hid ts
      go_wp2
      rw [← hw4]
      exact bodyPost_ret (v := .tuple #[.slice oo L.length oc, .agg #[.int .i64 0, .int .i64 0, .int .i64 0]]) (by simp [results, Try.results10, go_sem, s0, s1, s2]) rfl (ofOut_ok hrun.out (hM.out.tm.tch ts.out (fun k hk e => hM.out.nf (e ▸ hk))) (hM.out.t.trans ts.out (fun k hk => .inr (by rw [hk, hfb.out]; exact Nat.le_refl _))))
    · have hlp : 0 < l'.length := List.length_pos_iff.2 hl
      have k0 := nn_lt hlp
      have k1 : decide (0 < l'.length) = true := decide_eq_true hlp
      have hI := Lib.hid (index_any hM.tk.1 (Nat.lt_of_lt_of_le hk.out hM.t.size) (Nat.lt_of_le_of_lt (Nat.le_trans (Nat.le_add_left _ _) hM.le) hll.out))
      obtain ⟨n, hn⟩ : ∃ n, n = upDoc l' := ⟨_, rfl⟩
      have hnl := upDoc_le l'
      rw [← hn] at hnl
      replace hM := Lib.hid hM
      replace hl := Lib.hid hl
      replace hlp := Lib.hid hlp
      obtain ⟨iv, hiv⟩ : ∃ iv, iv = idxV l' := ⟨_, rfl⟩
      rw [← hiv] at hI
      obtain ⟨q, hq⟩ : ∃ q, decide (iv < 0) = q := ⟨_, rfl⟩
      replace hiv := Lib.hid hiv
      replace hn := Lib.hid hn
      replace hnl := Lib.hid hnl
      go_upto_if 15 with (first
        | (go_at_call 32; refine hI.out.mono ?_; clear hI; rintro _ w2 ⟨rfl, t2⟩; replace t2 := Lib.hid t2)
        | fail)
      replace hq := Lib.hid hq
      go_cut [5] (fun nv wx => nv = .int .i64 n ∧ wx = w2)
      case first =>
        have hiv := hiv.out
        cases q with
        | false =>
          have hv : iv = (n : Int) := by
            have hq := of_decide_eq_false hq.out
            unfold idxV at hiv
            rw [← hn.out] at hiv
            split at hiv
            · exact hiv
            · omega
          replace hiv := Lib.hid hiv
          replace hv := Lib.hid hv
          go_wp2
          go_meet
          exact ⟨by rw [hv.out], rfl⟩
        | true =>
          have he : l'.length = n := by
            have hq := of_decide_eq_true hq.out
            unfold idxV at hiv
            rw [← hn.out] at hiv
            have := hnl.out
            split at hiv
            · omega
            · omega
          replace hiv := Lib.hid hiv
          replace he := Lib.hid he
          go_wp2
          go_meet
          exact ⟨by rw [he.out], rfl⟩
      case rest =>
        obtain ⟨rfl, rfl⟩ := hcut
        have hM2 := hM.out.same hk.out t2.out
        clear hM
        have hB : w.heap.size ≤ wc.heap.size := hM2.t.size
        have hkc : kb < wc.heap.size := Nat.lt_of_lt_of_le hk.out hB
        have hml : l'.length < 4398046511104 := Nat.lt_of_le_of_lt (Nat.le_trans (Nat.le_add_left _ _) hM2.le) hll.out
        by_cases hn0 : 0 < n
        · have hD := document_any (hM2.tk.take hnl.out).1 hkc (by rw [Ne, List.take_eq_nil_iff]; rintro (h | h); omega; exact hl.out h) (by simp; omega)
          have k2 : decide ((0 : Int) < (n : Int)) = true := decide_eq_true (by omega)
          have k3 : decide (0 < n) = true := decide_eq_true hn0
          have k4 : (n : Int) ≤ (cap' : Int) := by
            obtain ⟨_, _, e, h⟩ := hM2.tk.2
            cases e
            have := hnl.out
            omega
          rcases hd : doc (l'.take n) with ⟨ln, er⟩ | t
          · have her := doc_errs hd
            have hrun : r = .error (L.length, ln, er) := by rw [hM2.run, rest_bad hl.out (by rw [← hn.out]; exact hn0) (by rw [← hn.out]; exact hd)]; simp
            have q1 : (er == 0) = false := by rw [beq_eq_false_iff_ne]; exact her
            have q2 : (er != 0) = true := by simp [bne, q1]
            replace hd := Lib.hid hd
            replace her := Lib.hid her
            replace hrun := Lib.hid hrun
            replace hD := Lib.hid hD
            replace hM2 := Lib.hid hM2
            replace hn := Lib.hid hn
            replace hkc := Lib.hid hkc
            replace hml := Lib.hid hml
            replace hB := Lib.hid hB
            go_upto_region 9 with (first
              | (go_at_call 34; refine hD.out.mono ?_; clear hD; rintro e w3 hO; unfold DocOut at hO; rw [hd.out] at hO; simp only at hO; obtain ⟨rfl, t3⟩ := hO; have hM3 := hM2.out.same hk.out t3; replace t3 := Lib.hid t3)
              | fail)
            have hfh := hM3.fh
            obtain ⟨c0, c1, c2, f0, f1, f2⟩ := row3_cells hfh
            obtain ⟨hs, ts⟩ := set3 hfh (.int .i64 L.length) (.int .i64 ln) (.int .i64 er)
            obtain ⟨s0, s1, s2, _, _, _⟩ := row3_cells hs
            obtain ⟨w4, hw4⟩ : ∃ w4, w4 = ((w3.setCell ⟨fb, 0, none⟩ (.int .i64 L.length)).setCell ⟨fb, 1, none⟩ (.int .i64 ln)).setCell ⟨fb, 2, none⟩ (.int .i64 er) := ⟨_, rfl⟩
            rw [← hw4] at s0 s1 s2 ts
            replace hfh := Lib.hid hfh
            replace hM3 := Lib.hid hM3
            replace hs := Lib.hid hs
            replace ts := Lib.hid ts
            go_wp2
            rw [← hw4]
            exact bodyPost_ret (v := .tuple #[.slice none 0 0, .agg #[.int .i64 L.length, .int .i64 ln, .int .i64 er]]) (by simp [results, Try.results10, go_sem, s0, s1, s2]) rfl (ofOut_err hrun.out (hM3.out.t.trans ts.out (fun k hk => .inr (by rw [hk, hfb.out]; exact Nat.le_refl _))))
          · have hrun : r = rest (L.map (·.1) ++ [t]) (l'.drop (n + 1)) := by rw [hM2.run, rest_doc hl.out (by rw [← hn.out]; exact hn0) (by rw [← hn.out]; exact hd), hn.out]
            replace hd := Lib.hid hd
            replace hrun := Lib.hid hrun
            replace hD := Lib.hid hD
            replace hM2 := Lib.hid hM2
            replace hn := Lib.hid hn
            replace hkc := Lib.hid hkc
            replace hml := Lib.hid hml
            replace hB := Lib.hid hB
            obtain ⟨i0, hi, hz0, hz1, hz2⟩ := info_parts info50
            replace hi := Lib.hid hi
            replace hz0 := Lib.hid hz0
            replace hz1 := Lib.hid hz1
            replace hz2 := Lib.hid hz2
            go_upto_region 10 with (first
              | (go_at_call 34; refine hD.out.mono ?_; clear hD; rintro e w3 hO; unfold DocOut at hO; rw [hd.out] at hO; simp only at hO; obtain ⟨v3, rfl, hN3, t3⟩ := hO; obtain ⟨F3, R3, hR3, hN3⟩ := hN3; obtain ⟨vo, vc, rfl⟩ := ownsRow_shape hN3.row; have hM3 := hM2.out.same hk.out t3; replace t3 := Lib.hid t3; replace hR3 := Lib.hid hR3; replace hN3 := Lib.hid hN3)
              | fail)
            have hB3 := Lib.hid hM3.t.size
            have hrow := Lib.hid hM3.tm.row
            have hLm := Lib.hid hM3.le
            replace hM3 := Lib.hid hM3
            go_upto_region 11 with (first
              | (at_builtin; refine wp_append_us rfl _ _ 25 (by rfl) w.heap.size 50 i0 (.slice none 0 0) 1 24 Try.underlying25 hi.out hz0.out hz1.out hz2.out rfl (by decide) _ L.length _ (by rfl) hrow.out 1 (by rfl) rfl (by simp [Value.oneCell']) (nn_docs hLm.out hlp.out hll.out).1 (nn_docs hLm.out hlp.out hll.out).2 hB3.out ?_; intro v4 w4 hr4 hg4 hl4; obtain ⟨po, pc, rfl⟩ := ownsRow_shape hr4; replace hr4 := Lib.hid hr4; replace hg4 := Lib.hid hg4; replace hl4 := Lib.hid hl4)
              | fail)
            have hfl3 := Lib.hid (show fb < wc.heap.size from (Array.getElem?_eq_some_iff.1 hM2.out.fh).1)
            have hwk : wrap64 ((n : Int) + 1) = (n : Int) + 1 := by have := hml.out; have := hnl.out; unfold wrap64; omega
            by_cases hx : n < l'.length
            · have m1 : min ((n : Int) + 1) (l'.length : Int) = (n : Int) + 1 := min_a hx
              have hx1 : (n : Int) + 1 ≤ (l'.length : Int) := by omega
              have hx2 : decide ((l'.length : Int) < (n : Int) + 1) = false := decide_eq_false (by omega)
              obtain ⟨ao2, cap2, hr1, hr2, htv⟩ := drop_run hM3.out.tk (k := n + 1) hx ((n : Int) + 1) (by omega) (n2 := l'.length - (n + 1)) rfl
              have hdl : (l'.drop (n + 1)).length < l'.length := by simp; omega
              replace htv := Lib.hid htv
              replace hx := Lib.hid hx
              replace hdl := Lib.hid hdl
              go_wp2
              go_roundg ((l'.drop (n + 1)).length + 1)
              case rel => exact ⟨l'.drop (n + 1), _, L ++ [(t, .slice vo R3.length vc, F3)], rfl, hM3.out.push hk.out hR3.out hN3.out hB.out (fun k hk => (hM2.out.tm.lt k hk).2) hfl3.out hr4.out hg4.out hl4.out htv.out hdl.out hrun.out⟩
              case measure => exact Nat.succ_lt_succ hdl.out
            · have he : n = l'.length := Nat.le_antisymm hnl.out (Nat.not_lt.1 hx)
              have m1 : min ((n : Int) + 1) (l'.length : Int) = (l'.length : Int) := min_b he.symm
              have hx1 : ¬ (n : Int) + 1 ≤ (l'.length : Int) := by omega
              have hx2 : decide ((l'.length : Int) < (n : Int) + 1) = true := decide_eq_true (by omega)
              have hdl : (l'.drop (n + 1)).length < l'.length := by have := hlp.out; simp; omega
              have hnil : l'.drop (n + 1) = [] := List.drop_eq_nil_of_le (by omega)
              replace hnil := Lib.hid hnil
              replace he := Lib.hid he
              replace hx := Lib.hid hx
              replace hdl := Lib.hid hdl
              go_wp2
              all_goals
                go_roundg ((l'.drop (n + 1)).length + 1)
                case rel => exact ⟨l'.drop (n + 1), _, L ++ [(t, .slice vo R3.length vc, F3)], rfl, hM3.out.push hk.out hR3.out hN3.out hB.out (fun k hk => (hM2.out.tm.lt k hk).2) hfl3.out hr4.out hg4.out hl4.out (TokV.any hnil.out) hdl.out hrun.out⟩
                case measure => exact Nat.succ_lt_succ hdl.out
        · have hz : n = 0 := by omega
          have k2 : decide ((0 : Int) < (n : Int)) = false := decide_eq_false (by omega)
          have k3 : decide (0 < n) = false := decide_eq_false hn0
          have hrun : r = rest (L.map (·.1)) (l'.drop (n + 1)) := by rw [hM2.run, rest_skip (by rw [← hn.out]; exact hz), hn.out]
          replace hz := Lib.hid hz
          replace hn0 := Lib.hid hn0
          replace hrun := Lib.hid hrun
          replace hM2 := Lib.hid hM2
          replace hn := Lib.hid hn
          replace hkc := Lib.hid hkc
          replace hml := Lib.hid hml
          replace hB := Lib.hid hB
          go_upto_region 11 with fail
          have hwk : wrap64 ((n : Int) + 1) = (n : Int) + 1 := by have := hml.out; have := hnl.out; unfold wrap64; omega
          by_cases hx : n < l'.length
          · have m1 : min ((n : Int) + 1) (l'.length : Int) = (n : Int) + 1 := min_a hx
            have hx1 : (n : Int) + 1 ≤ (l'.length : Int) := by omega
            have hx2 : decide ((l'.length : Int) < (n : Int) + 1) = false := decide_eq_false (by omega)
            obtain ⟨ao2, cap2, hr1, hr2, htv⟩ := drop_run hM2.out.tk (k := n + 1) hx ((n : Int) + 1) (by omega) (n2 := l'.length - (n + 1)) rfl
            have hdl : (l'.drop (n + 1)).length < l'.length := by simp; omega
            replace htv := Lib.hid htv
            replace hx := Lib.hid hx
            replace hdl := Lib.hid hdl
            go_wp2
            go_roundg ((l'.drop (n + 1)).length + 1)
            case rel => exact ⟨l'.drop (n + 1), F, L, rfl, hM2.out.skip htv.out hdl.out hrun.out⟩
            case measure => exact Nat.succ_lt_succ hdl.out
          · have he : n = l'.length := Nat.le_antisymm hnl.out (Nat.not_lt.1 hx)
            have m1 : min ((n : Int) + 1) (l'.length : Int) = (l'.length : Int) := min_b he.symm
            have hx1 : ¬ (n : Int) + 1 ≤ (l'.length : Int) := by omega
            have hx2 : decide ((l'.length : Int) < (n : Int) + 1) = true := decide_eq_true (by omega)
            have hdl : (l'.drop (n + 1)).length < l'.length := by have := hlp.out; simp; omega
            have hnil : l'.drop (n + 1) = [] := List.drop_eq_nil_of_le (by omega)
            replace hnil := Lib.hid hnil
            replace he := Lib.hid he
            replace hx := Lib.hid hx
            replace hdl := Lib.hid hdl
            go_wp2
            all_goals
              go_roundg ((l'.drop (n + 1)).length + 1)
              case rel => exact ⟨l'.drop (n + 1), F, L, rfl, hM2.out.skip (TokV.any hnil.out) hdl.out hrun.out⟩
              case measure => exact Nat.succ_lt_succ hdl.out
end Go.Proofs.Ytcnjmkjfgghgoaa
end

section

namespace Go.Ln
open Go.RowKit Go.Tr
def psT (text : List UInt8) : List Tk := match (scan text).2 with
  | none => (scan text).1
  | some _ => []
def psF (text : List UInt8) : Nat × Nat × Int := match (scan text).2 with
  | none => (0, 0, 0)
  | some f => f
end Go.Ln
namespace Go.Proofs.Ytcnjmkjfgghgoaa
open Go.RowKit Go.Ln Go.Mp Go.Tr
set_option linter.unusedVariables false
set_option maxRecDepth 100000
set_option maxHeartbeats 4000000
def parseR (text : List UInt8) : Except (Nat × Fa) (List T) := match (scan text).2 with
  | some f => .error (f.1, ((f.2.1 : Int), f.2.2))
  | none => ofRun ((scan text).1.map tokOf)
theorem psT_len (text : List UInt8) : (psT text).length ≤ 200000 := by
  have h := seq_len text
  rw [seq_scan, List.length_append, List.length_map] at h
  unfold psT
  split
  · omega
  · simp
theorem scanP {text : List UInt8} {Fd Fl : Nat} {Fe : Int} {ts : List Tk} (hF : psF text = (Fd, Fl, Fe)) (hts : psT text = ts) (b : Nat) (v : Value) (w : World) (m : Int) (hby : BytS w b v text) (hb : b < w.heap.size) (hm : w.cell? ⟨0, 0, none⟩ = some (.int .i64 m)) :
    Calls Try.prog 37 #[v] w fun e w' => ∃ O, e = .returned (.tuple #[O, .agg #[.int .i64 Fd, .int .i64 Fl, .int .i64 Fe]]) ∧ tkRow w' w.heap.size O ts ∧ Below w.heap.size w w' := by
  refine (scan_any b v text w m hby hb hm).mono ?_
  rintro e w' ⟨O, f, rfl, h2, hb⟩
  cases hs : (scan text).2 with
  | none =>
    rw [hs] at h2
    obtain ⟨rfl, hr⟩ := h2
    have e1 : psF text = (0, 0, 0) := by unfold psF; rw [hs]
    have e2 : psT text = (scan text).1 := by unfold psT; rw [hs]
    rw [e1] at hF; rw [e2] at hts
    cases hF; subst hts
    exact ⟨O, rfl, hr, hb⟩
  | some g =>
    rw [hs] at h2
    obtain ⟨hfg, rfl⟩ := h2
    subst hfg
    have e1 : psF text = f := by unfold psF; rw [hs]
    have e2 : psT text = [] := by unfold psT; rw [hs]
    rw [e1] at hF; rw [e2] at hts
    subst hF; subst hts
    exact ⟨_, rfl, row_nil _ _, hb⟩
/-- A row of tokens as Of takes it. -/
theorem row_tokV {w : World} {B : Nat} {v : Value} {ts : List Tk} (h : tkRow w B v ts) (h0 : 0 < w.heap.size) : ∃ kb, TokV w kb v (ts.map tokOf) ∧ kb < w.heap.size := by
  obtain ⟨ao, cap, rfl⟩ := ownsRow_shape h
  cases ts with
  | nil =>
    rcases h.2 with ⟨e, _⟩ | ⟨g, cp, cur, e, _, hg, hnc, _⟩
    · cases e
      exact ⟨0, ⟨⟨_, _, rfl, fun i t ht => by cases ht⟩, _, _, rfl, Nat.le_refl _⟩, h0⟩
    · cases e
      exact ⟨g, ⟨⟨_, _, rfl, fun i t ht => by cases ht⟩, _, _, rfl, Nat.zero_le _⟩, heap_lt hg⟩
  | cons t0 r =>
    obtain ⟨g, rfl, hg, _⟩ := tk_cells h (i := 0) rfl
    rcases h.2 with ⟨e, _⟩ | ⟨g', cp, cur, e, _, _, hnc, _⟩
    · cases e
    · cases e
      refine ⟨g, ⟨⟨_, _, by rw [List.length_map], fun i t ht => ?_⟩, _, _, by rw [List.length_map], by rw [List.length_map]; exact hnc⟩, hg⟩
      rw [List.getElem?_map] at ht
      obtain ⟨u, hu, rfl⟩ := Option.map_eq_some_iff.1 ht
      obtain ⟨g2, e2, _, c0, c1, c2, c3, c4⟩ := tk_cells h hu
      cases e2
      exact ⟨0, rfl, by rw [Nat.zero_add]; exact c0, by rw [Nat.zero_add]; exact c1, by rw [Nat.zero_add]; exact c2, by rw [Nat.zero_add]; exact c3, by rw [Nat.zero_add]; exact c4⟩
theorem res16 {W : World} {g : Nat} {a b c : Int} (h : W.heap[g]? = some (.cells #[.int .i64 a, .int .i64 b, .int .i64 c] 28 (0, 0))) (tmps : Array Value) (h3 : tmps[3]? = some (.pointer (some ⟨g, 0, none⟩))) :
    (results Try.f16 tmps).run Try.prog W = .ok (.tuple #[tmps.getD 2 undef, .agg #[.int .i64 a, .int .i64 b, .int .i64 c]]) W := by
  have c1 : W.cell? ⟨g, 0, none⟩ = some (.int .i64 a) := cell_of_row W _ 0 _ _ _ h
  have c2 : W.cell? ⟨g, 1, none⟩ = some (.int .i64 b) := cell_of_row W _ 1 _ _ _ h
  have c3 : W.cell? ⟨g, 2, none⟩ = some (.int .i64 c) := cell_of_row W _ 2 _ _ _ h
  simp [results, Try.results16, go_sem, c1, c2, c3, h3]
theorem parse_any (b : Nat) (v : Value) (text : List UInt8) (w : World) (m : Int) (hby : BytS w b v text) (hb : b < w.heap.size) (hm : w.cell? ⟨0, 0, none⟩ = some (.int .i64 m)) :
    Calls Try.prog 16 #[v] w (OfOut w (parseR text)) := by
  obtain ⟨ao, cap, rfl⟩ := hby.shape
  obtain ⟨Fd, Fl, Fe, hF⟩ : ∃ Fd Fl Fe, psF text = (Fd, Fl, Fe) := ⟨_, _, _, rfl⟩
  obtain ⟨ts, hts⟩ : ∃ ts, psT text = ts := ⟨_, rfl⟩
  have htl : ts.length ≤ 200000 := by rw [← hts]; exact psT_len text
  have hw1 : BytS (w.alloc (.cells #[.int .i64 0, .int .i64 0, .int .i64 0] 28)) b (.slice ao text.length cap) text := hby.keep (Below.heap_alloc _ _ _ hb)
  have hs := scanP hF hts b _ (w.alloc (.cells #[.int .i64 0, .int .i64 0, .int .i64 0] 28)) m hw1 (by simp; omega) ((Tch.alloc No _ _).cell_some hm id)
  obtain ⟨ob, ho, _⟩ := cell_obj hm
  have h0w := heap_lt ho
  cases he : (Fe == 0) with
  | false =>
    have he2 : (Fe != 0) = true := by rw [bne, he]; rfl
    have hr : parseR text = .error (Fd, (Fl : Int), Fe) := by
      unfold parseR
      unfold psF at hF
      cases hsc : (scan text).2 with
      | none => rw [hsc] at hF; cases hF; cases he
      | some f => rw [hsc] at hF; subst hF; rfl
    replace hs := Lib.hid hs
    replace hby := Lib.hid hby
    replace hm := Lib.hid hm
    replace hF := Lib.hid hF
    replace hts := Lib.hid hts
    replace hw1 := Lib.hid hw1
    replace hr := Lib.hid hr
    go_enter Try.func16, Try.ntmps16
    go_upto_region 3 with (first
      | (go_at_call 37; (with_reducible refine hs.out.mono ?_); rintro e w2 ⟨O, rfl, hr2, hb2⟩; obtain ⟨oo, oc, rfl⟩ := ownsRow_shape hr2; replace hb2 := Lib.hid hb2; replace hr2 := Lib.hid hr2)
      | fail)
    have hb23 : Below w.heap.size w (w2.alloc (.cells #[.int .i64 Fd, .int .i64 Fl, .int .i64 Fe] 28)) := (((Below.refl _ w).alloc (Nat.le_refl _) (.cells #[.int .i64 0, .int .i64 0, .int .i64 0] 28)).trans (hb2.out.mono (by simp))).alloc (by have := hb2.out.size; simp at this; omega) _
    have hg0 : (w2.alloc (.cells #[.int .i64 Fd, .int .i64 Fl, .int .i64 Fe] 28)).heap[w.heap.size]? = some (.cells #[.int .i64 0, .int .i64 0, .int .i64 0] 28 (0, 0)) := by
      refine (Below.heap_alloc _ _ _ (by have := hb2.out.size; simp at this; omega)).trans ?_
      exact (hb2.out.block _ (by simp)).trans (heap_alloc_new w _)
    have hg1 := heap_alloc_new w2 (.cells #[.int .i64 Fd, .int .i64 Fl, .int .i64 Fe] 28)
    have hr3 : tkRow (w2.alloc (.cells #[.int .i64 Fd, .int .i64 Fl, .int .i64 Fe] 28)) (w.alloc (.cells #[.int .i64 0, .int .i64 0, .int .i64 0] 28)).heap.size (.slice oo ts.length oc) ts := ownsRow_tch hr2.out (Tch.alloc No _ _) (fun _ _ h => h)
    have hne : ¬ w2.heap.size = w.heap.size := by have := hb2.out.size; simp at this; omega
    have hlt : w.heap.size < (w2.alloc (.cells #[.int .i64 Fd, .int .i64 Fl, .int .i64 Fe] 28)).heap.size := by have := hb2.out.size; simp at this ⊢; omega
    obtain ⟨w3, hw3⟩ : ∃ w3, w3 = w2.alloc (.cells #[.int .i64 Fd, .int .i64 Fl, .int .i64 Fe] 28) := ⟨_, rfl⟩
    rw [← hw3] at hb23 hg0 hg1 hr3 hlt ⊢
    clear hw3
    obtain ⟨z0, z1, z2⟩ : w3.cell? ⟨w.heap.size, 0, none⟩ = some (.int .i64 0) ∧ w3.cell? ⟨w.heap.size, 1, none⟩ = some (.int .i64 0) ∧ w3.cell? ⟨w.heap.size, 2, none⟩ = some (.int .i64 0) := ⟨cell_of_row _ _ 0 _ _ _ hg0, cell_of_row _ _ 1 _ _ _ hg0, cell_of_row _ _ 2 _ _ _ hg0⟩
    obtain ⟨y0, y1, y2⟩ : w3.frozen? ⟨w.heap.size, 0, none⟩ = false ∧ w3.frozen? ⟨w.heap.size, 1, none⟩ = false ∧ w3.frozen? ⟨w.heap.size, 2, none⟩ = false := ⟨frozen_of_row _ _ _ _ _ hg0, frozen_of_row _ _ _ _ _ hg0, frozen_of_row _ _ _ _ _ hg0⟩
    obtain ⟨d0, d1, d2⟩ : w3.cell? ⟨w2.heap.size, 0, none⟩ = some (.int .i64 Fd) ∧ w3.cell? ⟨w2.heap.size, 1, none⟩ = some (.int .i64 Fl) ∧ w3.cell? ⟨w2.heap.size, 2, none⟩ = some (.int .i64 Fe) := ⟨cell_of_row _ _ 0 _ _ _ hg1, cell_of_row _ _ 1 _ _ _ hg1, cell_of_row _ _ 2 _ _ _ hg1⟩
    obtain ⟨s1, s2⟩ := set3 hg0 (.int .i64 Fd) (.int .i64 Fl) (.int .i64 Fe)
    replace hb23 := Lib.hid hb23
    replace hg0 := Lib.hid hg0
    replace hg1 := Lib.hid hg1
    replace hr3 := Lib.hid hr3
    replace s1 := Lib.hid s1
    replace s2 := Lib.hid s2
    replace hlt := Lib.hid hlt
    go_region
    all_goals
      go_wp2
      refine bodyPost_ret (v := .tuple #[.slice none 0 0, .agg #[.int .i64 Fd, .int .i64 Fl, .int .i64 Fe]]) (res16 (show (((w3.setCell ⟨w.heap.size, 0, none⟩ (.int .i64 Fd)).setCell ⟨w.heap.size, 1, none⟩ (.int .i64 Fl)).setCell ⟨w.heap.size, 2, none⟩ (.int .i64 Fe)).drew.heap[w.heap.size]? = some _ from s1.out) _ rfl) rfl ?_
      exact ofOut_err hr.out ((Tch.of_below hb23.out).trans (s2.out.trans (Tch.drew _ _) (fun _ h => .inl h)) (fun k hk => .inr (by rw [hk]; exact Nat.le_refl _)))
  | true =>
    have he2 : (Fe != 0) = false := by rw [bne, he]; rfl
    have hr : parseR text = ofRun (ts.map tokOf) := by
      unfold parseR
      unfold psF at hF
      unfold psT at hts
      cases hsc : (scan text).2 with
      | none => rw [hsc] at hts; subst hts; rfl
      | some f => rw [hsc] at hF; subst hF; exact absurd (beq_iff_eq.1 he) (scan_err hsc)
    replace hs := Lib.hid hs
    replace hby := Lib.hid hby
    replace hm := Lib.hid hm
    replace hF := Lib.hid hF
    replace hts := Lib.hid hts
    replace hw1 := Lib.hid hw1
    replace hr := Lib.hid hr
    go_enter Try.func16, Try.ntmps16
    go_upto_region 4 with (first
      | (go_at_call 37; (with_reducible refine hs.out.mono ?_); rintro e w2 ⟨O, rfl, hr2, hb2⟩; obtain ⟨oo, oc, rfl⟩ := ownsRow_shape hr2; replace hb2 := Lib.hid hb2; replace hr2 := Lib.hid hr2)
      | fail)
    have hb23 : Below w.heap.size w (w2.alloc (.cells #[.int .i64 Fd, .int .i64 Fl, .int .i64 Fe] 28)) := (((Below.refl _ w).alloc (Nat.le_refl _) (.cells #[.int .i64 0, .int .i64 0, .int .i64 0] 28)).trans (hb2.out.mono (by simp))).alloc (by have := hb2.out.size; simp at this; omega) _
    have hg0 : (w2.alloc (.cells #[.int .i64 Fd, .int .i64 Fl, .int .i64 Fe] 28)).heap[w.heap.size]? = some (.cells #[.int .i64 0, .int .i64 0, .int .i64 0] 28 (0, 0)) := by
      refine (Below.heap_alloc _ _ _ (by have := hb2.out.size; simp at this; omega)).trans ?_
      exact (hb2.out.block _ (by simp)).trans (heap_alloc_new w _)
    have hg1 := heap_alloc_new w2 (.cells #[.int .i64 Fd, .int .i64 Fl, .int .i64 Fe] 28)
    have hr3 : tkRow (w2.alloc (.cells #[.int .i64 Fd, .int .i64 Fl, .int .i64 Fe] 28)) (w.alloc (.cells #[.int .i64 0, .int .i64 0, .int .i64 0] 28)).heap.size (.slice oo ts.length oc) ts := ownsRow_tch hr2.out (Tch.alloc No _ _) (fun _ _ h => h)
    have hne : ¬ w2.heap.size = w.heap.size := by have := hb2.out.size; simp at this; omega
    have hlt : w.heap.size < (w2.alloc (.cells #[.int .i64 Fd, .int .i64 Fl, .int .i64 Fe] 28)).heap.size := by have := hb2.out.size; simp at this ⊢; omega
    obtain ⟨w3, hw3⟩ : ∃ w3, w3 = w2.alloc (.cells #[.int .i64 Fd, .int .i64 Fl, .int .i64 Fe] 28) := ⟨_, rfl⟩
    rw [← hw3] at hb23 hg0 hg1 hr3 hlt ⊢
    clear hw3
    obtain ⟨z0, z1, z2⟩ : w3.cell? ⟨w.heap.size, 0, none⟩ = some (.int .i64 0) ∧ w3.cell? ⟨w.heap.size, 1, none⟩ = some (.int .i64 0) ∧ w3.cell? ⟨w.heap.size, 2, none⟩ = some (.int .i64 0) := ⟨cell_of_row _ _ 0 _ _ _ hg0, cell_of_row _ _ 1 _ _ _ hg0, cell_of_row _ _ 2 _ _ _ hg0⟩
    obtain ⟨y0, y1, y2⟩ : w3.frozen? ⟨w.heap.size, 0, none⟩ = false ∧ w3.frozen? ⟨w.heap.size, 1, none⟩ = false ∧ w3.frozen? ⟨w.heap.size, 2, none⟩ = false := ⟨frozen_of_row _ _ _ _ _ hg0, frozen_of_row _ _ _ _ _ hg0, frozen_of_row _ _ _ _ _ hg0⟩
    obtain ⟨kb, htv, hkb⟩ := row_tokV hr3 (by omega)
    have hOf := of_any htv hkb (by rw [List.length_map]; omega)
    cases hx : ofRun (ts.map tokOf) with
    | error x =>
      obtain ⟨k, ln, er⟩ := x
      rw [hx] at hOf
      have hr9 := hr.out.trans hx
      replace hOf : Calls Try.prog 10 #[.slice oo ts.length oc] w3 fun e w' => e = .returned (.tuple #[.slice none 0 0, .agg #[.int .i64 k, .int .i64 ln, .int .i64 er]]) ∧ Tch No w3 w' := hOf
      replace hb23 := Lib.hid hb23
      replace hg0 := Lib.hid hg0
      replace hg1 := Lib.hid hg1
      replace hr3 := Lib.hid hr3
      replace hlt := Lib.hid hlt
      replace hOf := Lib.hid hOf
      replace htv := Lib.hid htv
      replace hx := Lib.hid hx
      replace hr9 := Lib.hid hr9
      clear z0 z1 z2 y0 y1 y2
      go_wp2_with (first
        | (go_at_call 10; (with_reducible refine hOf.out.mono ?_); rintro e w4 ⟨rfl, t4⟩; have hg4 := (t4.block _ hlt.out id).trans hg0.out; obtain ⟨z0, z1, z2⟩ : w4.cell? ⟨w.heap.size, 0, none⟩ = some (.int .i64 0) ∧ w4.cell? ⟨w.heap.size, 1, none⟩ = some (.int .i64 0) ∧ w4.cell? ⟨w.heap.size, 2, none⟩ = some (.int .i64 0) := ⟨cell_of_row _ _ 0 _ _ _ hg4, cell_of_row _ _ 1 _ _ _ hg4, cell_of_row _ _ 2 _ _ _ hg4⟩; obtain ⟨y0, y1, y2⟩ : w4.frozen? ⟨w.heap.size, 0, none⟩ = false ∧ w4.frozen? ⟨w.heap.size, 1, none⟩ = false ∧ w4.frozen? ⟨w.heap.size, 2, none⟩ = false := ⟨frozen_of_row _ _ _ _ _ hg4, frozen_of_row _ _ _ _ _ hg4, frozen_of_row _ _ _ _ _ hg4⟩; replace hg4 := Lib.hid hg4; replace t4 := Lib.hid t4)
        | fail)
      obtain ⟨s1, s2⟩ := set3 hg4.out (.int .i64 k) (.int .i64 ln) (.int .i64 er)
      refine bodyPost_ret (v := .tuple #[.slice none 0 0, .agg #[.int .i64 k, .int .i64 ln, .int .i64 er]]) (res16 s1 _ rfl) rfl ?_
      exact ofOut_err hr9.out (((Tch.of_below hb23.out).trans t4.out (fun _ h => h.elim)).trans s2 (fun k hk => .inr (by rw [hk]; exact Nat.le_refl _)))
    | ok us =>
      rw [hx] at hOf
      have hr9 := hr.out.trans hx
      replace hOf : Calls Try.prog 10 #[.slice oo ts.length oc] w3 fun e w' => ∃ v F L, e = .returned (.tuple #[v, .agg #[.int .i64 0, .int .i64 0, .int .i64 0]]) ∧ L.map (·.1) = us ∧ TM w' w3.heap.size F v L ∧ Tch No w3 w' := hOf
      replace hb23 := Lib.hid hb23
      replace hg0 := Lib.hid hg0
      replace hg1 := Lib.hid hg1
      replace hr3 := Lib.hid hr3
      replace hlt := Lib.hid hlt
      replace hOf := Lib.hid hOf
      replace htv := Lib.hid htv
      replace hx := Lib.hid hx
      replace hr9 := Lib.hid hr9
      clear z0 z1 z2 y0 y1 y2
      go_wp2_with (first
        | (go_at_call 10; (with_reducible refine hOf.out.mono ?_); rintro e w4 ⟨v4, F4, L4, rfl, hL4, hT4, t4⟩; have hg4 := (t4.block _ hlt.out id).trans hg0.out; obtain ⟨z0, z1, z2⟩ : w4.cell? ⟨w.heap.size, 0, none⟩ = some (.int .i64 0) ∧ w4.cell? ⟨w.heap.size, 1, none⟩ = some (.int .i64 0) ∧ w4.cell? ⟨w.heap.size, 2, none⟩ = some (.int .i64 0) := ⟨cell_of_row _ _ 0 _ _ _ hg4, cell_of_row _ _ 1 _ _ _ hg4, cell_of_row _ _ 2 _ _ _ hg4⟩; obtain ⟨y0, y1, y2⟩ : w4.frozen? ⟨w.heap.size, 0, none⟩ = false ∧ w4.frozen? ⟨w.heap.size, 1, none⟩ = false ∧ w4.frozen? ⟨w.heap.size, 2, none⟩ = false := ⟨frozen_of_row _ _ _ _ _ hg4, frozen_of_row _ _ _ _ _ hg4, frozen_of_row _ _ _ _ _ hg4⟩; replace hg4 := Lib.hid hg4; replace t4 := Lib.hid t4; replace hT4 := Lib.hid hT4; replace hL4 := Lib.hid hL4)
        | fail)
      obtain ⟨s1, s2⟩ := set3 hg4.out (.int .i64 0) (.int .i64 0) (.int .i64 0)
      refine bodyPost_ret (v := .tuple #[v4, .agg #[.int .i64 0, .int .i64 0, .int .i64 0]]) (res16 s1 _ rfl) rfl ?_
      rw [hr9.out]
      exact ⟨v4, F4, L4, rfl, hL4.out, (hT4.out.tch s2 (fun k hk e => by have := (hT4.out.lt k hk).1; have := hlt.out; omega)).lower hb23.out.size, ((Tch.of_below hb23.out).trans t4.out (fun _ h => h.elim)).trans s2 (fun k hk => .inr (by rw [hk]; exact Nat.le_refl _))⟩
end Go.Proofs.Ytcnjmkjfgghgoaa
end
