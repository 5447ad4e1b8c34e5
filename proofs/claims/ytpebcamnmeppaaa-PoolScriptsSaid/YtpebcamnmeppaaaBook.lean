/- The book that the law PoolBounds keeps: its lists beside the pool; 'but'; a call as it reads. -/
import Derived.Test.YtpebcamnmeppaaaAwake
namespace Go.Proofs.Ytpebcamnmeppaaa
open Go.RowKit Go.Mp Go.Po
set_option linter.unusedVariables false
/-! ### but -/
theorem but_any {w : World} {v : Value} {l : List Int} (h : RI w v l) (hl : l.length < 4398046511104) (n : Int) : Calls Try.prog 14 #[v, .int .i64 n] w fun e w' => ∃ v', e = .returned v' ∧ w'.ownsRow w.heap.size 3 1 v' (l.filter fun x => decide (x ≠ n)).length (icells (l.filter fun x => decide (x ≠ n))) ∧ Below w.heap.size w w' := by
  obtain ⟨ao, cap, rfl, hc⟩ := h
  obtain ⟨i0, hi, hz0, hz1, hz2⟩ := info_parts info3
  replace hc := Lib.hid hc
  replace hi := Lib.hid hi
  replace hz0 := Lib.hid hz0
  replace hz1 := Lib.hid hz1
  replace hz2 := Lib.hid hz2
  go_enter Try.func14, Try.ntmps14
  go_wp2
  go_loopg [5, 6] l.length (fun gg vo kc wr => ∃ k : Nat, k ≤ l.length ∧ gg = l.length - k ∧ kc = .int .i64 k ∧ wr.ownsRow w.heap.size 3 1 vo ((l.take k).filter fun x => decide (x ≠ n)).length (icells ((l.take k).filter fun x => decide (x ≠ n))) ∧ Below w.heap.size w wr)
  case atStart => exact ⟨0, by omega, by omega, rfl, World.ownsRow_nil _ _ _ _, Below.refl _ _⟩
  case round =>
    obtain ⟨k, hk, rfl, rfl, hrow, hb⟩ := hrel
    by_cases hkl : k < l.length
    · have hx := List.getElem?_eq_getElem hkl
      obtain ⟨b, off, rfl, hcell0⟩ := hc.out k _ hx
      have k0 : (k : Int) < (l.length : Int) := by omega
      have hwk : wrap64 ((k : Int) + 1) = ((k + 1 : Nat) : Int) := by unfold wrap64; omega
      have hstep : l.take (k + 1) = l.take k ++ [l[k]] := by rw [List.take_add_one, hx]; rfl
      have hcell : wr.cell? ⟨b, off + k, none⟩ = some (.int .i64 l[k]) := (hb.cell (World.block_lt_of_cell? w _ hcell0)).trans hcell0
      have hfl := List.length_filter_le (fun x => decide (x ≠ n)) (l.take k)
      have htl : (l.take k).length ≤ l.length := by rw [List.length_take]; omega
      generalize l[k] = x at *
      clear hcell0
      replace hfl := Lib.hid (Nat.le_trans hfl htl)
      clear htl
      by_cases hxn : x = n
      · have k1 : (x == n) = true := by rw [beq_iff_eq]; exact hxn
        have k2 : (x != n) = false := by simp [bne, k1]
        have hf : (l.take (k + 1)).filter (fun x => decide (x ≠ n)) = (l.take k).filter fun x => decide (x ≠ n) := by
          rw [hstep, List.filter_append]
          simp [hxn]
        replace hx := Lib.hid hx
        replace hf := Lib.hid hf
        replace hxn := Lib.hid hxn
        replace hstep := Lib.hid hstep
        go_wp2
        go_roundg (l.length - (k + 1))
        case rel => exact ⟨k + 1, by omega, rfl, rfl, by rw [hf.out]; exact hrow, hb⟩
        case measure => omega
      · have k1 : (x == n) = false := by rw [beq_eq_false_iff_ne]; exact hxn
        have k2 : (x != n) = true := by simp [bne, k1]
        have hf : (l.take (k + 1)).filter (fun x => decide (x ≠ n)) = ((l.take k).filter fun x => decide (x ≠ n)) ++ [x] := by
          rw [hstep, List.filter_append]
          simp [hxn]
        replace hx := Lib.hid hx
        replace hf := Lib.hid hf
        replace hxn := Lib.hid hxn
        replace hstep := Lib.hid hstep
        go_wp2_with (first | (at_builtin; refine wp_append_one rfl _ _ 22 rfl w.heap.size 3 i0 (.int .i64 0) 8 Try.underlying22 hi.out hz0.out hz1.out hz2.out rfl _ _ _ rfl hrow 1 rfl rfl (by have := hfl.out; unfold maxLen; omega) (by have := hfl.out; omega) hb.size ?_; intro v' w3 hrow3 hg3 hloc3) | fail)
        go_roundg (l.length - (k + 1))
        case rel => exact ⟨k + 1, by omega, rfl, rfl, by rw [hf.out]; simpa [icells] using hrow3, hb.grown hg3 hb.size (fun j hj => (ownsRow_ge hrow hj).1)⟩
        case measure => omega
    · have hke : k = l.length := by omega
      have k0 : decide ((k : Int) < (l.length : Int)) = false := decide_eq_false (by omega)
      go_wp2
      go_ret
      rw [hke, List.take_length] at hrow
      exact ⟨_, rfl, hrow, hb⟩
/-! ### a call as it reads -/
abbrev CallT := Int × (ByteArray × (Int × (Int × Unit)))
def callE : Rd.Elem CallT := Rd.pair Rd.int (Rd.pair Rd.str (Rd.pair Rd.int (Rd.pair Rd.int Rd.none)))
def ccells (c : CallT) : List Value := [.int .i64 c.1, .string c.2.1, .int .i64 c.2.2.1, .int .i64 c.2.2.2.1]
def kcells (l : List CallT) : List Value := l.flatMap ccells
theorem kcells_length (l : List CallT) : (kcells l).length = l.length * 4 := by
  induction l with
  | nil => rfl
  | cons c l ih => simp only [kcells, List.flatMap_cons, List.length_append, List.length_cons] at ih ⊢; simp only [ccells, List.length_cons, List.length_nil]; omega
theorem kcells_append (l l' : List CallT) : kcells (l ++ l') = kcells l ++ kcells l' := List.flatMap_append
theorem kcells_at {l : List CallT} {k : Nat} {c : CallT} (hc : l[k]? = some c) (j : Nat) (hj : j < 4) : (kcells l)[4 * k + j]? = (ccells c)[j]? := by
  induction l generalizing k with
  | nil => simp at hc
  | cons a l ih =>
    have e : kcells (a :: l) = ccells a ++ kcells l := rfl
    cases k with
    | zero =>
      simp at hc; subst hc
      rw [e, List.getElem?_append_left (by simp [ccells]; omega)]
      simp
    | succ k =>
      simp at hc
      rw [e, List.getElem?_append_right (by simp [ccells]; omega), ← ih hc]
      simp only [ccells, List.length_cons, List.length_nil]
      congr 1
      omega
theorem call_at {w w' : World} {ao : Option Addr} {n cap : Nat} {l : List CallT} (h : Rd.SliceOf callE w (.slice ao n cap) l) (hb : Below w.heap.size w w') {i : Nat} {c : CallT} (hx : l[i]? = some c) :
    ∃ b off, ao = some ⟨b, off, none⟩ ∧ w'.cell? ⟨b, off + i * 4, none⟩ = some (.int .i64 c.1) ∧ w'.cell? ⟨b, off + i * 4 + 1, none⟩ = some (.string c.2.1) ∧ w'.cell? ⟨b, off + i * 4 + 2, none⟩ = some (.int .i64 c.2.2.1) ∧ w'.cell? ⟨b, off + i * 4 + 3, none⟩ = some (.int .i64 c.2.2.2.1) ∧
      c.2.1.size ≤ maxLen ∧ (-9223372036854775808 ≤ c.2.2.1 ∧ c.2.2.1 ≤ 9223372036854775807) ∧ (-9223372036854775808 ≤ c.2.2.2.1 ∧ c.2.2.2.1 ≤ 9223372036854775807) := by
  obtain ⟨_, ao', cap', h1, h2⟩ := h
  cases h1
  rcases h2 with rfl | ⟨b, off, rfl, hlt, h⟩
  · simp at hx
  · obtain ⟨r1, r2, r3, r4, _⟩ := h i c hx
    have hcl : ∀ j, w'.cell? ⟨b, off + i * 4 + j, none⟩ = w.cell? ⟨b, off + i * 4 + j, none⟩ := fun j => hb.cell (by exact hlt)
    refine ⟨b, off, rfl, ?_, ?_, ?_, ?_, r2.2, r3.2, r4.2⟩
    · exact (hcl 0).trans r1.1
    · exact (hcl 1).trans r2.1
    · exact (hcl 2).trans r3.1
    · exact (hcl 3).trans r4.1
/-! ### the lists beside the pool, and blocks that nobody touches -/
structure BM (w0 w : World) (F : Nat → Prop) (p : Nat) (s : St) (n : Nat) (hv : Value) (held : List Int) (gv : Value) (gone : List Int) (kv : Value) (known : List CallT) (bs : List (Nat × Obj)) : Prop where
  live : Live w0 w F p s n
  rh : w.ownsRow w0.heap.size 3 1 hv held.length (icells held)
  rg : w.ownsRow w0.heap.size 3 1 gv gone.length (icells gone)
  rk : w.ownsRow w0.heap.size 39 4 kv known.length (kcells known)
  ah : ∀ g, hv.ownBlock = some g → ¬ F g ∧ gv.ownBlock ≠ some g ∧ kv.ownBlock ≠ some g
  ag : ∀ g, gv.ownBlock = some g → ¬ F g ∧ kv.ownBlock ≠ some g
  ak : ∀ g, kv.ownBlock = some g → ¬ F g
  bx : ∀ q ∈ bs, w.heap[q.1]? = some q.2 ∧ ¬ F q.1 ∧ hv.ownBlock ≠ some q.1 ∧ gv.ownBlock ≠ some q.1 ∧ kv.ownBlock ≠ some q.1
section
variable {w0 w w' : World} {F F' : Nat → Prop} {p n n' : Nat} {s s' : St} {hv gv kv v' : Value} {held held' gone gone' : List Int} {known known' : List CallT} {bs : List (Nat × Obj)}
theorem box_lt {w : World} {b : Nat} {o : Obj} (h : w.heap[b]? = some o) : b < w.heap.size := (Array.getElem?_eq_some_iff.1 h).1
theorem BM.same (h : BM w0 w F p s n hv held gv gone kv known bs) (t : Tch No w w') : BM w0 w' F p s n hv held gv gone kv known bs :=
  ⟨h.live.same t, ownsRow_tch h.rh t (fun _ _ h => h), ownsRow_tch h.rg t (fun _ _ h => h), ownsRow_tch h.rk t (fun _ _ h => h), h.ah, h.ag, h.ak, fun q hq => ⟨(t.block _ (box_lt (h.bx q hq).1) id).trans (h.bx q hq).1, (h.bx q hq).2⟩⟩
theorem BM.pool (h : BM w0 w F p s n hv held gv gone kv known bs) (hp : Post w w0.heap.size F p s' n' w') : ∃ F', BM w0 w' F' p s' n' hv held gv gone kv known bs := by
  obtain ⟨F', hL, t, hF⟩ := live_post h.live hp
  have hn : ∀ {v : Value} {e : TypeId} {size m : Nat} {xs : List Value}, w.ownsRow w0.heap.size e size v m xs → ∀ g, v.ownBlock = some g → ¬ F g → ¬ F' g := fun hr g hg hnf hf => (hF g hf).elim hnf (fun h1 => by have := (ownsRow_ge hr hg).2; omega)
  exact ⟨F', hL, ownsRow_tch h.rh t (fun g hg => (h.ah g hg).1), ownsRow_tch h.rg t (fun g hg => (h.ag g hg).1), ownsRow_tch h.rk t (fun g hg => h.ak g hg),
    fun g hg => ⟨hn h.rh g hg (h.ah g hg).1, (h.ah g hg).2⟩, fun g hg => ⟨hn h.rg g hg (h.ag g hg).1, (h.ag g hg).2⟩, fun g hg => hn h.rk g hg (h.ak g hg),
    fun q hq => ⟨(t.block _ (box_lt (h.bx q hq).1) (h.bx q hq).2.1).trans (h.bx q hq).1, fun hf => (hF _ hf).elim (h.bx q hq).2.1 (fun h1 => by have := box_lt (h.bx q hq).1; omega), (h.bx q hq).2.2⟩⟩
theorem row_newer {e : TypeId} {size m : Nat} {v : Value} {xs : List Value} (hr : w.ownsRow w0.heap.size e size v m xs) {g : Nat} (hg : w.heap.size ≤ g) : v.ownBlock ≠ some g := fun h => by have := (ownsRow_ge hr h).2; omega
/-- held is written, or laid anew. -/
theorem BM.onHeld (h : BM w0 w F p s n hv held gv gone kv known bs) (hr : w'.ownsRow w0.heap.size 3 1 v' held'.length (icells held')) (hg : w.grownBy w' hv.ownBlock) (hl : ∀ g, v'.ownBlock = some g → hv.ownBlock = some g ∨ w.heap.size ≤ g) : BM w0 w' F p s n v' held' gv gone kv known bs := by
  have t : Tch (fun k => hv.ownBlock = some k) w w' := Tch.grown hg (fun k hk => .inl hk)
  refine ⟨⟨h.live.1.tch t (fun k hk he => (h.ah k he).1 hk), h.live.2.grown hg h.live.2.size (fun k hk => (ownsRow_ge h.rh hk).1)⟩, hr, ownsRow_tch h.rg t (fun g hg he => (h.ah g he).2.1 hg), ownsRow_tch h.rk t (fun g hg he => (h.ah g he).2.2 hg), fun g hg' => ?_, h.ag, h.ak, fun q hq => ?_⟩
  · rcases hl g hg' with h1 | h1
    · exact h.ah g h1
    · exact ⟨fun hf => by have := (h.live.1.lt g hf).2; omega, row_newer h.rg h1, row_newer h.rk h1⟩
  · obtain ⟨b1, b2, b3, b4, b5⟩ := h.bx q hq
    refine ⟨(t.block _ (box_lt b1) b3).trans b1, b2, fun he => ?_, b4, b5⟩
    rcases hl _ he with h1 | h1
    · exact b3 h1
    · have := box_lt b1; omega
/-- gone is. -/
theorem BM.onGone (h : BM w0 w F p s n hv held gv gone kv known bs) (hr : w'.ownsRow w0.heap.size 3 1 v' gone'.length (icells gone')) (hg : w.grownBy w' gv.ownBlock) (hl : ∀ g, v'.ownBlock = some g → gv.ownBlock = some g ∨ w.heap.size ≤ g) : BM w0 w' F p s n hv held v' gone' kv known bs := by
  have t : Tch (fun k => gv.ownBlock = some k) w w' := Tch.grown hg (fun k hk => .inl hk)
  refine ⟨⟨h.live.1.tch t (fun k hk he => (h.ag k he).1 hk), h.live.2.grown hg h.live.2.size (fun k hk => (ownsRow_ge h.rg hk).1)⟩, ownsRow_tch h.rh t (fun g hg he => (h.ah g hg).2.1 he), hr, ownsRow_tch h.rk t (fun g hg he => (h.ag g he).2 hg), fun g hg' => ⟨(h.ah g hg').1, fun he => ?_, (h.ah g hg').2.2⟩, fun g hg' => ?_, h.ak, fun q hq => ?_⟩
  · rcases hl g he with h1 | h1
    · exact (h.ah g hg').2.1 h1
    · exact row_newer h.rh h1 hg'
  · rcases hl g hg' with h1 | h1
    · exact h.ag g h1
    · exact ⟨fun hf => by have := (h.live.1.lt g hf).2; omega, row_newer h.rk h1⟩
  · obtain ⟨b1, b2, b3, b4, b5⟩ := h.bx q hq
    refine ⟨(t.block _ (box_lt b1) b4).trans b1, b2, b3, fun he => ?_, b5⟩
    rcases hl _ he with h1 | h1
    · exact b4 h1
    · have := box_lt b1; omega
/-- known is. -/
theorem BM.onKnown (h : BM w0 w F p s n hv held gv gone kv known bs) (hr : w'.ownsRow w0.heap.size 39 4 v' known'.length (kcells known')) (hg : w.grownBy w' kv.ownBlock) (hl : ∀ g, v'.ownBlock = some g → kv.ownBlock = some g ∨ w.heap.size ≤ g) : BM w0 w' F p s n hv held gv gone v' known' bs := by
  have t : Tch (fun k => kv.ownBlock = some k) w w' := Tch.grown hg (fun k hk => .inl hk)
  refine ⟨⟨h.live.1.tch t (fun k hk he => h.ak k he hk), h.live.2.grown hg h.live.2.size (fun k hk => (ownsRow_ge h.rk hk).1)⟩, ownsRow_tch h.rh t (fun g hg he => (h.ah g hg).2.2 he), ownsRow_tch h.rg t (fun g hg he => (h.ag g hg).2 he), hr, fun g hg' => ⟨(h.ah g hg').1, (h.ah g hg').2.1, fun he => ?_⟩, fun g hg' => ⟨(h.ag g hg').1, fun he => ?_⟩, fun g hg' hf => ?_, fun q hq => ?_⟩
  · rcases hl g he with h1 | h1
    · exact (h.ah g hg').2.2 h1
    · exact row_newer h.rh h1 hg'
  · rcases hl g he with h1 | h1
    · exact (h.ag g hg').2 h1
    · exact row_newer h.rg h1 hg'
  · rcases hl g hg' with h1 | h1
    · exact h.ak g h1 hf
    · have := (h.live.1.lt g hf).2; omega
  · obtain ⟨b1, b2, b3, b4, b5⟩ := h.bx q hq
    refine ⟨(t.block _ (box_lt b1) b5).trans b1, b2, b3, b4, fun he => ?_⟩
    rcases hl _ he with h1 | h1
    · exact b5 h1
    · have := box_lt b1; omega
/-- A block more that nobody touches. -/
theorem BM.box (h : BM w0 w F p s n hv held gv gone kv known bs) (o : Obj) : BM w0 (w.alloc o) F p s n hv held gv gone kv known ((w.heap.size, o) :: bs) := by
  have h1 := h.same (w' := w.alloc o) (Tch.alloc _ _ _)
  refine ⟨h1.live, h1.rh, h1.rg, h1.rk, h1.ah, h1.ag, h1.ak, fun q hq => ?_⟩
  rcases List.mem_cons.1 hq with rfl | hq
  · exact ⟨heap_alloc_new w o, fun hf => by have := (h.live.1.lt _ hf).2; omega, row_newer h.rh (Nat.le_refl _), row_newer h.rg (Nat.le_refl _), row_newer h.rk (Nat.le_refl _)⟩
  · exact h1.bx q hq
theorem PoolM.lift {w : World} {B : Nat} {F : Nat → Prop} {p : Nat} {s : St} {n m : Nat} (h : PoolM w B F p s n) (hm : n ≤ m) : PoolM w B F p s m := h.mono hm
theorem BM.mono (h : BM w0 w F p s n hv held gv gone kv known bs) {m : Nat} (hm : n ≤ m) : BM w0 w F p s m hv held gv gone kv known bs := ⟨⟨h.live.1.mono hm, h.live.2⟩, h.rh, h.rg, h.rk, h.ah, h.ag, h.ak, h.bx⟩
/-- A block that is new becomes one that nobody touches. -/
theorem BM.addBox (h : BM w0 w F p s n hv held gv gone kv known bs) {b : Nat} {o : Obj} (hb : w.heap[b]? = some o) (h1 : ¬ F b) (h2 : hv.ownBlock ≠ some b) (h3 : gv.ownBlock ≠ some b) (h4 : kv.ownBlock ≠ some b) : BM w0 w F p s n hv held gv gone kv known ((b, o) :: bs) := by
  refine ⟨h.live, h.rh, h.rg, h.rk, h.ah, h.ag, h.ak, fun q hq => ?_⟩
  rcases List.mem_cons.1 hq with rfl | hq
  · exact ⟨hb, h1, h2, h3, h4⟩
  · exact h.bx q hq
theorem ri_at {w : World} {ao : Option Addr} {n cap : Nat} {l : List Int} (h : RI w (.slice ao n cap) l) {i : Nat} {x : Int} (hx : l[i]? = some x) : ∃ b off, ao = some ⟨b, off, none⟩ ∧ w.cell? ⟨b, off + i, none⟩ = some (.int .i64 x) := by
  obtain ⟨ao', cap', h1, h2⟩ := h
  cases h1
  exact h2 i x hx
/-- A quiet call inside a region that draws. -/
theorem quiet_same {P : Program} {f : FuncId} {args : Array Value} {w : World} {n : Nat} {v : Value} (h : Calls P f args (w.drewN n) fun e w' => e = .returned v ∧ w.drewN n = w') : Calls P f args (w.drewN n) fun e w'' => e = .returned v ∧ ∃ m, w'' = w.drewN m :=
  h.mono fun _ _ ⟨he, hm⟩ => ⟨he, n, hm.symm⟩
theorem ri_keep {w w' : World} {v : Value} {l : List Int} (h : RI w v l) (hk : ∀ g, v.ownBlock = some g → w'.heap[g]? = w.heap[g]?) : RI w' v l := by
  obtain ⟨ao, cap, rfl, h⟩ := h
  refine ⟨ao, cap, rfl, fun i x hx => ?_⟩
  obtain ⟨b, off, rfl, hc⟩ := h i x hx
  exact ⟨b, off, rfl, (World.cell?_of_block (w := w) (hk b rfl)).trans hc⟩
theorem grown_of_below {w w' : World} (h : Below w.heap.size w w') (row : Option Nat) : w.grownBy w' row := ⟨h.os, h.tape, h.output, h.size, fun k hk _ => h.block k hk⟩
theorem BM.unbox (h : BM w0 w F p s n hv held gv gone kv known bs) : BM w0 w F p s n hv held gv gone kv known [] := ⟨h.live, h.rh, h.rg, h.rk, h.ah, h.ag, h.ak, fun q hq => by cases hq⟩
end
theorem app_take_len (a x : List Int) (k : Nat) : (a ++ x.take k).length ≤ a.length + x.length := by
  rw [List.length_append, List.length_take]; omega
theorem nn_lt {a b : Nat} (h : a < b) : (a : Int) < (b : Int) := by omega
theorem nn_ge {a b : Nat} (h : ¬ a < b) : decide ((a : Int) < (b : Int)) = false := decide_eq_false (by omega)
theorem nn_eq {a b : Nat} (h : a ≤ b) (h2 : ¬ a < b) : a = b := by omega
theorem nn_zero {k : Nat} (h : k = 0) : decide ((0 : Int) < (k : Int)) = false := decide_eq_false (by omega)
theorem nn_pos {k k' : Nat} (h : k = k' + 1) : decide ((0 : Int) < (k : Int)) = true := decide_eq_true (by omega)
theorem nn_pred {k k' m : Nat} (h : k = k' + 1) (hk : k < m) (hm : m < 8796093022208) : wrap64 ((k : Int) - 1) = (k' : Int) := by unfold wrap64; omega
theorem nn_pred0 {k k' : Nat} (h : k = k' + 1) : (k : Int) - 1 = (k' : Int) ∧ ((k : Int) - 1).toNat = k' := ⟨by omega, by omega⟩
theorem nn_predlt0 {k k' m : Nat} (h : k = k' + 1) (hk : k < m) : k' < m := by omega
theorem nn_predlt {k k' m : Nat} (h : k = k' + 1) (hk : k < m) : (k' : Int) < (m : Int) := by omega
theorem nn_succ {k m : Nat} (hk : k < m) (hm : m < 8796093022208) : wrap64 ((k : Int) + 1) = ((k + 1 : Nat) : Int) := by unfold wrap64; omega
theorem nn_le {y z : Int} (h : z < y) : decide (y ≤ z) = false := decide_eq_false (by omega)
theorem nn_sub {k m : Nat} (h : k < m) : m - (k + 1) < m - k := by omega
theorem nn_three {a b c most : Int} (n1 : 0 ≤ a) (n2 : 0 ≤ b) (n3 : 0 ≤ c) (n4 : a + b + c ≤ most) (n5 : most ≤ 64) : decide (a < 0) = false ∧ decide (b < 0) = false ∧ decide (c < 0) = false ∧ wrap64 (a + b) = a + b ∧ wrap64 (a + b + c) = a + b + c ∧ decide (most < a + b + c) = false :=
  ⟨decide_eq_false (by omega), decide_eq_false (by omega), decide_eq_false (by omega), by unfold wrap64; omega, by unfold wrap64; omega, decide_eq_false (by omega)⟩
theorem app_room {n m : Nat} (h1 : n ≤ m) (h2 : m < 8796093022208) : n < 4611686018427387904 ∧ n + 1 ≤ maxLen ∧ (n + 1) * 8 ≤ 140737488355328 := ⟨by omega, by unfold maxLen; omega, by omega⟩
theorem in_not {w : World} {v : Value} {l : List Int} (h : RI w v l) (hl : l.length < 4611686018427387904) {n : Int} (hn : n ∉ l) : Calls Try.prog 12 #[v, .int .i64 n] w fun e w' => e = .returned (.bool false) ∧ w = w' := by
  have := in_any h hl n
  rwa [show decide (n ∈ l) = false from decide_eq_false hn] at this
theorem known_at {w : World} {base m kcap : Nat} {ko : Option Addr} {known : List CallT} (h : w.ownsRow base 39 4 (.slice ko m kcap) known.length (kcells known)) {k : Nat} (hk : k < m) :
    ∃ kb nm, ko = some ⟨kb, 0, none⟩ ∧ w.cell? ⟨kb, k * 4 + 1, none⟩ = some (.string nm) := by
  rcases h.2 with ⟨h0, h1⟩ | ⟨g', cp, cur, h0, r⟩
  · simp only [Value.slice.injEq] at h0; omega
  · simp only [Value.slice.injEq] at h0
    obtain ⟨rfl, hm, rfl⟩ := h0
    have hkl : k < known.length := by omega
    subst hm
    have h1 := h.cellAt (k * 4 + 1) (by omega)
    refine ⟨g', known[k].2.1, rfl, ?_⟩
    rw [h1, Nat.mul_comm k 4, kcells_at (List.getElem?_eq_getElem hkl) 1 (by omega)]
    rfl
theorem counts_le {w0 w : World} {F : Nat → Prop} {p n : Nat} {s : St} {most : Int} (h : Live w0 w F p s n) (hm : s.most = most) (e : ByteArray) :
    ∃ a b c : Int, 0 ≤ a ∧ 0 ≤ b ∧ 0 ≤ c ∧ a + b + c ≤ most ∧ most ≤ 64 ∧ Calls Try.prog 13 #[.pointer (some ⟨p, 0, none⟩), .string e] w fun e' w' => e' = .returned (.tuple #[.int .i64 a, .int .i64 b, .int .i64 c]) ∧ Tch No w w' := by
  have h1 := h.1.inv.tot e
  have h2 := h.1.inv.m
  exact ⟨_, _, _, by omega, by omega, by omega, by omega, by omega, counts_any h.1 e⟩
theorem next_gone {x held gone : List Int} (hnx : ∀ y ∈ x, y ∉ held ∧ y ∉ gone) (hsx : x.Pairwise (· < ·)) {k : Nat} (hk : k < x.length) :
    ∃ y, x[k]? = some y ∧ y ∉ held ∧ y ∉ gone ++ x.take k ∧ x.take (k + 1) = x.take k ++ [y] ∧ (k = 0 ∨ ∃ (k' : Nat) (z : Int), k = k' + 1 ∧ x[k']? = some z ∧ z < y) := by
  have hxk := List.getElem?_eq_getElem hk
  have hin := hnx _ (List.getElem_mem hk)
  refine ⟨x[k], hxk, hin.1, ?_, by rw [List.take_add_one, hxk]; rfl, ?_⟩
  · rw [List.mem_append]
    rintro (h | h)
    · exact hin.2 h
    · obtain ⟨j, hj⟩ := List.mem_iff_getElem?.1 h
      have hjk : j < k := by
        have := (List.getElem?_eq_some_iff.1 hj).1
        rw [List.length_take] at this; omega
      rw [List.getElem?_take_of_lt hjk] at hj
      obtain ⟨a1, a2⟩ := List.getElem?_eq_some_iff.1 hj
      have := List.pairwise_iff_getElem.1 hsx j k a1 hk hjk
      omega
  · rcases Nat.eq_zero_or_pos k with h0 | h0
    · exact .inl h0
    · exact .inr ⟨k - 1, x[k - 1], by omega, List.getElem?_eq_getElem (by omega), List.pairwise_iff_getElem.1 hsx (k - 1) k (by omega) hk (by omega)⟩
/-- What Expire hands back lies in a block that nobody touches. -/
theorem BM.expired {w0 w w' : World} {F : Nat → Prop} {p n n' : Nat} {s s' : St} {hv gv kv : Value} {held gone : List Int} {known : List CallT} {bs : List (Nat × Obj)} (h : BM w0 w F p s n hv held gv gone kv known bs) {v : Value} {m : Nat} {xs : List Value} (hP : PoolM w' w0.heap.size F p s' n') (t : Tch F w w') (hr : w'.ownsRow w.heap.size 3 1 v m xs) :
    ∃ bs', BM w0 w' F p s' n' hv held gv gone kv known bs' ∧ ∀ g, v.ownBlock = some g → ∃ o, (g, o) ∈ bs' ∧ w'.heap[g]? = some o := by
  have h1 : BM w0 w' F p s' n' hv held gv gone kv known bs := ⟨⟨hP, tch_below h.live t⟩, ownsRow_tch h.rh t (fun g hg => (h.ah g hg).1), ownsRow_tch h.rg t (fun g hg => (h.ag g hg).1), ownsRow_tch h.rk t (fun g hg => h.ak g hg), h.ah, h.ag, h.ak,
    fun q hq => ⟨(t.block _ (box_lt (h.bx q hq).1) (h.bx q hq).2.1).trans (h.bx q hq).1, (h.bx q hq).2⟩⟩
  rcases hr.2 with ⟨rfl, _⟩ | ⟨g, cp, cur, rfl, hge, hcur, _⟩
  · exact ⟨bs, h1, fun g hg => by cases hg⟩
  · refine ⟨(g, _) :: bs, h1.addBox hcur (fun hf => by have := (h.live.1.lt g hf).2; omega) (row_newer h.rh hge) (row_newer h.rg hge) (row_newer h.rk hge), fun g' hg' => ?_⟩
    cases hg'
    exact ⟨_, List.mem_cons_self, hcur⟩
end Go.Proofs.Ytpebcamnmeppaaa
namespace Go.Mp
open Go.RowKit
/-- 'append(v, x)', x of four cells. -/
theorem wp_append_four {P : Program} {w : World} {ops : Array Oper} {rest : List Oper} {o : Oper} {a : Act} {Q : Exit → Act → World → Prop} {u1 u2 u3 u4 : Value} {e' : TypeId} (hgd : o.guard = none) (s x : Operand) (t : TypeId)
    (ho : o.op = .call { callee := .builtin .append, args := #[s, x], argTypes := #[t, t] })
    (base : Nat) (e : TypeId) (i : TypeInfo) (z : Value) (bytes : Nat) (ht : P.underlying t = some (.slice e)) (hi : P.info? e = some i) (hz : i.zero = some z)
    (hsize : i.size = 4) (hby : i.bytes = bytes) (hzs : z.cells.size = 4)
    (v : Value) (n : Nat) (xs : List Value) (hs : a.eval s = v) (hown : w.ownsRow base e 4 v n xs)
    (c : Nat) (hx : a.eval x = .slice (some ⟨w.heap.size, 0, none⟩) 1 c) (h1 : ∀ u ∈ [u1, u2, u3, u4], u.oneCell' = true)
    (h63 : n + 1 ≤ maxLen) (hbytes : (n + 1) * bytes ≤ 140737488355328) (hbase : base ≤ w.heap.size)
    (h : ∀ v' w', w'.ownsRow base e 4 v' (n + 1) (xs ++ [u1, u2, u3, u4]) → w.grownBy w' v.ownBlock → (∀ g, v'.ownBlock = some g → v.ownBlock = some g ∨ w.heap.size ≤ g) → wpList P ops Q rest (a.put o.dst v') w') :
    wpList P ops Q (o :: rest) a (w.alloc (.cells #[u1, u2, u3, u4] e')) := by
  refine wpList_append_own_at _ hgd s x t ho base e i z 4 bytes ht hi hz hsize hby hzs (by decide) v n xs hs (hown.alloc _) ⟨w.heap.size, 0, none⟩ 1 c [u1, u2, u3, u4] hx rfl ?_ h1 h63 hbytes ?_ ?_
  · intro j y hj
    match j, hj with
    | 0, hj => simp at hj; subst hj; simp [Addr.add]
    | 1, hj => simp at hj; subst hj; simp [Addr.add]
    | 2, hj => simp at hj; subst hj; simp [Addr.add]
    | 3, hj => simp at hj; subst hj; simp [Addr.add]
  · simp; omega
  · intro v' w' hown' hg hnil hloc
    refine h v' w' hown' (grownBy_alloc_left hg) ?_
    intro g hg'
    rcases hloc with hl | hl
    · exact .inl (by rw [← hl]; exact hg')
    · rw [hl] at hg'; cases hg'; exact .inr (by simp)
end Go.Mp
