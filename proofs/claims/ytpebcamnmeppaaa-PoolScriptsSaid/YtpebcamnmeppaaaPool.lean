/- A pool in memory, and what keeps it. -/
import Derived.Test.YtpebcamnmeppaaaMem
import Derived.OwnWalk
import Derived.Deep.LoopGhost
import Derived.Deep.DeepCutAuto
import Derived.Lib.Strings
namespace Go.Proofs.Ytpebcamnmeppaaa
open Go.RowKit Go.Mp Go.Po
set_option linter.unusedVariables false
def connC (c : C) (fr : Bool) (t : Int) : Obj := .cells #[.string c.ep, .bool fr, .int .i64 c.since, .int .i64 t] 58
structure PM (w : World) (B : Nat) (F : Nat → Prop) (p bc bk : Nat) (blk : Int → Nat) (turn : Int → Int) (turns : Int) (g : ByteArray → Option Value) (f : Int → Option Value) (s : St) : Prop where
  hp : w.heap[p]? = some (.cells #[.int .i64 s.most, .int .i64 s.wait, .map (some bc), .map (some bk), .int .i64 turns] 55)
  conns : MapS ik w bc f
  fsome : ∀ c ∈ s.all, f c.id = some (.pointer (some ⟨blk c.id, 0, none⟩))
  fnone : ∀ i, (∀ c ∈ s.all, c.id ≠ i) → f i = none
  counts : MapS sk w bk g
  gs : ∀ e, (g e).getD (agg3 0 0 0) = agg3 (of s.busy e) (of s.free e) (kof s.kept e)
  busy : ∀ c ∈ s.busy, w.heap[blk c.id]? = some (connC c false (turn c.id))
  free : ∀ c ∈ s.free, w.heap[blk c.id]? = some (connC c true (turn c.id))
  ne : bc ≠ bk
  inj : ∀ c ∈ s.all, ∀ d ∈ s.all, blk c.id = blk d.id → c.id = d.id
  own : F p ∧ F bc ∧ F bk ∧ ∀ c ∈ s.all, F (blk c.id)
  lt : ∀ k, F k → B ≤ k ∧ k < w.heap.size
  ord : s.free.Pairwise fun a b => turn a.id < turn b.id
  tl : ∀ c ∈ s.free, turn c.id ≤ turns
  inv : Inv s
  t0 : 0 ≤ turns
def PoolM (w : World) (B : Nat) (F : Nat → Prop) (p : Nat) (s : St) (n : Nat) : Prop := ∃ bc bk blk turn turns g f, PM w B F p bc bk blk turn turns g f s ∧ turns ≤ n
theorem PM.tch {w w' : World} {B : Nat} {F S : Nat → Prop} {p bc bk : Nat} {blk : Int → Nat} {turn : Int → Int} {turns : Int} {g : ByteArray → Option Value} {f : Int → Option Value} {s : St} (h : PM w B F p bc bk blk turn turns g f s) (t : Tch S w w') (hn : ∀ k, F k → ¬ S k) : PM w' B F p bc bk blk turn turns g f s := by
  have hb : ∀ k, F k → w'.heap[k]? = w.heap[k]? := fun k hk => t.block k (h.lt k hk).2 (hn k hk)
  obtain ⟨o1, o2, o3, o4⟩ := h.own
  exact ⟨(hb p o1).trans h.hp, h.conns.keep (hb bc o2), h.fsome, h.fnone, h.counts.keep (hb bk o3), h.gs, fun c hc => (hb _ (o4 c (List.mem_append_left _ hc))).trans (h.busy c hc), fun c hc => (hb _ (o4 c (List.mem_append_right _ hc))).trans (h.free c hc),
    h.ne, h.inj, h.own, fun k hk => ⟨(h.lt k hk).1, Nat.lt_of_lt_of_le (h.lt k hk).2 t.size⟩, h.ord, h.tl, h.inv, h.t0⟩
theorem PoolM.tch {w w' : World} {B : Nat} {F S : Nat → Prop} {p : Nat} {s : St} {n : Nat} (h : PoolM w B F p s n) (t : Tch S w w') (hn : ∀ k, F k → ¬ S k) : PoolM w' B F p s n := by
  obtain ⟨bc, bk, blk, turn, turns, g, f, h1, h2⟩ := h
  exact ⟨bc, bk, blk, turn, turns, g, f, h1.tch t hn, h2⟩
theorem PoolM.mono {w : World} {B : Nat} {F : Nat → Prop} {p : Nat} {s : St} {n m : Nat} (h : PoolM w B F p s n) (hm : n ≤ m) : PoolM w B F p s m := by
  obtain ⟨bc, bk, blk, turn, turns, g, f, h1, h2⟩ := h
  exact ⟨bc, bk, blk, turn, turns, g, f, h1, by omega⟩
theorem PoolM.inv {w : World} {B : Nat} {F : Nat → Prop} {p : Nat} {s : St} {n : Nat} (h : PoolM w B F p s n) : Inv s := by
  obtain ⟨_, _, _, _, _, _, _, h1, _⟩ := h
  exact h1.inv
theorem PoolM.lt {w : World} {B : Nat} {F : Nat → Prop} {p : Nat} {s : St} {n : Nat} (h : PoolM w B F p s n) : ∀ k, F k → B ≤ k ∧ k < w.heap.size := by
  obtain ⟨_, _, _, _, _, _, _, h1, _⟩ := h
  exact h1.lt
/-- What a call leaves. -/
def Post (w : World) (B : Nat) (F : Nat → Prop) (p : Nat) (s' : St) (n : Nat) (w' : World) : Prop := ∃ F', PoolM w' B F' p s' n ∧ Tch F w w' ∧ ∀ k, F' k → F k ∨ w.heap.size ≤ k
theorem post_same {w w' : World} {B : Nat} {F : Nat → Prop} {p : Nat} {s : St} {n : Nat} (h : PoolM w B F p s n) (t : Tch No w w') : Post w B F p s n w' := ⟨F, h.tch t (fun _ _ h => h), t.mono (fun _ h => h.elim), fun _ h => .inl h⟩
/-! ### which connection an id is -/
theorem PM.of_some {w : World} {B : Nat} {F : Nat → Prop} {p bc bk : Nat} {blk : Int → Nat} {turn : Int → Int} {turns : Int} {g : ByteArray → Option Value} {f : Int → Option Value} {s : St} (h : PM w B F p bc bk blk turn turns g f s) {i : Int} {v : Value} (hf : f i = some v) : ∃ c ∈ s.all, c.id = i ∧ v = .pointer (some ⟨blk c.id, 0, none⟩) := by
  by_cases hi : ∃ c ∈ s.all, c.id = i
  · obtain ⟨c, hc, rfl⟩ := hi
    rw [h.fsome c hc] at hf
    cases hf
    exact ⟨c, hc, rfl, rfl⟩
  · rw [h.fnone i (fun c hc he => hi ⟨c, hc, he⟩)] at hf
    cases hf
section
variable {w : World} {B : Nat} {F : Nat → Prop} {p bc bk : Nat} {blk : Int → Nat} {turn : Int → Int} {turns : Int} {g : ByteArray → Option Value} {f : Int → Option Value} {s : St}
theorem PM.np (h : PM w B F p bc bk blk turn turns g f s) : p ≠ bc ∧ p ≠ bk := by
  obtain ⟨_, _, h1, _⟩ := h.conns
  obtain ⟨_, _, h2, _⟩ := h.counts
  have h0 := h.hp
  constructor
  · rintro rfl; rw [h0] at h1; cases h1
  · rintro rfl; rw [h0] at h2; cases h2
theorem PM.at (h : PM w B F p bc bk blk turn turns g f s) {c : C} (hc : c ∈ s.all) : ∃ fr, w.heap[blk c.id]? = some (connC c fr (turn c.id)) := by
  rcases List.mem_append.1 hc with hc | hc
  · exact ⟨_, h.busy c hc⟩
  · exact ⟨_, h.free c hc⟩
theorem PM.nb (h : PM w B F p bc bk blk turn turns g f s) {c : C} (hc : c ∈ s.all) : blk c.id ≠ p ∧ blk c.id ≠ bc ∧ blk c.id ≠ bk := by
  obtain ⟨_, _, h1, _⟩ := h.conns
  obtain ⟨_, _, h2, _⟩ := h.counts
  have h0 := h.hp
  obtain ⟨fr, h3⟩ := h.at hc
  refine ⟨fun e => ?_, fun e => ?_, fun e => ?_⟩
  · rw [e, h0] at h3; cases h3
  · rw [e, h1] at h3; cases h3
  · rw [e, h2] at h3; cases h3
end
/-! ### Counts -/
theorem counts_any {w : World} {B : Nat} {F : Nat → Prop} {p n : Nat} {s : St} (h : PoolM w B F p s n) (e : ByteArray) : Calls Try.prog 13 #[.pointer (some ⟨p, 0, none⟩), .string e] w fun e' w' => e' = .returned (.tuple #[.int .i64 (of s.busy e), .int .i64 (of s.free e), .int .i64 (kof s.kept e)]) ∧ Tch No w w' := by
  obtain ⟨bc, bk, blk, turn, turns, g, f, h, _⟩ := h
  have c3 : w.cell? ⟨p, 3, none⟩ = some (.map (some bk)) := (cell_of_row _ _ 3 _ _ _ h.hp).trans rfl
  have hlk : (Instr.lookup 53 (.map (some bk)) (.string e) false).run Try.prog w = .ok (agg3 (of s.busy e) (of s.free e) (kof s.kept e)) w := by rw [← h.gs e]; exact h.counts.look (t := 53) (e := 60) Try.underlying53 (zero60 w) false e
  generalize of s.busy e = x at *
  generalize of s.free e = y at *
  generalize kof s.kept e = z at *
  clear h
  go_enter Try.func13, Try.ntmps13
  go_wp2
  go_quiet (fail)
  go_wp2
  go_ret3
  exact ⟨rfl, (Tch.alloc _ _ _).trans (Tch.drewN _ _ _) (fun _ h => .inl h)⟩
theorem bytes_of_toList {a b : ByteArray} (h : a.toList = b.toList) : a = b := by
  rw [Lib.toList_data, Lib.toList_data] at h
  cases a; cases b
  have := Array.toList_inj.1 h
  simp_all
/-! ### Take -/
def Best (s : St) (e : ByteArray) (turn : Int → Int) (left : Int → Prop) (a : Int) : Prop :=
  (a = -1 ∧ ∀ c ∈ s.free, c.ep = e → left c.id) ∨ (∃ c ∈ s.free, c.ep = e ∧ a = c.id ∧ ∀ d ∈ s.free, d.ep = e → ¬ left d.id → turn d.id ≤ turn c.id)
theorem take_any {w : World} {B : Nat} {F : Nat → Prop} {p n : Nat} {s : St} (h : PoolM w B F p s n) (e : ByteArray) : Calls Try.prog 8 #[.pointer (some ⟨p, 0, none⟩), .string e] w fun e' w' => e' = .returned (.tuple #[.int .i64 (take s e).1.1, .bool (take s e).1.2.1, .int .i64 (take s e).1.2.2]) ∧ Post w B F p (take s e).2 n w' := by
  obtain ⟨bc, bk, blk, turn, turns, g, f, h, htn⟩ := h
  have c2 : w.cell? ⟨p, 2, none⟩ = some (.map (some bc)) := (cell_of_row _ _ 2 _ _ _ h.hp).trans rfl
  have c3 : w.cell? ⟨p, 3, none⟩ = some (.map (some bk)) := (cell_of_row _ _ 3 _ _ _ h.hp).trans rfl
  have hH := Lib.hid h
  have hcon := h.conns
  clear h
  go_enter Try.func8, Try.ntmps8
  go_wp2_with (first | (at_range; refine wp_range rfl _ 52 rfl ik 56 Try.underlying52 bc f rfl hcon ?_; intro w0 hrg hb0 hs0) | fail)
  go_frame
  have hb00 : Best s e turn (fun k => f k ≠ none) (-1) := .inl ⟨rfl, fun c hc _ => by show f c.id ≠ none; rw [hH.out.fsome c (List.mem_append_right _ hc)]; simp⟩
  go_loopg [7] (w0.rangeLeft bc w.heap.size) (fun gg at' wr => ∃ (left : Int → Prop) (a : Int), at' = .int .i64 a ∧ gg = wr.rangeLeft bc w.heap.size ∧ RangeS ik wr bc w.heap.size f left ∧ Below w.heap.size w wr ∧ Best s e turn left a)
  case atStart => exact ⟨_, -1, rfl, rfl, hrg, hb0, hb00⟩
  case round =>
    obtain ⟨left, a, rfl, rfl, hrg, hbl, hbest⟩ := hrel
    go_wp2_with (first | (at_next; refine wp_next rfl _ rfl ik bc w.heap.size f left rfl hrg ?_ ?_) | fail)
    · intro hl0
      have hw := hH.out.tch (Tch.of_below (S := No) hbl) (fun _ _ h => h)
      have hT0 : Tch F w wr := Tch.of_below hbl
      have hpl : p < w.heap.size := (hH.out.lt _ hH.out.own.1).2
      have e2 : wr.cell? ⟨p, 2, none⟩ = some (.map (some bc)) := (hbl.cell hpl).trans c2
      have e3 : wr.cell? ⟨p, 3, none⟩ = some (.map (some bk)) := (hbl.cell hpl).trans c3
      have e0 : wr.cell? ⟨p, 0, none⟩ = some (.int .i64 s.most) := (cell_of_row _ _ 0 _ _ _ hw.hp).trans rfl
      replace hl0 := Lib.hid hl0
      clear c2 c3 hcon
      rcases hbest with ⟨rfl, h2⟩ | ⟨c, hcf, rfl, rfl, h4⟩
      · have hnone : lastOf s.free e = none := by
          rw [lastOf, List.getLast?_eq_none_iff, List.filter_eq_nil_iff]
          intro c hc he
          exact hl0.out _ (h2 c hc (by simpa using he))
        have htk : take s e = if s.most ≤ (of s.busy e : Int) + kof s.kept e then ((-1, false, 260), s) else ((-1, true, 0), { s with kept := s.kept ++ [e] }) := by rw [take, hnone]
        have hinv := take_inv hH.out.inv e
        have hlk3 : (Instr.lookup 53 (.map (some bk)) (.string e) false).run Try.prog wr = .ok (agg3 (of s.busy e) (of s.free e) (kof s.kept e)) wr := by rw [← hH.out.gs e]; exact hw.counts.look (t := 53) (e := 60) Try.underlying53 (zero60 wr) false e
        have hgs := hH.out.gs e
        have htot := hH.out.inv.tot e
        have hm := hH.out.inv.m
        have hwx : wrap64 ((of s.busy e : Int) + kof s.kept e) = (of s.busy e : Int) + kof s.kept e := by unfold wrap64; omega
        have hzf : of s.free e = 0 := List.countP_eq_zero.2 (fun c hc => by simpa using lastOf_none hnone c hc)
        have e0' : (wr.alloc (.cells #[.int .i64 (of s.busy e), .int .i64 (of s.free e), .int .i64 (kof s.kept e)] 60)).cell? ⟨p, 0, none⟩ = some (.int .i64 s.most) := (Tch.alloc No wr _).cell_some e0 id
        have hTa := Tch.alloc No wr (.cells #[.int .i64 (of s.busy e), .int .i64 (of s.free e), .int .i64 (kof s.kept e)] 60)
        replace h2 := Lib.hid h2
        replace hgs := Lib.hid hgs
        replace hzf := Lib.hid hzf
        replace hnone := Lib.hid hnone
        replace hw := Lib.hid hw
        replace hTa := Lib.hid hTa
        by_cases hle : s.most ≤ (of s.busy e : Int) + kof s.kept e
        · rw [if_pos hle] at htk
          rw [htk] at hinv
          replace htk := Lib.hid htk
          have k1 : decide (s.most ≤ (of s.busy e : Int) + kof s.kept e) = true := decide_eq_true hle
          go_wp2_with fail
          go_quiet (fail)
          go_wp2_with fail
          go_ret3
          rw [htk.out]
          exact ⟨rfl, post_same ⟨bc, bk, blk, turn, turns, g, f, hH.out, htn⟩ (((Tch.of_below hbl).trans hTa.out (fun _ h => .inl h)).trans (Tch.drewN _ _ _) (fun _ h => .inl h))⟩
        · rw [if_neg hle] at htk
          rw [htk] at hinv
          replace htk := Lib.hid htk
          have k1 : decide (s.most ≤ (of s.busy e : Int) + kof s.kept e) = false := decide_eq_false hle
          go_wp2_with fail
          go_quiet (fail)
          have hT1 : Tch No wr ((wr.alloc (.cells #[.int .i64 (of s.busy e), .int .i64 (of s.free e), .int .i64 (kof s.kept e)] 60)).drewN nq) := hTa.out.trans (Tch.drewN _ _ _) (fun _ h => .inl h)
          have hw1 := hw.out.tch hT1 (fun _ _ h => h)
          have hcc := count2 hw1.hp hw1.counts e 1 _ _ _ (hw1.gs e) ⟨by omega, by omega, by omega, by omega⟩
          replace hw1 := Lib.hid hw1
          replace hT1 := Lib.hid hT1
          go_wp2_with (first | (go_at_call 23; refine hcc.mono ?_; rintro _ w2 ⟨rfl, hM, hT2⟩) | fail)
          go_ret3
          rw [htk.out]
          have hbk : F bk := hH.out.own.2.2.1
          have hT3 : Tch (fun k => k = bk) w w2 := (((Tch.of_below hbl).trans hT1.out (fun _ h => .inl h)).mono (fun _ h => h.elim) : Tch (fun k => k = bk) w _).trans hT2 (fun _ h => .inl h)
          have hm1 := hw1.out
          refine ⟨rfl, F, ⟨bc, bk, blk, turn, turns, _, f, ⟨(hT2.block p (hm1.lt _ hm1.own.1).2 hm1.np.2).trans hm1.hp, hm1.conns.tch hT2 hm1.ne, hm1.fsome, hm1.fnone, hM, fun e' => ?_, fun c hc => (hT2.block _ (hm1.lt _ (hm1.own.2.2.2 c (List.mem_append_left _ hc))).2 (hm1.nb (List.mem_append_left _ hc)).2.2).trans (hm1.busy c hc),
            fun c hc => (hT2.block _ (hm1.lt _ (hm1.own.2.2.2 c (List.mem_append_right _ hc))).2 (hm1.nb (List.mem_append_right _ hc)).2.2).trans (hm1.free c hc), hm1.ne, hm1.inj, hm1.own, fun k hk => ⟨(hm1.lt k hk).1, Nat.lt_of_lt_of_le (hm1.lt k hk).2 hT2.size⟩, hm1.ord, hm1.tl, hinv, hm1.t0⟩, htn⟩, hT3.mono (fun k hk => by rw [hk]; exact hbk), fun k hk => .inl hk⟩
          by_cases he : e' = e
          · subst he
            rw [upd_same]
            show agg3 _ _ _ = agg3 _ _ _
            rw [kof_append, kof_one, if_pos rfl]
            rfl
          · rw [upd_other _ _ he, hm1.gs e']
            show agg3 _ _ _ = agg3 _ _ _
            rw [kof_append, kof_one, if_neg (fun h => he h.symm)]
            rfl
      · have hcA : c ∈ s.all := List.mem_append_right _ hcf
        have hlast : lastOf s.free c.ep = some c := lastOf_greatest hH.out.ord hcf rfl (fun d hd he => h4 d hd he (hl0.out _))
        have htk : take s c.ep = ((c.id, false, 0), { s with busy := s.busy ++ [c], free := but c.id s.free }) := by rw [take, hlast]
        have hinv := take_inv hH.out.inv c.ep
        rw [htk] at hinv
        have hid0 : (0 : Int) ≤ c.id := (hH.out.inv.pos c hcA).1
        have k1 : decide ((0 : Int) ≤ c.id) = true := decide_eq_true hid0
        have hlk3 : (Instr.lookup 52 (.map (some bc)) (.int .i64 c.id) false).run Try.prog wr = .ok (.pointer (some ⟨blk c.id, 0, none⟩)) wr := by
          have := hw.conns.look (t := 52) (e := 56) Try.underlying52 (zero56 _) false c.id
          rw [hw.fsome c hcA] at this
          exact this
        have hcc := hw.free c hcf
        have f1 : wr.frozen? ⟨blk c.id, 1, none⟩ = false := frozen_of_row _ _ _ _ _ hcc
        have d1 : wr.cell? ⟨blk c.id, 1, none⟩ = some (.bool true) := (cell_of_row _ _ 1 _ _ _ hcc).trans rfl
        have hT1 : Tch (fun k => k = blk c.id) wr (wr.setCell ⟨blk c.id, 1, none⟩ (.bool false)) := Tch.setCell (S := fun k => k = blk c.id) wr (p := ⟨blk c.id, 1, none⟩) rfl _
        have hcc1 : (wr.setCell ⟨blk c.id, 1, none⟩ (.bool false)).heap[blk c.id]? = some (connC c false (turn c.id)) := by
          simp [World.setCell, Array.getElem?_modify, hcc, connC]
        obtain ⟨n1, n2, n3⟩ := hw.nb hcA
        have hp1 := (hT1.block p (hw.lt _ hw.own.1).2 (fun h => n1 h.symm)).trans hw.hp
        have hk1 := hw.counts.tch hT1 (fun h => n3 h.symm)
        have hgs := hw.gs c.ep
        have htot := hH.out.inv.tot c.ep
        have hm := hH.out.inv.m
        have hct1 := count1 hp1 hk1 c.ep (-1) _ _ _ hgs ⟨by omega, by omega, by omega, by omega⟩
        have hnp := hw.np.2
        replace hid0 := Lib.hid hid0
        replace h4 := Lib.hid h4
        replace hlast := Lib.hid hlast
        replace hw := Lib.hid hw
        replace hcc := Lib.hid hcc
        replace hcc1 := Lib.hid hcc1
        replace hT1 := Lib.hid hT1
        replace hgs := Lib.hid hgs
        replace hp1 := Lib.hid hp1
        replace htk := Lib.hid htk
        go_wp2_with (first | (go_at_call 23; have _t := hct1; refine hct1.mono ?_; clear hct1 _t; rintro _ w2 ⟨rfl, hM2, hT2⟩; have hp2 := (hT2.block p (Nat.lt_of_lt_of_le (hw.out.lt _ hw.out.own.1).2 hT1.out.size) hnp).trans hp1.out; have hct2 := count0 hp2 hM2 c.ep 1 _ _ _ (congrArg (fun o => Option.getD o (agg3 0 0 0)) (upd_same _ _ _)) ⟨by omega, by omega, by omega, by omega⟩; replace hp2 := Lib.hid hp2) | (go_at_call 23; have _t := hct2; refine hct2.mono ?_; clear hct2 _t; rintro _ w3 ⟨rfl, hM3, hT3⟩) | fail)
        go_ret3
        rw [htk.out]
        have hm1 := hw.out
        have hown := hm1.own
        have hTa : Tch (fun k => k = blk c.id ∨ k = bk) wr w3 := ((hT1.out.mono (fun k h => .inl h)).trans hT2 (fun k h => .inl (.inr h))).trans hT3 (fun k h => .inl (.inr h))
        have hTw : Tch F w w3 := hT0.trans hTa (fun k h => .inl (by rcases h with rfl | rfl; exact hown.2.2.2 c hcA; exact hown.2.2.1))
        have hall : ∀ d, d ∈ (s.busy ++ [c] ++ but c.id s.free) → d ∈ s.all := fun d hd => by
          simp only [List.mem_append, List.mem_singleton, mem_but] at hd
          rcases hd with (hd | rfl) | hd
          · exact List.mem_append_left _ hd
          · exact hcA
          · exact List.mem_append_right _ hd.1
        have hall' : ∀ d, d ∈ s.all → d ∈ (s.busy ++ [c] ++ but c.id s.free) := fun d hd => by
          simp only [List.mem_append, List.mem_singleton, mem_but]
          rcases List.mem_append.1 hd with hd | hd
          · exact .inl (.inl hd)
          · by_cases hdc : d.id = c.id
            · exact .inl (.inr (one_of hm1.inv (List.mem_append_right _ hd) hcA hdc))
            · exact .inr ⟨hd, hdc⟩
        have hkc : ∀ d ∈ s.all, d.id ≠ c.id → w3.heap[blk d.id]? = wr.heap[blk d.id]? := fun d hd hdc => hTa.block _ (hm1.lt _ (hown.2.2.2 d hd)).2 (fun h => h.elim (fun h => hdc (hm1.inj d hd c hcA h)) (hm1.nb hd).2.2)
        have hcc3 : w3.heap[blk c.id]? = some (connC c false (turn c.id)) := by
          have hl := (Array.getElem?_eq_some_iff.1 hcc1.out).1
          exact ((hT3.block _ (Nat.lt_of_lt_of_le hl hT2.size) n3).trans (hT2.block _ hl n3)).trans hcc1.out
        refine ⟨rfl, F, ⟨bc, bk, blk, turn, turns, _, f, ⟨(hTa.block p (hm1.lt _ hown.1).2 (fun h => h.elim (fun h => n1 h.symm) hm1.np.2)).trans hm1.hp, hm1.conns.tch hTa (fun h => h.elim (fun h => n2 h.symm) hm1.ne), fun d hd => hm1.fsome d (hall d hd), fun i hi => hm1.fnone i (fun d hd => hi d (hall' d hd)), hM3, fun e' => ?_, fun d hd => ?_, fun d hd => ?_,
          hm1.ne, fun d hd d' hd' => hm1.inj d (hall d hd) d' (hall d' hd'), ⟨hown.1, hown.2.1, hown.2.2.1, fun d hd => hown.2.2.2 d (hall d hd)⟩, fun k hk => ⟨(hm1.lt k hk).1, Nat.lt_of_lt_of_le (hm1.lt k hk).2 hTa.size⟩, hm1.ord.filter _, fun d hd => hm1.tl d (mem_but.1 hd).1, hinv, hm1.t0⟩, htn⟩, hTw, fun k hk => .inl hk⟩
        · have ho := of_but (nd_free hm1.inv) hcf e'
          show _ = agg3 (of (s.busy ++ [c]) e') (of (but c.id s.free) e') (kof s.kept e')
          by_cases he : e' = c.ep
          · subst he
            rw [upd_same, of_append, of_one, if_pos rfl]
            rw [if_pos rfl] at ho
            show agg3 _ _ _ = agg3 _ _ _
            rw [ho]
            have e1 : ((of (but c.id s.free) c.ep + 1 : Nat) : Int) + -1 = of (but c.id s.free) c.ep := by omega
            rw [e1]
            rfl
          · rw [upd_other _ _ he, upd_other _ _ he, hm1.gs e', of_append, of_one, if_neg (fun h => he h.symm)]
            rw [if_neg (fun h => he h.symm)] at ho
            rw [← Nat.add_zero (of (but c.id s.free) e'), ← ho]
            rfl
        · rcases List.mem_append.1 hd with hd | hd
          · exact (hkc d (List.mem_append_left _ hd) (nd_apart hm1.inv hd hcf)).trans (hm1.busy d hd)
          · rw [List.mem_singleton] at hd; subst hd; exact hcc3
        · obtain ⟨hd1, hd2⟩ := mem_but.1 hd
          exact (hkc d (List.mem_append_right _ hd1) hd2).trans (hm1.free d hd1)
    · intro k v w1 hlk hfk hrg1 hlt hg1 hs1 hen
      obtain ⟨c, hc, rfl, rfl⟩ := hH.out.of_some hfk
      have hb1 : Below w.heap.size w w1 := hbl.grown hg1 hbl.size (fun j hj => by cases hj; exact Nat.le_refl _)
      have hbk : blk c.id < w.heap.size := (hH.out.lt _ (hH.out.own.2.2.2 c hc)).2
      have hpl : p < w.heap.size := (hH.out.lt _ hH.out.own.1).2
      have c2' : w1.cell? ⟨p, 2, none⟩ = some (.map (some bc)) := (hb1.cell hpl).trans c2
      rcases List.mem_append.1 hc with hcb | hcf
      · have hcc := hH.out.busy c hcb
        have d1 : w1.cell? ⟨blk c.id, 1, none⟩ = some (.bool false) := (hb1.cell hbk).trans ((cell_of_row _ _ 1 _ _ _ hcc).trans rfl)
        have hbest' : Best s e turn (fun j => left j ∧ j ≠ c.id) a := by
          rcases hbest with ⟨h1, h2⟩ | ⟨c', h1, h2, h3, h4⟩
          · exact .inl ⟨h1, fun d hd he => ⟨h2 d hd he, fun hq => nd_apart hH.out.inv hcb hd hq.symm⟩⟩
          · exact .inr ⟨c', h1, h2, h3, fun d hd he hnl => h4 d hd he (fun hl => hnl ⟨hl, fun hq => nd_apart hH.out.inv hcb hd hq.symm⟩)⟩
        replace hbest := Lib.hid hbest
        replace hbest' := Lib.hid hbest'
        replace hcc := Lib.hid hcc
        go_upto_region 7 with fail
        go_quiet (fail)
        go_wp2
        go_roundg (w1.rangeLeft bc w.heap.size)
        case rel => exact ⟨_, a, rfl, rfl, hrg1.keep rfl rfl, hb1.trans ⟨rfl, rfl, rfl, Nat.le_refl _, fun _ _ => rfl⟩, hbest'.out⟩
        case measure => exact hlt
      · have hcc := hH.out.free c hcf
        have d0 : w1.cell? ⟨blk c.id, 0, none⟩ = some (.string c.ep) := (hb1.cell hbk).trans ((cell_of_row _ _ 0 _ _ _ hcc).trans rfl)
        have d1 : w1.cell? ⟨blk c.id, 1, none⟩ = some (.bool true) := (hb1.cell hbk).trans ((cell_of_row _ _ 1 _ _ _ hcc).trans rfl)
        have d3 : w1.cell? ⟨blk c.id, 3, none⟩ = some (.int .i64 (turn c.id)) := (hb1.cell hbk).trans ((cell_of_row _ _ 3 _ _ _ hcc).trans rfl)
        replace hcc := Lib.hid hcc
        by_cases hep : c.ep = e
        · subst hep
          have hs0 : (c.ep.toList == c.ep.toList) = true := by simp
          rcases hbest with ⟨rfl, h2⟩ | ⟨c', h1, h2, rfl, h4⟩
          · -- the first one that fits
            have hbest' : Best s c.ep turn (fun j => left j ∧ j ≠ c.id) c.id := .inr ⟨c, hcf, rfl, rfl, fun d hd he hnl => by
              by_cases hdc : d.id = c.id
              · rw [hdc]; exact Int.le_refl _
              · exact (hnl ⟨h2 d hd he, hdc⟩).elim⟩
            replace hbest' := Lib.hid hbest'
            go_upto_region 7 with fail
            go_quiet (fail)
            go_wp2
            go_roundg (w1.rangeLeft bc w.heap.size)
            case rel => exact ⟨_, c.id, rfl, rfl, hrg1.keep rfl rfl, hb1.trans ⟨rfl, rfl, rfl, Nat.le_refl _, fun _ _ => rfl⟩, hbest'.out⟩
            case measure => exact hlt
          · have hid0 : (0 : Int) ≤ c'.id := (hH.out.inv.pos c' (List.mem_append_right _ h1)).1
            have k0 : decide (c'.id < (0 : Int)) = false := decide_eq_false (by omega)
            have hlk7 : ∀ m, (Instr.lookup 52 (.map (some bc)) (.int .i64 c'.id) false).run Try.prog (w1.drewN m) = .ok (.pointer (some ⟨blk c'.id, 0, none⟩)) (w1.drewN m) := fun m => by
              have := (hrg1.map.keep (w' := w1.drewN m) rfl).look (t := 52) (e := 56) Try.underlying52 (zero56 _) false c'.id
              rw [hH.out.fsome c' (List.mem_append_right _ h1)] at this
              exact this
            have hbk' : blk c'.id < w.heap.size := (hH.out.lt _ (hH.out.own.2.2.2 c' (List.mem_append_right _ h1))).2
            have e3 : w1.cell? ⟨blk c'.id, 3, none⟩ = some (.int .i64 (turn c'.id)) := (hb1.cell hbk').trans ((cell_of_row _ _ 3 _ _ _ (hH.out.free c' h1)).trans rfl)
            replace hid0 := Lib.hid hid0
            by_cases hgt : turn c'.id < turn c.id
            · have hbest' : Best s c.ep turn (fun j => left j ∧ j ≠ c.id) c.id := .inr ⟨c, hcf, rfl, rfl, fun d hd he hnl => by
                by_cases hdc : d.id = c.id
                · rw [hdc]; exact Int.le_refl _
                · have := h4 d hd he (fun hl => hnl ⟨hl, hdc⟩); omega⟩
              replace hbest' := Lib.hid hbest'
              replace h4 := Lib.hid h4
              replace h2 := Lib.hid h2
              have k1 : decide (turn c'.id < turn c.id) = true := decide_eq_true hgt
              go_upto_region 7 with fail
              go_quiet (fail)
              go_wp2
              go_roundg (w1.rangeLeft bc w.heap.size)
              case rel => exact ⟨_, c.id, rfl, rfl, hrg1.keep rfl rfl, hb1.trans ⟨rfl, rfl, rfl, Nat.le_refl _, fun _ _ => rfl⟩, hbest'.out⟩
              case measure => exact hlt
            · have hbest' : Best s c.ep turn (fun j => left j ∧ j ≠ c.id) c'.id := .inr ⟨c', h1, h2, rfl, fun d hd he hnl => by
                by_cases hdc : d.id = c.id
                · rw [hdc]; omega
                · exact h4 d hd he (fun hl => hnl ⟨hl, hdc⟩)⟩
              replace hbest' := Lib.hid hbest'
              replace h4 := Lib.hid h4
              replace h2 := Lib.hid h2
              have k1 : decide (turn c'.id < turn c.id) = false := decide_eq_false hgt
              go_upto_region 7 with fail
              go_quiet (fail)
              go_wp2
              go_roundg (w1.rangeLeft bc w.heap.size)
              case rel => exact ⟨_, c'.id, rfl, rfl, hrg1.keep rfl rfl, hb1.trans ⟨rfl, rfl, rfl, Nat.le_refl _, fun _ _ => rfl⟩, hbest'.out⟩
              case measure => exact hlt
        · have hs0 : (c.ep.toList == e.toList) = false := by
            rw [beq_eq_false_iff_ne]
            exact fun h => hep (bytes_of_toList h)
          have hbest' : Best s e turn (fun j => left j ∧ j ≠ c.id) a := by
            rcases hbest with ⟨h1, h2⟩ | ⟨c', h1, h2, h3, h4⟩
            · exact .inl ⟨h1, fun d hd he => ⟨h2 d hd he, fun hq => hep (by rw [one_of hH.out.inv (List.mem_append_right _ hcf) (List.mem_append_right _ hd) hq.symm]; exact he)⟩⟩
            · exact .inr ⟨c', h1, h2, h3, fun d hd he hnl => h4 d hd he (fun hl => hnl ⟨hl, fun hq => hep (by rw [one_of hH.out.inv (List.mem_append_right _ hcf) (List.mem_append_right _ hd) hq.symm]; exact he)⟩)⟩
          replace hbest := Lib.hid hbest
          replace hbest' := Lib.hid hbest'
          replace hep := Lib.hid hep
          go_upto_region 7 with fail
          go_quiet (fail)
          go_wp2
          go_roundg (w1.rangeLeft bc w.heap.size)
          case rel => exact ⟨_, a, rfl, rfl, hrg1.keep rfl rfl, hb1.trans ⟨rfl, rfl, rfl, Nat.le_refl _, fun _ _ => rfl⟩, hbest'.out⟩
          case measure => exact hlt
end Go.Proofs.Ytpebcamnmeppaaa
