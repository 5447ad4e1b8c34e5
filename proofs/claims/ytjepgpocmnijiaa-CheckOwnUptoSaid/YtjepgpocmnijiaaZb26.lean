/- The walk of the program's Merge. -/
import Derived.Test.YtjepgpocmnijiaaZb24
import Derived.Test.YtjepgpocmnijiaaZb25
section

namespace Go.Proofs.Ytjepgpocmnijiaa
open Go.RowKit Go.Mp Go.Ck
set_option linter.unusedVariables false
set_option maxRecDepth 100000
set_option maxHeartbeats 8000000
/-- How many entries a map has. -/
theorem map_len {K : Type} {kt : TypeId} {κ : KeyOf Try.prog kt K} {w : World} {b : Nat} {f : K → Option Value} (h : MapS κ w b f) {ks : List K} (nd : ks.Nodup) (hk : ∀ k, f k ≠ none ↔ k ∈ ks) : ∃ es clock, w.heap[b]? = some (.map es clock) ∧ es.size = ks.length := by
  obtain ⟨es, clock, hb, hE⟩ := h
  refine ⟨es, clock, hb, ?_⟩
  have h1 : (es.toList.map (·.key)).Nodup := hE.st.2.2
  have h2 : (ks.map κ.kv).Nodup := by
    rw [List.nodup_iff_pairwise_ne, List.pairwise_map]
    exact (List.nodup_iff_pairwise_ne.1 nd).imp fun h e => h (κ.inj e)
  have h3 : (es.toList.map (·.key)).Perm (ks.map κ.kv) := by
    refine (List.perm_ext_iff_of_nodup h1 h2).2 fun a => ?_
    constructor
    · intro ha
      obtain ⟨x, hx, rfl⟩ := List.mem_map.1 ha
      obtain ⟨k, e, hv⟩ := hE.keys x hx
      exact List.mem_map.2 ⟨k, (hk k).1 (by rw [hv]; simp), e.symm⟩
    · intro ha
      obtain ⟨k, hk', rfl⟩ := List.mem_map.1 ha
      cases hf : f k with
      | none => exact absurd hf ((hk k).2 hk')
      | some v =>
        obtain ⟨x, hx, e, _⟩ := hE.all k v hf
        exact List.mem_map.2 ⟨x, hx, e⟩
  have := h3.length_eq
  simpa using this
theorem wp_len_map {P : Program} {w : World} {ops : Array Oper} {rest : List Oper} {o : Oper} {a : Act} {Q : Exit → Act → World → Prop} (hg : o.guard = none) (m : Operand) (t : TypeId) (hop : o.op = Op.call { callee := Callee.builtin Builtin.len, args := #[m], argTypes := #[t] }) {kt e : TypeId} (ht : P.underlying t = some (.map kt e)) (b : Nat) (es : Array MapEntry) (clock : Nat)
    (hm : a.eval m = .map (some b)) (hb : w.heap[b]? = some (.map es clock)) (hK : wpList P ops Q rest (a.put o.dst (.int .i64 es.size)) w) : wpList P ops Q (o :: rest) a w := by
  refine wpList_plain hg fun K' hK' => ?_
  have hrun : (Builtin.len_ #[t] o.type #[.map (some b)]).run P w = .ok (.int .i64 es.size) w := by
    simp [Builtin.len_, run_underlying ht, run_getObj_map w b es clock hb, goInt]
  unfold Oper.wp
  simp [execOp, hop, resolve, invoke, builtin, hm, hrun, Result.andThen]
  exact hK' _ _ hK
def updK (g : Key → Option Rw) (k : Key) (x : Rw) : Key → Option Rw := fun j => if j = k then some x else g j
def delK (g : Key → Option Rw) (k : Key) : Key → Option Rw := fun j => if j = k then none else g j
def valW (x : Rw) : Value := .agg #[.int .i64 x.r.kind, .string x.r.name, .slice x.eo x.r.eps.length x.ec, .slice x.ta x.r.tgts.length x.tc, .string x.r.host, .slice x.ra x.r.rules.length x.rc, .string x.r.route, .bool x.r.del]
theorem valR_upd (g : Key → Option Rw) (k : Key) (x : Rw) : upd (valR g) k (valW x) = valR (updK g k x) := by
  funext j
  unfold upd valR updK
  split
  · rfl
  · rfl
theorem valR_del (g : Key → Option Rw) (k : Key) : del (valR g) k = valR (delK g k) := by
  funext j
  unfold del valR delK
  split
  · rfl
  · rfl
structure Fine (W : World) (x : Rw) : Prop where
  p : x.P W
  s : SzR x.r
/-- A map of resources is what a list says. -/
structure AllR (W wr : World) (mb : Nat) (g : Key → Option Rw) (a : List Res) : Prop where
  m : MapS keyKey wr mb (valR g)
  el : ∀ k x, g k = some x → rk x.r = k ∧ Fine W x
  eq : ∀ k, (g k).map Rw.r = fnd a k
theorem AllR.put {W wr w' : World} {mb : Nat} {g : Key → Option Rw} {a a' : List Res} (h : AllR W wr mb g a) {x : Rw} (hx : Fine W x) (hm : MapS keyKey w' mb (upd (valR g) (rk x.r) (valW x))) (ha : ∀ k, fnd a' k = if rk x.r = k then some x.r else fnd a k) : AllR W w' mb (updK g (rk x.r) x) a' := by
  refine ⟨by rw [← valR_upd]; exact hm, fun k y hy => ?_, fun k => ?_⟩
  · unfold updK at hy
    split at hy
    · rename_i e; cases hy; exact ⟨e.symm, hx⟩
    · exact h.el k y hy
  · rw [ha]
    unfold updK
    by_cases e : k = rk x.r
    · rw [if_pos e, if_pos e.symm]; rfl
    · rw [if_neg e, if_neg (fun q => e q.symm)]; exact h.eq k
theorem AllR.del {W wr w' : World} {mb : Nat} {g : Key → Option Rw} {a a' : List Res} (h : AllR W wr mb g a) {k0 : Key} (hm : MapS keyKey w' mb (del (valR g) k0)) (ha : ∀ k, fnd a' k = if k0 = k then none else fnd a k) : AllR W w' mb (delK g k0) a' := by
  refine ⟨by rw [← valR_del]; exact hm, fun k y hy => ?_, fun k => ?_⟩
  · unfold delK at hy
    split at hy
    · cases hy
    · exact h.el k y hy
  · rw [ha]
    unfold delK
    by_cases e : k = k0
    · rw [if_pos e, if_pos e.symm]; rfl
    · rw [if_neg e, if_neg (fun q => e q.symm)]; exact h.eq k
theorem AllR.tch {W wr w' : World} {mb : Nat} {g : Key → Option Rw} {a : List Res} (h : AllR W wr mb g a) {S : Nat → Prop} (t : Tch S wr w') (hn : ¬ S mb) : AllR W w' mb g a := ⟨h.m.tch t hn, h.el, h.eq⟩
theorem AllR.mapR {W wr : World} {mb : Nat} {g : Key → Option Rw} {a : List Res} (h : AllR W wr mb g a) (hb : Below W.heap.size W wr) (hn : a.length ≤ 4194304) : MapR wr mb g (a.map rk) :=
  ⟨h.m, fun k x hx => by obtain ⟨h1, h2⟩ := h.el k x hx; exact ⟨h1, RP.below h2.p hb, h2.s⟩, fun k hk => by
    cases hg : g k with
    | none => exact absurd hg hk
    | some x =>
      have h1 := h.eq k
      rw [hg] at h1
      exact List.mem_map.2 ⟨x.r, (fnd_some h1.symm).2, (fnd_some h1.symm).1⟩, by rw [List.length_map]; exact hn⟩
theorem rw_at {w : World} {ao : Option Addr} {n cap : Nat} {L : List Rw} (h : Rd.SliceOf rwE w (.slice ao n cap) L) {i : Nat} {x : Rw} (hx : L[i]? = some x) :
    ∃ b off, ao = some ⟨b, off, none⟩ ∧ b < w.heap.size ∧ RC w b (off + i * 8) x.r (.slice x.eo x.r.eps.length x.ec) (.slice x.ta x.r.tgts.length x.tc) (.slice x.ra x.r.rules.length x.rc) := by
  obtain ⟨_, ao', cap', e, _, h2⟩ := h
  cases e
  rcases h2 with rfl | ⟨b, off, rfl, hb, hc⟩
  · cases hx
  · have c : ∀ (j : Nat) u, x.cells[j]? = some u → w.cell? ⟨b, off + i * 8 + j, none⟩ = some u := fun j u hu => hc i x hx j u hu
    exact ⟨b, off, rfl, hb, ⟨c 0 _ rfl, c 1 _ rfl, c 2 _ rfl, c 3 _ rfl, c 4 _ rfl, c 5 _ rfl, c 6 _ rfl, c 7 _ rfl⟩⟩
theorem fine_list {W : World} {L : List Rw} {l : List Res} (hL : L.map Rw.r = l) (hP : ∀ x ∈ L, Rw.P W x) (hM : SzL l) : ∀ x ∈ L, Fine W x := fun x hx => by
  have h1 : x.r ∈ l := by rw [← hL]; exact List.mem_map.2 ⟨x, hx, rfl⟩
  exact ⟨hP x hx, hM.el _ h1⟩
def seenF (D : List Res) (i : Nat) : Key → Option Value := fun k => if (fnd (D.take i) k).isSome then some (.bool true) else none
theorem ownM_base {w : World} {B B' : Nat} {v : Value} {L : List RV} (h : OwnM w B v L) (hb : B' ≤ B) : OwnM w B' v L :=
  ⟨ownsRow_base h.row hb, fun x hx => ⟨ownsRow_base (h.el x hx).e hb, ownsRow_base (h.el x hx).t hb, ownsRow_base (h.el x hx).ru hb, (h.el x hx).p⟩⟩
theorem seenF_succ {D : List Res} {i : Nat} {d : Res} (hd : D[i]? = some d) (k : Key) : upd (seenF D i) (rk d) (.bool true) k = seenF D (i + 1) k := by
  unfold upd seenF
  rw [fnd_take_succ hd]
  by_cases e : k = rk d
  · rw [if_pos e, if_pos e.symm]
    cases fnd (D.take i) k <;> rfl
  · have e2 : (if rk d = k then some d else none) = none := if_neg (fun q => e q.symm)
    rw [if_neg e, e2]
    cases fnd (D.take i) k <;> rfl
def MergeO (w : World) (C D : List Res) (e : Ending) (w' : World) : Prop := ∃ (v' : Value) (L : List Rw) (i f : Int), e = .returned (.tuple #[v', .int .i64 i, .int .i64 f]) ∧ MgE C D (L.map Rw.r) i f ∧ OwnM w' w.heap.size v' (L.map Rw.rv) ∧ Below w.heap.size w w'
theorem mergeO_none {w w' : World} {C D : List Res} {i f : Int} (h : MgE C D [] i f) (hb : Below w.heap.size w w') : MergeO w C D (.returned (.tuple #[.slice none 0 0, .int .i64 i, .int .i64 f])) w' := ⟨_, [], i, f, rfl, h, ⟨World.ownsRow_nil _ _ _ _, fun x hx => by cases hx⟩, hb⟩
theorem merge25 (C D : List Res) (v1 v2 : Value) (w : World) (h1 : ResS w v1 C) (h2 : ResS w v2 D) (hC : SzL C) (hD : SzL D) : Calls Try.prog 25 #[v1, v2] w (MergeO w C D) := by
  obtain ⟨ao, cap, rfl⟩ := slice_shape h1
  obtain ⟨bo, bcp, rfl⟩ := slice_shape h2
  have hlen1 := h1.1
  have hlen2 := h2.1
  obtain ⟨C', hCm, hCs, hCp⟩ := lies h1
  obtain ⟨D', hDm, hDs, hDp⟩ := lies h2
  have hCf := fine_list hCm hCp hC
  have hDf := fine_list hDm hDp hD
  have hCl : C'.length = C.length := by rw [← hCm, List.length_map]
  have hDl : D'.length = D.length := by rw [← hDm, List.length_map]
  obtain ⟨o, ho⟩ : ∃ o, o = outI C := ⟨_, rfl⟩
  have c23 : Calls Try.prog 23 #[.slice ao C.length cap] w fun e w' => e = .returned (.bool (decide (o < 0))) ∧ Below w.heap.size w w' := by rw [ho]; exact ordered23 C _ w h1
  replace c23 := Lib.hid c23
  replace hCp := Lib.hid hCp
  replace hDp := Lib.hid hDp
  replace hCf := Lib.hid hCf
  replace hDf := Lib.hid hDf
  replace hCl := Lib.hid hCl
  replace hDl := Lib.hid hDl
  replace hC := Lib.hid hC
  replace hD := Lib.hid hD
  replace hCm := Lib.hid hCm
  replace hDm := Lib.hid hDm
  go_enter Try.func25, Try.ntmps25
  by_cases ho0 : o < 0
  · have hoN : outI C < 0 := by rw [← ho]; omega
    have hSC := srt_of_ord (ord_of hoN)
    have hoT : decide (o < 0) = true := decide_eq_true ho0
    rw [hoT] at c23
    replace hSC := Lib.hid hSC
    replace ho := Lib.hid ho
    replace hoN := Lib.hid hoN
    replace h1 := Lib.hid h1
    replace h2 := Lib.hid h2
    have hmm := @run_makeMap Try.prog
    go_upto_region 4 with (first
      | (go_at_call 23; (with_reducible refine c23.out.mono ?_); rintro e w1 ⟨rfl, hb1⟩; replace hb1 := Lib.hid hb1)
      | fail)
    obtain ⟨wm, hwm⟩ : ∃ wm, wm = w1.alloc (.map #[] 0) := ⟨_, rfl⟩
    obtain ⟨mb, hmb⟩ : ∃ mb, mb = w1.heap.size := ⟨_, rfl⟩
    rw [← hwm, ← hmb]
    have hbm : Below w.heap.size w wm := by rw [hwm]; exact seq_below hb1.out (alloc_below _ _)
    have hmB : w.heap.size ≤ mb := by rw [hmb]; exact hb1.out.size
    have hm0 : MapS keyKey wm mb (valR fun _ => none) := by
      have := MapS.made keyKey w1
      rw [← hwm, ← hmb] at this
      exact this
    have hA0 : AllR w wm mb (fun _ => none) (C.take 0) := ⟨hm0, (fun k x h => by cases h), (fun k => rfl)⟩
    clear hm0
    replace hwm := Lib.hid hwm
    replace hmb := Lib.hid hmb
    replace hbm := Lib.hid hbm
    replace hmB := Lib.hid hmB
    replace hA0 := Lib.hid hA0
    go_wp2
    go_loopg [22] (C.length + 1) (fun gg ic wx => ∃ (i : Nat) (g : Key → Option Rw), gg = C.length - i + 1 ∧ i ≤ C.length ∧ ic = .int .i64 i ∧ Hid (AllR w wx mb g (C.take i)) ∧ Hid (Below w.heap.size w wx))
    case atStart => exact ⟨0, _, rfl, Nat.zero_le _, rfl, hA0, hbm⟩
    case round =>
      obtain ⟨i, g, rfl, hi, rfl, hA, hbw⟩ := hrel
      by_cases hlt : i < C.length
      · obtain ⟨x, hx⟩ : ∃ x, C'[i]? = some x := ⟨_, List.getElem?_eq_getElem (by rw [hCl.out]; exact hlt)⟩
        have hxr : C[i]? = some x.r := by rw [← hCm.out, List.getElem?_map, hx]; rfl
        have hxm := List.mem_of_getElem? hx
        obtain ⟨b, off, rfl, hbl, c⟩ := rw_at hCs hx
        obtain ⟨c0, c1, c2, c3, c4, c5, c6, c7⟩ := c.below hbl hbw.out
        have hk0 : (i : Int) < (C.length : Int) := nn_lt hlt
        have hwk := Lib.hid (nn_succ2 hlt hlen1)
        obtain ⟨wB, hwB⟩ : ∃ wB, wB = wr.alloc (.cells #[.int .i64 x.r.kind, .string x.r.name, .slice x.eo x.r.eps.length x.ec, .slice x.ta x.r.tgts.length x.tc, .string x.r.host, .slice x.ra x.r.rules.length x.rc, .string x.r.route, .bool x.r.del] 52) := ⟨_, rfl⟩
        obtain ⟨bk, hbk⟩ : ∃ bk, bk = wr.heap.size := ⟨_, rfl⟩
        have hbx : wB.heap[bk]? = some (.cells #[.int .i64 x.r.kind, .string x.r.name, .slice x.eo x.r.eps.length x.ec, .slice x.ta x.r.tgts.length x.tc, .string x.r.host, .slice x.ra x.r.rules.length x.rc, .string x.r.route, .bool x.r.del] 52 (0, 0)) := by rw [hwB, hbk]; exact heap_alloc_new wr _
        have tB : Below wr.heap.size wr wB := by rw [hwB]; exact alloc_below _ _
        have hAB := hA.out.tch (Tch.of_below (S := No) tB) id
        have hbwB := seq_below hbw.out tB
        have hmbk : mb ≠ bk := by rw [hbk]; exact Nat.ne_of_lt hA.out.m.lt
        have hS : Hid (∀ w', Below wB.heap.size wB w' → w'.cell? ⟨bk, 0, none⟩ = some (.int .i64 x.r.kind) ∧ w'.cell? ⟨bk, 1, none⟩ = some (.string x.r.name) ∧ w'.cell? ⟨bk, 2, none⟩ = some (.slice x.eo x.r.eps.length x.ec) ∧ w'.cell? ⟨bk, 3, none⟩ = some (.slice x.ta x.r.tgts.length x.tc) ∧ w'.cell? ⟨bk, 4, none⟩ = some (.string x.r.host) ∧ w'.cell? ⟨bk, 5, none⟩ = some (.slice x.ra x.r.rules.length x.rc) ∧ w'.cell? ⟨bk, 6, none⟩ = some (.string x.r.route) ∧ w'.cell? ⟨bk, 7, none⟩ = some (.bool x.r.del)) := Lib.hid (fun w' h => by
          have y := (h.block bk (Array.getElem?_eq_some_iff.1 hbx).1).trans hbx
          exact ⟨box_at y rfl, box_at y rfl, box_at y rfl, box_at y rfl, box_at y rfl, box_at y rfl, box_at y rfl, box_at y rfl⟩)
        have hcur : Hid (Below wB.heap.size wB wB.drew) := Lib.hid (drew_below wB 1)
        have h61 : Hid (∀ w', Calls Try.prog 61 #[.agg #[.int .i64 x.r.kind, .string x.r.name, .slice x.eo x.r.eps.length x.ec, .slice x.ta x.r.tgts.length x.tc, .string x.r.host, .slice x.ra x.r.rules.length x.rc, .string x.r.route, .bool x.r.del]] w' fun e w'' => e = .returned (.agg #[.int .i64 x.r.kind, .string x.r.name]) ∧ Below w'.heap.size w' w'') := Lib.hid (fun w' => of61 x.r _ _ _ w')
        have hSx := (hSC.out.cut hxr).1
        have hAk : Hid (∀ k, fnd (C.take (i + 1)) k = if rk x.r = k then some x.r else fnd (C.take i) k) := Lib.hid (fun k => by
          by_cases e : rk x.r = k
          · subst e; rw [if_pos rfl, fnd_take_succ hxr, hSx, if_pos rfl]; rfl
          · rw [if_neg e, fnd_take_succ hxr, if_neg e]; cases fnd (C.take i) k <;> rfl)
        obtain ⟨b0, b1, b2, b3, b4, b5, b6, b7⟩ := hS.out wB (Below.refl _ _)
        replace hx := Lib.hid hx
        replace hxr := Lib.hid hxr
        replace hxm := Lib.hid hxm
        replace hbl := Lib.hid hbl
        replace c := Lib.hid c
        replace hbx := Lib.hid hbx
        replace tB := Lib.hid tB
        replace hAB := Lib.hid hAB
        replace hbwB := Lib.hid hbwB
        replace hmbk := Lib.hid hmbk
        replace hSx := Lib.hid hSx
        go_upto_region 7 with fail
        rw [← hwB, ← hbk]
        replace hwB := Lib.hid hwB
        replace hbk := Lib.hid hbk
        clear c0 c1 c2 c3 c4 c5 c6 c7
        go_region_held3 (fun w' => w'.cell? ⟨bk, 0, none⟩ = some (.int .i64 x.r.kind) ∧ w'.cell? ⟨bk, 1, none⟩ = some (.string x.r.name) ∧ w'.cell? ⟨bk, 2, none⟩ = some (.slice x.eo x.r.eps.length x.ec) ∧ w'.cell? ⟨bk, 3, none⟩ = some (.slice x.ta x.r.tgts.length x.tc) ∧ w'.cell? ⟨bk, 4, none⟩ = some (.string x.r.host) ∧ w'.cell? ⟨bk, 5, none⟩ = some (.slice x.ra x.r.rules.length x.rc) ∧ w'.cell? ⟨bk, 6, none⟩ = some (.string x.r.route) ∧ w'.cell? ⟨bk, 7, none⟩ = some (.bool x.r.del))
          (first | exact hS4.out | exact hS.out _ hcur.out | fail)
          (first
            | (go_at_call 61; (with_reducible refine (h61.out _).mono ?_); rintro e w3 ⟨rfl, hb3⟩; replace hcur := Lib.hid (seq_below hcur.out hb3); have hA3 := Lib.hid (hAB.out.tch (Tch.of_below (S := No) hcur.out) id); (obtain ⟨w4, hrun, hm4, ht4⟩ := hA3.out.m.store (t := 121) (e := 52) Try.underlying121 (rk x.r) (valW x)); replace hrun : (Instr.mapUpdate 121 (.map (some mb)) (.agg #[.int .i64 x.r.kind, .string x.r.name]) (.agg #[.int .i64 x.r.kind, .string x.r.name, .slice x.eo x.r.eps.length x.ec, .slice x.ta x.r.tgts.length x.tc, .string x.r.host, .slice x.ra x.r.rules.length x.rc, .string x.r.route, .bool x.r.del])).run Try.prog w3 = .ok () w4 := hrun; have hA4 := Lib.hid (hA3.out.put (hCf.out x hxm.out) hm4 hAk.out); have hb4 := Lib.hid (Tch.below (seq_below hbwB.out hcur.out) (Tch.turned (S := fun q => q = mb) ht4 rfl) (seq_below hbwB.out hcur.out).size (fun q e => by rw [e]; exact hmB.out)); have hbx3 := (hcur.out.block bk (Array.getElem?_eq_some_iff.1 hbx.out).1).trans hbx.out; have hbx4 := ((Tch.turned (S := fun q => q = mb) ht4 rfl).block bk (Array.getElem?_eq_some_iff.1 hbx3).1 (fun q => hmbk.out q.symm)).trans hbx3; have hS4 := Lib.hid (And.intro (box_at (j := 0) hbx4 rfl) (And.intro (box_at (j := 1) hbx4 rfl) (And.intro (box_at (j := 2) hbx4 rfl) (And.intro (box_at (j := 3) hbx4 rfl) (And.intro (box_at (j := 4) hbx4 rfl) (And.intro (box_at (j := 5) hbx4 rfl) (And.intro (box_at (j := 6) hbx4 rfl) (box_at (j := 7) hbx4 rfl)))))))); replace hbx3 := Lib.hid hbx3; replace hbx4 := Lib.hid hbx4; replace hm4 := Lib.hid hm4; replace ht4 := Lib.hid ht4; replace hb3 := Lib.hid hb3)
            | fail)
        all_goals
          go_wp2
          go_roundg (C.length - (i + 1) + 1)
          case rel => exact ⟨i + 1, _, rfl, hlt, by first | rw [hwk.out] | go_num, hA4, hb4⟩
          case measure => exact nn_downS hlt
      · have hk0 : decide ((i : Int) < (C.length : Int)) = false := decide_eq_false (by omega)
        have hie : i = C.length := by omega
        subst hie
        clear hlt
        rw [List.take_length] at hA
        have hG0 := Lib.hid (MgS.zero (docs := D) hSC.out)
        go_upto_region 10 with fail
        obtain ⟨wq, hwq⟩ : ∃ wq, wq = wr.alloc (.map #[] 0) := ⟨_, rfl⟩
        obtain ⟨sb, hsb⟩ : ∃ sb, sb = wr.heap.size := ⟨_, rfl⟩
        rw [← hwq, ← hsb]
        have hbq : Below w.heap.size w wq := by rw [hwq]; exact seq_below hbw.out (alloc_below _ _)
        have hsB : w.heap.size ≤ sb := by rw [hsb]; exact hbw.out.size
        have hmsb : mb ≠ sb := by rw [hsb]; exact Nat.ne_of_lt hA.out.m.lt
        have hAq : AllR w wq mb g C := by rw [hwq]; exact hA.out.tch (Tch.alloc No _ _) id
        have hS0 : MapS keyKey wq sb (seenF D 0) := by
          have := MapS.made keyKey wr
          rw [← hwq, ← hsb] at this
          exact this.congr (fun k => by unfold seenF; rw [List.take_zero, fnd_nil]; rfl)
        replace hwq := Lib.hid hwq
        replace hsb := Lib.hid hsb
        replace hbq := Lib.hid hbq
        replace hsB := Lib.hid hsB
        replace hmsb := Lib.hid hmsb
        replace hAq := Lib.hid hAq
        replace hS0 := Lib.hid hS0
        clear hA hbw hA0 hbm
        go_wp2
        go_loopg [34] (D.length + 1) (fun gg ic wx => ∃ (i : Nat) (g : Key → Option Rw) (a : List Res), gg = D.length - i + 1 ∧ i ≤ D.length ∧ ic = .int .i64 i ∧ Hid (MgS C D i a) ∧ Hid (AllR w wx mb g a) ∧ Hid (MapS keyKey wx sb (seenF D i)) ∧ Hid (Below w.heap.size w wx))
        case atStart => exact ⟨0, g, C, rfl, Nat.zero_le _, rfl, hG0, hAq, hS0, hbq⟩
        case round =>
          clear hG0 hAq hS0 hbq
          clear g
          obtain ⟨i, g, a, rfl, hi, rfl, hG, hA, hSe, hbw⟩ := hrel
          by_cases hlt : i < D.length
          · obtain ⟨x, hx⟩ : ∃ x, D'[i]? = some x := ⟨_, List.getElem?_eq_getElem (by rw [hDl.out]; exact hlt)⟩
            have hxr : D[i]? = some x.r := by rw [← hDm.out, List.getElem?_map, hx]; rfl
            have hxm := List.mem_of_getElem? hx
            obtain ⟨b, off, rfl, hbl, c⟩ := rw_at hDs hx
            obtain ⟨c0, c1, c2, c3, c4, c5, c6, c7⟩ := c.below hbl hbw.out
            have hk0 : (i : Int) < (D.length : Int) := nn_lt hlt
            have hwk := Lib.hid (nn_succ2 hlt hlen2)
            obtain ⟨wB, hwB⟩ : ∃ wB, wB = wr.alloc (.cells #[.int .i64 x.r.kind, .string x.r.name, .slice x.eo x.r.eps.length x.ec, .slice x.ta x.r.tgts.length x.tc, .string x.r.host, .slice x.ra x.r.rules.length x.rc, .string x.r.route, .bool x.r.del] 52) := ⟨_, rfl⟩
            obtain ⟨bk, hbk⟩ : ∃ bk, bk = wr.heap.size := ⟨_, rfl⟩
            have hbx : wB.heap[bk]? = some (.cells #[.int .i64 x.r.kind, .string x.r.name, .slice x.eo x.r.eps.length x.ec, .slice x.ta x.r.tgts.length x.tc, .string x.r.host, .slice x.ra x.r.rules.length x.rc, .string x.r.route, .bool x.r.del] 52 (0, 0)) := by rw [hwB, hbk]; exact heap_alloc_new wr _
            have tB : Below wr.heap.size wr wB := by rw [hwB]; exact alloc_below _ _
            have hS : Hid (∀ w', Below wB.heap.size wB w' → w'.cell? ⟨bk, 0, none⟩ = some (.int .i64 x.r.kind) ∧ w'.cell? ⟨bk, 1, none⟩ = some (.string x.r.name) ∧ w'.cell? ⟨bk, 2, none⟩ = some (.slice x.eo x.r.eps.length x.ec) ∧ w'.cell? ⟨bk, 3, none⟩ = some (.slice x.ta x.r.tgts.length x.tc) ∧ w'.cell? ⟨bk, 4, none⟩ = some (.string x.r.host) ∧ w'.cell? ⟨bk, 5, none⟩ = some (.slice x.ra x.r.rules.length x.rc) ∧ w'.cell? ⟨bk, 6, none⟩ = some (.string x.r.route) ∧ w'.cell? ⟨bk, 7, none⟩ = some (.bool x.r.del)) := Lib.hid (fun w' h => by
              have y := (h.block bk (Array.getElem?_eq_some_iff.1 hbx).1).trans hbx
              exact ⟨box_at y rfl, box_at y rfl, box_at y rfl, box_at y rfl, box_at y rfl, box_at y rfl, box_at y rfl, box_at y rfl⟩)
            obtain ⟨dl, hdl⟩ : ∃ dl, dl = x.r.del := ⟨_, rfl⟩
            rw [← hdl] at hS
            have h61 := of61 x.r (.slice x.eo x.r.eps.length x.ec) (.slice x.ta x.r.tgts.length x.tc) (.slice x.ra x.r.rules.length x.rc) wB
            rw [← hdl] at h61
            obtain ⟨b0, b1, b2, b3, b4, b5, b6, b7⟩ := hS.out wB (Below.refl _ _)
            replace hx := Lib.hid hx
            replace hxr := Lib.hid hxr
            replace hxm := Lib.hid hxm
            replace hbl := Lib.hid hbl
            replace c := Lib.hid c
            replace hbx := Lib.hid hbx
            replace tB := Lib.hid tB
            replace hdl := Lib.hid hdl
            replace h61 := Lib.hid h61
            go_upto_region 13 with fail
            rw [← hwB, ← hbk]
            replace hwB := Lib.hid hwB
            replace hbk := Lib.hid hbk
            clear c0 c1 c2 c3 c4 c5 c6 c7
            go_upto_region 14 with (first
              | (go_at_call 61; (with_reducible refine h61.out.mono ?_); rintro e w3 ⟨rfl, hb3⟩; replace hb3 := Lib.hid hb3)
              | fail)
            obtain ⟨wK, hwK⟩ : ∃ wK, wK = w3.alloc (.cells #[.int .i64 x.r.kind, .string x.r.name] 111) := ⟨_, rfl⟩
            obtain ⟨kb, hkb⟩ : ∃ kb, kb = w3.heap.size := ⟨_, rfl⟩
            rw [← hwK, ← hkb]
            have hkx : wK.heap[kb]? = some (.cells #[.int .i64 x.r.kind, .string x.r.name] 111 (0, 0)) := by rw [hwK, hkb]; exact heap_alloc_new w3 _
            have hBK : Below wB.heap.size wB wK := by rw [hwK]; exact seq_below hb3.out (alloc_below _ _)
            have hbwK : Below wr.heap.size wr wK := seq_below tB.out hBK
            have hk0K : wK.cell? ⟨kb, 0, none⟩ = some (.int .i64 x.r.kind) := box_at hkx rfl
            have hk1K : wK.cell? ⟨kb, 1, none⟩ = some (.string x.r.name) := box_at hkx rfl
            have hAK := hA.out.tch (Tch.of_below (S := No) hbwK) id
            have hSK := hSe.out.tch (Tch.of_below (S := No) hbwK) id
            have hKX : Hid (∀ w', Below wK.heap.size wK w' → w'.cell? ⟨kb, 0, none⟩ = some (.int .i64 x.r.kind) ∧ w'.cell? ⟨kb, 1, none⟩ = some (.string x.r.name)) := Lib.hid (fun w' h => by
              have y := (h.block kb (Array.getElem?_eq_some_iff.1 hkx).1).trans hkx
              exact ⟨box_at y rfl, box_at y rfl⟩)
            obtain ⟨th, hth⟩ : ∃ t, t = (fnd a (rk x.r)).isSome := ⟨_, rfl⟩
            have hbwKw := seq_below hbw.out hbwK
            have hbks : sb ≠ bk ∧ sb ≠ kb := by
              have h1 := hSe.out.lt
              have h2 := (Array.getElem?_eq_some_iff.1 hkx).1
              refine ⟨by rw [hbk.out]; exact Nat.ne_of_lt h1, ?_⟩
              rw [hkb]
              exact Nat.ne_of_lt (Nat.lt_of_lt_of_le h1 (Nat.le_trans tB.out.size hb3.out.size))
            replace hwK := Lib.hid hwK
            replace hkb := Lib.hid hkb
            replace hkx := Lib.hid hkx
            replace hBK := Lib.hid hBK
            replace hbwK := Lib.hid hbwK
            replace hAK := Lib.hid hAK
            replace hSK := Lib.hid hSK
            replace hbwKw := Lib.hid hbwKw
            replace hth := Lib.hid hth
            replace hbks := Lib.hid hbks
            go_cut [15] (fun tv wx => tv = .bool th ∧ Hid (Below wK.heap.size wK wx))
            case first =>
              have hlook := hAK.out.m.look (t := 121) (e := 52) Try.underlying121 (Try.zeroValue52 wK) true (rk x.r)
              have heq := hAK.out.eq (rk x.r)
              cases hg : g (rk x.r) with
              | none =>
                have hv : valR g (rk x.r) = none := by unfold valR; rw [hg]; rfl
                rw [hg] at heq
                rw [hv] at hlook
                have hth' : th = false := by rw [hth.out, ← heq]; rfl
                subst hth'
                replace hlook : (Instr.lookup 121 (.map (some mb)) (.agg #[.int .i64 x.r.kind, .string x.r.name]) true).run Try.prog wK = .ok (.tuple #[.agg #[.int .i64 0, .string ⟨#[]⟩, .slice none 0 0, .slice none 0 0, .string ⟨#[]⟩, .slice none 0 0, .string ⟨#[]⟩, .bool false], .bool false]) wK := hlook
                replace hg := Lib.hid hg
                replace hv := Lib.hid hv
                replace heq := Lib.hid heq
                replace hth := Lib.hid hth
                go_wp2
                go_meet
                exact ⟨rfl, Lib.hid (alloc_below _ _)⟩
              | some y =>
                have hv : valR g (rk x.r) = some (valW y) := by unfold valR; rw [hg]; rfl
                rw [hg] at heq
                rw [hv] at hlook
                have hth' : th = true := by rw [hth.out, ← heq]; rfl
                subst hth'
                replace hlook : (Instr.lookup 121 (.map (some mb)) (.agg #[.int .i64 x.r.kind, .string x.r.name]) true).run Try.prog wK = .ok (.tuple #[.agg #[.int .i64 y.r.kind, .string y.r.name, .slice y.eo y.r.eps.length y.ec, .slice y.ta y.r.tgts.length y.tc, .string y.r.host, .slice y.ra y.r.rules.length y.rc, .string y.r.route, .bool y.r.del], .bool true]) wK := hlook
                replace hg := Lib.hid hg
                replace hv := Lib.hid hv
                replace heq := Lib.hid heq
                replace hth := Lib.hid hth
                go_wp2
                go_meet
                exact ⟨rfl, Lib.hid (alloc_below _ _)⟩
            case rest =>
              obtain ⟨rfl, hbc⟩ := hcut
              have hbB := Lib.hid (seq_below hBK.out hbc.out)
              have hbC := Lib.hid (seq_below hbwKw.out hbc.out)
              have hAC := Lib.hid (hAK.out.tch (Tch.of_below (S := No) hbc.out) id)
              have hSC2 := Lib.hid (hSK.out.tch (Tch.of_below (S := No) hbc.out) id)
              clear b0 b1 b2 b3 b4 b5 b6 b7 hk0K hk1K
              obtain ⟨b0, b1, b2, b3, b4, b5, b6, b7⟩ := hS.out wc hbB.out
              obtain ⟨k0, k1⟩ := hKX.out wc hbc.out
              have hRet : Hid (∀ (f : Int) (w' : World), MgE C D [] i f → Below wc.heap.size wc w' → MergeO w C D (.returned (.tuple #[.slice none 0 0, .int .i64 i, .int .i64 f])) w') := Lib.hid (fun f w' h hb => mergeO_none h (seq_below hbC.out hb))
              by_cases hk1 : x.r.kind < 1
              · have hE := Lib.hid (MgE.kind (conf := C) (docs := D) hoN.out hG.out hxr.out (by unfold badKind; simp [hk1]))
                go_wp2
                refine bodyPost_ret (v := .tuple #[.slice none 0 0, .int .i64 i, .int .i64 2]) (by simp [results, Try.results25, go_sem]) rfl (hRet.out _ _ hE.out (Below.refl _ _))
              · by_cases hk4 : 4 < x.r.kind
                · have hE := Lib.hid (MgE.kind (conf := C) (docs := D) hoN.out hG.out hxr.out (by unfold badKind; simp [hk4]))
                  go_wp2
                  refine bodyPost_ret (v := .tuple #[.slice none 0 0, .int .i64 i, .int .i64 2]) (by simp [results, Try.results25, go_sem]) rfl (hRet.out _ _ hE.out (Below.refl _ _))
                · have hbd : Hid (badKind x.r = false) := Lib.hid (by unfold badKind; simp [hk1, hk4])
                  have hsl := hSC2.out.look (t := 104) (e := 4) Try.underlying104 (Try.zeroValue4 wc) false (rk x.r)
                  cases hf : fnd (D.take i) (rk x.r) with
                  | some y =>
                    have hE := Lib.hid (MgE.twice (conf := C) (docs := D) hoN.out hG.out hxr.out hbd.out (by rw [hf]; rfl))
                    have hv : seenF D i (rk x.r) = some (.bool true) := by unfold seenF; rw [hf]; rfl
                    rw [hv] at hsl
                    replace hsl : (Instr.lookup 104 (.map (some sb)) (.agg #[.int .i64 x.r.kind, .string x.r.name]) false).run Try.prog wc = .ok (.bool true) wc := hsl
                    replace hf := Lib.hid hf
                    replace hv := Lib.hid hv
                    go_wp2
                    refine bodyPost_ret (v := .tuple #[.slice none 0 0, .int .i64 i, .int .i64 91]) (by simp [results, Try.results25, go_sem]) rfl (hRet.out _ _ hE.out (Below.refl _ _))
                  | none =>
                    have hv : seenF D i (rk x.r) = none := by unfold seenF; rw [hf]; rfl
                    rw [hv] at hsl
                    replace hsl : (Instr.lookup 104 (.map (some sb)) (.agg #[.int .i64 x.r.kind, .string x.r.name]) false).run Try.prog wc = .ok (.bool false) wc := hsl
                    cases dl with
                    | true =>
                      cases th with
                      | false =>
                        have hE := Lib.hid (MgE.del (conf := C) (docs := D) hoN.out hG.out hxr.out hbd.out hf hdl.out.symm (by
                          have := hth.out
                          cases hfa : fnd a (rk x.r) with
                          | none => rfl
                          | some z => rw [hfa] at this; cases this))
                        replace hf := Lib.hid hf
                        replace hv := Lib.hid hv
                        go_wp2
                        refine bodyPost_ret (v := .tuple #[.slice none 0 0, .int .i64 i, .int .i64 290]) (by simp [results, Try.results25, go_sem]) rfl (hRet.out _ _ hE.out (Below.refl _ _))
                      | true =>
                        have hG2 := Lib.hid (hG.out.succ hxr.out hbd.out hf (fun _ => hth.out.symm))
                        have hsf : Hid (∀ k, fnd (setD a x.r) k = if rk x.r = k then none else fnd a k) := Lib.hid (fun k => by rw [setD_fnd, ← hdl.out, if_pos rfl])
                        replace hf := Lib.hid hf
                        replace hv := Lib.hid hv
                        go_wp2_with (first
                          | (at_mapUpdate; refine wp_store rfl _ _ _ 104 rfl keyKey 4 Try.underlying104 sb (seenF D i) (rk x.r) (.bool true) rfl hSC2.out rfl rfl ?_; intro w5 hm5 ht5; have hS5 := Lib.hid (hm5.congr (fun k => seenF_succ hxr.out k)); have t5 := Tch.turned (S := fun q => q = sb) ht5 rfl; have hA5 := Lib.hid (hAC.out.tch t5 hmsb.out); have hb5 := Lib.hid (Tch.below hbC.out t5 hbC.out.size (fun q e => by rw [e]; exact hsB.out)); have e0 := t5.cell_some b0 (fun q => hbks.out.1 q.symm); have e1 := t5.cell_some b1 (fun q => hbks.out.1 q.symm); have e2 := t5.cell_some b2 (fun q => hbks.out.1 q.symm); have e3 := t5.cell_some b3 (fun q => hbks.out.1 q.symm); have e4 := t5.cell_some b4 (fun q => hbks.out.1 q.symm); have e5 := t5.cell_some b5 (fun q => hbks.out.1 q.symm); have e6 := t5.cell_some b6 (fun q => hbks.out.1 q.symm); have e7 := t5.cell_some b7 (fun q => hbks.out.1 q.symm); have j0 := t5.cell_some k0 (fun q => hbks.out.2 q.symm); have j1 := t5.cell_some k1 (fun q => hbks.out.2 q.symm); replace hm5 := Lib.hid hm5; replace ht5 := Lib.hid ht5; replace t5 := Lib.hid t5)
                          | (at_delete; refine wp_delete rfl _ _ 121 rfl keyKey 52 Try.underlying121 mb (valR g) (rk x.r) rfl hA5.out.m rfl ?_; intro w6 hm6 ht6; have hA6 := Lib.hid (hA5.out.del hm6 hsf.out); have t6 := Tch.turned (S := fun q => q = mb) ht6 rfl; have hS6 := Lib.hid (hS5.out.tch t6 (fun q => hmsb.out q.symm)); have hb6 := Lib.hid (Tch.below hb5.out t6 hb5.out.size (fun q e => by rw [e]; exact hmB.out)); replace hm6 := Lib.hid hm6; replace ht6 := Lib.hid ht6; replace t6 := Lib.hid t6)
                          | fail)
                        go_roundg (D.length - (i + 1) + 1)
                        case rel => exact ⟨i + 1, _, _, rfl, hlt, by first | rw [hwk.out] | go_num, hG2, hA6, hS6, hb6⟩
                        case measure => exact nn_downS hlt
                    | false =>
                      have hG2 := Lib.hid (hG.out.succ hxr.out hbd.out hf (fun q => by rw [← hdl.out] at q; cases q))
                      have hsf : Hid (∀ k, fnd (setD a x.r) k = if rk x.r = k then some x.r else fnd a k) := Lib.hid (fun k => by rw [setD_fnd, ← hdl.out]; rfl)
                      have hvx := Lib.hid (show valW x = .agg #[.int .i64 x.r.kind, .string x.r.name, .slice x.eo x.r.eps.length x.ec, .slice x.ta x.r.tgts.length x.tc, .string x.r.host, .slice x.ra x.r.rules.length x.rc, .string x.r.route, .bool false] by unfold valW; rw [← hdl.out])
                      replace hf := Lib.hid hf
                      replace hv := Lib.hid hv
                      go_wp2_with (first
                        | (at_mapUpdate; refine wp_store rfl _ _ _ 104 rfl keyKey 4 Try.underlying104 sb (seenF D i) (rk x.r) (.bool true) rfl hSC2.out rfl rfl ?_; intro w5 hm5 ht5; have hS5 := Lib.hid (hm5.congr (fun k => seenF_succ hxr.out k)); have t5 := Tch.turned (S := fun q => q = sb) ht5 rfl; have hA5 := Lib.hid (hAC.out.tch t5 hmsb.out); have hb5 := Lib.hid (Tch.below hbC.out t5 hbC.out.size (fun q e => by rw [e]; exact hsB.out)); have e0 := t5.cell_some b0 (fun q => hbks.out.1 q.symm); have e1 := t5.cell_some b1 (fun q => hbks.out.1 q.symm); have e2 := t5.cell_some b2 (fun q => hbks.out.1 q.symm); have e3 := t5.cell_some b3 (fun q => hbks.out.1 q.symm); have e4 := t5.cell_some b4 (fun q => hbks.out.1 q.symm); have e5 := t5.cell_some b5 (fun q => hbks.out.1 q.symm); have e6 := t5.cell_some b6 (fun q => hbks.out.1 q.symm); have e7 := t5.cell_some b7 (fun q => hbks.out.1 q.symm); have j0 := t5.cell_some k0 (fun q => hbks.out.2 q.symm); have j1 := t5.cell_some k1 (fun q => hbks.out.2 q.symm); replace hm5 := Lib.hid hm5; replace ht5 := Lib.hid ht5; replace t5 := Lib.hid t5)
                        | (at_mapUpdate; refine wp_store rfl _ _ _ 121 rfl keyKey 52 Try.underlying121 mb (valR g) (rk x.r) (.agg #[.int .i64 x.r.kind, .string x.r.name, .slice x.eo x.r.eps.length x.ec, .slice x.ta x.r.tgts.length x.tc, .string x.r.host, .slice x.ra x.r.rules.length x.rc, .string x.r.route, .bool false]) rfl hA5.out.m rfl rfl ?_; intro w6 hm6 ht6; rw [← hvx.out] at hm6; have hA6 := Lib.hid (hA5.out.put (hDf.out x hxm.out) hm6 hsf.out); have t6 := Tch.turned (S := fun q => q = mb) ht6 rfl; have hS6 := Lib.hid (hS5.out.tch t6 (fun q => hmsb.out q.symm)); have hb6 := Lib.hid (Tch.below hb5.out t6 hb5.out.size (fun q e => by rw [e]; exact hmB.out)); replace hm6 := Lib.hid hm6; replace ht6 := Lib.hid ht6; replace t6 := Lib.hid t6)
                        | fail)
                      go_roundg (D.length - (i + 1) + 1)
                      case rel => exact ⟨i + 1, _, _, rfl, hlt, by first | rw [hwk.out] | go_num, hG2, hA6, hS6, hb6⟩
                      case measure => exact nn_downS hlt
          · have hk0 : decide ((i : Int) < (D.length : Int)) = false := decide_eq_false (by omega)
            have hie : i = D.length := by omega
            subst hie
            clear hlt
            have hndk : (a.map rk).Nodup := List.pairwise_map.2 (hG.out.srt.imp fun h => lessK_ne h)
            obtain ⟨es, clock, hes, hsz⟩ := map_len hA.out.m hndk (fun k => by
              have h1 := hA.out.eq k
              unfold valR
              rw [List.mem_map]
              constructor
              · intro hk
                cases hg : g k with
                | none => rw [hg] at hk; exact absurd rfl hk
                | some y => rw [hg] at h1; exact ⟨y.r, (fnd_some h1.symm).2, (fnd_some h1.symm).1⟩
              · rintro ⟨r, hr, hrk⟩ hk
                cases hg : g k with
                | none => rw [hg] at h1; exact fnd_none.1 h1.symm r hr hrk
                | some y => rw [hg] at hk; cases hk)
            rw [List.length_map] at hsz
            by_cases h64 : 64 < a.length
            · have hE := Lib.hid (MgE.count (conf := C) (docs := D) hoN.out hG.out h64)
              have h640 : decide ((64 : Int) < (es.size : Int)) = true := decide_eq_true (by omega)
              have h641 : (64 : Int) < (es.size : Int) := by omega
              have hes' := Lib.hid hes
              replace h64 := Lib.hid h64
              replace hndk := Lib.hid hndk
              replace hsz := Lib.hid hsz
              clear hes
              go_wp2_with (first | (at_len; refine wp_len_map rfl _ 121 rfl Try.underlying121 mb es clock rfl hes'.out ?_) | fail)
              refine bodyPost_ret (v := .tuple #[.slice none 0 0, .int .i64 0, .int .i64 124]) (by simp [results, Try.results25, go_sem]) rfl (mergeO_none hE.out hbw.out)
            · have hE := Lib.hid (MgE.fine (conf := C) (docs := D) hoN.out hG.out (by omega))
              have h640 : decide ((64 : Int) < (es.size : Int)) = false := decide_eq_false (by omega)
              have h641 : ¬ (64 : Int) < (es.size : Int) := by omega
              have h69 := Lib.hid (sorted69 mb g (a.map rk) wr (hA.out.mapR hbw.out (by omega)))
              have hes' := Lib.hid hes
              replace h64 := Lib.hid h64
              replace hndk := Lib.hid hndk
              replace hsz := Lib.hid hsz
              clear hes
              go_wp2_with (first
                | (at_len; refine wp_len_map rfl _ 121 rfl Try.underlying121 mb es clock rfl hes'.out ?_)
                | (go_at_call 69; (with_reducible refine h69.out.mono ?_); rintro e w5 ⟨v5, L5, rfl, hO5, hS5, hF5, hn5, hb5⟩; replace hO5 := Lib.hid hO5; replace hS5 := Lib.hid hS5; replace hF5 := Lib.hid hF5; replace hb5 := Lib.hid hb5)
                | fail)
              have hLa : L5.map Rw.r = a := hS5.out.ext hG.out.srt (fun k => by rw [hF5.out k, hA.out.eq k])
              refine bodyPost_ret (v := .tuple #[v5, .int .i64 0, .int .i64 0]) (by simp [results, Try.results25, go_sem]) rfl ⟨v5, L5, 0, 0, rfl, by rw [hLa]; exact hE.out, ownM_base hO5.out hbw.out.size, seq_below hbw.out hb5.out⟩
  · have hE := fun (w' : World) hb => mergeO_none (w := w) (w' := w') (C := C) (D := D) (i := 0) (f := 2) (.out (by rw [← ho]; omega)) hb
    have hoF : decide (o < 0) = false := decide_eq_false ho0
    rw [hoF] at c23
    replace hE := Lib.hid hE
    replace ho := Lib.hid ho
    go_wp2_with (first
      | (go_at_call 23; (with_reducible refine c23.out.mono ?_); rintro e w1 ⟨rfl, hb1⟩; replace hb1 := Lib.hid hb1)
      | fail)
    refine bodyPost_ret (v := .tuple #[.slice none 0 0, .int .i64 0, .int .i64 2]) (by simp [results, Try.results25, go_sem]) rfl (hE.out _ hb1.out)
end Go.Proofs.Ytjepgpocmnijiaa
end
