/- Each's closure: tokens told one by one. -/
import Derived.Shelf.Abstract
import Derived.Shelf.RegionOpen
import Derived.OwnWalkIn
import Derived.TacticsInMore
import Derived.LoopNIn
import Derived.LoopIn
import Derived.Test.YtcnjmkjfgghgoaaZt13
import Derived.Test.YtcnjmkjfgghgoaaZt24
section

namespace Go.Proofs.Ytcnjmkjfgghgoaa
open Go.RowKit Go.Ln Go.Mp Go.Tr Go.Shelf
attribute [local go_sem] Oper.semAt_some
set_option linter.unusedVariables false
set_option maxRecDepth 100000
set_option maxHeartbeats 4000000
theorem wide_no {p : Prop} (h : Fence.wide.depth.isSome = true) : p := by cases h
def fltA (f : Nat × Nat × Int) : Value := .agg #[.int .i64 f.1, .int .i64 f.2.1, .int .i64 f.2.2]
def encE (x : Ev) : Array Value := #[tokA (tokOf x.1), fltA x.2]
/-- What the iterator is told of the rounds. -/
def Yields (B n l : Nat) (N : Nat) (J Jx : List Ev → World → Prop) : Prop :=
  ∀ pre x W1, J pre W1 → pre.length < N → YieldAt Fence.wide (n - 1) Try.prog l (encE x) W1 fun e W' =>
    (e = .returned (.bool true) ∧ J (pre ++ [x]) W' ∧ Kp B W1 W') ∨ (e = .returned (.bool false) ∧ Jx (pre ++ [x]) W')
def EPost (text : List UInt8) (J Jx : List Ev → World → Prop) (e : Ending) (W' : World) : Prop := (∃ v, e = .returned v) ∧ ((∃ xs, xs = seqOf text ∧ J xs W') ∨ (∃ pre, pre <+: seqOf text ∧ Jx pre W'))
theorem each_long (n : Nat) (l Bt bt B : Nat) (ao : Option Addr) (cap : Nat) (text : List UInt8) (J Jx : List Ev → World → Prop) (W : World)
    (hY : Yields B n l (seqOf text).length J Jx) (hBt : W.cell? ⟨Bt, 0, none⟩ = some (.slice ao text.length cap)) (hlong : 65536 < text.length) (h0 : J [] W) :
    CallsIn Fence.wide n Try.prog 58 #[.func (.yield l) #[] #[], .pointer (some ⟨Bt, 0, none⟩)] W (EPost text J Jx) := by
  have hseq : seqOf text = [(zt, (0, 0, 3))] := by unfold seqOf; rw [if_pos hlong]
  obtain ⟨fn, tmps, assign, body, hy, hR⟩ := hY [] (zt, (0, 0, 3)) W h0 (by rw [hseq]; exact Nat.zero_lt_one)
  replace hy : (Instr.yield l #[.agg #[.int .i64 0, .int .i64 0, .int .i64 0, .string ⟨#[]⟩, .bool false], .agg #[.int .i64 0, .int .i64 0, .int .i64 3]]).run Try.prog W = .ok (.round l fn tmps assign body) W := hy
  have k0 : (65536 : Int) < (text.length : Int) := by omega
  replace hseq := Lib.hid hseq
  refine callsIn_of_wp Try.func58 rfl trivial ?_ rfl
  simp only [Try.ntmps58, List.size_toArray, List.length_cons, List.length_nil, Nat.reduceAdd, Nat.reduceSub, Array.replicate_succ, Array.replicate_zero, List.push_toArray, List.append_toArray, List.nil_append, List.cons_append]
  gi_wp2
  refine ⟨wide_no, hR.mono ?_⟩
  rintro e W3 (⟨rfl, hJ3, hk3⟩ | ⟨rfl, hJx3⟩)
  · gi_wp2
    refine bodyPost_ret (results_none rfl _ _ _) rfl ?_
    exact ⟨⟨_, rfl⟩, .inl ⟨_, hseq.out.symm, hJ3⟩⟩
  · gi_wp2
    refine bodyPost_ret (results_none rfl _ _ _) rfl ?_
    exact ⟨⟨_, rfl⟩, .inr ⟨_, by rw [hseq.out]; exact List.prefix_refl _, hJx3⟩⟩
/-- What is known at a token's begin. -/
structure AtTok (bt B n0 : Nat) (m : Int) (v2 : Value) (l2 : List UInt8) (g : Nat) (oo : Option Addr) (oc : Nat) (ts : List Tk) (pre : List Ev) (J : List Ev → World → Prop) (W4 : World) (i : Nat) (wr : World) : Prop where
  by2 : BytS wr bt v2 l2
  j : J (pre ++ (ts.take i).map (fun t => (t, (0, 0, 0)))) wr
  row : tkRow wr g (.slice oo ts.length oc) ts
  nout : ∀ k, (Value.slice oo ts.length oc).ownBlock = some k → k ≠ B ∧ ¬ outB B wr k
  out : OutLt B n0 wr
  cap : wr.cell? ⟨0, 0, none⟩ = some (.int .i64 m)
  size : W4.heap.size ≤ wr.heap.size
theorem tk_cells {w : World} {B n cap : Nat} {ao : Option Addr} {ts : List Tk} (h : tkRow w B (.slice ao n cap) ts) {i : Nat} {t : Tk} (ht : ts[i]? = some t) :
    ∃ g, ao = some ⟨g, 0, none⟩ ∧ g < w.heap.size ∧ w.cell? ⟨g, i * 5, none⟩ = some (.int .i64 t.kind) ∧ w.cell? ⟨g, i * 5 + 1, none⟩ = some (.int .i64 t.line) ∧ w.cell? ⟨g, i * 5 + 2, none⟩ = some (.int .i64 t.col) ∧ w.cell? ⟨g, i * 5 + 3, none⟩ = some (.string ⟨t.text.toArray⟩) ∧ w.cell? ⟨g, i * 5 + 4, none⟩ = some (.bool t.quoted) := by
  have ht' : (ts.map tokOf)[i]? = some (tokOf t) := by rw [List.getElem?_map, ht]; rfl
  have hc : ∀ j u, j < 5 → (tc (tokOf t))[j]? = some u → ∃ g, ao = some ⟨g, 0, none⟩ ∧ w.cell? ⟨g, i * 5 + j, none⟩ = some u := fun j u hj hu => by
    obtain ⟨g, e, _, _, c, _⟩ := ownsRow_cell h (j := i * 5 + j) (u := u) (by rw [tcs_at ht' j hj, hu])
    exact ⟨g, e, c⟩
  obtain ⟨g, rfl, c0⟩ := hc 0 _ (by omega) rfl
  obtain ⟨g1, e1, c1⟩ := hc 1 _ (by omega) rfl
  obtain ⟨g2, e2, c2⟩ := hc 2 _ (by omega) rfl
  obtain ⟨g3, e3, c3⟩ := hc 3 _ (by omega) rfl
  obtain ⟨g4, e4, c4⟩ := hc 4 _ (by omega) rfl
  cases e1; cases e2; cases e3; cases e4
  obtain ⟨o, ho, _⟩ := cell_obj c0
  exact ⟨g, rfl, heap_lt ho, c0, c1, c2, c3, c4⟩
theorem BytS.kp {B : Nat} {w w' : World} {b : Nat} {v : Value} {l : List UInt8} (h : BytS w b v l) (hk : Kp B w w') (hb : b ≠ B) (ho : ¬ outB B w b) : BytS w' b v l := by
  obtain ⟨ao, cap, rfl, h1, h2, h3⟩ := h
  exact ⟨ao, cap, rfl, h1, h2, fun i c hc => by obtain ⟨off, e, hx⟩ := h3 i c hc; exact ⟨off, e, hk.cell hx hb ho⟩⟩
theorem tkRow_kp {B : Nat} {w w' : World} {base : Nat} {v : Value} {ts : List Tk} (h : tkRow w base v ts) (hk : Kp B w w') (hn : ∀ k, v.ownBlock = some k → k ≠ B ∧ ¬ outB B w k) : tkRow w' base v ts := by
  obtain ⟨h1, h2⟩ := h
  refine ⟨h1, ?_⟩
  rcases h2 with h2 | ⟨g, cap, cur, e, h3, h4, h5⟩
  · exact .inl h2
  · obtain ⟨n1, n2⟩ := hn g (by rw [e]; rfl)
    exact .inr ⟨g, cap, cur, e, h3, hk.keep g _ n1 n2 h4 rfl, h5⟩
theorem AtTok.grow {bt B n0 : Nat} {m : Int} {v2 : Value} {l2 : List UInt8} {g : Nat} {oo : Option Addr} {oc : Nat} {ts : List Tk} {pre : List Ev} {J : List Ev → World → Prop} {W4 W0 : World} {i : Nat} {wr w' : World} (h : AtTok bt B n0 m v2 l2 g oo oc ts pre J W4 i wr) (hJ : AbidesFrom W0.heap.size J) (t : Tch No wr w') (hB : B < wr.heap.size) (hb : bt < wr.heap.size) : AtTok bt B n0 m v2 l2 g oo oc ts pre J W4 i w' where
  by2 := h.by2.keep (t.block bt hb id)
  j := hJ _ _ _ none h.j t.grownNone (fun r e => by cases e)
  row := ownsRow_tch h.row t (fun _ _ h => h)
  nout := fun k hk => ⟨(h.nout k hk).1, fun ho => (h.nout k hk).2 ((outB_kept (t.block B hB id) k).1 ho)⟩
  out := h.out.grow (t.block B hB id) t.size
  cap := t.cell_some h.cap id
  size := Nat.le_trans h.size t.size
theorem AtTok.round {bt B n0 : Nat} {m : Int} {v2 : Value} {l2 : List UInt8} {g : Nat} {oo : Option Addr} {oc : Nat} {ts : List Tk} {pre : List Ev} {J : List Ev → World → Prop} {W4 : World} {i : Nat} {wr w' : World} (h : AtTok bt B n0 m v2 l2 g oo oc ts pre J W4 i wr) {t : Tk} (ht : ts.take (i + 1) = ts.take i ++ [t]) (hk : Kp B wr w') (hj : J (pre ++ (ts.take i).map (fun t => (t, (0, 0, 0))) ++ [(t, (0, 0, 0))]) w') (hb1 : bt < n0) (hb2 : bt ≠ B) (hb3 : 0 < n0) (hb4 : B ≠ 0) (hn : n0 ≤ wr.heap.size) : AtTok bt B n0 m v2 l2 g oo oc ts pre J W4 (i + 1) w' where
  by2 := h.by2.kp hk hb2 (fun ho => by have := (h.out _ ho).1; omega)
  j := by rw [ht, List.map_append, ← List.append_assoc]; exact hj
  row := tkRow_kp h.row hk h.nout
  nout := fun k hk2 => ⟨(h.nout k hk2).1, hk.notOut (ownsRow_ge h.row hk2).2 (h.nout k hk2).2⟩
  out := hk.lts hn h.out
  cap := hk.cell h.cap (fun e => hb4 e.symm) (fun ho => by have := (h.out _ ho).1; omega)
  size := Nat.le_trans h.size hk.size
theorem tok_pre {pre : List Ev} {ts : List Tk} {i : Nat} {t : Tk} {r : List Ev} (ht : ts.take (i + 1) = ts.take i ++ [t]) : pre ++ (ts.take i).map (fun t => (t, (0, 0, 0))) ++ [(t, (0, 0, 0))] <+: pre ++ (ts.map (fun t => ((t, (0, 0, 0)) : Ev)) ++ r) := by
  rw [List.append_assoc]
  refine (List.prefix_append_right_inj pre).2 ?_
  rw [show ((ts.take i).map (fun t => ((t, (0, 0, 0)) : Ev)) ++ [(t, (0, 0, 0))]) = (ts.take (i + 1)).map (fun t => (t, (0, 0, 0))) by rw [ht, List.map_append]; rfl]
  exact ((List.take_prefix (i + 1) ts).map _).trans (List.prefix_append _ _)
theorem tok_len {pre : List Ev} {ts : List Tk} {i : Nat} {r s : List Ev} (hs : s = pre ++ (ts.map (fun t => ((t, (0, 0, 0)) : Ev)) ++ r)) (hi : i < ts.length) : (pre ++ (ts.take i).map (fun t => ((t, (0, 0, 0)) : Ev))).length < s.length := by
  rw [hs]; simp only [List.length_append, List.length_map, List.length_take]; omega
theorem tk_bound {w : World} {B : Nat} {v : Value} {ts : List Tk} (h : tkRow w B v ts) : ts.length ≤ 9223372036854775807 := by
  obtain ⟨_, h2⟩ := h
  rcases h2 with ⟨_, h2⟩ | ⟨g, cap, cur, e, h3, h4, h5, h6, h7⟩
  · omega
  · unfold maxLen at h6; omega
theorem docs_take (ts : List Tk) (i : Nat) : docsIn (ts.take i) ≤ docsIn ts := by
  conv => rhs; rw [← List.take_append_drop i ts]
  rw [docsIn_app]; omega
/-- What is known at a line's begin. -/
structure AtLine (bt B n0 : Nat) (m : Int) (text : List UInt8) (J : List Ev → World → Prop) (W0 : World) (d k : Nat) (v : Value) (wr : World) : Prop where
  all : ∃ pre rest, BytS wr bt v rest ∧ seqOf text = pre ++ evs d k (linesOf [] rest) ∧ J pre wr ∧ d ≤ k ∧ k + rest.length ≤ text.length
  out : OutLt B n0 wr
  cap : wr.cell? ⟨0, 0, none⟩ = some (.int .i64 m)
  size : W0.heap.size ≤ wr.heap.size
def lenOf : Value → Nat
  | .slice _ n _ => n
  | _ => 0
theorem each_short (n : Nat) (l Bt bt B n0 : Nat) (m : Int) (ao : Option Addr) (cap : Nat) (text : List UInt8) (J Jx : List Ev → World → Prop) (W : World) (hJ : AbidesFrom W.heap.size J)
    (hY : Yields B n l (seqOf text).length J Jx) (hBt : W.cell? ⟨Bt, 0, none⟩ = some (.slice ao text.length cap)) (htx : BytS W bt (.slice ao text.length cap) text) (hlong : text.length ≤ 65536) (h0 : J [] W)
    (hm : W.cell? ⟨0, 0, none⟩ = some (.int .i64 m)) (hb1 : bt < n0) (hb2 : bt ≠ B) (hb3 : 0 < n0) (hb4 : B ≠ 0) (hb5 : n0 ≤ W.heap.size) (hout : OutLt B n0 W) (hBlt : B < W.heap.size) :
    CallsIn Fence.wide n Try.prog 58 #[.func (.yield l) #[] #[], .pointer (some ⟨Bt, 0, none⟩)] W (EPost text J Jx) := by
  have hseq : seqOf text = evs 0 0 (linesOf [] text) := by unfold seqOf; rw [if_neg (by omega)]
  have k0 : decide ((65536 : Int) < (text.length : Int)) = false := decide_eq_false (by omega)
  have k1 : decide (65536 < text.length) = false := decide_eq_false (by omega)
  have hst : AtLine bt B n0 m text J W 0 0 (.slice ao text.length cap) W := ⟨⟨[], text, htx, hseq, h0, Nat.le_refl _, by omega⟩, hout, hm, Nat.le_refl _⟩
  replace hseq := Lib.hid hseq
  replace hst := Lib.hid hst
  replace hlong := Lib.hid hlong
  replace htx := Lib.hid htx
  replace h0 := Lib.hid h0
  replace hY := Lib.hid hY
  replace hJ := Lib.hid hJ
  replace hout := Lib.hid hout
  replace hm := Lib.hid hm
  replace hb1 := Lib.hid hb1
  replace hb2 := Lib.hid hb2
  replace hb3 := Lib.hid hb3
  replace hb4 := Lib.hid hb4
  replace hb5 := Lib.hid hb5
  replace hBlt := Lib.hid hBlt
  refine callsIn_of_wp Try.func58 rfl trivial ?_ rfl
  simp only [Try.ntmps58, List.size_toArray, List.length_cons, List.length_nil, Nat.reduceAdd, Nat.reduceSub, Array.replicate_succ, Array.replicate_zero, List.push_toArray, List.append_toArray, List.nil_append, List.cons_append]
  gi_wp2
  gi_loopw [3, 4, 5] (fun dv kv v wr => ∃ d k : Nat, dv = .int .i64 d ∧ kv = .int .i64 k ∧ Hid (AtLine bt B n0 m text J W d k v wr)) (fun dv kv v wr => lenOf v)
  case atStart => exact ⟨0, 0, rfl, rfl, hst⟩
  case round =>
    obtain ⟨d, k, rfl, rfl, hat⟩ := hrel
    obtain ⟨⟨pre, rest, hby, hsq, hJp, hdk, hkl⟩, ho, hc, hsz⟩ := hat.out
    obtain ⟨ro, rc, rfl⟩ := hby.shape
    by_cases hlt : 0 < rest.length
    · have q0 : (0 : Int) < (rest.length : Int) := by omega
      have hne : rest ≠ [] := fun e => by rw [e] at hlt; exact absurd hlt (Nat.lt_irrefl 0)
      have hbw : bt < wr.heap.size := by have := hb1.out; have := hb5.out; omega
      obtain ⟨v1, v2, fd, hv1, hv2, hcut⟩ := cut_any (w := wr.alloc (.cells #[.int .u8 10] 5)) (g := wr.heap.size) (m := m) (hby.keep ((Tch.alloc No wr _).block bt hbw id)) (by have := hlong.out; omega) (Boxed.new wr 5 (.int .u8 10)).cell ((Tch.alloc No wr _).cell_some hc id)
      have hv2k : ∀ w', Tch No (wr.alloc (.cells #[.int .u8 10] 5)) w' → BytS w' bt v2 (cutL rest).2 := fun w' t => hv2.keep (t.block bt (by simp; omega) id)
      have hstr : ∀ q, (convert 41 9 v1).run Try.prog ((wr.alloc (.cells #[.int .u8 10] 5)).drewN q) = .ok (.string ⟨(cutL rest).1.toArray⟩) ((wr.alloc (.cells #[.int .u8 10] 5)).drewN q) := fun q => BytS.string (b := bt) (hv1.keep rfl)
      have hcl : (cutL rest).1.length < 4294967281 := by have := cut_fst rest; have := hlong.out; omega
      have hline : ∀ q, Calls Try.prog 60 #[.string ⟨(cutL rest).1.toArray⟩, .int .i64 ((k : Int) + 1)] ((wr.alloc (.cells #[.int .u8 10] 5)).drewN q) (LinePost ((wr.alloc (.cells #[.int .u8 10] 5)).drewN q) (line (cutL rest).1 (k + 1 : Nat))) := fun q =>
        line_any ⟨(cutL rest).1.toArray⟩ (k + 1) ((wr.alloc (.cells #[.int .u8 10] 5)).drewN q) m hcl (show ((wr.alloc (.cells #[.int .u8 10] 5)).drewN q).cell? ⟨0, 0, none⟩ = some (.int .i64 m) from (Tch.alloc No wr _).cell_some hc id)
      have hJa : ∀ w', Tch No wr w' → J pre w' := fun w' t => hJ.out _ _ _ none hJp t.grownNone (fun r e => by cases e)
      obtain ⟨ro2, rc2, rfl⟩ := hv2.shape
      obtain ⟨ro1, rc1, rfl⟩ := hv1.shape
      have hk1 : (k : Int) + 1 ≤ 70000 := by have := hlong.out; omega
      have hkn : k + 1 + (cutL rest).2.length ≤ text.length := by have := cut_len hne; omega
      have hltB := cut_len hne
      generalize hL1 : (cutL rest).1 = L1 at *
      generalize hL2 : (cutL rest).2 = L2 at *
      cases hx : line L1 (k + 1 : Nat) with
      | error e =>
        have he := line_err hx
        have e1 : (e == 0) = false := by rw [beq_eq_false_iff_ne]; omega
        have e2 : (e != 0) = true := by rw [bne, e1]; rfl
        have hev : evs d k (linesOf [] rest) = [(zt, (d, k + 1, e))] := evs_bad hne (by rw [hL1]; exact hx)
        rw [hev] at hsq
        simp only [hx] at hline
        have hplen : pre.length < (seqOf text).length := by rw [hsq]; simp
        replace hby := Lib.hid hby
        replace hsq := Lib.hid hsq
        replace hJp := Lib.hid hJp
        replace hdk := Lib.hid hdk
        replace hkl := Lib.hid hkl
        replace ho := Lib.hid ho
        replace hc := Lib.hid hc
        replace hsz := Lib.hid hsz
        replace hne := Lib.hid hne
        replace hv1 := Lib.hid hv1
        replace hv2 := Lib.hid hv2
        replace hv2k := Lib.hid hv2k
        replace hcut := Lib.hid hcut
        replace hline := Lib.hid hline
        replace hJa := Lib.hid hJa
        replace hkn := Lib.hid hkn
        replace hltB := Lib.hid hltB
        replace hL1 := Lib.hid hL1
        replace hL2 := Lib.hid hL2
        replace hx := Lib.hid hx
        replace he := Lib.hid he
        replace hev := Lib.hid hev
        replace hplen := Lib.hid hplen
        replace hcl := Lib.hid hcl
        replace hbw := Lib.hid hbw
        gi_wp2_with (first
          | (refine ⟨trivial, wide_no, ?_⟩; gi_at_call 59; refine (callsIn_wide.2 hcut.out).mono ?_; rintro e w2 ⟨rfl, q, rfl⟩)
          | (refine ⟨trivial, wide_no, ?_⟩; gi_at_call 60; refine (callsIn_wide.2 (hline.out q)).mono ?_; rintro e5 w4 ⟨O, E, rfl, ⟨rfl, rfl⟩, t4⟩; have t5 := Lib.hid (((Tch.alloc No wr (.cells #[.int .u8 10] 5)).trans (Tch.drewN No _ q) (fun _ h => h.elim)).trans t4 (fun _ h => h.elim)); replace t4 := Lib.hid t4; obtain ⟨fn, tmps, assign, body, hy, hR⟩ := hY.out _ (zt, (d, k + 1, e)) w4 (hJa.out w4 t5.out) hplen.out; replace hy : (Instr.yield l #[.agg #[.int .i64 0, .int .i64 0, .int .i64 0, .string ⟨#[]⟩, .bool false], .agg #[.int .i64 d, .int .i64 ((k : Int) + 1), .int .i64 e]]).run Try.prog w4 = .ok (.round l fn tmps assign body) w4 := hy)
          | fail)
        refine ⟨wide_no, hR.mono ?_⟩
        rintro e5 W3 (⟨rfl, hJ3, hk3⟩ | ⟨rfl, hJx3⟩)
        · gi_wp2
          refine bodyPost_ret (results_none rfl _ _ _) rfl ?_
          exact ⟨⟨_, rfl⟩, .inl ⟨_, hsq.out.symm, hJ3⟩⟩
        · gi_wp2
          refine bodyPost_ret (results_none rfl _ _ _) rfl ?_
          exact ⟨⟨_, rfl⟩, .inr ⟨_, by rw [hsq.out]; exact List.prefix_refl _, hJx3⟩⟩
      | ok ts =>
        have hev : evs d k (linesOf [] rest) = ts.map (fun t => (t, (0, 0, 0))) ++ evs (d + docsIn ts) (k + 1) (linesOf [] L2) := by rw [evs_ok hne (by rw [hL1]; exact hx), hL2]
        rw [hev] at hsq
        have hd1 := line_docs hx
        simp only [hx] at hline
        replace hby := Lib.hid hby
        replace hsq := Lib.hid hsq
        replace hJp := Lib.hid hJp
        replace hdk := Lib.hid hdk
        replace hkl := Lib.hid hkl
        replace ho := Lib.hid ho
        replace hc := Lib.hid hc
        replace hsz := Lib.hid hsz
        replace hne := Lib.hid hne
        replace hv1 := Lib.hid hv1
        replace hv2 := Lib.hid hv2
        replace hv2k := Lib.hid hv2k
        replace hcut := Lib.hid hcut
        replace hline := Lib.hid hline
        replace hJa := Lib.hid hJa
        replace hkn := Lib.hid hkn
        replace hltB := Lib.hid hltB
        replace hL1 := Lib.hid hL1
        replace hL2 := Lib.hid hL2
        replace hx := Lib.hid hx
        replace hev := Lib.hid hev
        replace hcl := Lib.hid hcl
        replace hbw := Lib.hid hbw
        replace hd1 := Lib.hid hd1
        gi_wp2_with (first
          | (refine ⟨trivial, wide_no, ?_⟩; gi_at_call 59; refine (callsIn_wide.2 hcut.out).mono ?_; rintro e w2 ⟨rfl, q, rfl⟩)
          | (refine ⟨trivial, wide_no, ?_⟩; gi_at_call 60; refine (callsIn_wide.2 (hline.out q)).mono ?_; rintro e5 w4 ⟨O, E, rfl, ⟨hrow, rfl⟩, t4⟩; have t5 := Lib.hid (((Tch.alloc No wr (.cells #[.int .u8 10] 5)).trans (Tch.drewN No _ q) (fun _ h => h.elim)).trans t4 (fun _ h => h.elim)); obtain ⟨oo, oc, rfl⟩ := ownsRow_shape hrow; replace hrow := Lib.hid hrow; replace t4 := Lib.hid t4)
          | fail)
        have hBw : B < wr.heap.size := Nat.lt_of_lt_of_le hBlt.out hsz.out
        have hst2 : Hid (AtTok bt B n0 m (.slice ro2 L2.length rc2) L2 (wr.heap.size) oo oc ts pre J w4 0 w4) := Lib.hid
          { by2 := hv2k.out w4 ((Tch.drewN No _ q).trans t4.out (fun _ h => h.elim))
            j := by simpa using hJa.out w4 t5.out
            row := ownsRow_base hrow.out (by simp)
            nout := fun k hk => by
              have h1 := (ownsRow_ge hrow.out hk).1
              simp at h1
              have h2 := hBw
              refine ⟨by omega, fun ho2 => ?_⟩
              have := (ho.out k ((outB_kept (t5.out.block B hBw id) k).1 ho2)).2
              omega
            out := ho.out.grow (t5.out.block B hBw id) t5.out.size
            cap := t5.out.cell_some hc.out id
            size := Nat.le_refl _ }
        replace hBw := Lib.hid hBw
        obtain ⟨wo, rfl⟩ : ∃ wo : World, wo = wr := ⟨_, rfl⟩
        gi_loopw [3, 52] (fun dv iv wq => ∃ i D : Nat, dv = .int .i64 D ∧ iv = .int .i64 i ∧ Hid (D = d + docsIn (ts.take i)) ∧ i ≤ ts.length ∧ Hid (AtTok bt B n0 m (.slice ro2 L2.length rc2) L2 (wo.heap.size) oo oc ts pre J w4 i wq)) (fun _ iv _ => ts.length - (intOf iv).toNat)
        case atStart => exact ⟨0, d, rfl, rfl, Lib.hid (by simp [docsIn]), Nat.zero_le _, hst2⟩
        case round =>
          obtain ⟨i, D, rfl, rfl, hD, hil, hti⟩ := hrel
          by_cases hit : i < ts.length
          · have z0 := nn_lt2 hit
            have hxi := List.getElem?_eq_getElem hit
            have htk : ts.take (i + 1) = ts.take i ++ [ts[i]] := by rw [List.take_succ_eq_append_getElem hit]
            generalize ts[i] = t at hxi htk
            obtain ⟨g, rfl, hgs, c0, c1, c2, c3, c4⟩ := tk_cells hti.out.row hxi
            have hD2 : (D : Int) + 1 ≤ 70000 := by have h1 := hD.out; have h2 := docs_take ts i; have h3 := hd1.out; have h4 := hdk.out; have h5 := hkl.out; have h6 := hlong.out; omega
            have hBw2 : B < wr.heap.size := by have h1 := hBw.out; have h2 := hti.out.size; have h3 := t5.out.size; omega
            have hbw2 : bt < wr.heap.size := by have h1 := hbw.out; have h2 := hti.out.size; have h3 := t5.out.size; omega
            have hn2 : n0 ≤ (wr.alloc (.cells #[.int .i64 t.kind, .int .i64 t.line, .int .i64 t.col, .string ⟨t.text.toArray⟩, .bool t.quoted] 39)).heap.size := by have h1 := hb5.out; have h2 := hti.out.size; have h3 := t5.out.size; have h4 := hsz.out; simp; omega
            have hta := Lib.hid (hti.out.grow hJ.out (Tch.alloc No wr (.cells #[.int .i64 t.kind, .int .i64 t.line, .int .i64 t.col, .string ⟨t.text.toArray⟩, .bool t.quoted] 39)) hBw2 hbw2)
            obtain ⟨fn, tmps, assign, body, hy, hR⟩ := hY.out _ (t, (0, 0, 0)) _ hta.out.j (tok_len hsq.out hit)
            replace hy : (Instr.yield l #[.agg #[.int .i64 t.kind, .int .i64 t.line, .int .i64 t.col, .string ⟨t.text.toArray⟩, .bool t.quoted], .agg #[.int .i64 0, .int .i64 0, .int .i64 0]]).run Try.prog (wr.alloc (.cells #[.int .i64 t.kind, .int .i64 t.line, .int .i64 t.col, .string ⟨t.text.toArray⟩, .bool t.quoted] 39)) = .ok (.round l fn tmps assign body) (wr.alloc (.cells #[.int .i64 t.kind, .int .i64 t.line, .int .i64 t.col, .string ⟨t.text.toArray⟩, .bool t.quoted] 39)) := hy
            have hdoc := docsIn_snoc (ts.take i) t
            rw [← htk] at hdoc
            replace hxi := Lib.hid hxi
            replace htk := Lib.hid htk
            replace hil := Lib.hid hil
            replace hstr := Lib.hid hstr
            replace hn2 := Lib.hid hn2
            replace hdoc := Lib.hid hdoc
            clear hBt k0 k1 q0 hBw2 hbw2
            have hbd := tk_bound hta.out.row
            cases hkd : (t.kind == 1) with
            | true =>
              have hDn : Hid (D + 1 = d + docsIn (ts.take (i + 1))) := Lib.hid (by rw [hdoc.out, hD.out]; simp only [beq_iff_eq.1 hkd, if_true]; omega)
              gi_wp2_with fail
              refine ⟨wide_no, hR.mono ?_⟩
              rintro e W3 (⟨rfl, hJ3, hk3⟩ | ⟨rfl, hJx3⟩)
              · have hti3 := Lib.hid (hta.out.round htk.out hk3 hJ3 hb1.out hb2.out hb3.out hb4.out hn2.out)
                replace hJ3 := Lib.hid hJ3
                replace hk3 := Lib.hid hk3
                gi_wp2
                go_roundw
                case rel => exact ⟨i + 1, D + 1, by go_num, by go_num, hDn, hit, hti3⟩
                case measure => simp [intOf]; omega
              · replace hJx3 := Lib.hid hJx3
                gi_wp2
                refine bodyPost_ret (results_none rfl _ _ _) rfl ?_
                exact ⟨⟨_, rfl⟩, .inr ⟨_, by rw [hsq.out]; exact tok_pre htk.out, hJx3.out⟩⟩
            | false =>
              have hDn : Hid (D = d + docsIn (ts.take (i + 1))) := Lib.hid (by rw [hdoc.out, hD.out]; simp only [if_neg (beq_eq_false_iff_ne.1 hkd)]; rfl)
              gi_wp2_with fail
              refine ⟨wide_no, hR.mono ?_⟩
              rintro e W3 (⟨rfl, hJ3, hk3⟩ | ⟨rfl, hJx3⟩)
              · have hti3 := Lib.hid (hta.out.round htk.out hk3 hJ3 hb1.out hb2.out hb3.out hb4.out hn2.out)
                replace hJ3 := Lib.hid hJ3
                replace hk3 := Lib.hid hk3
                gi_wp2
                go_roundw
                case rel => exact ⟨i + 1, D, by go_num, by go_num, hDn, hit, hti3⟩
                case measure => simp [intOf]; omega
              · replace hJx3 := Lib.hid hJx3
                gi_wp2
                refine bodyPost_ret (results_none rfl _ _ _) rfl ?_
                exact ⟨⟨_, rfl⟩, .inr ⟨_, by rw [hsq.out]; exact tok_pre htk.out, hJx3.out⟩⟩
          · have z0 := nn_ge2 hit
            have z1 : decide (i < ts.length) = false := decide_eq_false hit
            have hie : i = ts.length := Nat.le_antisymm hil (Nat.le_of_not_lt hit)
            subst hie
            have hnx : Hid (AtLine bt B n0 m text J W D (k + 1) (.slice ro2 L2.length rc2) wr) := Lib.hid
              { all := ⟨pre ++ ts.map (fun t => (t, (0, 0, 0))), L2, hti.out.by2, by rw [hsq.out, hD.out, List.take_of_length_le (Nat.le_refl _), List.append_assoc], by have := hti.out.j; rwa [List.take_of_length_le (Nat.le_refl _)] at this, by have h1 := hD.out; have h2 := docs_take ts ts.length; have h3 := hd1.out; have h4 := hdk.out; omega, hkn.out⟩
                out := hti.out.out
                cap := hti.out.cap
                size := by have h2 := hti.out.size; have h3 := t5.out.size; have h4 := hsz.out; omega }
            replace hil := Lib.hid hil
            replace hstr := Lib.hid hstr
            replace hit := Lib.hid hit
            clear hBt k0 k1 q0
            gi_wp2
            go_roundw
            case rel => exact ⟨D, k + 1, rfl, by go_num, hnx⟩
            case measure => exact hltB.out
    · have q0 : decide ((0 : Int) < (rest.length : Int)) = false := decide_eq_false (by omega)
      have q1 : decide (0 < rest.length) = false := decide_eq_false hlt
      have hnil : rest = [] := List.length_eq_zero_iff.1 (by omega)
      have hend : pre = seqOf text := by rw [hsq, hnil]; simp [linesOf, evs]
      replace hby := Lib.hid hby
      replace hsq := Lib.hid hsq
      replace hJp := Lib.hid hJp
      replace hdk := Lib.hid hdk
      replace hkl := Lib.hid hkl
      replace ho := Lib.hid ho
      replace hc := Lib.hid hc
      replace hsz := Lib.hid hsz
      replace hlt := Lib.hid hlt
      replace hnil := Lib.hid hnil
      replace hend := Lib.hid hend
      gi_wp2
      go_end0
      exact ⟨⟨_, rfl⟩, .inl ⟨_, hend.out, hJp.out⟩⟩
end Go.Proofs.Ytcnjmkjfgghgoaa
end
