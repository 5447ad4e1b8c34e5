/- slices.Backward at resources, and its closure's rounds. -/
import Derived.Shelf.Abstract
import Derived.Shelf.RegionOpen
import Derived.OwnWalkIn
import Derived.TacticsInMore
import Derived.LoopNIn
import Derived.LoopIn
import Derived.RangeFuncNested
import Derived.RangeFuncBound
import Derived.RangeFuncCalls
import Derived.RangeFuncLeaves
import Derived.RangeFuncBox
import Derived.Maps.OwnIn
import Derived.Test.YtjepgpocmnijiaaZb26
section

namespace Go.Proofs.Ytjepgpocmnijiaa
open Go.RowKit Go.Mp Go.Ck Go.Shelf
attribute [local go_sem] Oper.semAt_some
set_option linter.unusedVariables false
set_option maxRecDepth 100000
set_option maxHeartbeats 4000000
theorem wide_no {p : Prop} (h : Fence.wide.depth.isSome = true) : p := by cases h
theorem back73 (ao : Option Addr) (n cap : Nat) (w : World) : Calls Try.prog 73 #[.slice ao n cap] w fun e w' => e = .returned (.func (.func 124) #[] #[.pointer (some ⟨w.heap.size, 0, none⟩)]) ∧ w' = w.alloc (.cells #[.slice ao n cap] 22) := by
  go_enter Try.func73, Try.ntmps73
  go_wp2
  go_ret
  exact ⟨rfl, rfl⟩
/-- What a round keeps: all cells. -/
structure Kb (W W' : World) : Prop where
  size : W.heap.size ≤ W'.heap.size
  keep : ∀ (k : Nat) (o : Obj), W.heap[k]? = some o → o.isCells = true → W'.heap[k]? = some o
theorem Kb.trans {A B C : World} (h : Kb A B) (g : Kb B C) : Kb A C := ⟨Nat.le_trans h.size g.size, fun k o e c => g.keep k o (h.keep k o e c) c⟩
theorem cell_obj {W : World} {k off : Nat} {x : Value} (h : W.cell? ⟨k, off, none⟩ = some x) : ∃ o, W.heap[k]? = some o ∧ o.isCells = true := by
  unfold World.cell? at h
  split at h
  · rename_i c _ _ e; exact ⟨_, e, rfl⟩
  · cases h
theorem Kb.cell {W W' : World} (h : Kb W W') {k off : Nat} {x : Value} (hx : W.cell? ⟨k, off, none⟩ = some x) : W'.cell? ⟨k, off, none⟩ = some x := by
  obtain ⟨o, e, ec⟩ := cell_obj hx
  rw [← hx]; exact World.cell?_of_block ((h.keep k o e ec).trans e.symm)
theorem Kb.slice {W W' : World} (h : Kb W W') {v : Value} {L : List Rw} (hs : Rd.SliceOf rwE W v L) : Rd.SliceOf rwE W' v L := by
  obtain ⟨hl, ao, cap, rfl, hc, h2⟩ := hs
  refine ⟨hl, ao, cap, rfl, hc, ?_⟩
  rcases h2 with h2 | ⟨b, off, rfl, hb, hx⟩
  · exact .inl h2
  · exact .inr ⟨b, off, rfl, Nat.lt_of_lt_of_le hb h.size, fun i x hi j u hu => h.cell (hx i x hi j u hu)⟩
section
variable {Pr : Rw → Prop}
abbrev RwP (Pr : Rw → Prop) := Nat × { x : Rw // Pr x }
def encB (x : RwP Pr) : Array Value := #[.int .i64 x.1, valW x.2.1]
/-- The rounds from the i-th element down. -/
def seqB (L : List { x : Rw // Pr x }) : Nat → List (RwP Pr)
  | 0 => []
  | i + 1 => match L[i]? with
    | some x => (i, x) :: seqB L i
    | none => seqB L i
theorem seqB_succ {L : List { x : Rw // Pr x }} {i : Nat} {x : { x : Rw // Pr x }} (h : L[i]? = some x) : seqB L (i + 1) = (i, x) :: seqB L i := by
  show (match L[i]? with
    | some x => (i, x) :: seqB L i
    | none => seqB L i) = _
  rw [h]
theorem seqB_len (L : List { x : Rw // Pr x }) : ∀ i, i ≤ L.length → (seqB L i).length = i
  | 0, _ => rfl
  | i + 1, h => by rw [seqB_succ (List.getElem?_eq_getElem (show i < L.length by omega)), List.length_cons, seqB_len L i (by omega)]
def YieldsB (n l : Nat) (N : Nat) (J Jx : List (RwP Pr) → World → Prop) : Prop :=
  ∀ pre x W1, J pre W1 → pre.length < N → YieldAt Fence.wide (n - 1) Try.prog l (encB x) W1 fun e W' =>
    (e = .returned (.bool true) ∧ J (pre ++ [x]) W' ∧ Kb W1 W') ∨ (e = .returned (.bool false) ∧ Jx (pre ++ [x]) W')
def EPostB (L : List { x : Rw // Pr x }) (J Jx : List (RwP Pr) → World → Prop) (e : Ending) (W' : World) : Prop := (∃ v, e = .returned v) ∧ ((∃ xs, xs = seqB L L.length ∧ J xs W') ∨ (∃ pre, True ∧ Jx pre W'))
structure AtB (Bt : Nat) (ao : Option Addr) (cap : Nat) (L : List { x : Rw // Pr x }) (J : List (RwP Pr) → World → Prop) (i : Nat) (pre : List (RwP Pr)) (wr : World) : Prop where
  bt : wr.cell? ⟨Bt, 0, none⟩ = some (.slice ao L.length cap)
  sl : Rd.SliceOf rwE wr (.slice ao L.length cap) (L.map Subtype.val)
  j : J pre wr
  eq : pre ++ seqB L i = seqB L L.length
  le : i ≤ L.length
theorem each_back (n l Bt : Nat) (ao : Option Addr) (cap : Nat) (L : List { x : Rw // Pr x }) (J Jx : List (RwP Pr) → World → Prop) (W : World)
    (hY : YieldsB n l L.length J Jx) (hBt : W.cell? ⟨Bt, 0, none⟩ = some (.slice ao L.length cap)) (hL : Rd.SliceOf rwE W (.slice ao L.length cap) (L.map Subtype.val)) (h0 : J [] W) :
    CallsIn Fence.wide n Try.prog 124 #[.func (.yield l) #[] #[], .pointer (some ⟨Bt, 0, none⟩)] W (EPostB L J Jx) := by
  have hlen : L.length ≤ 140737488351232 := by have := hL.1; rwa [List.length_map] at this
  have hst : AtB Bt ao cap L J L.length [] W := ⟨hBt, hL, h0, rfl, Nat.le_refl _⟩
  have hw0 : IntKind.i64.wrap ((L.length : Int) - 1) = (L.length : Int) - 1 := by rw [IntKind.wrap_i64]; omega
  have hw1 : wrap64 ((L.length : Int) - 1) = (L.length : Int) - 1 := by unfold wrap64; omega
  replace hst := Lib.hid hst
  replace hL := Lib.hid hL
  replace h0 := Lib.hid h0
  replace hY := Lib.hid hY
  refine callsIn_of_wp Try.func124 rfl trivial ?_ rfl
  simp only [Try.ntmps124, List.size_toArray, List.length_cons, List.length_nil, Nat.reduceAdd, Nat.reduceSub, Array.replicate_succ, Array.replicate_zero, List.push_toArray, List.append_toArray, List.nil_append, List.cons_append]
  gi_wp2
  gi_loopw [3] (fun iv wr => ∃ (i : Nat) (pre : List (RwP Pr)) (z : Int), iv = .int .i64 z ∧ z = (i : Int) - 1 ∧ Hid (AtB Bt ao cap L J i pre wr)) (fun iv wr => (intOf iv + 1).toNat)
  case atStart => exact ⟨L.length, [], _, rfl, by first | rfl | omega | go_num, hst⟩
  case round =>
    obtain ⟨i, pre, z, rfl, hz, hat⟩ := hrel
    cases i with
    | zero =>
      have hz' : z = -1 := by omega
      subst hz'
      have hpre : pre = seqB L L.length := by have := hat.out.eq; rwa [show seqB L 0 = [] from rfl, List.append_nil] at this
      replace hpre := Lib.hid hpre
      clear hz
      gi_wp2
      go_end0
      exact ⟨⟨_, rfl⟩, .inl ⟨_, hpre.out, hat.out.j⟩⟩
    | succ m =>
      have hz' : z = (m : Int) := by omega
      subst hz'
      clear hz
      have hml : m < L.length := hat.out.le
      obtain ⟨⟨x, hxp⟩, hx⟩ : ∃ x, L[m]? = some x := ⟨_, List.getElem?_eq_getElem hml⟩
      have hxm : (L.map Subtype.val)[m]? = some x := by rw [List.getElem?_map, hx]; rfl
      have hbt := hat.out.bt
      obtain ⟨b, off, rfl, hbl, c⟩ := rw_at hat.out.sl hxm
      obtain ⟨c0, c1, c2, c3, c4, c5, c6, c7⟩ := c
      have heq := hat.out.eq
      have hsb := seqB_succ hx
      rw [hsb] at heq
      have hpl : pre.length < L.length := by
        have := congrArg List.length heq
        rw [seqB_len L _ (Nat.le_refl _), List.length_append, List.length_cons, seqB_len L _ (Nat.le_of_lt hml)] at this
        omega
      obtain ⟨fn, tmps, assign, body, hy, hR⟩ := hY.out pre (m, ⟨x, hxp⟩) wr hat.out.j hpl
      replace hy : (Instr.yield l #[.int .i64 m, .agg #[.int .i64 x.r.kind, .string x.r.name, .slice x.eo x.r.eps.length x.ec, .slice x.ta x.r.tgts.length x.tc, .string x.r.host, .slice x.ra x.r.rules.length x.rc, .string x.r.route, .bool x.r.del]]).run Try.prog wr = .ok (.round l fn tmps assign body) wr := hy
      have k0 : (0 : Int) ≤ (m : Int) := by omega
      have k1 : (m : Int) < (L.length : Int) := by omega
      have k2 : IntKind.i64.wrap ((m : Int) - 1) = (m : Int) - 1 := by rw [IntKind.wrap_i64]; omega
      have k3 : wrap64 ((m : Int) - 1) = (m : Int) - 1 := by unfold wrap64; omega
      replace heq := Lib.hid heq
      replace hsb := Lib.hid hsb
      replace hpl := Lib.hid hpl
      replace hx := Lib.hid hx
      replace hxm := Lib.hid hxm
      replace hbl := Lib.hid hbl
      replace hml := Lib.hid hml
      gi_wp2_with fail
      refine ⟨wide_no, hR.mono ?_⟩
      rintro e W3 (⟨rfl, hJ3, hk3⟩ | ⟨rfl, hJx3⟩)
      · have hn : Hid (AtB Bt (some ⟨b, off, none⟩) cap L J m (pre ++ [(m, ⟨x, hxp⟩)]) W3) := Lib.hid ⟨hk3.cell hat.out.bt, hk3.slice hat.out.sl, hJ3, by rw [List.append_assoc]; exact heq.out, Nat.le_of_lt hml.out⟩
        replace hk3 := Lib.hid hk3
        replace hJ3 := Lib.hid hJ3
        gi_wp2
        go_roundw
        case rel => exact ⟨m, _, _, rfl, by first | rfl | (rw [k3]) | go_num, hn⟩
        case measure => simp [intOf]
      · replace hJx3 := Lib.hid hJx3
        gi_wp2
        refine bodyPost_ret (results_none rfl _ _ _) rfl ?_
        exact ⟨⟨_, rfl⟩, .inr ⟨_, trivial, hJx3.out⟩⟩
theorem back_stops (n Bt : Nat) (ao : Option Addr) (cap : Nat) (L : List { x : Rw // Pr x }) (w : World) (hBt : w.cell? ⟨Bt, 0, none⟩ = some (.slice ao L.length cap)) (hL : Rd.SliceOf rwE w (.slice ao L.length cap) (L.map Subtype.val)) :
    SeqStopsK Fence.wide n Try.prog 124 #[.pointer (some ⟨Bt, 0, none⟩)] encB Kb (fun xs => xs = seqB L L.length) (fun _ => True) L.length w := by
  intro l J Jx W hW hJ hJx hY h0
  obtain ⟨o, ho, _⟩ := cell_obj hBt
  exact each_back n l Bt ao cap L J Jx W hY ((hW.cell (p := ⟨Bt, 0, none⟩) (Array.getElem?_eq_some_iff.1 ho).1).trans hBt) (hL.below hW) h0
end
end Go.Proofs.Ytjepgpocmnijiaa
end
