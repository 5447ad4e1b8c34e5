/- What a state tells, against what the document's tells: the walks of the document's Slower and of the laws' own is, of states and of none. -/
import Derived.Test.YteedjgkinmkmoaaNow
namespace Go.Proofs.Yteedjgkinmkmoaa
open Go.ChangeShapes Go.WideShapes Go.ChangeAt Go.RowKit
open Go.Tp
set_option linter.unusedVariables false

def upOf : Option St → Bool | none => false | some s => s.pl == 1
def rowOf : Option St → Int | none => 0 | some s => s.row
def turnsOf : Option St → Int | none => 0 | some s => s.turns
def NowV (o : Option St) : Value := .agg #[.bool (upOf o), .int .i64 (rowOf o), .float .f64 (tookOf o), .int .i64 (timedOf o), .int .i64 (turnsOf o)]
/-- The document's state or none, behind a pointer; the state that it comes to. -/
def DocP (w : World) (v : Value) : Option St → Prop
  | none => v = .pointer none
  | some s => ∃ (bd : Nat) (rise fall : Int) (ps : List (Bool × Nat)) (pv : Value), v = .pointer (some ⟨bd, 0, none⟩) ∧ validT rise fall ∧ (∀ p ∈ ps, p.2 < 18446744073709551616) ∧ w.heap[bd]? = some (rblk rise fall pv) ∧ RdP w pv ps ∧ ps.length ≤ 1000000 ∧ s = runS (newS rise fall) ps
theorem rdp_below {w w' : World} {v : Value} {ps : List (Bool × Nat)} (h : RdP w v ps) (hb : Below w.heap.size w w') : RdP w' v ps := by
  obtain ⟨ao, cap, rfl, h⟩ := h
  refine ⟨ao, cap, rfl, ?_⟩
  rcases h with h | ⟨b, off, rfl, hb', hp⟩
  · exact .inl h
  · exact .inr ⟨b, off, rfl, Nat.lt_of_lt_of_le hb' hb.size, hp.below hb' hb⟩
theorem docp_below {w w' : World} {v : Value} {o : Option St} (h : DocP w v o) (hb : Below w.heap.size w w') : DocP w' v o := by
  cases o with
  | none => exact h
  | some s =>
    obtain ⟨bd, rise, fall, ps, pv, h1, h2, h3, h4, h5, h6, h7⟩ := h
    exact ⟨bd, rise, fall, ps, pv, h1, h2, h3, (hb.block _ (Array.getElem?_eq_some_iff.1 h4).1).trans h4, rdp_below h5 hb, h6, h7⟩
theorem ptris_below {w w' : World} {v : Value} {o : Option St} (h : PtrIs w v o) (hb : Below w.heap.size w w') : PtrIs w' v o := by
  cases o with
  | none => exact h
  | some s =>
    obtain ⟨b, h1, h2⟩ := h
    exact ⟨b, h1, (hb.block _ (Array.getElem?_eq_some_iff.1 h2).1).trans h2⟩
theorem now_ptr {w : World} {v : Value} {o : Option St} (h : DocP w v o) : Calls Try.prog 28 #[v] w fun e w' => e = .returned (NowV o) ∧ Below w.heap.size w w' := by
  cases o with
  | none => obtain rfl := h; exact now_nil w
  | some s =>
    obtain ⟨bd, rise, fall, ps, pv, rfl, h2, h3, h4, h5, h6, rfl⟩ := h
    exact now_any bd rise fall h2 ps h3 pv w h4 h5 h6
theorem healthy_ptr {w : World} {v : Value} {o : Option St} (h : PtrIs w v o) : Calls Try.prog 11 #[v] w fun e w' => e = .returned (.bool (upOf o)) ∧ w = w' := by
  cases o with
  | none => obtain rfl := h; exact healthy_nil w
  | some s => obtain ⟨b, rfl, hb⟩ := h; exact healthy_any b s w hb
theorem row_ptr {w : World} {v : Value} {o : Option St} (h : PtrIs w v o) : Calls Try.prog 14 #[v] w fun e w' => e = .returned (.int .i64 (rowOf o)) ∧ w = w' := by
  cases o with
  | none => obtain rfl := h; exact row_nil w
  | some s => obtain ⟨b, rfl, hb⟩ := h; exact row_any b s w hb
theorem took_ptr {w : World} {v : Value} {o : Option St} (h : PtrIs w v o) : Calls Try.prog 15 #[v] w fun e w' => e = .returned (.float .f64 (tookOf o)) ∧ w = w' := by
  cases o with
  | none => obtain rfl := h; exact took_nil w
  | some s => obtain ⟨b, rfl, hb⟩ := h; exact took_any b s w hb
theorem turns_ptr {w : World} {v : Value} {o : Option St} (h : PtrIs w v o) : Calls Try.prog 12 #[v] w fun e w' => e = .returned (.int .i64 (turnsOf o)) ∧ w = w' := by
  cases o with
  | none => obtain rfl := h; exact turns_nil w
  | some s => obtain ⟨b, rfl, hb⟩ := h; exact turns_any b s w hb

theorem pc0 (ps : List (Bool × Nat)) (i : Nat) (h : i < ps.length) : (pcells ps)[i * 2]? = some (.bool (ps.getD i (false, 0)).1) := by
  induction ps generalizing i with
  | nil => simp at h
  | cons p r ih =>
    cases i with
    | zero => rfl
    | succ i =>
      have h2 := ih i (by simpa using h)
      have e : pcells (p :: r) = .bool p.1 :: .float .f64 p.2 :: pcells r := rfl
      rw [e, show (i + 1) * 2 = i * 2 + 1 + 1 from by omega, List.getElem?_cons_succ, List.getElem?_cons_succ, h2]
      rfl
theorem pc1 (ps : List (Bool × Nat)) (i : Nat) (h : i < ps.length) : (pcells ps)[i * 2 + 1]? = some (.float .f64 (ps.getD i (false, 0)).2) := by
  induction ps generalizing i with
  | nil => simp at h
  | cons p r ih =>
    cases i with
    | zero => rfl
    | succ i =>
      have h2 := ih i (by simpa using h)
      have e : pcells (p :: r) = .bool p.1 :: .float .f64 p.2 :: pcells r := rfl
      rw [e, show (i + 1) * 2 + 1 = i * 2 + 1 + 1 + 1 from by omega, List.getElem?_cons_succ, List.getElem?_cons_succ, h2]
      rfl
theorem rst_rdp {w : World} {base bd : Nat} {rise fall : Int} {ps : List (Bool × Nat)} {pv : Value} (h : RSt w base bd rise fall ps pv) : RdP w pv ps := by
  have ho := h.own
  rcases ho.2 with ⟨rfl, h0⟩ | ⟨g, cap, cur, rfl, hbg, hg, r⟩
  · exact ⟨none, 0, by rw [h0], .inl (List.eq_nil_of_length_eq_zero h0)⟩
  · refine ⟨_, cap, rfl, .inr ⟨g, 0, rfl, (Array.getElem?_eq_some_iff.1 hg).1, ⟨fun i hi => ?_, fun i hi => ?_⟩⟩⟩
    · rw [Nat.zero_add, ho.cellAt (i * 2) (by omega)]
      rw [pc0 ps i hi]
    · rw [Nat.zero_add, ho.cellAt (i * 2 + 1) (by omega)]
      rw [pc1 ps i hi]

/-- What the document told, in its box. -/
def nowblk (o : Option St) : Obj := .cells #[.bool (upOf o), .int .i64 (rowOf o), .float .f64 (tookOf o), .int .i64 (timedOf o), .int .i64 (turnsOf o)] 57 (0, 0)
theorem slower_eq (a b : Option St) : slowerB a b = (decide (0 < timedOf a) && (decide (0 < timedOf b) && (FloatKind.f64.format.order (tookOf a) (tookOf b) == some Ordering.gt))) := rfl
set_option maxHeartbeats 1000000 in
theorem refslower_ptr {w : World} {u v : Value} {a b : Option St} (hu : DocP w u a) (hv : DocP w v b) : Calls Try.prog 19 #[u, v] w fun e w' => e = .returned (.bool (slowerB a b)) ∧ Below w.heap.size w w' := by
  have h1 := Lib.hid (now_ptr hu)
  replace hv := Lib.hid hv
  have hd := Lib.hid (slower_eq a b)
  clear hu
  go_enter Try.func19, Try.ntmps19
  go_wp2_with fail
  refine h1.out.mono ?_
  rintro e w1 ⟨rfl, hb1⟩
  have h2 := Lib.hid (now_ptr (docp_below hv.out (Tp.Below_seq hb1 (Tp.Below_alloc w1 (nowblk a)))))
  replace hb1 := Lib.hid hb1
  unfold NowV
  have hka : ∀ {j : Nat} {x : Value}, (#[Value.bool (upOf a), .int .i64 (rowOf a), .float .f64 (tookOf a), .int .i64 (timedOf a), .int .i64 (turnsOf a)] : Array Value)[j]? = some x → (w1.alloc (nowblk a)).cell? ⟨w1.heap.size, j, none⟩ = some x := fun {j x} hx => (cell_of_row _ _ j _ _ _ (heap_alloc_new w1 _)).trans hx
  have k2 := hka (j := 2) rfl
  have k3 := hka (j := 3) rfl
  clear hka
  have hw2 : w1.heap.size < (w1.alloc (nowblk a)).heap.size := by simp
  replace k2 := Lib.hid k2
  replace k3 := Lib.hid k3
  replace hw2 := Lib.hid hw2
  go_wp2_with fail
  refine h2.out.mono ?_
  rintro e w2 ⟨rfl, hb2⟩
  have l2 := (hb2.cell (p := ⟨w1.heap.size, 2, none⟩) hw2.out).trans k2.out
  have l3 := (hb2.cell (p := ⟨w1.heap.size, 3, none⟩) hw2.out).trans k3.out
  have hlt : w1.heap.size < w2.heap.size := Nat.lt_of_lt_of_le hw2.out hb2.size
  have hbf : ∀ o, Below w.heap.size w (w2.alloc o) := fun o => Tp.Below_seq (Tp.Below_seq hb1.out (Tp.Below_of_alloc hb2)) (Tp.Below_alloc _ _)
  replace hbf := Lib.hid hbf
  clear hb2 k2 k3 hw2 h2 h1 hv hb1
  unfold NowV
  generalize tookOf a = ka at *
  generalize tookOf b = kb at *
  generalize timedOf a = ta at *
  generalize timedOf b = tb at *
  rcases (show (0 < ta ∧ 0 < tb) ∨ (0 < ta ∧ ¬ 0 < tb) ∨ ¬ 0 < ta from by omega) with ⟨q1, q2⟩ | ⟨q1, q2⟩ | q1
  · have q3 : decide (0 < ta) = true := decide_eq_true q1
    have q4 : decide (0 < tb) = true := decide_eq_true q2
    have hd2 := hd.out
    rw [q3, q4] at hd2
    simp only [Bool.true_and] at hd2
    replace hd2 := Lib.hid hd2
    go_wp2
    go_ret
    exact ⟨by rw [hd2.out]; rfl, hbf.out _⟩
  · have q3 : decide (0 < ta) = true := decide_eq_true q1
    have q4 : decide (0 < tb) = false := decide_eq_false q2
    have hd2 := hd.out
    rw [q3, q4] at hd2
    simp only [Bool.true_and, Bool.false_and] at hd2
    replace hd2 := Lib.hid hd2
    go_wp2
    go_ret
    exact ⟨by rw [hd2.out]; rfl, hbf.out _⟩
  · have q3 : decide (0 < ta) = false := decide_eq_false q1
    have hd2 := hd.out
    rw [q3] at hd2
    simp only [Bool.false_and] at hd2
    replace hd2 := Lib.hid hd2
    go_wp2
    go_ret
    exact ⟨by rw [hd2.out]; rfl, hbf.out _⟩

set_option maxHeartbeats 1000000 in
theorem is_ptr {w : World} {u v : Value} {o : Option St} (hu : PtrIs w u o) (hv : DocP w v o) : Calls Try.prog 20 #[u, v] w fun e w' => e = .returned (.bool true) ∧ Below w.heap.size w w' := by
  have h1 := Lib.hid (now_ptr hv)
  replace hu := Lib.hid hu
  clear hv
  go_enter Try.func20, Try.ntmps20
  go_wp2_with fail
  refine h1.out.mono ?_
  rintro e w1 ⟨rfl, hb1⟩
  have hu2 := ptris_below hu.out (Tp.Below_seq hb1 (Tp.Below_alloc w1 (nowblk o)))
  have hbf := Lib.hid (Tp.Below_seq hb1 (Tp.Below_alloc w1 (nowblk o)))
  clear hb1 hu h1
  unfold NowV
  have hka : ∀ {j : Nat} {x : Value}, (#[Value.bool (upOf o), .int .i64 (rowOf o), .float .f64 (tookOf o), .int .i64 (timedOf o), .int .i64 (turnsOf o)] : Array Value)[j]? = some x → (w1.alloc (nowblk o)).cell? ⟨w1.heap.size, j, none⟩ = some x := fun {j x} hx => (cell_of_row _ _ j _ _ _ (heap_alloc_new w1 _)).trans hx
  have k0 := hka (j := 0) rfl
  have k1 := hka (j := 1) rfl
  have k2 := hka (j := 2) rfl
  have k3 := hka (j := 3) rfl
  have k4 := hka (j := 4) rfl
  clear hka
  replace hu2 := Lib.hid hu2
  replace k0 := Lib.hid k0
  replace k1 := Lib.hid k1
  replace k2 := Lib.hid k2
  replace k3 := Lib.hid k3
  replace k4 := Lib.hid k4
  go_upto_region 2 with fail
  change Code.wp _ _ _ _ (w1.alloc (nowblk o))
  generalize w1.alloc (nowblk o) = w2 at *
  have g1 : ∀ m, Calls Try.prog 11 #[u] (w2.drewN m) fun e w' => e = .returned (.bool (upOf o)) ∧ w2.drewN m = w' := fun m => healthy_ptr (w := w2.drewN m) (ptris_below hu2.out (Tp.Below_drewN m))
  have g2 : ∀ m, Calls Try.prog 14 #[u] (w2.drewN m) fun e w' => e = .returned (.int .i64 (rowOf o)) ∧ w2.drewN m = w' := fun m => row_ptr (w := w2.drewN m) (ptris_below hu2.out (Tp.Below_drewN m))
  have g3 : ∀ m, Calls Try.prog 15 #[u] (w2.drewN m) fun e w' => e = .returned (.float .f64 (tookOf o)) ∧ w2.drewN m = w' := fun m => took_ptr (w := w2.drewN m) (ptris_below hu2.out (Tp.Below_drewN m))
  have g4 : ∀ m, Calls Try.prog 16 #[u] (w2.drewN m) fun e w' => e = .returned (.int .i64 (timedOf o)) ∧ w2.drewN m = w' := fun m => timed_ptr (w := w2.drewN m) (ptris_below hu2.out (Tp.Below_drewN m))
  have g5 : ∀ m, Calls Try.prog 12 #[u] (w2.drewN m) fun e w' => e = .returned (.int .i64 (turnsOf o)) ∧ w2.drewN m = w' := fun m => turns_ptr (w := w2.drewN m) (ptris_below hu2.out (Tp.Below_drewN m))
  generalize upOf o = x0 at *
  generalize rowOf o = x1 at *
  generalize tookOf o = x2 at *
  generalize timedOf o = x3 at *
  generalize turnsOf o = x4 at *
  have g6 : ∀ m, Calls Try.prog 25 #[.float .f64 x2, .float .f64 x2] (w2.drewN m) fun e w' => e = .returned (.bool true) ∧ w2.drewN m = w' := fun m => alike_same x2 _
  replace k0 := k0.out
  replace k1 := k1.out
  replace k2 := k2.out
  replace k3 := k3.out
  replace k4 := k4.out
  replace g1 := Lib.hid g1
  replace g2 := Lib.hid g2
  replace g3 := Lib.hid g3
  replace g4 := Lib.hid g4
  replace g5 := Lib.hid g5
  replace g6 := Lib.hid g6
  go_quiet ((first | (go_at_call 11; with_reducible exact Tp.quiet_same (g1.out _)) | (go_at_call 14; with_reducible exact Tp.quiet_same (g2.out _)) | (go_at_call 15; with_reducible exact Tp.quiet_same (g3.out _)) | (go_at_call 16; with_reducible exact Tp.quiet_same (g4.out _)) | (go_at_call 12; with_reducible exact Tp.quiet_same (g5.out _)) | (go_at_call 25; with_reducible exact Tp.quiet_same (g6.out _))))
  go_wp2
  go_ret
  exact ⟨rfl, below_drewN hbf.out _⟩
end Go.Proofs.Yteedjgkinmkmoaa
