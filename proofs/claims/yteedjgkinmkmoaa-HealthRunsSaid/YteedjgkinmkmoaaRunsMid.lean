/- The calls of a round of the law on runs. -/
import Derived.Test.YteedjgkinmkmoaaRuns
namespace Go.Proofs.Yteedjgkinmkmoaa
open Go.RowKit Go.Tp
set_option linter.unusedVariables false
def Head (Wx : World) (rise fall : Int) (ps : List (Bool × Nat)) (sv dv lv tv : Value) (er : Int) (n : Nat) (w : World) : Prop :=
  Below Wx.heap.size Wx w ∧ ((sv = .pointer none ∧ dv = .pointer none ∧ lv = .pointer none ∧ tv = .pointer none ∧ er = 1) ∨
    (er = 0 ∧ ∃ bs bd pv base, sv = .pointer (some ⟨bs, 0, none⟩) ∧ dv = .pointer (some ⟨bd, 0, none⟩) ∧ Core Wx rise fall ps base bs bd lv tv n n pv w))
def Mid (Wx : World) (rise fall : Int) (ps : List (Bool × Nat)) (sv dv lv tv : Value) (er : Int) (b10 : Nat) (box : Obj) (nS nD : Nat) (w : World) : Prop :=
  w.heap[b10]? = some box ∧ Below Wx.heap.size Wx w ∧ ((sv = .pointer none ∧ dv = .pointer none ∧ lv = .pointer none ∧ tv = .pointer none ∧ er = 1) ∨
    (er = 0 ∧ ∃ bs bd pv base, sv = .pointer (some ⟨bs, 0, none⟩) ∧ dv = .pointer (some ⟨bd, 0, none⟩) ∧ Core Wx rise fall ps base bs bd lv tv nS nD pv w ∧ b10 ≠ bs ∧ b10 ≠ bd ∧ pv.ownBlock ≠ some b10))
section
variable {Wx : World} {rise fall : Int} {ps : List (Bool × Nat)} {sv dv lv tv : Value} {er : Int} {b10 : Nat} {box : Obj} {nS nD n : Nat} {w w' : World}
theorem head_below (h : Head Wx rise fall ps sv dv lv tv er n w) (hb : Below w.heap.size w w') : Head Wx rise fall ps sv dv lv tv er n w' := by
  obtain ⟨h1, h2⟩ := h
  refine ⟨Tp.Below_seq h1 hb, ?_⟩
  rcases h2 with h2 | ⟨h0, bs, bd, pv, base, e1, e2, hc⟩
  · exact .inl h2
  · exact .inr ⟨h0, bs, bd, pv, base, e1, e2, core_below hc hb⟩
theorem mid_below (h : Mid Wx rise fall ps sv dv lv tv er b10 box nS nD w) (hb : Below w.heap.size w w') : Mid Wx rise fall ps sv dv lv tv er b10 box nS nD w' := by
  obtain ⟨h0, h1, h2⟩ := h
  refine ⟨(hb.block _ (Array.getElem?_eq_some_iff.1 h0).1).trans h0, Tp.Below_seq h1 hb, ?_⟩
  rcases h2 with h2 | ⟨h0, bs, bd, pv, base, e1, e2, hc, r⟩
  · exact .inl h2
  · exact .inr ⟨h0, bs, bd, pv, base, e1, e2, core_below hc hb, r⟩
theorem mid_of (h : Head Wx rise fall ps sv dv lv tv er n w) (box : Obj) : Mid Wx rise fall ps sv dv lv tv er w.heap.size box n n (w.alloc box) := by
  obtain ⟨h1, h2⟩ := h
  refine ⟨heap_alloc_new w box, Tp.Below_seq h1 (Tp.Below_alloc w box), ?_⟩
  rcases h2 with h2 | ⟨h0, bs, bd, pv, base, e1, e2, hc⟩
  · exact .inl h2
  · have l1 := (Array.getElem?_eq_some_iff.1 hc.s).1
    have l2 := (Array.getElem?_eq_some_iff.1 hc.rst.blk).1
    refine .inr ⟨h0, bs, bd, pv, base, e1, e2, core_below hc (Tp.Below_alloc w box), by omega, by omega, fun hk => ?_⟩
    have := (row_type hc.rst.own hk).choose_spec.2.2
    omega
theorem head_of (h : Mid Wx rise fall ps sv dv lv tv er b10 box n n w) : Head Wx rise fall ps sv dv lv tv er n w := by
  obtain ⟨_, h1, h2⟩ := h
  refine ⟨h1, ?_⟩
  rcases h2 with h2 | ⟨h0, bs, bd, pv, base, e1, e2, hc, _⟩
  · exact .inl h2
  · exact .inr ⟨h0, bs, bd, pv, base, e1, e2, hc⟩
theorem mid_S {p : Bool × Nat} (h : Mid Wx rise fall ps sv dv lv tv er b10 box nS nD w) (hp : ps[nS]? = some p) (hp2 : p.2 < 18446744073709551616) (hn : nS ≤ 1000) :
    Calls Try.prog 13 #[sv, .bool p.1, .float .f64 p.2] w fun e w' => e = .returned (.int .i64 er) ∧ Mid Wx rise fall ps sv dv lv tv er b10 box (nS + 1) nD w' := by
  obtain ⟨h0, h1, h2⟩ := h
  rcases h2 with ⟨rfl, rfl, rfl, rfl, rfl⟩ | ⟨rfl, bs, bd, pv, base, rfl, rfl, hc, n1, n2, n3⟩
  · refine (probe_nil _ _ w).mono ?_
    rintro e w' ⟨rfl, rfl⟩
    exact ⟨rfl, h0, h1, .inl ⟨rfl, rfl, rfl, rfl, rfl⟩⟩
  · refine (probe_any bs _ p.1 p.2 nS w hc.s hp2 hc.ok (by omega)).mono ?_
    rintro e w' ⟨rfl, hs, ho⟩
    have hc' := core_probeS hc hp hp2 hs ho
    exact ⟨rfl, (ho.block _ n1).trans h0, hc'.below, .inr ⟨rfl, bs, bd, pv, base, rfl, rfl, hc', n1, n2, n3⟩⟩
theorem mid_D {p : Bool × Nat} (h : Mid Wx rise fall ps sv dv lv tv er b10 box nS nD w) (hp : ps[nD]? = some p) (hn : nD ≤ 1000) :
    Calls Try.prog 22 #[dv, .bool p.1, .float .f64 p.2] w fun e w' => e = .returned (.int .i64 er) ∧ Mid Wx rise fall ps sv dv lv tv er b10 box nS (nD + 1) w' := by
  obtain ⟨h0, h1, h2⟩ := h
  rcases h2 with ⟨rfl, rfl, rfl, rfl, rfl⟩ | ⟨rfl, bs, bd, pv, base, rfl, rfl, hc, n1, n2, n3⟩
  · refine (refprobe_nil _ _ w).mono ?_
    rintro e w' ⟨rfl, rfl⟩
    exact ⟨rfl, h0, h1, .inl ⟨rfl, rfl, rfl, rfl, rfl⟩⟩
  · refine (refprobe_at base bd rise fall _ pv p.1 p.2 w hc.rst hc.hsz (by rw [List.length_take]; omega)).mono ?_
    rintro e w' ⟨pv', rfl, hr, hR, hv⟩
    have hc' := core_probeD hc hp hr hR hv
    have l0 := (Array.getElem?_eq_some_iff.1 h0).1
    refine ⟨rfl, (hR.block _ l0 n2 n3).trans h0, hc'.below, .inr ⟨rfl, bs, bd, pv', base, rfl, rfl, hc', n1, n2, fun hk => ?_⟩⟩
    rcases hv with hv | ⟨k, hv, hge⟩
    · exact n3 (by rw [← hv]; exact hk)
    · rw [hv] at hk; cases hk; omega
theorem head_is (hv : er = 0 → validT rise fall) (hps : ∀ p ∈ ps, p.2 < 18446744073709551616) (hn : n ≤ 1000) (h : Head Wx rise fall ps sv dv lv tv er n w) :
    Calls Try.prog 20 #[sv, dv] w fun e w' => e = .returned (.bool true) ∧ Below w.heap.size w w' := by
  obtain ⟨h1, h2⟩ := h
  rcases h2 with ⟨rfl, rfl, rfl, rfl, rfl⟩ | ⟨rfl, bs, bd, pv, base, rfl, rfl, hc⟩
  · exact is_ptr (o := none) rfl rfl
  · exact is_ptr (o := some (runS (newS rise fall) (ps.take n))) ⟨bs, rfl, hc.s⟩ ⟨bd, rise, fall, ps.take n, pv, rfl, hv rfl, fun p hp => hps p (List.mem_of_mem_take hp), hc.rst.blk, rst_rdp hc.rst, by rw [List.length_take]; omega, rfl⟩
theorem head_left (h : Head Wx rise fall ps sv dv lv tv er n w) : lv = .pointer none ∨ ∃ bl, lv = .pointer (some ⟨bl, 0, none⟩) ∧ ∀ w', Below w.heap.size w w' →
    Calls Try.prog 20 #[lv, tv] w' fun e w'' => e = .returned (.bool true) ∧ Below w'.heap.size w' w'' := by
  obtain ⟨h1, h2⟩ := h
  rcases h2 with ⟨_, _, rfl, _⟩ | ⟨_, bs, bd, pv, base, _, _, hc⟩
  · exact .inl rfl
  · rcases hc.left with ⟨rfl, _⟩ | ⟨bl, bt, base', rise', fall', qs, pt, rfl, rfl, h3, h4, h5, h6, h7, h8, h9, h10⟩
    · exact .inl rfl
    · refine .inr ⟨bl, rfl, fun w' hb => ?_⟩
      have hr := rst_below h10 hb
      exact is_ptr (o := some (runS (newS rise' fall') qs)) ⟨bl, rfl, (hb.block _ (Array.getElem?_eq_some_iff.1 h6).1).trans h6⟩ ⟨bt, rise', fall', qs, pt, rfl, h7, h8, hr.blk, rst_rdp hr, h9, rfl⟩
theorem mid_is (hv : er = 0 → validT rise fall) (hps : ∀ p ∈ ps, p.2 < 18446744073709551616) (hn : n ≤ 1000) (h : Mid Wx rise fall ps sv dv lv tv er b10 box n n w) :
    Calls Try.prog 20 #[sv, dv] w fun e w' => e = .returned (.bool true) ∧ Mid Wx rise fall ps sv dv lv tv er b10 box n n w' := by
  have h' := h
  obtain ⟨h0, h1, h2⟩ := h
  rcases h2 with ⟨rfl, rfl, rfl, rfl, rfl⟩ | ⟨rfl, bs, bd, pv, base, rfl, rfl, hc, _⟩
  · exact (is_ptr (o := none) rfl rfl).mono fun e w' hh => ⟨hh.1, mid_below h' hh.2⟩
  · exact (is_ptr (o := some (runS (newS rise fall) (ps.take n))) ⟨bs, rfl, hc.s⟩ ⟨bd, rise, fall, ps.take n, pv, rfl, hv rfl, fun p hp => hps p (List.mem_of_mem_take hp), hc.rst.blk, rst_rdp hc.rst, by rw [List.length_take]; omega, rfl⟩).mono fun e w' hh => ⟨hh.1, mid_below h' hh.2⟩
end
end Go.Proofs.Yteedjgkinmkmoaa
