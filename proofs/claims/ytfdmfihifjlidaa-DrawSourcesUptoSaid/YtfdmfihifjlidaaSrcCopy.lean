/- The walks of the document's Next, of Clone, and of both Copies. -/
import Derived.Test.YtfdmfihifjlidaaSrcNext
import Derived.Deep.RegionHeld3
import Derived.Deep.Cut
import Derived.Deep.LoopGhost
import Derived.Lib.SliceRun
namespace Go.Proofs.Ytfdmfihifjlidaa
open Go.RowKit Go.Tp
set_option linter.unusedVariables false
theorem refnext_any {w : World} {B b : Nat} {v : Value} {s : Sc} (h : SrcM 38 w B b v s) (hB : B ≤ w.heap.size) (hlen : s.xs.length * 8 ≤ 140737488355328) : Calls Try.prog 20 #[.pointer (some ⟨b, 0, none⟩)] w (NextPost 38 B b v s w) := by
  obtain ⟨i0, hi, hz0, hz1, hz2⟩ := info_parts info22
  obtain ⟨xs, st⟩ := s
  have hrow := h.row
  have hblk := h.blk
  have hbB := h.hb
  have hbl := (Array.getElem?_eq_some_iff.1 hblk).1
  have c1 : w.cell? ⟨b, 1, none⟩ = some (.int .u64 st) := (cell_of_row _ _ 1 _ _ _ hblk).trans rfl
  have c0 : w.cell? ⟨b, 0, none⟩ = some v := (cell_of_row _ _ 0 _ _ _ hblk).trans rfl
  cases xs with
  | nil =>
    obtain ⟨ao, cap, rfl⟩ : ∃ ao cap, v = .slice ao 0 cap := by
      rcases hrow.2 with ⟨rfl, _⟩ | ⟨g, off, cap, cur, h0, _⟩
      · exact ⟨none, 0, rfl⟩
      · exact ⟨_, _, h0⟩
    have f1 : w.frozen? ⟨b, 1, none⟩ = false := frozen_of_row _ _ _ _ _ hblk
    have hs : (w.setCell ⟨b, 1, none⟩ (.int .u64 (stepI st))).heap[b]? = some (.cells #[.slice ao 0 cap, .int .u64 (stepI st)] 38) := by simp [World.setCell, Array.getElem?_modify, hblk]
    have hk := row_but hrow (but_set w b 1 (.int .u64 (stepI st))) (fun hg => row_src (by decide) h hrow hg rfl) (fun g _ h => by cases h)
    replace hs := Lib.hid hs
    replace hk := Lib.hid hk
    replace hrow := Lib.hid hrow
    clear h hblk
    go_enter Try.func20, Try.ntmps20
    go_wp2
    go_ret
    exact ⟨_, rfl, ⟨hs.out, hk.out, hbB⟩, but_set _ _ _ _, .inl rfl⟩
  | cons x r =>
    obtain ⟨g, off, cap, rfl, hnc, d0⟩ : ∃ g off cap, v = .slice (some ⟨g, off, none⟩) (r.length + 1) cap ∧ r.length + 1 ≤ cap ∧ w.cell? ⟨g, off, none⟩ = some (.int .u64 x) := by
      rcases hrow.2 with ⟨rfl, h0⟩ | ⟨g, off, cap, cur, h0, _, hc, hnc, _, _, h4⟩
      · simp at h0
      · refine ⟨g, off, cap, h0, hnc, ?_⟩
        rw [cell_of_row _ _ _ _ _ _ hc]
        exact h4 0 _ rfl
    have hgl : g < w.heap.size := World.block_lt_of_cell? w _ d0
    have hb0 := Below_alloc w (.cells #[] 22)
    have hown0 : viewRow (w.alloc (.cells #[] 22)) w.heap.size 22 (.slice (some ⟨w.heap.size, 0, none⟩) 0 0) 0 [] :=
      ⟨rfl, .inr ⟨w.heap.size, 0, 0, #[], rfl, Nat.le_refl _, heap_alloc_new w _, Nat.le_refl _, by unfold maxLen; omega, Nat.le_refl _, fun j u hj => by simp at hj⟩⟩
    have hrl : r.length * 8 ≤ 140737488355328 := by simp at hlen; omega
    have hfin : ∀ v' w1, viewRow w1 w.heap.size 22 v' r.length (ucells r) → Grew (w.alloc (.cells #[] 22)) w1 (.slice (some ⟨w.heap.size, 0, none⟩) 0 0) v' 0 r.length →
        w1.heap[b]? = some (.cells #[.slice (some ⟨g, off, none⟩) (r.length + 1) cap, .int .u64 st] 38) ∧ NextPost 38 B b (.slice (some ⟨g, off, none⟩) (r.length + 1) cap) ⟨x :: r, st⟩ w (.returned (.int .u64 x)) (w1.setCell ⟨b, 0, none⟩ v') := fun v' w1 hr hg => by
      have hbe : Below w.heap.size w w1 := hb0.trans (by
        refine ⟨hg.os, hg.tape, hg.output, hg.size, fun k hk => ?_⟩
        rcases hg.block k (by simp; omega) with h3 | ⟨_, _, _, _, _, h3, _⟩
        · exact h3
        · cases h3)
      have hb1 := (hbe.block _ hbl).trans hblk
      have hne : v'.ownBlock ≠ some b := fun h0 => by
        obtain ⟨_, _, h1, _⟩ := row_block hr h0
        omega
      refine ⟨hb1, v', rfl, ⟨by simp [World.setCell, Array.getElem?_modify, hb1, nextS], ?_, hbB⟩, ?_, ?_⟩
      · exact viewRow_mono (row_but hr (but_set w1 b 0 v') hne (fun g _ h => by cases h)) hB
      · exact but_then_set ⟨hbe.os, hbe.tape, hbe.output, hbe.size, fun k hk _ _ => hbe.block k hk⟩
      · cases h0 : v'.ownBlock with
        | none => exact .inr (.inl rfl)
        | some k => exact .inr (.inr ⟨k, rfl, (row_block hr h0).choose_spec.2.1⟩)
    have hsrc : ∀ (a' : Nat) (c' : Nat) (zs : List Value), viewRow w B 22 (.slice (some ⟨g, a', none⟩) r.length c') r.length zs → ∀ j u, zs[j]? = some u → ∃ ad, some (⟨g, a', none⟩ : Addr) = some ad ∧ (w.alloc (.cells #[] 22)).cell? (ad.add j) = some u := fun a' c' zs hv => row_src_cells (viewRow_mono (viewRow_below hv hb0) (Nat.zero_le _))
    by_cases hc1 : cap = 1
    · have hr : r = [] := List.eq_nil_of_length_eq_zero (by omega)
      subst hr
      subst hc1
      replace hfin := Lib.hid hfin
      replace hrow := Lib.hid hrow
      clear h hblk hsrc
      go_enter Try.func20, Try.ntmps20
      go_wp2_with (at_builtin; (refine wpList_append_view rfl _ _ 36 rfl w.heap.size 22 i0 (.int .u64 0) 8 Try.underlying36 hi hz0 hz1 hz2 rfl _ 0 [] (by rfl) hown0 _ 0 _ [] (by rfl) rfl (fun j u hj => by simp at hj) (fun u hu => by simp at hu) (by unfold maxLen; omega) (by omega) (by simp) ?_))
      intro v' w1 hr' hg
      obtain ⟨hb1, hf⟩ := hfin.out v' w1 (by simpa [ucells] using hr') (by simpa using hg)
      have f0 : w1.frozen? ⟨b, 0, none⟩ = false := frozen_of_row _ _ _ _ _ hb1
      have e0 : w1.cell? ⟨b, 0, none⟩ = some (.slice (some ⟨g, off, none⟩) 1 1) := (cell_of_row _ _ 0 _ _ _ hb1).trans rfl
      obtain ⟨vo, vc, rfl⟩ : ∃ ao cap, v' = .slice ao 0 cap := by
        rcases hr'.2 with ⟨rfl, h0⟩ | ⟨g, off, cap, cur, h0, _⟩
        · exact ⟨none, 0, rfl⟩
        · exact ⟨_, _, h0⟩
      replace hf := Lib.hid hf
      clear hr' hg hb1 hown0
      go_wp2
      go_ret
      exact hf.out
    · have ht := row_tail hrow
      have hsr := hsrc _ _ _ ht
      have hc2 : (1 : Int) ≤ (cap : Int) := by omega
      have hc3 : 1 ≤ cap := by omega
      have hc4 : ¬ (cap : Int) = 1 := by omega
      have hc5 : ¬ (1 : Int) = (cap : Int) := by omega
      replace hfin := Lib.hid hfin
      replace hrow := Lib.hid hrow
      replace ht := Lib.hid ht
      clear h hblk hsrc
      go_enter Try.func20, Try.ntmps20
      go_wp2_with (at_builtin; (refine wpList_append_view rfl _ _ 36 rfl w.heap.size 22 i0 (.int .u64 0) 8 Try.underlying36 hi hz0 hz1 hz2 rfl _ 0 [] (by rfl) hown0 _ r.length _ (ucells r) (by rfl) (by simp [ucells]) hsr (ucells_one r) (by unfold maxLen; omega) (by omega) (by simp) ?_))
      intro v' w1 hr' hg
      obtain ⟨hb1, hf⟩ := hfin.out v' w1 (by simpa using hr') (by simpa using hg)
      have f0 : w1.frozen? ⟨b, 0, none⟩ = false := frozen_of_row _ _ _ _ _ hb1
      have e0 : w1.cell? ⟨b, 0, none⟩ = some (.slice (some ⟨g, off, none⟩) (r.length + 1) cap) := (cell_of_row _ _ 0 _ _ _ hb1).trans rfl
      obtain ⟨vo, vc, rfl⟩ : ∃ ao cap, v' = .slice ao r.length cap := by
        have hr2 : viewRow w1 w.heap.size 22 v' r.length (ucells r) := by simpa using hr'
        rcases hr2.2 with ⟨rfl, h0⟩ | ⟨g, off, cap, cur, h0, _⟩
        · exact ⟨none, 0, by rw [h0]⟩
        · exact ⟨_, _, h0⟩
      replace hf := Lib.hid hf
      clear hr' hg hb1 hown0 hsr
      go_wp2
      go_ret
      exact hf.out
/-- Clone: the same words in a row of their own. -/
def ClonePost (ys : List Int) (w : World) (e : Ending) (w' : World) : Prop :=
  ∃ v', e = .returned v' ∧ viewRow w' w.heap.size 22 v' ys.length (ucells ys) ∧ Below w.heap.size w w'
theorem clone_any {w : World} {B : Nat} {u : Value} {ys : List Int} (hu : viewRow w B 22 u ys.length (ucells ys)) (hlen : ys.length * 8 ≤ 140737488355328) : Calls Try.prog 34 #[u] w (ClonePost ys w) := by
  obtain ⟨i0, hi, hz0, hz1, hz2⟩ := info_parts info22
  rcases hu.2 with ⟨rfl, h0⟩ | ⟨g, off, cap, cur, rfl, _⟩
  · have hy : ys = [] := List.eq_nil_of_length_eq_zero h0
    subst hy
    have hnn : (binOp .eql 36 (.slice none 0 0) (.slice none 0 0)).run Try.prog w = .ok (.bool true) w := by
      have h := Lib.run_eql_slice_nil (P := Try.prog) w 36 22 none 0 0 0 0 Try.underlying36
      simpa using h
    go_enter Try.func34, Try.ntmps34
    go_wp2
    go_ret
    exact ⟨_, rfl, ⟨rfl, .inl ⟨rfl, rfl⟩⟩, Below.refl _ _⟩
  · have hb0 := Below_alloc w (.cells #[] 22)
    have hown0 : viewRow (w.alloc (.cells #[] 22)) w.heap.size 22 (.slice (some ⟨w.heap.size, 0, none⟩) 0 0) 0 [] :=
      ⟨rfl, .inr ⟨w.heap.size, 0, 0, #[], rfl, Nat.le_refl _, heap_alloc_new w _, Nat.le_refl _, by unfold maxLen; omega, Nat.le_refl _, fun j u hj => by simp at hj⟩⟩
    have hsr := row_src_cells (viewRow_below hu hb0)
    have hfin : ∀ v' w1, viewRow w1 w.heap.size 22 v' ys.length (ucells ys) → Grew (w.alloc (.cells #[] 22)) w1 (.slice (some ⟨w.heap.size, 0, none⟩) 0 0) v' 0 ys.length → ClonePost ys w (.returned v') w1 := fun v' w1 hr hg =>
      ⟨v', rfl, hr, hb0.trans (by
        refine ⟨hg.os, hg.tape, hg.output, hg.size, fun k hk => ?_⟩
        rcases hg.block k (by simp; omega) with h3 | ⟨_, _, _, _, _, h3, _⟩
        · exact h3
        · cases h3)⟩
    have hnn : (binOp .eql 36 (.slice (some ⟨g, off, none⟩) ys.length cap) (.slice none 0 0)).run Try.prog w = .ok (.bool false) w := by
      have h := Lib.run_eql_slice_nil (P := Try.prog) w 36 22 (some ⟨g, off, none⟩) ys.length cap 0 0 Try.underlying36
      simpa using h
    replace hfin := Lib.hid hfin
    replace hu := Lib.hid hu
    go_enter Try.func34, Try.ntmps34
    go_wp2_with (at_builtin; (refine wpList_append_view rfl _ _ 36 rfl w.heap.size 22 i0 (.int .u64 0) 8 Try.underlying36 hi hz0 hz1 hz2 rfl _ 0 [] (by rfl) hown0 _ ys.length _ (ucells ys) (by rfl) (by simp [ucells]) hsr (ucells_one ys) (by unfold maxLen; omega) (by omega) (by simp) ?_))
    intro v' w1 hr' hg
    have hf := Lib.hid (hfin.out v' w1 (by simpa using hr') (by simpa using hg))
    clear hr' hg hown0 hsr hb0
    go_wp2
    go_ret
    exact hf.out
theorem row_shape {w : World} {B : Nat} {e : TypeId} {v : Value} {n : Nat} {xs : List Value} (h : viewRow w B e v n xs) : ∃ ao cap, v = .slice ao n cap := by
  rcases h.2 with ⟨rfl, h0⟩ | ⟨g, off, cap, cur, h0, _⟩
  · exact ⟨none, 0, by rw [h0]⟩
  · exact ⟨_, _, h0⟩
theorem step_append_view {P : Program} {w : World} {ops : Array Oper} {o : Oper} {a : Act} {K : Act → World → Prop} {Q : Exit → Act → World → Prop} {E : Prop} (hgd : o.guard = none) (s x : Operand) (t : TypeId)
    (ho : o.op = .call { callee := .builtin .append, args := #[s, x], argTypes := #[t, t] })
    (base : Nat) (e : TypeId) (i : TypeInfo) (z : Value) (bytes : Nat) (ht : P.underlying t = some (.slice e)) (hi : P.info? e = some i) (hz : i.zero = some z)
    (hsize : i.size = 1) (hby : i.bytes = bytes) (hzs : z.cells.size = 1) (v : Value) (n : Nat) (xs : List Value) (hs : a.eval s = v) (hown : viewRow w base e v n xs)
    (ao : Option Addr) (m c : Nat) (news : List Value) (hx : a.eval x = .slice ao m c) (hl : news.length = m) (hsrc : ∀ j u, news[j]? = some u → ∃ ad, ao = some ad ∧ w.cell? (ad.add j) = some u) (h1 : ∀ u ∈ news, u.oneCell' = true)
    (h63 : n + m ≤ maxLen) (hbytes : (n + m) * bytes ≤ 140737488355328) (hbase : base ≤ w.heap.size)
    (h : ∀ v' w', viewRow w' base e v' (n + m) (xs ++ news) → Grew w w' v v' n m → K (a.put o.dst v') w') :
    if Region.wanted o (yielded ops a.tmps) = true then Oper.wp P o a w K Q else E := by
  have hw : Region.wanted o (yielded ops a.tmps) = true := by simp [Region.wanted, hgd]
  rw [if_pos hw]
  exact wp_append_view s x t ho base e i z bytes ht hi hz hsize hby hzs v n xs hs hown ao m c news hx hl hsrc h1 h63 hbytes hbase h
def CopyPost (T : TypeId) (s : Sc) (w : World) (e : Ending) (w' : World) : Prop :=
  ∃ b v', e = .returned (.pointer (some ⟨b, 0, none⟩)) ∧ SrcM T w' w.heap.size b v' s ∧ Below w.heap.size w w'
theorem copy_any {w : World} {B b : Nat} {v : Value} {s : Sc} (h : SrcM 67 w B b v s) (hlen : s.xs.length * 8 ≤ 140737488355328) : Calls Try.prog 17 #[.pointer (some ⟨b, 0, none⟩)] w (CopyPost 67 s w) := by
  have hblk := h.blk
  have hbl := (Array.getElem?_eq_some_iff.1 hblk).1
  have hS : ∀ w', Below w.heap.size w w' → w'.cell? ⟨b, 0, none⟩ = some v ∧ w'.cell? ⟨b, 1, none⟩ = some (.int .u64 s.st) := fun w' hb => by
    have h1 := (hb.block _ hbl).trans hblk
    exact ⟨(cell_of_row _ _ 0 _ _ _ h1).trans rfl, (cell_of_row _ _ 1 _ _ _ h1).trans rfl⟩
  obtain ⟨ao, cap, rfl⟩ : ∃ ao cap, v = .slice ao s.xs.length cap := by
    rcases h.row.2 with ⟨rfl, h0⟩ | ⟨g, off, cap, cur, h0, _⟩
    · exact ⟨none, 0, by rw [h0]⟩
    · exact ⟨_, _, h0⟩
  have hbd : Below w.heap.size w w.drew := below_drewN (Below.refl _ _) 1
  have hk : ∀ wz, Below w.heap.size w wz → Calls Try.prog 34 #[.slice ao s.xs.length cap] wz (ClonePost s.xs wz) := fun wz hz => clone_any (viewRow_below h.row hz) hlen
  replace hk := Lib.hid hk
  replace hS := Lib.hid hS
  replace hbd := Lib.hid hbd
  replace h := Lib.hid h
  clear hblk
  go_enter Try.func17, Try.ntmps17
  go_upto_region 3 with fail
  go_region_held3 (fun w' => Below w.heap.size w w' ∧ w'.cell? ⟨b, 0, none⟩ = some (.slice ao s.xs.length cap) ∧ w'.cell? ⟨b, 1, none⟩ = some (.int .u64 s.st))
    (first | exact ⟨hbd.out, hS.out _ hbd.out⟩ | exact ⟨hb2.out, hS.out _ hb2.out⟩ | exact ⟨Below_seq hb2.out (Below_alloc _ _), hS.out _ (Below_seq hb2.out (Below_alloc _ _))⟩ | fail)
    ((go_at_call 34; with_reducible refine (hk.out _ hbd.out).mono ?_; rintro e w1 h0; unfold ClonePost at h0; obtain ⟨v', rfl, hr, hb1⟩ := h0; obtain ⟨vo, vc, rfl⟩ := row_shape hr; have hb2 := Lib.hid (Below_seq hbd.out hb1); replace hr := Lib.hid hr))
  go_wp2
  go_ret
  have hr2 := viewRow_below hr.out (Below_alloc w1 (.cells #[.slice vo s.xs.length vc, .int .u64 s.st] 67))
  exact ⟨w1.heap.size, _, rfl, ⟨heap_alloc_new w1 _, viewRow_mono hr2 hbd.out.size, hb2.out.size⟩, Below_seq hb2.out (Below_alloc _ _)⟩
theorem refcopy_any {w : World} {B b : Nat} {v : Value} {s : Sc} (h : SrcM 38 w B b v s) (hlen : s.xs.length * 8 ≤ 140737488355328) : Calls Try.prog 18 #[.pointer (some ⟨b, 0, none⟩)] w (CopyPost 38 s w) := by
  obtain ⟨i0, hi, hz0, hz1, hz2⟩ := info_parts info22
  have hblk := h.blk
  have hbl := (Array.getElem?_eq_some_iff.1 hblk).1
  have hS : ∀ w', Below w.heap.size w w' → w'.cell? ⟨b, 0, none⟩ = some v ∧ w'.cell? ⟨b, 1, none⟩ = some (.int .u64 s.st) := fun w' hb => by
    have h1 := (hb.block _ hbl).trans hblk
    exact ⟨(cell_of_row _ _ 0 _ _ _ h1).trans rfl, (cell_of_row _ _ 1 _ _ _ h1).trans rfl⟩
  obtain ⟨ao, cap, rfl⟩ := row_shape h.row
  have hbd : Below w.heap.size w w.drew := below_drewN (Below.refl _ _) 1
  have hb2 : Below w.heap.size w (w.alloc (.cells #[] 22)).drew := Below_seq (Below_alloc w (.cells #[] 22)) (below_drewN (Below.refl _ _) 1)
  have hown0 : viewRow (w.alloc (.cells #[] 22)).drew w.heap.size 22 (.slice (some ⟨w.heap.size, 0, none⟩) 0 0) 0 [] :=
    ⟨rfl, .inr ⟨w.heap.size, 0, 0, #[], rfl, Nat.le_refl _, heap_alloc_new w _, Nat.le_refl _, by unfold maxLen; omega, Nat.le_refl _, fun j u hj => by simp at hj⟩⟩
  have hsr := row_src_cells (viewRow_below h.row hb2)
  have hg2 : ∀ v' w1, Grew (w.alloc (.cells #[] 22)).drew w1 (.slice (some ⟨w.heap.size, 0, none⟩) 0 0) v' 0 s.xs.length → Below w.heap.size w w1 := fun v' w1 hg => hb2.trans (by
    refine ⟨hg.os, hg.tape, hg.output, hg.size, fun k hk => ?_⟩
    rcases hg.block k (Nat.lt_of_lt_of_le hk hb2.size) with h3 | ⟨_, _, _, _, _, h3, _⟩
    · exact h3
    · cases h3)
  replace hS := Lib.hid hS
  replace hbd := Lib.hid hbd
  replace hb2 := Lib.hid hb2
  replace hown0 := Lib.hid hown0
  replace hsr := Lib.hid hsr
  replace hg2 := Lib.hid hg2
  replace h := Lib.hid h
  clear hblk
  go_enter Try.func18, Try.ntmps18
  go_upto_region 3 with fail
  go_region_held3 (fun w' => Below w.heap.size w w' ∧ w'.cell? ⟨b, 0, none⟩ = some (.slice ao s.xs.length cap) ∧ w'.cell? ⟨b, 1, none⟩ = some (.int .u64 s.st))
    (first | exact ⟨hbd.out, hS.out _ hbd.out⟩ | exact ⟨hb2.out, hS.out _ hb2.out⟩ | exact ⟨hb3.out, hS.out _ hb3.out⟩ | exact ⟨Below_seq hb3.out (Below_alloc _ _), hS.out _ (Below_seq hb3.out (Below_alloc _ _))⟩ | fail)
    (first | (refine step_append_view rfl _ _ 36 (by rfl) w.heap.size 22 i0 (.int .u64 0) 8 Try.underlying36 hi hz0 hz1 hz2 rfl _ 0 [] (by rfl) hown0.out ao s.xs.length cap (ucells s.xs) (by rfl) (by simp [ucells]) hsr.out (ucells_one s.xs) (by unfold maxLen; omega) (by omega) hb2.out.size ?_; intro v' w1 hr hg; have hb3 := Lib.hid (hg2.out _ _ (by simpa using hg)); obtain ⟨vo, vc, rfl⟩ := row_shape hr; replace hr := Lib.hid hr; clear hg) | fail)
  go_wp2
  go_ret
  have hr1 : viewRow w1 w.heap.size 22 (.slice vo s.xs.length vc) s.xs.length (ucells s.xs) := by simpa using hr.out
  have hr2 := viewRow_below hr1 (Below_alloc w1 (.cells #[.slice vo s.xs.length vc, .int .u64 s.st] 38))
  exact ⟨w1.heap.size, _, rfl, ⟨heap_alloc_new w1 _, hr2, hb3.out.size⟩, Below_seq hb3.out (Below_alloc _ _)⟩
end Go.Proofs.Ytfdmfihifjlidaa
