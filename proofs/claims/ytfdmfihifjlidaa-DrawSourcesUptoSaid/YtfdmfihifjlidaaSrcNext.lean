/- The walks of a source's Next, the program's and the document's. -/
import Derived.Test.YtfdmfihifjlidaaSrc
import Derived.Outline
namespace Go.Proofs.Ytfdmfihifjlidaa
open Go.RowKit Go.Tp
set_option linter.unusedVariables false
def NextPost (T : TypeId) (B b : Nat) (v : Value) (s : Sc) (w : World) (e : Ending) (w' : World) : Prop :=
  ∃ v', e = .returned (.int .u64 (nextW s)) ∧ SrcM T w' B b v' (nextS s) ∧ But w w' b none ∧ (v'.ownBlock = v.ownBlock ∨ v'.ownBlock = none ∨ ∃ g, v'.ownBlock = some g ∧ w.heap.size ≤ g)
theorem but_set (w : World) (b i : Nat) (u : Value) : But w (w.setCell ⟨b, i, none⟩ u) b none :=
  ⟨rfl, rfl, rfl, by simp [World.setCell], fun k _ hne _ => Below.heap_setCell _ _ _ _ hne⟩
theorem row_tail {w : World} {B : Nat} {g off cap : Nat} {x : Int} {r : List Int} (h : viewRow w B 22 (.slice (some ⟨g, off, none⟩) (r.length + 1) cap) (r.length + 1) (ucells (x :: r))) : viewRow w B 22 (.slice (some ⟨g, off + 1, none⟩) r.length (cap - 1)) r.length (ucells r) := by
  refine ⟨by simp [ucells], .inr ?_⟩
  rcases h.2 with ⟨h0, _⟩ | ⟨g', off', cap', cur, h0, hB, hc, h1, h2, h3, h4⟩
  · cases h0
  · cases h0
    refine ⟨g, off + 1, cap - 1, cur, rfl, hB, hc, by omega, by omega, by omega, fun j u hj => ?_⟩
    have := h4 (j + 1) u (by simpa [ucells] using hj)
    rw [← this]
    congr 1
    omega
theorem next_any {w : World} {B b : Nat} {v : Value} {s : Sc} (h : SrcM 67 w B b v s) : Calls Try.prog 19 #[.pointer (some ⟨b, 0, none⟩)] w (NextPost 67 B b v s w) := by
  obtain ⟨xs, st⟩ := s
  have hrow := h.row
  have hblk := h.blk
  have hbB := h.hb
  have f0 : w.frozen? ⟨b, 0, none⟩ = false := frozen_of_row _ _ _ _ _ hblk
  have f1 : w.frozen? ⟨b, 1, none⟩ = false := frozen_of_row _ _ _ _ _ hblk
  have c1 : w.cell? ⟨b, 1, none⟩ = some (.int .u64 st) := (cell_of_row _ _ 1 _ _ _ hblk).trans rfl
  have hset : ∀ i u, (w.setCell ⟨b, i, none⟩ u).heap[b]? = some (.cells (#[v, .int .u64 st].setIfInBounds i u) 67) := fun i u => by simp [World.setCell, Array.getElem?_modify, hblk]
  have hkeep : ∀ i u n zs (u' : Value), viewRow w B 22 u' n zs → viewRow (w.setCell ⟨b, i, none⟩ u) B 22 u' n zs := fun i u n zs u' hv => row_but hv (but_set w b i u) (fun hg => row_src (by decide) h hv hg rfl) (fun g _ h => by cases h)
  have c0 : w.cell? ⟨b, 0, none⟩ = some v := (cell_of_row _ _ 0 _ _ _ hblk).trans rfl
  cases xs with
  | nil =>
    obtain ⟨ao, cap, rfl⟩ : ∃ ao cap, v = .slice ao 0 cap := by
      rcases hrow.2 with ⟨rfl, _⟩ | ⟨g, off, cap, cur, h0, _⟩
      · exact ⟨none, 0, rfl⟩
      · exact ⟨_, _, h0⟩
    have hs := hset 1 (.int .u64 (stepI st))
    have hk := hkeep 1 (.int .u64 (stepI st)) _ _ _ hrow
    replace hs := Lib.hid hs
    replace hk := Lib.hid hk
    replace hrow := Lib.hid hrow
    clear hset hkeep h hblk
    go_enter Try.func19, Try.ntmps19
    go_wp2
    go_ret
    exact ⟨_, rfl, ⟨hs.out, hk.out, hbB⟩, but_set _ _ _ _, .inl rfl⟩
  | cons x r =>
    obtain ⟨g, off, cap, rfl, hnc, d0⟩ : ∃ g off cap, v = .slice (some ⟨g, off, none⟩) (r.length + 1) cap ∧ r.length + 1 ≤ cap ∧ w.cell? ⟨g, off, none⟩ = some (.int .u64 x) := by
      rcases hrow.2 with ⟨rfl, h0⟩ | ⟨g, off, cap, cur, h0, _, hc, hnc, _, _, h4⟩
      · simp at h0
      · refine ⟨g, off, cap, h0, hnc, ?_⟩
        rw [cell_of_row _ _ _ _ _ _ hc]
        exact h4 0 _ rfl
    by_cases hc1 : cap = 1
    · have hr : r = [] := List.eq_nil_of_length_eq_zero (by omega)
      subst hr
      subst hc1
      have ht : viewRow w B 22 (.slice (some ⟨g, off, none⟩) 0 0) 0 (ucells []) := by
        refine ⟨rfl, .inr ?_⟩
        rcases hrow.2 with ⟨h0, _⟩ | ⟨g', off', cap', cur, h0, hB, hc, h1, h2, h3, h4⟩
        · cases h0
        · cases h0
          exact ⟨g, off, 0, cur, rfl, hB, hc, Nat.le_refl _, by unfold maxLen; omega, by omega, fun j u hj => by simp [ucells] at hj⟩
      have hs := Lib.hid (hset 0 (.slice (some ⟨g, off, none⟩) 0 0))
      have hk := Lib.hid (hkeep 0 (.slice (some ⟨g, off, none⟩) 0 0) _ _ _ ht)
      clear hset hkeep h hblk hrow ht
      go_enter Try.func19, Try.ntmps19
      go_wp2
      go_ret
      exact ⟨_, rfl, ⟨hs.out, hk.out, hbB⟩, but_set _ _ _ _, .inl rfl⟩
    · have ht := row_tail hrow
      have hs := Lib.hid (hset 0 (.slice (some ⟨g, off + 1, none⟩) r.length (cap - 1)))
      have hk := Lib.hid (hkeep 0 (.slice (some ⟨g, off + 1, none⟩) r.length (cap - 1)) _ _ _ ht)
      have hc2 : (1 : Int) ≤ (cap : Int) := by omega
      have hc3 : 1 ≤ cap := by omega
      have hc4 : ¬ (cap : Int) = 1 := by omega
      have hc5 : ¬ (1 : Int) = (cap : Int) := by omega
      clear hset hkeep h hblk hrow ht
      go_enter Try.func19, Try.ntmps19
      go_wp2
      go_ret
      exact ⟨_, rfl, ⟨hs.out, hk.out, hbB⟩, but_set _ _ _ _, .inl rfl⟩
/-- 'append(v, x...)' in a plain region. -/
theorem wpList_append_view {P : Program} {w : World} {ops : Array Oper} {rest : List Oper} {o : Oper} {a : Act} {Q : Exit → Act → World → Prop} (hgd : o.guard = none) (s x : Operand) (t : TypeId)
    (ho : o.op = .call { callee := .builtin .append, args := #[s, x], argTypes := #[t, t] })
    (base : Nat) (e : TypeId) (i : TypeInfo) (z : Value) (bytes : Nat) (ht : P.underlying t = some (.slice e)) (hi : P.info? e = some i) (hz : i.zero = some z)
    (hsize : i.size = 1) (hby : i.bytes = bytes) (hzs : z.cells.size = 1) (v : Value) (n : Nat) (xs : List Value) (hs : a.eval s = v) (hown : viewRow w base e v n xs)
    (ao : Option Addr) (m c : Nat) (news : List Value) (hx : a.eval x = .slice ao m c) (hl : news.length = m) (hsrc : ∀ j u, news[j]? = some u → ∃ ad, ao = some ad ∧ w.cell? (ad.add j) = some u) (h1 : ∀ u ∈ news, u.oneCell' = true)
    (h63 : n + m ≤ maxLen) (hbytes : (n + m) * bytes ≤ 140737488355328) (hbase : base ≤ w.heap.size)
    (h : ∀ v' w', viewRow w' base e v' (n + m) (xs ++ news) → Grew w w' v v' n m → wpList P ops Q rest (a.put o.dst v') w') : wpList P ops Q (o :: rest) a w :=
  wpList_plain hgd fun K hK => wp_append_view s x t ho base e i z bytes ht hi hz hsize hby hzs v n xs hs hown ao m c news hx hl hsrc h1 h63 hbytes hbase fun v' w' h2 h3 => hK _ _ (h v' w' h2 h3)
theorem info22 : (Try.prog.info? 22).map (fun i => (i.zero, i.size, i.bytes)) = some (some (.int .u64 0), 1, 8) := by kernel_rfl
theorem ucells_one (xs : List Int) : ∀ u ∈ ucells xs, u.oneCell' = true := by
  intro u hu
  obtain ⟨x, _, rfl⟩ := List.mem_map.1 hu
  rfl
/-- A row as an append's source. -/
theorem row_src_cells {w : World} {B n cap : Nat} {ao : Option Addr} {zs : List Value} (h : viewRow w B 22 (.slice ao n cap) n zs) : ∀ j u, zs[j]? = some u → ∃ ad, ao = some ad ∧ w.cell? (ad.add j) = some u := fun j u hj => by
  rcases h.2 with ⟨h0, h1⟩ | ⟨g, off, cap', cur, h0, _, hc, _, _, _, h4⟩
  · have := (List.getElem?_eq_some_iff.1 hj).1
    have := h.1
    omega
  · cases h0
    refine ⟨_, rfl, ?_⟩
    rw [show ((⟨g, off, none⟩ : Addr).add j) = ⟨g, off + j, none⟩ from by unfold Addr.add; split <;> simp_all, cell_of_row _ _ _ _ _ _ hc]
    exact h4 j u hj
/-- What an append changes. -/
theorem grew_but {w w' : World} {v v' : Value} {n m b : Nat} (h : Grew w w' v v' n m) : But w w' b v.ownBlock := by
  refine ⟨h.os, h.tape, h.output, h.size, fun k hk _ h2 => ?_⟩
  rcases h.block k hk with h3 | ⟨off, cap, cur, cur', e, _, h4, _⟩
  · exact h3
  · rw [h4] at h2
    exact absurd rfl h2
theorem grew_own {w w' : World} {v v' : Value} {n m : Nat} (h : Grew w w' v v' n m) : v'.ownBlock = v.ownBlock ∨ ∃ g, v'.ownBlock = some g ∧ w.heap.size ≤ g := by
  rcases h.lies with ⟨_, rfl⟩ | ⟨a, cap, rfl, rfl⟩ | ⟨cap, rfl⟩
  · exact .inl rfl
  · exact .inl rfl
  · exact .inr ⟨_, rfl, Nat.le_refl _⟩
def PushPost (T : TypeId) (B b : Nat) (v : Value) (s : Sc) (ys : List Int) (w : World) (e : Ending) (w' : World) : Prop :=
  ∃ v', e = .returned (.tuple #[]) ∧ SrcM T w' B b v' ⟨s.xs ++ ys, s.st⟩ ∧ But w w' b v.ownBlock ∧ (v'.ownBlock = v.ownBlock ∨ ∃ g, v'.ownBlock = some g ∧ w.heap.size ≤ g)
theorem but_then_set {w w' : World} {b i : Nat} {c : Option Nat} {u : Value} (h : But w w' b c) : But w (w'.setCell ⟨b, i, none⟩ u) b c :=
  ⟨h.os, h.tape, h.output, by simpa [World.setCell] using h.size, fun k hk h1 h2 => (Below.heap_setCell _ _ _ _ h1).trans (h.block k hk h1 h2)⟩
theorem push_any {w : World} {B b : Nat} {v : Value} {s : Sc} (h : SrcM 67 w B b v s) (ys : List Int) (u : Value) (hu : viewRow w 0 22 u ys.length (ucells ys)) (hlen : (s.xs.length + ys.length) * 8 ≤ 140737488355328) (hB : B ≤ w.heap.size) :
    Calls Try.prog 16 #[.pointer (some ⟨b, 0, none⟩), u] w (PushPost 67 B b v s ys w) := by
  obtain ⟨i0, hi, hz0, hz1, hz2⟩ := info_parts info22
  obtain ⟨ao, cap, rfl⟩ : ∃ ao cap, u = .slice ao ys.length cap := by
    rcases hu.2 with ⟨rfl, h0⟩ | ⟨g, off, cap, cur, h0, _⟩
    · exact ⟨none, 0, by rw [h0]⟩
    · exact ⟨_, _, h0⟩
  obtain ⟨bo, bc, rfl⟩ : ∃ ao cap, v = .slice ao s.xs.length cap := by
    rcases h.row.2 with ⟨rfl, h0⟩ | ⟨g, off, cap, cur, h0, _⟩
    · exact ⟨none, 0, by rw [h0]⟩
    · exact ⟨_, _, h0⟩
  have hsrc := row_src_cells hu
  have hrow := h.row
  have hblk := h.blk
  have hbl := (Array.getElem?_eq_some_iff.1 hblk).1
  have c0 : w.cell? ⟨b, 0, none⟩ = some (.slice bo s.xs.length bc) := (cell_of_row _ _ 0 _ _ _ hblk).trans rfl
  have hng : ∀ g, (Value.slice bo s.xs.length bc).ownBlock = some g → g ≠ b := fun g hg => row_src (by decide) h hrow hg
  replace hng := Lib.hid hng
  replace hblk := Lib.hid hblk
  replace h := Lib.hid h
  clear hu
  go_enter Try.func16, Try.ntmps16
  go_wp2_with (at_builtin; (refine wpList_append_view rfl _ _ 36 rfl B 22 i0 (.int .u64 0) 8 Try.underlying36 hi hz0 hz1 hz2 rfl _ s.xs.length (ucells s.xs) (by rfl) hrow ao ys.length cap (ucells ys) (by rfl) (by simp [ucells]) hsrc (ucells_one ys) (by unfold maxLen; omega) hlen hB ?_))
  intro v' w1 hrow' hg
  have hbut := grew_but (b := b) hg
  have hb1 : w1.heap[b]? = some (.cells #[.slice bo s.xs.length bc, .int .u64 s.st] 67) := by
    rcases hg.block b hbl with h3 | ⟨off, cap, cur, cur', e, _, h4, _⟩
    · exact h3.trans hblk.out
    · exact absurd rfl (hng.out b (by rw [h4]; rfl))
  have hown := grew_own hg
  have f0 : w1.frozen? ⟨b, 0, none⟩ = false := frozen_of_row _ _ _ _ _ hb1
  have e0 : w1.cell? ⟨b, 0, none⟩ = some (.slice bo s.xs.length bc) := (cell_of_row _ _ 0 _ _ _ hb1).trans rfl
  obtain ⟨vo, vc, rfl⟩ : ∃ ao cap, v' = .slice ao (s.xs.length + ys.length) cap := by
    rcases hrow'.2 with ⟨rfl, h0⟩ | ⟨g, off, cap, cur, h0, _⟩
    · exact ⟨none, 0, by rw [h0]⟩
    · exact ⟨_, _, h0⟩
  have hne : ∀ g, (Value.slice vo (s.xs.length + ys.length) vc).ownBlock = some g → g ≠ b := fun g hg' => by
    rcases hown with h3 | ⟨g2, h3, h4⟩
    · exact hng.out g (by rw [← h3]; exact hg')
    · rw [h3] at hg'; cases hg'; omega
  have hfin : PushPost 67 B b (.slice bo s.xs.length bc) s ys w (.returned (.tuple #[])) (w1.setCell ⟨b, 0, none⟩ (.slice vo (s.xs.length + ys.length) vc)) := by
    refine ⟨_, rfl, ⟨by simp [World.setCell, Array.getElem?_modify, hb1], ?_, h.out.hb⟩, but_then_set hbut, hown⟩
    have hr := row_but hrow' (but_set w1 b 0 (.slice vo (s.xs.length + ys.length) vc)) (fun hg' => hne b hg' rfl) (fun g _ h => by cases h)
    rw [show (s.xs ++ ys).length = s.xs.length + ys.length from List.length_append, show ucells (s.xs ++ ys) = ucells s.xs ++ ucells ys from by simp [ucells]]
    exact hr
  replace hfin := Lib.hid hfin
  clear hrow hrow' hg hbut hb1 hown hsrc c0 hne
  go_wp2
  first | go_end0 | go_ret
  exact hfin.out
end Go.Proofs.Ytfdmfihifjlidaa
