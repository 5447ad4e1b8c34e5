/- unkeep, Failed, Dialled of the document's pool. -/
import Derived.Test.YtpebcamnmeppaaaWithout
namespace Go.Po
theorem unk_append_some {e : ByteArray} : ∀ {l : List ByteArray} (r : List ByteArray), kof l e ≠ 0 → unk e (l ++ r) = unk e l ++ r
  | [], r, h => by simp [kof] at h
  | x :: l, r, h => by
    by_cases hx : x = e
    · subst hx; simp [unk]
    · rw [kof_cons, if_neg hx, Nat.add_zero] at h
      simp only [List.cons_append, unk, if_neg hx, unk_append_some r h]
theorem unk_append_none {e x : ByteArray} : ∀ {l : List ByteArray}, kof l e = 0 → unk e (l ++ [x]) = if x = e then l else l ++ [x]
  | [], h => by by_cases hx : x = e <;> simp [unk, hx]
  | y :: l, h => by
    rw [kof_cons] at h
    have hy : y ≠ e := by rintro rfl; simp at h
    rw [if_neg hy, Nat.add_zero] at h
    simp only [List.cons_append, unk, if_neg hy, unk_append_none h]
    by_cases hx : x = e <;> simp [hx]
end Go.Po
namespace Go.Proofs.Ytpebcamnmeppaaa
open Go.RowKit Go.Mp Go.Po
set_option linter.unusedVariables false
/-- A change of the rows: what lies there now is the footprint that stood, or new. -/
theorem rpost_of {w w1 : World} {B : Nat} {F : Nat → Prop} {q : Nat} {s s' : St} {vb vf vk vb' vf' vk' : Value} (h : RM w B F q s vb vf vk) (hB : B ≤ w.heap.size) (t : Tch F w w1)
    (hq : w1.heap[q]? = some (.cells #[.int .i64 s'.most, .int .i64 s'.wait, vb', vf', vk'] 66)) (rb : w1.ownsRow B 77 3 vb' s'.busy.length (ccs s'.busy)) (rf : w1.ownsRow B 77 3 vf' s'.free.length (ccs s'.free)) (rk : w1.ownsRow B 9 1 vk' s'.kept.length (scs s'.kept))
    (bf : ∀ g, vb'.ownBlock = some g → vf'.ownBlock ≠ some g) (ob : ∀ g, vb'.ownBlock = some g → F g ∨ w.heap.size ≤ g) (of : ∀ g, vf'.ownBlock = some g → F g ∨ w.heap.size ≤ g) (ok : ∀ g, vk'.ownBlock = some g → F g ∨ w.heap.size ≤ g) : RPost w B F q s' w1 := by
  refine ⟨fun k => F k ∨ vb'.ownBlock = some k ∨ vf'.ownBlock = some k ∨ vk'.ownBlock = some k, ⟨vb', vf', vk', ⟨hq, rb, rf, rk, bf, ⟨.inl h.own.1, fun g hg => .inr (.inl hg), fun g hg => .inr (.inr (.inl hg)), fun g hg => .inr (.inr (.inr hg))⟩, fun k hk => ?_⟩⟩, t, fun k hk => ?_⟩
  · rcases hk with hk | hk | hk | hk
    · exact ⟨(h.lt k hk).1, Nat.lt_of_lt_of_le (h.lt k hk).2 t.size⟩
    · exact ownsRow_ge rb hk
    · exact ownsRow_ge rf hk
    · exact ownsRow_ge rk hk
  · rcases hk with hk | hk | hk | hk
    · exact .inl hk
    · exact ob k hk
    · exact of k hk
    · exact ok k hk
theorem rpost_trans {w w1 w2 : World} {B : Nat} {F F1 : Nat → Prop} {q : Nat} {s2 : St} (t1 : Tch F w w1) (h1 : ∀ k, F1 k → F k ∨ w.heap.size ≤ k) (h2 : RPost w1 B F1 q s2 w2) : RPost w B F q s2 w2 := by
  obtain ⟨F2, hM, t2, h2⟩ := h2
  refine ⟨F2, hM, t1.trans t2 h1, fun k hk => ?_⟩
  rcases h2 k hk with hk | hk
  · exact h1 k hk
  · exact .inr (Nat.le_trans t1.size hk)
theorem info9 : (Try.prog.info? 9).map (fun i => (i.zero, i.size, i.bytes)) = some (some (.string ⟨#[]⟩), 1, 16) := by kernel_rfl
theorem unkeep_ref {w : World} {B : Nat} {F : Nat → Prop} {q : Nat} {s : St} (h : RefM w B F q s) (hl : s.kept.length < 4398046511104) (hB : B ≤ w.heap.size) (e : ByteArray) :
    Calls Try.prog 39 #[.pointer (some ⟨q, 0, none⟩), .string e] w fun e' w' => e' = .returned (.tuple #[]) ∧ RPost w B F q { s with kept := unk e s.kept } w' := by
  obtain ⟨vb, vf, vk, h⟩ := h
  obtain ⟨ao, cap, rfl⟩ := ownsRow_shape h.rk
  have hrk := h.rk
  have hH := Lib.hid h
  obtain ⟨i0, hi, hz0, hz1, hz2⟩ := info_parts info9
  have hq := h.hq
  have hql := (h.lt q h.own.1).2
  clear h
  obtain ⟨l, hls⟩ : ∃ l, l = s.kept := ⟨_, rfl⟩
  rw [← hls] at hrk hl hq
  replace hls := Lib.hid hls
  replace hrk := Lib.hid hrk
  replace hq := Lib.hid hq
  replace hi := Lib.hid hi
  replace hz0 := Lib.hid hz0
  replace hz1 := Lib.hid hz1
  replace hz2 := Lib.hid hz2
  go_enter Try.func39, Try.ntmps39
  go_wp2
  go_loopg [4, 5, 6] l.length (fun gg vo gone kc wr => ∃ (k : Nat) (o : List ByteArray), k ≤ l.length ∧ gg = l.length - k ∧ kc = .int .i64 k ∧ gone = .bool (decide (kof (l.take k) e ≠ 0)) ∧ o = unk e (l.take k) ∧ o.length ≤ k ∧ wr.ownsRow w.heap.size 9 1 vo o.length (scs o) ∧ Below w.heap.size w wr)
  case atStart => exact ⟨0, [], by omega, by omega, rfl, rfl, rfl, by simp, World.ownsRow_nil _ _ _ _, Below.refl _ _⟩
  case round =>
    obtain ⟨k, o, hk, rfl, rfl, rfl, ho, hol, hrow, hb⟩ := hrel
    have c4 : wr.cell? ⟨q, 4, none⟩ = some (.slice ao l.length cap) := (hb.cell hql).trans ((cell_of_row _ _ 4 _ _ _ hq.out).trans (by rw [hls.out]; rfl))
    by_cases hkl : k < l.length
    · have hx := List.getElem?_eq_getElem hkl
      obtain ⟨g, rfl, d0'⟩ := srow_at hrk.out hx
      have d0 : wr.cell? ⟨g, k, none⟩ = some (.string l[k]) := (hb.cell (World.block_lt_of_cell? w _ d0')).trans d0'
      clear d0'
      have k0 := nn_lt hkl
      have hst := kof_take_succ hx e
      have htk : l.take (k + 1) = l.take k ++ [l[k]] := by rw [List.take_add_one, hx]; rfl
      generalize l[k] = c at *
      by_cases hg : kof (l.take k) e = 0
      · have hd : decide (kof (l.take k) e ≠ 0) = false := by rw [hg]; rfl
        by_cases hep : c = e
        · have hs0 : (c.toList == e.toList) = true := by rw [hep]; simp
          have hd2 : decide (kof (l.take (k + 1)) e ≠ 0) = true := by rw [hst, if_pos hep]; exact decide_eq_true (by omega)
          have ho2 : o = unk e (l.take (k + 1)) := by rw [htk, unk_append_none hg, if_pos hep, ho, kof_unk_none _ _ hg]
          rw [hd]
          replace hx := Lib.hid hx
          replace hst := Lib.hid hst
          replace hep := Lib.hid hep
          replace ho := Lib.hid ho
          replace ho2 := Lib.hid ho2
          replace hd2 := Lib.hid hd2
          replace htk := Lib.hid htk
          replace hg := Lib.hid hg
          clear hd
          go_wp2
          go_roundg (l.length - (k + 1))
          case rel => exact ⟨k + 1, o, hkl, rfl, by first | rfl | rw [nn_succ hkl (Nat.lt_trans hl (by decide))] | (push_cast; rfl), by rw [hd2.out], ho2.out, Nat.le_succ_of_le hol, hrow, hb⟩
          case measure => exact nn_sub hkl
        · have hs0 : (c.toList == e.toList) = false := by
            rw [beq_eq_false_iff_ne]
            exact fun h => hep (bytes_of_toList h)
          have hd2 : decide (kof (l.take (k + 1)) e ≠ 0) = false := by rw [hst, if_neg hep, hg]; rfl
          have ho2 : o ++ [c] = unk e (l.take (k + 1)) := by rw [htk, unk_append_none hg, if_neg hep, ho, kof_unk_none _ _ hg]
          rw [hd]
          replace hx := Lib.hid hx
          replace hst := Lib.hid hst
          replace hep := Lib.hid hep
          replace ho := Lib.hid ho
          replace ho2 := Lib.hid ho2
          replace hd2 := Lib.hid hd2
          replace htk := Lib.hid htk
          replace hg := Lib.hid hg
          clear hd
          go_wp2_with (first | (at_builtin; refine wp_append_one rfl _ _ 64 rfl w.heap.size 9 i0 (.string ⟨#[]⟩) 16 Try.underlying64 hi.out hz0.out hz1.out hz2.out rfl _ _ _ rfl hrow 1 rfl rfl (by unfold maxLen; omega) (by omega) hb.size ?_; intro v' w3 hrow3 hg3 hloc3) | fail)
          go_roundg (l.length - (k + 1))
          case rel => exact ⟨k + 1, o ++ [c], hkl, rfl, by first | rfl | rw [nn_succ hkl (Nat.lt_trans hl (by decide))] | (push_cast; rfl), by rw [hd2.out], ho2.out, by simp; omega, by simpa [scs] using hrow3, hb.grown hg3 hb.size (fun j hj => (ownsRow_ge hrow hj).1)⟩
          case measure => exact nn_sub hkl
      · have hd : decide (kof (l.take k) e ≠ 0) = true := decide_eq_true hg
        have hd2 : decide (kof (l.take (k + 1)) e ≠ 0) = true := by rw [hst]; exact decide_eq_true (by omega)
        have ho2 : o ++ [c] = unk e (l.take (k + 1)) := by rw [htk, unk_append_some _ hg, ho]
        rw [hd]
        replace hx := Lib.hid hx
        replace hst := Lib.hid hst
        replace ho := Lib.hid ho
        replace ho2 := Lib.hid ho2
        replace hd2 := Lib.hid hd2
        replace htk := Lib.hid htk
        replace hg := Lib.hid hg
        clear hd
        by_cases hep : c = e
        · have hs0 : (c.toList == e.toList) = true := by rw [hep]; simp
          replace hep := Lib.hid hep
          go_wp2_with (first | (at_builtin; refine wp_append_one rfl _ _ 64 rfl w.heap.size 9 i0 (.string ⟨#[]⟩) 16 Try.underlying64 hi.out hz0.out hz1.out hz2.out rfl _ _ _ rfl hrow 1 rfl rfl (by unfold maxLen; omega) (by omega) hb.size ?_; intro v' w3 hrow3 hg3 hloc3) | fail)
          go_roundg (l.length - (k + 1))
          case rel => exact ⟨k + 1, o ++ [c], hkl, rfl, by first | rfl | rw [nn_succ hkl (Nat.lt_trans hl (by decide))] | (push_cast; rfl), by rw [hd2.out], ho2.out, by simp; omega, by simpa [scs] using hrow3, hb.grown hg3 hb.size (fun j hj => (ownsRow_ge hrow hj).1)⟩
          case measure => exact nn_sub hkl
        · have hs0 : (c.toList == e.toList) = false := by
            rw [beq_eq_false_iff_ne]
            exact fun h => hep (bytes_of_toList h)
          replace hep := Lib.hid hep
          go_wp2_with (first | (at_builtin; refine wp_append_one rfl _ _ 64 rfl w.heap.size 9 i0 (.string ⟨#[]⟩) 16 Try.underlying64 hi.out hz0.out hz1.out hz2.out rfl _ _ _ rfl hrow 1 rfl rfl (by unfold maxLen; omega) (by omega) hb.size ?_; intro v' w3 hrow3 hg3 hloc3) | fail)
          go_roundg (l.length - (k + 1))
          case rel => exact ⟨k + 1, o ++ [c], hkl, rfl, by first | rfl | rw [nn_succ hkl (Nat.lt_trans hl (by decide))] | (push_cast; rfl), by rw [hd2.out], ho2.out, by simp; omega, by simpa [scs] using hrow3, hb.grown hg3 hb.size (fun j hj => (ownsRow_ge hrow hj).1)⟩
          case measure => exact nn_sub hkl
    · have hke := nn_eq hk hkl
      have k0 := nn_ge hkl
      obtain ⟨uo, uc, rfl⟩ := ownsRow_shape hrow
      have hqr : wr.heap[q]? = _ := (hb.block q hql).trans hq.out
      have f4 : wr.frozen? ⟨q, 4, none⟩ = false := frozen_of_row _ _ _ _ _ hqr
      rw [hke, List.take_length] at ho
      replace hke := Lib.hid hke
      replace ho := Lib.hid ho
      replace hqr := Lib.hid hqr
      go_wp2
      go_end0
      have hm := hH.out
      have t1 : Tch F wr (wr.setCell ⟨q, 4, none⟩ (.slice uo o.length uc)) := Tch.setCell (S := F) wr (p := ⟨q, 4, none⟩) hm.own.1 _
      have t2 : Tch F w (wr.setCell ⟨q, 4, none⟩ (.slice uo o.length uc)) := (Tch.of_below hb : Tch F w wr).trans t1 (fun _ h => .inl h)
      have t1' : Tch (fun k => k = q) wr (wr.setCell ⟨q, 4, none⟩ (.slice uo o.length uc)) := Tch.setCell (S := fun k => k = q) wr (p := ⟨q, 4, none⟩) rfl _
      have t2' : Tch (fun k => k = q) w (wr.setCell ⟨q, 4, none⟩ (.slice uo o.length uc)) := (Tch.of_below hb : Tch (fun k => k = q) w wr).trans t1' (fun _ h => .inl h)
      have hqn : (wr.setCell ⟨q, 4, none⟩ (.slice uo o.length uc)).heap[q]? = some (.cells #[.int .i64 s.most, .int .i64 s.wait, vb, vf, (.slice uo o.length uc)] 66) := by
        simp [World.setCell, Array.getElem?_modify, hqr.out]
      have hro : (wr.setCell ⟨q, 4, none⟩ (.slice uo o.length uc)).ownsRow w.heap.size 9 1 (.slice uo o.length uc) (unk e s.kept).length (scs (unk e s.kept)) := by
        rw [← hls.out, ← ho.out]
        exact ownsRow_tch hrow t1' (fun g hg he => by have := (ownsRow_ge hrow hg).1; omega)
      exact ⟨rfl, rpost_of hm hB t2 hqn (ownsRow_tch hm.rb t2' (fun g hg he => hm.nq.1 (he ▸ hg))) (ownsRow_tch hm.rf t2' (fun g hg he => hm.nq.2.1 (he ▸ hg))) (ownsRow_base hro hB) hm.bf (fun g hg => .inl (hm.own.2.1 g hg)) (fun g hg => .inl (hm.own.2.2.1 g hg)) (fun g hg => .inr (ownsRow_ge hro hg).1)⟩
/-! ### Failed -/
theorem rfail_any {w : World} {B : Nat} {F : Nat → Prop} {q : Nat} {s : St} (h : RefM w B F q s) (hl : s.kept.length < 4398046511104) (hB : B ≤ w.heap.size) (e : ByteArray) :
    Calls Try.prog 28 #[.pointer (some ⟨q, 0, none⟩), .string e] w fun e' w' => e' = .returned (.int .i64 (fail s e).1) ∧ RPost w B F q (fail s e).2 w' := by
  have hk := kept_ref h (by omega) e
  by_cases h0 : kof s.kept e = 0
  · have ef : fail s e = (2, s) := if_pos h0
    have k0 : (((kof s.kept e : Nat) : Int) == 0) = true := by rw [h0]; rfl
    have hp := rpost_same h (Tch.refl No w)
    rw [ef]
    replace hp := Lib.hid hp
    replace h0 := Lib.hid h0
    clear h ef
    go_enter Try.func28, Try.ntmps28
    go_wp2_with (first | (go_at_call 34; refine hk.mono ?_; clear hk; rintro _ w1 ⟨rfl, rfl⟩) | fail)
    go_ret
    exact ⟨rfl, hp.out⟩
  · have ef : fail s e = (0, { s with kept := unk e s.kept }) := if_neg h0
    have k0 : (((kof s.kept e : Nat) : Int) == 0) = false := by rw [beq_eq_false_iff_ne]; omega
    have hu := unkeep_ref h hl hB e
    rw [ef]
    replace h0 := Lib.hid h0
    clear h ef
    go_enter Try.func28, Try.ntmps28
    go_wp2_with (first
      | (go_at_call 34; refine hk.mono ?_; clear hk; rintro _ w1 ⟨rfl, rfl⟩)
      | (go_at_call 39; have _t := hu; refine hu.mono ?_; clear hu _t; rintro _ w2 ⟨rfl, hp⟩)
      | fail)
    go_ret
    exact ⟨rfl, hp⟩
end Go.Proofs.Ytpebcamnmeppaaa
