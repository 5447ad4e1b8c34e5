/- drop, Poison. -/
import Derived.Test.YtpebcamnmeppaaaPut
namespace Go.Proofs.Ytpebcamnmeppaaa
open Go.RowKit Go.Mp Go.Po
set_option linter.unusedVariables false
def dropS (s : St) (i : Int) : St := { s with busy := but i s.busy, free := but i s.free }
theorem drop_inv {s : St} (h : Inv s) (i : Int) : Inv (dropS s i) := sub_inv h List.filter_sublist List.filter_sublist
theorem drop_any {w : World} {B : Nat} {F : Nat → Prop} {p n : Nat} {s : St} (h : PoolM w B F p s n) {c : C} (hc : c ∈ s.all) : Calls Try.prog 25 #[.pointer (some ⟨p, 0, none⟩), .int .i64 c.id] w fun e' w' => e' = .returned (.tuple #[]) ∧ PoolM w' B F p (dropS s c.id) n ∧ Tch F w w' := by
  obtain ⟨bc, bk, blk, turn, turns, g, f, h, htn⟩ := h
  have c2 : w.cell? ⟨p, 2, none⟩ = some (.map (some bc)) := (cell_of_row _ _ 2 _ _ _ h.hp).trans rfl
  have hlk2 := h.look c.id
  rw [h.fsome c hc] at hlk2
  dsimp only [Option.getD] at hlk2
  have htot := h.inv.tot c.ep
  have hm := h.inv.m
  have hnp := h.np
  have hpl : p < w.heap.size := (h.lt _ h.own.1).2
  have hH := Lib.hid h
  have hfin : ∀ (w2 w3 : World) (g' : ByteArray → Option Value), Tch (fun k => k = bk) w w2 → MapS sk w2 bk g' → w2.mapTurned w3 bc → MapS ik w3 bc (del f c.id) → (∀ e', (g' e').getD (agg3 0 0 0) = agg3 (of (but c.id s.busy) e') (of (but c.id s.free) e') (kof s.kept e')) → PoolM w3 B F p (dropS s c.id) n ∧ Tch F w w3 := by
    intro w2 w3 g' hT2 hM2 hT3 hM3 hg'
    have hm1 := hH.out
    obtain ⟨o1, o2, o3, o4⟩ := hm1.own
    have hT3t : Tch (fun k => k = bc) w2 w3 := Tch.turned (S := fun k => k = bc) hT3 rfl
    have hTb : Tch (fun k => k = bk ∨ k = bc) w w3 := (hT2.mono (fun _ h => .inl h)).trans hT3t (fun _ h => .inl (.inr h))
    have hall : ∀ d, d ∈ (dropS s c.id).all ↔ d ∈ s.all ∧ d.id ≠ c.id := fun d => by
      simp only [St.all, dropS, List.mem_append, mem_but]
      constructor
      · rintro (h | h)
        · exact ⟨.inl h.1, h.2⟩
        · exact ⟨.inr h.1, h.2⟩
      · rintro ⟨h | h, h2⟩
        · exact .inl ⟨h, h2⟩
        · exact .inr ⟨h, h2⟩
    have hkc : ∀ d ∈ s.all, w3.heap[blk d.id]? = w.heap[blk d.id]? := fun d hd => hTb.block _ (hm1.lt _ (o4 d hd)).2 (fun h => h.elim (hm1.nb hd).2.2 (hm1.nb hd).2.1)
    refine ⟨⟨bc, bk, blk, turn, turns, g', _, ⟨(hTb.block p (hm1.lt _ o1).2 (fun h => h.elim hm1.np.2 hm1.np.1)).trans hm1.hp, hM3, fun d hd => ?_, fun j hj => ?_, hM2.tch hT3t (fun h => hm1.ne h.symm), hg', fun d hd => ?_, fun d hd => ?_,
      hm1.ne, fun d hd d' hd' hdd => hm1.inj d ((hall d).1 hd).1 d' ((hall d').1 hd').1 hdd, ⟨o1, o2, o3, fun d hd => o4 d ((hall d).1 hd).1⟩, fun k hk => ⟨(hm1.lt k hk).1, Nat.lt_of_lt_of_le (hm1.lt k hk).2 hTb.size⟩, hm1.ord.filter _, fun d hd => hm1.tl d (mem_but.1 hd).1, drop_inv hm1.inv _, hm1.t0⟩, htn⟩, hTb.mono (fun k h => by rcases h with rfl | rfl; exact o3; exact o2)⟩
    · obtain ⟨h1, h2⟩ := (hall d).1 hd
      rw [del, if_neg h2]; exact hm1.fsome d h1
    · by_cases hjc : j = c.id
      · rw [del, if_pos hjc]
      · rw [del, if_neg hjc]
        exact hm1.fnone j (fun d hd he => hj d ((hall d).2 ⟨hd, fun h => hjc (he.symm.trans h)⟩) he)
    · obtain ⟨h1, h2⟩ := mem_but.1 hd
      exact (hkc d (List.mem_append_left _ h1)).trans (hm1.busy d h1)
    · obtain ⟨h1, h2⟩ := mem_but.1 hd
      exact (hkc d (List.mem_append_right _ h1)).trans (hm1.free d h1)
  replace hfin := Lib.hid hfin
  rcases List.mem_append.1 hc with hc' | hc'
  · have hcc := h.busy c hc'
    have d0 : w.cell? ⟨blk c.id, 0, none⟩ = some (.string c.ep) := (cell_of_row _ _ 0 _ _ _ hcc).trans rfl
    have d1 : w.cell? ⟨blk c.id, 1, none⟩ = some (.bool false) := (cell_of_row _ _ 1 _ _ _ hcc).trans rfl
    have hct1 := count0 h.hp h.counts c.ep (-1) _ _ _ (h.gs c.ep) ⟨by omega, by omega, by omega, by omega⟩
    have hgs' : ∀ e', ((upd g c.ep (agg3 (of s.busy c.ep + -1) (of s.free c.ep) (kof s.kept c.ep))) e').getD (agg3 0 0 0) = agg3 (of (but c.id s.busy) e') (of (but c.id s.free) e') (kof s.kept e') := fun e' => by
      have ho := of_but (nd_busy h.inv) hc' e'
      have hno : but c.id s.free = s.free := but_none (fun d hd he => nd_apart h.inv hc' hd he.symm)
      rw [hno]
      by_cases he : e' = c.ep
      · subst he
        rw [upd_same]
        rw [if_pos rfl] at ho
        show agg3 _ _ _ = agg3 _ _ _
        rw [ho]
        have e1 : ((of (but c.id s.busy) c.ep + 1 : Nat) : Int) + -1 = of (but c.id s.busy) c.ep := by omega
        rw [e1]
      · rw [upd_other _ _ he, h.gs e', ho, if_neg (fun h => he h.symm)]
        rfl
    replace hcc := Lib.hid hcc
    replace hgs' := Lib.hid hgs'
    clear h
    go_enter Try.func25, Try.ntmps25
    go_wp2_with (first
      | (go_at_call 23; refine hct1.mono ?_; rintro _ w2 ⟨rfl, hM2, hT2⟩; have hc2 := hH.out.conns.tch hT2 hH.out.ne; have c22 : w2.cell? ⟨p, 2, none⟩ = some (.map (some bc)) := (cell_of_row _ _ 2 _ _ _ ((hT2.block p hpl hnp.2).trans hH.out.hp)).trans rfl)
      | (at_delete; refine wp_delete rfl _ _ 52 rfl ik 56 Try.underlying52 bc f c.id rfl hc2 rfl ?_; intro w3 hM3 hT3)
      | fail)
    go_end0
    exact ⟨rfl, hfin.out _ _ _ hT2 hM2 hT3 hM3 hgs'.out⟩
  · have hcc := h.free c hc'
    have d0 : w.cell? ⟨blk c.id, 0, none⟩ = some (.string c.ep) := (cell_of_row _ _ 0 _ _ _ hcc).trans rfl
    have d1 : w.cell? ⟨blk c.id, 1, none⟩ = some (.bool true) := (cell_of_row _ _ 1 _ _ _ hcc).trans rfl
    have hct1 := count1 h.hp h.counts c.ep (-1) _ _ _ (h.gs c.ep) ⟨by omega, by omega, by omega, by omega⟩
    have hgs' : ∀ e', ((upd g c.ep (agg3 (of s.busy c.ep) (of s.free c.ep + -1) (kof s.kept c.ep))) e').getD (agg3 0 0 0) = agg3 (of (but c.id s.busy) e') (of (but c.id s.free) e') (kof s.kept e') := fun e' => by
      have ho := of_but (nd_free h.inv) hc' e'
      have hno : but c.id s.busy = s.busy := but_none (fun d hd he => nd_apart h.inv hd hc' he)
      rw [hno]
      by_cases he : e' = c.ep
      · subst he
        rw [upd_same]
        rw [if_pos rfl] at ho
        show agg3 _ _ _ = agg3 _ _ _
        rw [ho]
        have e1 : ((of (but c.id s.free) c.ep + 1 : Nat) : Int) + -1 = of (but c.id s.free) c.ep := by omega
        rw [e1]
      · rw [upd_other _ _ he, h.gs e', ho, if_neg (fun h => he h.symm)]
        rfl
    replace hcc := Lib.hid hcc
    replace hgs' := Lib.hid hgs'
    clear h
    go_enter Try.func25, Try.ntmps25
    go_wp2_with (first
      | (go_at_call 23; refine hct1.mono ?_; rintro _ w2 ⟨rfl, hM2, hT2⟩; have hc2 := hH.out.conns.tch hT2 hH.out.ne; have c22 : w2.cell? ⟨p, 2, none⟩ = some (.map (some bc)) := (cell_of_row _ _ 2 _ _ _ ((hT2.block p hpl hnp.2).trans hH.out.hp)).trans rfl)
      | (at_delete; refine wp_delete rfl _ _ 52 rfl ik 56 Try.underlying52 bc f c.id rfl hc2 rfl ?_; intro w3 hM3 hT3)
      | fail)
    go_end0
    exact ⟨rfl, hfin.out _ _ _ hT2 hM2 hT3 hM3 hgs'.out⟩
theorem poison_any {w : World} {B : Nat} {F : Nat → Prop} {p n : Nat} {s : St} (h : PoolM w B F p s n) (i : Int) : Calls Try.prog 16 #[.pointer (some ⟨p, 0, none⟩), .int .i64 i] w fun e' w' => e' = .returned (.int .i64 (poison s i).1) ∧ Post w B F p (poison s i).2 n w' := by
  have hM := h
  obtain ⟨bc, bk, blk, turn, turns, g, f, h, htn⟩ := h
  have c2 : w.cell? ⟨p, 2, none⟩ = some (.map (some bc)) := (cell_of_row _ _ 2 _ _ _ h.hp).trans rfl
  have hlk2 := h.look i
  by_cases hh : hasId s i
  · obtain ⟨c, hc, rfl⟩ := hh
    rw [h.fsome c hc] at hlk2
    dsimp only [Option.getD] at hlk2
    have hdr := drop_any hM hc
    have htk : poison s c.id = (0, dropS s c.id) := by
      rcases List.mem_append.1 hc with hc' | hc'
      · have h1 := fnd_of (nd_busy h.inv) hc'
        have h2 : but c.id s.free = s.free := but_none (fun d hd he => nd_apart h.inv hc' hd he.symm)
        simp only [poison, h1, dropS, h2]
      · have h1 : fnd s.busy c.id = none := List.find?_eq_none.2 (fun d hd => by simpa using fun he => nd_apart h.inv hd hc' he)
        have h2 := fnd_of (nd_free h.inv) hc'
        have h3 : but c.id s.busy = s.busy := but_none (fun d hd he => nd_apart h.inv hd hc' he)
        simp only [poison, h1, h2, dropS, h3]
    replace htk := Lib.hid htk
    clear h
    go_enter Try.func16, Try.ntmps16
    go_wp2_with (first | (go_at_call 25; refine hdr.mono ?_; rintro _ w2 ⟨rfl, hP2, hT2⟩) | fail)
    go_ret
    rw [htk.out]
    exact ⟨rfl, F, hP2, hT2, fun _ h => .inl h⟩
  · have hfn : f i = none := h.fnone i (fun c hc he => hh ⟨c, hc, he⟩)
    rw [hfn] at hlk2
    dsimp only [Option.getD] at hlk2
    have htk : poison s i = (2, s) := by
      have h1 : fnd s.busy i = none := List.find?_eq_none.2 (fun d hd => by simpa using fun he => hh ⟨d, List.mem_append_left _ hd, he⟩)
      have h2 : fnd s.free i = none := List.find?_eq_none.2 (fun d hd => by simpa using fun he => hh ⟨d, List.mem_append_right _ hd, he⟩)
      simp only [poison, h1, h2]
    replace htk := Lib.hid htk
    replace hfn := Lib.hid hfn
    clear h
    go_enter Try.func16, Try.ntmps16
    go_wp2
    go_ret
    rw [htk.out]
    exact ⟨rfl, post_same hM (Tch.refl _ _)⟩
end Go.Proofs.Ytpebcamnmeppaaa
