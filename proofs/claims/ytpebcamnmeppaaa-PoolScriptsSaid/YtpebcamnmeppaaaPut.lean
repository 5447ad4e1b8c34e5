/- Put, drop, Poison. -/
import Derived.Test.YtpebcamnmeppaaaDial
namespace Go.Proofs.Ytpebcamnmeppaaa
open Go.RowKit Go.Mp Go.Po
set_option linter.unusedVariables false
theorem put_any {w : World} {B : Nat} {F : Nat → Prop} {p n : Nat} {s : St} (h : PoolM w B F p s n) (i now : Int) (hn : -9223372036854775808 ≤ now ∧ now ≤ 9223372036854775807) (hnn : n + 1 ≤ 4611686018427387904) : Calls Try.prog 10 #[.pointer (some ⟨p, 0, none⟩), .int .i64 i, .int .i64 now] w fun e' w' => e' = .returned (.int .i64 (put s i now).1) ∧ Post w B F p (put s i now).2 (n + 1) w' := by
  obtain ⟨bc, bk, blk, turn, turns, g, f, h, htn⟩ := h
  have c2 : w.cell? ⟨p, 2, none⟩ = some (.map (some bc)) := (cell_of_row _ _ 2 _ _ _ h.hp).trans rfl
  have c4 : w.cell? ⟨p, 4, none⟩ = some (.int .i64 turns) := (cell_of_row _ _ 4 _ _ _ h.hp).trans rfl
  have f4 : w.frozen? ⟨p, 4, none⟩ = false := frozen_of_row _ _ _ _ _ h.hp
  have hlk2 := h.look i
  have hfi := put_inv h.inv i now hn
  have hdie : Post w B F p s (n + 1) w := post_same ((show PoolM w B F p s n from ⟨bc, bk, blk, turn, turns, g, f, h, htn⟩).mono (by omega)) (Tch.refl _ _)
  have hH := Lib.hid h
  replace hdie := Lib.hid hdie
  cases hfb : fnd s.busy i with
  | none =>
    have htk : put s i now = (2, s) := by rw [put, hfb]
    by_cases hh : hasId s i
    · obtain ⟨c, hc, rfl⟩ := hh
      rw [h.fsome c hc] at hlk2
      dsimp only [Option.getD] at hlk2
      have hcf : c ∈ s.free := (List.mem_append.1 hc).resolve_left (fun hb => fnd_none hfb c hb rfl)
      have d1 : w.cell? ⟨blk c.id, 1, none⟩ = some (.bool true) := (cell_of_row _ _ 1 _ _ _ (h.free c hcf)).trans rfl
      replace hfi := Lib.hid hfi
      replace htk := Lib.hid htk
      replace hfb := Lib.hid hfb
      clear h
      go_enter Try.func10, Try.ntmps10
      go_wp2
      go_ret
      rw [htk.out]
      exact ⟨rfl, hdie.out⟩
    · have hfn : f i = none := h.fnone i (fun c hc he => hh ⟨c, hc, he⟩)
      rw [hfn] at hlk2
      dsimp only [Option.getD] at hlk2
      replace hfi := Lib.hid hfi
      replace htk := Lib.hid htk
      replace hfb := Lib.hid hfb
      replace hfn := Lib.hid hfn
      clear h
      go_enter Try.func10, Try.ntmps10
      go_wp2
      go_ret
      rw [htk.out]
      exact ⟨rfl, hdie.out⟩
  | some c =>
    obtain ⟨hcb, rfl⟩ := fnd_some hfb
    have hcA : c ∈ s.all := List.mem_append_left _ hcb
    have htk : put s c.id now = (0, { s with busy := but c.id s.busy, free := s.free ++ [{ c with since := now }] }) := by rw [put, hfb]
    rw [htk] at hfi
    rw [h.fsome c hcA] at hlk2
    dsimp only [Option.getD] at hlk2
    have hcc := h.busy c hcb
    obtain ⟨n1, n2, n3⟩ := h.nb hcA
    obtain ⟨q1, q2⟩ := h.np
    have hwr : wrap64 (turns + 1) = turns + 1 := by have := h.t0; unfold wrap64; omega
    have d0 : w.cell? ⟨blk c.id, 0, none⟩ = some (.string c.ep) := (cell_of_row _ _ 0 _ _ _ hcc).trans rfl
    have d1 : w.cell? ⟨blk c.id, 1, none⟩ = some (.bool false) := (cell_of_row _ _ 1 _ _ _ hcc).trans rfl
    have d2 : w.cell? ⟨blk c.id, 2, none⟩ = some (.int .i64 c.since) := (cell_of_row _ _ 2 _ _ _ hcc).trans rfl
    have d3 : w.cell? ⟨blk c.id, 3, none⟩ = some (.int .i64 (turn c.id)) := (cell_of_row _ _ 3 _ _ _ hcc).trans rfl
    have g1 : w.frozen? ⟨blk c.id, 1, none⟩ = false := frozen_of_row _ _ _ _ _ hcc
    have g2 : w.frozen? ⟨blk c.id, 2, none⟩ = false := frozen_of_row _ _ _ _ _ hcc
    have g3 : w.frozen? ⟨blk c.id, 3, none⟩ = false := frozen_of_row _ _ _ _ _ hcc
    -- the world behind the four stores
    obtain ⟨ws, hws⟩ : ∃ ws, ws = ((((w.setCell ⟨p, 4, none⟩ (.int .i64 (turns + 1))).setCell ⟨blk c.id, 1, none⟩ (.bool true)).setCell ⟨blk c.id, 2, none⟩ (.int .i64 now)).setCell ⟨blk c.id, 3, none⟩ (.int .i64 (turns + 1))) := ⟨_, rfl⟩
    have hT1 : Tch (fun k => k = p ∨ k = blk c.id) w ws := by
      subst hws
      refine (((Tch.setCell (S := fun k => k = p ∨ k = blk c.id) w (p := ⟨p, 4, none⟩) (.inl rfl) _).trans (Tch.setCell (S := fun k => k = p ∨ k = blk c.id) _ (p := ⟨blk c.id, 1, none⟩) (.inr rfl) _) (fun _ h => .inl h)).trans (Tch.setCell (S := fun k => k = p ∨ k = blk c.id) _ (p := ⟨blk c.id, 2, none⟩) (.inr rfl) _) (fun _ h => .inl h)).trans (Tch.setCell (S := fun k => k = p ∨ k = blk c.id) _ (p := ⟨blk c.id, 3, none⟩) (.inr rfl) _) (fun _ h => .inl h)
    have hp1 : ws.heap[p]? = some (.cells #[.int .i64 s.most, .int .i64 s.wait, .map (some bc), .map (some bk), .int .i64 (turns + 1)] 55) := by
      subst hws
      rw [Below.heap_setCell _ _ _ _ n1.symm, Below.heap_setCell _ _ _ _ n1.symm, Below.heap_setCell _ _ _ _ n1.symm]
      simp [World.setCell, Array.getElem?_modify, h.hp]
    have hcc1 : ws.heap[blk c.id]? = some (connC { c with since := now } true (turns + 1)) := by
      subst hws
      have e0 : (w.setCell ⟨p, 4, none⟩ (.int .i64 (turns + 1))).heap[blk c.id]? = some (connC c false (turn c.id)) := (Below.heap_setCell _ _ _ _ n1).trans hcc
      generalize w.setCell ⟨p, 4, none⟩ (.int .i64 (turns + 1)) = u at e0
      simp [World.setCell, Array.getElem?_modify, e0, connC]
    have hk1 := h.counts.tch hT1 (fun h => h.elim (fun h => q2 h.symm) (fun h => n3 h.symm))
    have x0 : ws.cell? ⟨blk c.id, 0, none⟩ = some (.string c.ep) := (cell_of_row _ _ 0 _ _ _ hcc1).trans rfl
    have htot := h.inv.tot c.ep
    have hm := h.inv.m
    have hct1 := count0 hp1 hk1 c.ep (-1) _ _ _ (h.gs c.ep) ⟨by omega, by omega, by omega, by omega⟩
    rw [hws] at hct1
    replace hk1 := Lib.hid hk1
    replace hp1 := Lib.hid hp1
    replace hcc := Lib.hid hcc
    replace hcc1 := Lib.hid hcc1
    replace hT1 := Lib.hid hT1
    replace hfi := Lib.hid hfi
    replace htk := Lib.hid htk
    replace hfb := Lib.hid hfb
    replace hws := Lib.hid hws
    clear h x0
    go_enter Try.func10, Try.ntmps10
    go_wp2_with (first
      | (go_at_call 23; have _t := hct1; refine hct1.mono ?_; clear hct1 _t; rintro _ w2 ⟨rfl, hM2, hT2⟩; rw [← hws.out] at hT2; have hp2 := (hT2.block p (Nat.lt_of_lt_of_le (hH.out.lt _ hH.out.own.1).2 hT1.out.size) q2).trans hp1.out; have hcc2 := (hT2.block (blk c.id) (Array.getElem?_eq_some_iff.1 hcc1.out).1 n3).trans hcc1.out; have x2 : w2.cell? ⟨blk c.id, 0, none⟩ = some (.string c.ep) := (cell_of_row _ _ 0 _ _ _ hcc2).trans rfl; have hct2 := count1 hp2 hM2 c.ep 1 _ _ _ (congrArg (fun o => Option.getD o (agg3 0 0 0)) (upd_same _ _ _)) ⟨by omega, by omega, by omega, by omega⟩; replace hp2 := Lib.hid hp2; replace hcc2 := Lib.hid hcc2)
      | (go_at_call 23; have _t := hct2; refine hct2.mono ?_; clear hct2 _t; rintro _ w3 ⟨rfl, hM3, hT3⟩)
      | fail)
    go_ret
    rw [htk.out]
    have hm1 := hH.out
    obtain ⟨o1, o2, o3, o4⟩ := hm1.own
    have hTa : Tch (fun k => k = bk) ws w3 := hT2.trans hT3 (fun _ h => .inl h)
    have hTb : Tch (fun k => k = p ∨ k = blk c.id ∨ k = bk) w w3 := (hT1.out.mono (fun k h => h.imp id .inl)).trans hTa (fun k h => .inl (.inr (.inr h)))
    have hsz := hT1.out.size
    have hpf : w3.heap[p]? = _ := (hTa.block p (Nat.lt_of_lt_of_le (hm1.lt _ o1).2 hsz) q2).trans hp1.out
    have hcf : w3.heap[blk c.id]? = _ := (hTa.block _ (Array.getElem?_eq_some_iff.1 hcc1.out).1 n3).trans hcc1.out
    have hkc : ∀ d ∈ s.all, d.id ≠ c.id → w3.heap[blk d.id]? = w.heap[blk d.id]? := fun d hd hdc => hTb.block _ (hm1.lt _ (o4 d hd)).2 (fun h => by
      rcases h with h | h | h
      · exact (hm1.nb hd).1 h
      · exact hdc (hm1.inj d hd c hcA h)
      · exact (hm1.nb hd).2.2 h)
    have hall : ∀ d, d ∈ (but c.id s.busy ++ (s.free ++ [{ c with since := now }])) → (d ∈ s.all ∧ d.id ≠ c.id) ∨ d = { c with since := now } := fun d hd => by
      simp only [List.mem_append, List.mem_singleton, mem_but] at hd
      rcases hd with hd | hd | hd
      · exact .inl ⟨List.mem_append_left _ hd.1, hd.2⟩
      · exact .inl ⟨List.mem_append_right _ hd, fun h => nd_apart hm1.inv hcb hd h.symm⟩
      · exact .inr hd
    have hallA : ∀ d, d ∈ (but c.id s.busy ++ (s.free ++ [{ c with since := now }])) → ∃ d' ∈ s.all, d'.id = d.id := fun d hd => by
      rcases hall d hd with h | rfl
      · exact ⟨d, h.1, rfl⟩
      · exact ⟨c, hcA, rfl⟩
    have hall' : ∀ d ∈ s.all, ∃ d' ∈ (but c.id s.busy ++ (s.free ++ [{ c with since := now }])), d'.id = d.id := fun d hd => by
      by_cases hdc : d.id = c.id
      · exact ⟨{ c with since := now }, by simp, hdc.symm⟩
      · refine ⟨d, ?_, rfl⟩
        simp only [List.mem_append, List.mem_singleton, mem_but]
        rcases List.mem_append.1 hd with hd | hd
        · exact .inl ⟨hd, hdc⟩
        · exact .inr (.inl hd)
    refine ⟨rfl, F, ⟨bc, bk, blk, ins turn c.id (turns + 1), turns + 1, _, f, ⟨hpf, hm1.conns.tch hTb (fun h => ?_), fun d hd => ?_, fun j hj => ?_, hM3, fun e' => ?_, fun d hd => ?_, fun d hd => ?_,
      hm1.ne, fun d hd d' hd' hdd => ?_, ⟨o1, o2, o3, fun d hd => ?_⟩, fun k hk => ⟨(hm1.lt k hk).1, Nat.lt_of_lt_of_le (hm1.lt k hk).2 hTb.size⟩, ?_, fun d hd => ?_, hfi.out, by have := hm1.t0; omega⟩, by omega⟩, hTb.mono (fun k h => by rcases h with rfl | rfl | rfl; exact o1; exact o4 c hcA; exact o3), fun k hk => .inl hk⟩
    · rcases h with h | h | h
      · exact q1 h.symm
      · exact n2 h.symm
      · exact hm1.ne h
    · obtain ⟨d', hd', he⟩ := hallA d hd
      rw [← he]; exact hm1.fsome d' hd'
    · exact hm1.fnone j (fun d hd he => by obtain ⟨d', hd', h'⟩ := hall' d hd; exact hj d' hd' (h'.trans he))
    · have ho := of_but (nd_busy hm1.inv) hcb e'
      show _ = agg3 (of (but c.id s.busy) e') (of (s.free ++ [{ c with since := now }]) e') (kof s.kept e')
      rw [of_append, of_one]
      by_cases he : e' = c.ep
      · subst he
        rw [upd_same]
        rw [if_pos rfl] at ho ⊢
        show agg3 _ _ _ = agg3 _ _ _
        rw [ho]
        have e1 : ((of (but c.id s.busy) c.ep + 1 : Nat) : Int) + -1 = of (but c.id s.busy) c.ep := by omega
        rw [e1]
        rfl
      · rw [upd_other _ _ he, upd_other _ _ he, hm1.gs e', ho, if_neg (fun h => he h.symm)]
        rfl
    · obtain ⟨hd1, hd2⟩ := mem_but.1 hd
      rw [ins_other _ _ hd2]
      exact (hkc d (List.mem_append_left _ hd1) hd2).trans (hm1.busy d hd1)
    · rcases List.mem_append.1 hd with hd | hd
      · have hdc : d.id ≠ c.id := fun h => nd_apart hm1.inv hcb hd h.symm
        rw [ins_other _ _ hdc]
        exact (hkc d (List.mem_append_right _ hd) hdc).trans (hm1.free d hd)
      · rw [List.mem_singleton] at hd
        subst hd
        rw [ins_same]
        exact hcf
    · obtain ⟨a, ha, ea⟩ := hallA d hd
      obtain ⟨b, hb, eb⟩ := hallA d' hd'
      rw [← ea, ← eb] at hdd ⊢
      exact hm1.inj a ha b hb hdd
    · obtain ⟨a, ha, ea⟩ := hallA d hd
      rw [← ea]; exact o4 a ha
    · refine List.pairwise_append.2 ⟨List.Pairwise.imp_of_mem (fun {a b} ha hb hab => ?_) hm1.ord, List.pairwise_singleton _ _, fun a ha b hb => ?_⟩
      · rw [ins_other _ _ (fun h => nd_apart hm1.inv hcb ha h.symm), ins_other _ _ (fun h => nd_apart hm1.inv hcb hb h.symm)]
        exact hab
      · rw [List.mem_singleton] at hb
        subst hb
        rw [ins_other _ _ (fun h => nd_apart hm1.inv hcb ha h.symm), ins_same]
        have := hm1.tl a ha
        omega
    · rcases List.mem_append.1 hd with hd | hd
      · rw [ins_other _ _ (fun h => nd_apart hm1.inv hcb hd h.symm)]
        have := hm1.tl d hd
        omega
      · rw [List.mem_singleton] at hd
        subst hd
        rw [ins_same]
        exact Int.le_refl _
end Go.Proofs.Ytpebcamnmeppaaa
