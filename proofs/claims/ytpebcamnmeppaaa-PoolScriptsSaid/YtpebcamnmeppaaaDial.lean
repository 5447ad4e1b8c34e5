/- New, Dialled, Failed, Put, Poison. -/
import Derived.Test.YtpebcamnmeppaaaPool
namespace Go.Proofs.Ytpebcamnmeppaaa
open Go.RowKit Go.Mp Go.Po
set_option linter.unusedVariables false
theorem new_bad {w : World} (most wait : Int) (h : most < 1 ∨ 64 < most ∨ wait < 0) : Calls Try.prog 7 #[.int .i64 most, .int .i64 wait] w fun e' w' => e' = .returned (.tuple #[.pointer none, .int .i64 2]) ∧ w' = w := by
  by_cases h1 : most < 1
  · have k1 : decide (most < 1) = true := decide_eq_true h1
    clear h
    go_enter Try.func7, Try.ntmps7
    go_wp2
    go_ret2
    exact ⟨rfl, rfl⟩
  · have k1 : decide (most < 1) = false := decide_eq_false h1
    by_cases h2 : 64 < most
    · have k2 : decide (64 < most) = true := decide_eq_true h2
      clear h
      go_enter Try.func7, Try.ntmps7
      go_wp2
      go_ret2
      exact ⟨rfl, rfl⟩
    · have k2 : decide (64 < most) = false := decide_eq_false h2
      have h3 : wait < 0 := by omega
      have k3 : decide (wait < 0) = true := decide_eq_true h3
      clear h
      go_enter Try.func7, Try.ntmps7
      go_wp2
      go_ret2
      exact ⟨rfl, rfl⟩
def St0 (most wait : Int) : St := ⟨most, wait, [], [], []⟩
theorem inv0 {most wait : Int} (h : 1 ≤ most ∧ most ≤ 64 ∧ 0 ≤ wait ∧ wait ≤ 9223372036854775807) : Inv (St0 most wait) :=
  ⟨List.nodup_nil, (fun c h => by cases h), (fun c h => by cases h), ⟨h.1, h.2.1⟩, h.2.2, fun e => by show ((0 : Nat) + (0 : Nat) + (0 : Nat) : Int) ≤ most; omega⟩
theorem new_any {w : World} (most wait : Int) (h : 1 ≤ most ∧ most ≤ 64 ∧ 0 ≤ wait ∧ wait ≤ 9223372036854775807) : Calls Try.prog 7 #[.int .i64 most, .int .i64 wait] w fun e' w' => ∃ p F, e' = .returned (.tuple #[.pointer (some ⟨p, 0, none⟩), .int .i64 0]) ∧ PoolM w' w.heap.size F p (St0 most wait) 0 ∧ Below w.heap.size w w' := by
  have k1 : decide (most < 1) = false := decide_eq_false (by omega)
  have k2 : decide (64 < most) = false := decide_eq_false (by omega)
  have k3 : decide (wait < 0) = false := decide_eq_false (by omega)
  have hi := Lib.hid (inv0 h)
  clear h
  have hmm := @run_makeMap Try.prog
  go_enter Try.func7, Try.ntmps7
  go_wp2
  go_ret2
  have b1 := (Below.refl w.heap.size w).alloc (Nat.le_refl _) (.map #[] 0)
  have b2 := b1.alloc (by simp) (.map #[] 0)
  have m1 := MapS.made ik w
  have m2 := MapS.made sk (w.alloc (.map #[] 0))
  refine ⟨w.heap.size + 2, fun k => w.heap.size ≤ k ∧ k < w.heap.size + 3, by simp, ⟨w.heap.size, w.heap.size + 1, fun _ => 0, fun _ => 0, 0, fun _ => none, fun _ => none, ⟨?_, ?_, (fun c h => by cases h), fun _ _ => rfl, ?_, fun _ => rfl, (fun c h => by cases h), (fun c h => by cases h), by omega, (fun c h => by cases h), ⟨by omega, by omega, by omega, (fun c h => by cases h)⟩, fun k hk => ⟨hk.1, by simp; omega⟩, List.Pairwise.nil, (fun c h => by cases h), hi.out, by omega⟩, by omega⟩, b2.alloc (by simp; omega) _⟩
  · have := heap_alloc_new ((w.alloc (.map #[] 0)).alloc (.map #[] 0)) (.cells #[.int .i64 most, .int .i64 wait, .map (some w.heap.size), .map (some (w.heap.size + 1)), .int .i64 0] 55)
    simpa [St0] using this
  · refine (m1.tch (Tch.alloc No _ (.map #[] 0)) id).tch (Tch.alloc No _ _) id
  · have := m2.tch (Tch.alloc No _ (.cells #[.int .i64 most, .int .i64 wait, .map (some w.heap.size), .map (some (w.heap.size + 1)), .int .i64 0] 55)) id
    simpa using this
@[go_sem] theorem index2 (x y z : Int) (w : World) : (Instr.index 60 (agg3 x y z) (.int .i64 2)).run Try.prog w = .ok (.int .i64 z) w := by kernel_rfl
/-! ### Failed -/
theorem fail_any {w : World} {B : Nat} {F : Nat → Prop} {p n : Nat} {s : St} (h : PoolM w B F p s n) (e : ByteArray) : Calls Try.prog 15 #[.pointer (some ⟨p, 0, none⟩), .string e] w fun e' w' => e' = .returned (.int .i64 (fail s e).1) ∧ Post w B F p (fail s e).2 n w' := by
  obtain ⟨bc, bk, blk, turn, turns, g, f, h, htn⟩ := h
  have c3 : w.cell? ⟨p, 3, none⟩ = some (.map (some bk)) := (cell_of_row _ _ 3 _ _ _ h.hp).trans rfl
  have hlk3 : (Instr.lookup 53 (.map (some bk)) (.string e) false).run Try.prog w = .ok (agg3 (of s.busy e) (of s.free e) (kof s.kept e)) w := by rw [← h.gs e]; exact h.counts.look (t := 53) (e := 60) Try.underlying53 (zero60 w) false e
  have hfi := fail_inv h.inv e
  have htot := h.inv.tot e
  have hm := h.inv.m
  by_cases hk : kof s.kept e = 0
  · have htk : fail s e = (2, s) := if_pos hk
    have k1 : ((kof s.kept e : Int) == 0) = true := by rw [hk]; rfl
    have hH := Lib.hid h
    replace hk := Lib.hid hk
    replace hfi := Lib.hid hfi
    replace htk := Lib.hid htk
    clear h
    go_enter Try.func15, Try.ntmps15
    go_wp2
    go_ret
    rw [htk.out]
    exact ⟨rfl, post_same ⟨bc, bk, blk, turn, turns, g, f, hH.out, htn⟩ (Tch.refl _ _)⟩
  · have htk : fail s e = (0, { s with kept := unk e s.kept }) := if_neg hk
    rw [htk] at hfi
    have k1 : ((kof s.kept e : Int) == 0) = false := by rw [beq_eq_false_iff_ne]; omega
    have hcc := count2 h.hp h.counts e (-1) _ _ _ (h.gs e) ⟨by omega, by omega, by omega, by omega⟩
    have hH := Lib.hid h
    replace hk := Lib.hid hk
    replace hfi := Lib.hid hfi
    replace htk := Lib.hid htk
    clear h
    go_enter Try.func15, Try.ntmps15
    go_wp2_with (first | (go_at_call 23; refine hcc.mono ?_; rintro _ w2 ⟨rfl, hM, hT2⟩) | fail)
    go_ret
    rw [htk.out]
    have hm1 := hH.out
    refine ⟨rfl, F, ⟨bc, bk, blk, turn, turns, _, f, ⟨(hT2.block p (hm1.lt _ hm1.own.1).2 hm1.np.2).trans hm1.hp, hm1.conns.tch hT2 hm1.ne, hm1.fsome, hm1.fnone, hM, fun e' => ?_, fun c hc => (hT2.block _ (hm1.lt _ (hm1.own.2.2.2 c (List.mem_append_left _ hc))).2 (hm1.nb (List.mem_append_left _ hc)).2.2).trans (hm1.busy c hc),
      fun c hc => (hT2.block _ (hm1.lt _ (hm1.own.2.2.2 c (List.mem_append_right _ hc))).2 (hm1.nb (List.mem_append_right _ hc)).2.2).trans (hm1.free c hc), hm1.ne, hm1.inj, hm1.own, fun k hk => ⟨(hm1.lt k hk).1, Nat.lt_of_lt_of_le (hm1.lt k hk).2 hT2.size⟩, hm1.ord, hm1.tl, hfi.out, hm1.t0⟩, htn⟩, hT2.mono (fun k hk => by rw [hk]; exact hm1.own.2.2.1), fun k hk => .inl hk⟩
    have hku := kof_unk e s.kept hk.out e'
    show _ = agg3 (of s.busy e') (of s.free e') (kof (unk e s.kept) e')
    by_cases he : e' = e
    · subst he
      rw [upd_same]
      rw [if_pos rfl] at hku
      show agg3 _ _ _ = agg3 _ _ _
      rw [hku]
      have e1 : ((kof (unk e' s.kept) e' + 1 : Nat) : Int) + -1 = kof (unk e' s.kept) e' := by omega
      rw [e1]
    · rw [upd_other _ _ he, hm1.gs e', hku, if_neg (fun h => he h.symm), Nat.add_zero]
/-! ### Dialled -/
def ins {β : Type} (f : Int → β) (i : Int) (v : β) : Int → β := fun j => if j = i then v else f j
theorem ins_same {β : Type} (f : Int → β) (i : Int) (v : β) : ins f i v i = v := if_pos rfl
theorem ins_other {β : Type} (f : Int → β) {i j : Int} (v : β) (h : j ≠ i) : ins f i v j = f j := if_neg h
section
variable {w : World} {B : Nat} {F : Nat → Prop} {p bc bk : Nat} {blk : Int → Nat} {turn : Int → Int} {turns : Int} {g : ByteArray → Option Value} {f : Int → Option Value} {s : St}
theorem PM.look (h : PM w B F p bc bk blk turn turns g f s) (i : Int) : (Instr.lookup 52 (.map (some bc)) (.int .i64 i) false).run Try.prog w = .ok ((f i).getD (.pointer none)) w := h.conns.look (t := 52) (e := 56) Try.underlying52 (zero56 _) false i
end
theorem dial_any {w : World} {B : Nat} {F : Nat → Prop} {p n : Nat} {s : St} (h : PoolM w B F p s n) (e : ByteArray) (i : Int) (hi : i ≤ 9223372036854775807) (hB : B ≤ w.heap.size) : Calls Try.prog 9 #[.pointer (some ⟨p, 0, none⟩), .string e, .int .i64 i] w fun e' w' => e' = .returned (.int .i64 (dial s e i).1) ∧ Post w B F p (dial s e i).2 n w' := by
  obtain ⟨bc, bk, blk, turn, turns, g, f, h, htn⟩ := h
  have c2 : w.cell? ⟨p, 2, none⟩ = some (.map (some bc)) := (cell_of_row _ _ 2 _ _ _ h.hp).trans rfl
  have c3 : w.cell? ⟨p, 3, none⟩ = some (.map (some bk)) := (cell_of_row _ _ 3 _ _ _ h.hp).trans rfl
  have hlk3 : (Instr.lookup 53 (.map (some bk)) (.string e) false).run Try.prog w = .ok (agg3 (of s.busy e) (of s.free e) (kof s.kept e)) w := by rw [← h.gs e]; exact h.counts.look (t := 53) (e := 60) Try.underlying53 (zero60 w) false e
  have hlk2 := h.look i
  have hfi := dial_inv h.inv e i hi
  have htot := h.inv.tot e
  have hm := h.inv.m
  have hdie : Post w B F p s n w := post_same ⟨bc, bk, blk, turn, turns, g, f, h, htn⟩ (Tch.refl _ _)
  have hH := Lib.hid h
  replace hdie := Lib.hid hdie
  by_cases hk : kof s.kept e = 0
  · have htk : dial s e i = (2, s) := if_pos (.inl hk)
    have k1 : ((kof s.kept e : Int) == 0) = true := by rw [hk]; rfl
    replace hk := Lib.hid hk
    replace hfi := Lib.hid hfi
    replace htk := Lib.hid htk
    clear h
    go_enter Try.func9, Try.ntmps9
    go_wp2
    go_ret
    rw [htk.out]
    exact ⟨rfl, hdie.out⟩
  · have k1 : ((kof s.kept e : Int) == 0) = false := by rw [beq_eq_false_iff_ne]; omega
    by_cases hi0 : i < 0
    · have htk : dial s e i = (2, s) := if_pos (.inr (.inl hi0))
      have k2 : decide (i < 0) = true := decide_eq_true hi0
      replace hk := Lib.hid hk
      replace hfi := Lib.hid hfi
      replace htk := Lib.hid htk
      clear h
      go_enter Try.func9, Try.ntmps9
      go_wp2
      go_ret
      rw [htk.out]
      exact ⟨rfl, hdie.out⟩
    · have k2 : decide (i < 0) = false := decide_eq_false hi0
      by_cases hh : hasId s i
      · have htk : dial s e i = (2, s) := if_pos (.inr (.inr hh))
        obtain ⟨c, hc, rfl⟩ := hh
        rw [h.fsome c hc] at hlk2
        dsimp only [Option.getD] at hlk2
        replace hk := Lib.hid hk
        replace hfi := Lib.hid hfi
        replace htk := Lib.hid htk
        clear h
        go_enter Try.func9, Try.ntmps9
        go_wp2
        go_ret
        rw [htk.out]
        exact ⟨rfl, hdie.out⟩
      · have htk : dial s e i = (0, { s with kept := unk e s.kept, busy := s.busy ++ [⟨i, e, 0⟩] }) := if_neg (by simp only [not_or]; exact ⟨hk, hi0, hh⟩)
        have hfn : f i = none := h.fnone i (fun c hc he => hh ⟨c, hc, he⟩)
        rw [hfn] at hlk2
        dsimp only [Option.getD] at hlk2
        rw [htk] at hfi
        have hct1 := count2 h.hp h.counts e (-1) _ _ _ (h.gs e) ⟨by omega, by omega, by omega, by omega⟩
        obtain ⟨n1, n2⟩ := h.np
        replace hk := Lib.hid hk
        replace hfi := Lib.hid hfi
        replace htk := Lib.hid htk
        replace hfn := Lib.hid hfn
        clear h
        go_enter Try.func9, Try.ntmps9
        go_wp2_with (first
          | (go_at_call 23; have _t := hct1; refine hct1.mono ?_; clear hct1 _t; rintro _ w1 ⟨rfl, hM1, hT1⟩; have hp1 := (hT1.block p (hH.out.lt _ hH.out.own.1).2 n2).trans hH.out.hp; have hct2 := count0 hp1 hM1 e 1 _ _ _ (congrArg (fun o => Option.getD o (agg3 0 0 0)) (upd_same _ _ _)) ⟨by omega, by omega, by omega, by omega⟩; replace hp1 := Lib.hid hp1)
          | (go_at_call 23; have _t := hct2; refine hct2.mono ?_; clear hct2 _t; rintro _ w2 ⟨rfl, hM2, hT2⟩; have hp2 := (hT2.block p (Nat.lt_of_lt_of_le (hH.out.lt _ hH.out.own.1).2 hT1.size) n2).trans hp1.out; have hT12 := Lib.hid (hT1.trans hT2 (fun _ h => .inl h)); have c22 : w2.cell? ⟨p, 2, none⟩ = some (.map (some bc)) := (cell_of_row _ _ 2 _ _ _ hp2).trans rfl; replace hp2 := Lib.hid hp2)
          | (at_mapUpdate; refine wp_store rfl _ _ _ 52 rfl ik 56 Try.underlying52 bc f i (.pointer (some ⟨w2.heap.size, 0, none⟩)) rfl ((hH.out.conns.tch hT12.out hH.out.ne).tch (Tch.alloc No _ _) id) rfl rfl ?_; intro w3 hM3 hT3)
          | fail)
        go_ret
        rw [htk.out]
        have hm1 := hH.out
        obtain ⟨o1, o2, o3, o4⟩ := hm1.own
        have hsz : w.heap.size ≤ w2.heap.size := hT12.out.size
        have hnb := heap_alloc_new w2 (.cells #[.string e, .bool false, .int .i64 0, .int .i64 0] 58)
        have hTa : Tch (fun k => k = bk) w (w2.alloc (.cells #[.string e, .bool false, .int .i64 0, .int .i64 0] 58)) := hT12.out.trans (Tch.alloc _ _ _) (fun _ h => .inl h)
        have hTb : Tch (fun k => k = bk ∨ k = bc) w w3 := (hTa.mono (fun _ h => .inl h)).trans (Tch.turned (S := fun k => k = bc) hT3 rfl) (fun _ h => .inl (.inr h))
        have hT3t : Tch (fun k => k = bc) (w2.alloc (.cells #[.string e, .bool false, .int .i64 0, .int .i64 0] 58)) w3 := Tch.turned (S := fun k => k = bc) hT3 rfl
        have hnew : w3.heap[w2.heap.size]? = some (connC ⟨i, e, 0⟩ false 0) := (hT3t.block _ (by simp) (fun h => by have := (hm1.lt _ o2).2; omega)).trans hnb
        have hold : ∀ c ∈ s.all, c.id ≠ i := fun c hc he => hh ⟨c, hc, he⟩
        have hall : ∀ d, d ∈ (s.busy ++ [⟨i, e, 0⟩] ++ s.free) ↔ d ∈ s.all ∨ d = ⟨i, e, 0⟩ := fun d => by
          simp only [St.all, List.mem_append, List.mem_singleton]
          constructor
          · rintro ((h | h) | h)
            · exact .inl (.inl h)
            · exact .inr h
            · exact .inl (.inr h)
          · rintro ((h | h) | h)
            · exact .inl (.inl h)
            · exact .inr h
            · exact .inl (.inr h)
        have hbo : ∀ c ∈ s.all, ins blk i w2.heap.size c.id = blk c.id := fun c hc => ins_other _ _ (hold c hc)
        have hto : ∀ c ∈ s.all, ins turn i 0 c.id = turn c.id := fun c hc => ins_other _ _ (hold c hc)
        have hkc : ∀ c ∈ s.all, w3.heap[blk c.id]? = w.heap[blk c.id]? := fun c hc => hTb.block _ (hm1.lt _ (o4 c hc)).2 (fun h => h.elim (hm1.nb hc).2.2 (hm1.nb hc).2.1)
        refine ⟨rfl, fun k => F k ∨ k = w2.heap.size, ⟨bc, bk, ins blk i w2.heap.size, ins turn i 0, turns, _, _, ⟨(hTb.block p (hm1.lt _ o1).2 (fun h => h.elim n2 n1)).trans hm1.hp, hM3, fun d hd => ?_, fun j hj => ?_, ((hM2.tch (Tch.alloc No _ _) id).tch hT3t (fun h => hm1.ne h.symm)), fun e' => ?_, fun d hd => ?_, fun d hd => ?_,
          hm1.ne, fun d hd d' hd' hdd => ?_, ⟨.inl o1, .inl o2, .inl o3, fun d hd => ?_⟩, fun k hk => ?_, ?_, fun d hd => ?_, hfi.out, hm1.t0⟩, htn⟩, hTb.mono (fun k h => by rcases h with rfl | rfl; exact o3; exact o2), fun k hk => hk.imp id (fun h => by omega)⟩
        · rcases (hall d).1 hd with hd | rfl
          · rw [upd_other _ _ (hold d hd), hm1.fsome d hd, hbo d hd]
          · rw [upd_same, ins_same]
        · have hji : j ≠ i := fun h => hj ⟨i, e, 0⟩ ((hall _).2 (.inr rfl)) h.symm
          rw [upd_other _ _ hji]
          exact hm1.fnone j (fun c hc => hj c ((hall c).2 (.inl hc)))
        · have hku := kof_unk e s.kept hk.out e'
          show _ = agg3 (of (s.busy ++ [⟨i, e, 0⟩]) e') (of s.free e') (kof (unk e s.kept) e')
          rw [of_append, of_one]
          by_cases he : e' = e
          · subst he
            rw [upd_same, if_pos rfl]
            rw [if_pos rfl] at hku
            show agg3 _ _ _ = agg3 _ _ _
            rw [hku]
            have e1 : ((kof (unk e' s.kept) e' + 1 : Nat) : Int) + -1 = kof (unk e' s.kept) e' := by omega
            rw [e1]
            rfl
          · rw [upd_other _ _ he, upd_other _ _ he, hm1.gs e', hku, if_neg (fun h => he h.symm)]
            rfl
        · rcases List.mem_append.1 hd with hd | hd
          · have hdA : d ∈ s.all := List.mem_append_left _ hd
            rw [hbo d hdA, hto d hdA]
            exact (hkc d hdA).trans (hm1.busy d hd)
          · rw [List.mem_singleton] at hd
            subst hd
            rw [ins_same, ins_same]
            exact hnew
        · have hdA : d ∈ s.all := List.mem_append_right _ hd
          rw [hbo d hdA, hto d hdA]
          exact (hkc d hdA).trans (hm1.free d hd)
        · rcases (hall d).1 hd with hd | rfl
          · rcases (hall d').1 hd' with hd' | rfl
            · rw [hbo d hd, hbo d' hd'] at hdd
              exact hm1.inj d hd d' hd' hdd
            · rw [hbo d hd, ins_same] at hdd
              have := (hm1.lt _ (o4 d hd)).2
              omega
          · rcases (hall d').1 hd' with hd' | rfl
            · rw [hbo d' hd', ins_same] at hdd
              have := (hm1.lt _ (o4 d' hd')).2
              omega
            · rfl
        · rcases (hall d).1 hd with hd | rfl
          · rw [hbo d hd]; exact .inl (o4 d hd)
          · exact .inr (ins_same _ _ _)
        · rcases hk with hk | rfl
          · exact ⟨(hm1.lt k hk).1, Nat.lt_of_lt_of_le (hm1.lt k hk).2 hTb.size⟩
          · refine ⟨Nat.le_trans hB hsz, Nat.lt_of_lt_of_le (by simp) hT3t.size⟩
        · refine (List.Pairwise.imp_of_mem (fun {a b} ha hb hab => ?_) hm1.ord)
          rw [hto a (List.mem_append_right _ ha), hto b (List.mem_append_right _ hb)]
          exact hab
        · rw [hto d (List.mem_append_right _ hd)]
          exact hm1.tl d hd
end Go.Proofs.Ytpebcamnmeppaaa
