/- The law CheckOwn: its walk. -/
import Derived.Test.YtjepgpocmnijiaaZb16
import Derived.Test.YtjepgpocmnijiaaZb38
section

namespace Go.Ck
open Go.RowKit Go.Mp
open Go.Proofs.Ytjepgpocmnijiaa (Rw)
set_option linter.unusedVariables false
/-- Resources in memory that was made between two moments. -/
structure OwnB (w : World) (B N : Nat) (v : Value) (L : List RV) : Prop where
  own : OwnM w B v L
  v : ∀ k, v.ownBlock = some k → k < N
  el : ∀ x ∈ L, ∀ k, x.ev.ownBlock = some k ∨ x.tv.ownBlock = some k ∨ x.rv.ownBlock = some k → k < N
theorem OwnB.of {w : World} {B : Nat} {v : Value} {L : List RV} (h : OwnM w B v L) : OwnB w B w.heap.size v L :=
  ⟨h, fun k hk => (h.row.lt k hk).2, fun x hx k hk => by
    have e := h.el x hx
    rcases hk with q | q | q
    · exact (e.e.lt k q).2
    · exact (e.t.lt k q).2
    · exact (e.ru.lt k q).2⟩
theorem OwnB.tch {w w' : World} {B N : Nat} {v : Value} {L : List RV} {S : Nat → Prop} (h : OwnB w B N v L) (t : Tch S w w') (hs : ∀ k, B ≤ k → k < N → ¬ S k) : OwnB w' B N v L :=
  ⟨Go.Proofs.Ytjepgpocmnijiaa.ownM_tch h.own t (fun g hg => hs g (h.own.row.lt g hg).1 (h.v g hg)) (fun x hx g hg => by
    have e := h.own.el x hx
    refine hs g ?_ (h.el x hx g hg)
    rcases hg with q | q | q
    · exact (e.e.lt g q).1
    · exact (e.t.lt g q).1
    · exact (e.ru.lt g q).1), h.v, h.el⟩
theorem OwnB.below {w w' : World} {B N : Nat} {v : Value} {L : List RV} (h : OwnB w B N v L) (hb : Below w.heap.size w w') : OwnB w' B N v L := h.tch (Tch.of_below (S := fun _ => False) hb) (fun _ _ _ q => q)
theorem OwnB.any {w : World} {B N : Nat} {v : Value} {L : List RV} (h : OwnB w B N v L) : Any w B 52 8 v L.length := ⟨_, h.own.row⟩
theorem lists_le {l : List Res} {r : Res} (h : r ∈ l) (hl : listM l ≤ 1048576) : r.eps.length ≤ 4194304 ∧ r.tgts.length ≤ 4194304 ∧ r.rules.length ≤ 4194304 := by
  have h1 := mem_le h
  have h2 := eps_le r
  have h3 := tgts_le r
  have h4 := rules_le r
  exact ⟨by omega, by omega, by omega⟩
theorem mge_small {C D L : List Res} {i f : Int} (h : MgE C D L i f) (hC : listM C ≤ 1048576) (hD : listM D ≤ 1048576) : ∀ r ∈ L, r.eps.length ≤ 4194304 ∧ r.tgts.length ≤ 4194304 ∧ r.rules.length ≤ 4194304 := fun r hr => by
  by_cases hf : f = 0
  · rcases mgs_mem (mge_ok h hf).2.1 r hr with q | q
    · exact lists_le q hC
    · exact lists_le q hD
  · rw [(mge_err h hf).1] at hr; cases hr
theorem diff_small {A B d : List Res} (h : IsDiff A B d) (hB : listM B ≤ 1048576) : ∀ r ∈ d, r.eps.length ≤ 4194304 ∧ r.tgts.length ≤ 4194304 ∧ r.rules.length ≤ 4194304 := fun r hr => by
  have h1 : fnd d (rk r) = some r := h.1.fnd_mem hr
  rw [h.2] at h1
  cases hb : fnd B (rk r) with
  | some b => have := diff_new hb h1; rw [this]; exact lists_le (fnd_some hb).2 hB
  | none => rw [(diff_gone hb h1).1]; simp [delR]
theorem rv_small {L : List Rw} (h : ∀ r ∈ L.map Rw.r, r.eps.length ≤ 4194304 ∧ r.tgts.length ≤ 4194304 ∧ r.rules.length ≤ 4194304) : ∀ x ∈ L.map Rw.rv, x.r.eps.length ≤ 4194304 ∧ x.r.tgts.length ≤ 4194304 ∧ x.r.rules.length ≤ 4194304 := fun x hx => by
  obtain ⟨y, hy, rfl⟩ := List.mem_map.1 hx
  exact h _ (List.mem_map.2 ⟨y, hy, rfl⟩)
end Go.Ck
namespace Go.Proofs.Ytjepgpocmnijiaa
open Go.RowKit Go.Mp Go.Ck Go.Shelf
attribute [local go_sem] Oper.semAt_some
set_option linter.unusedVariables false
set_option maxRecDepth 100000
set_option maxHeartbeats 8000000
/-- The program's Merge: what it answers, and where that lies. -/
theorem merge25b {C D : List Res} {u1 u2 : Value} {w' : World} (h1 : ResS w' u1 C) (h2 : ResS w' u2 D) (hC : SzL C) (hD : SzL D) : Calls Try.prog 25 #[u1, u2] w' fun e w2 => ∃ o2 c2, ∃ (L : List Rw) (i f : Int), e = .returned (.tuple #[.slice o2 L.length c2, .int .i64 i, .int .i64 f]) ∧ MgE C D (L.map Rw.r) i f ∧ OwnB w2 w'.heap.size w2.heap.size (.slice o2 L.length c2) (L.map Rw.rv) ∧ Below w'.heap.size w' w2 := by
  refine (merge25 C D u1 u2 w' h1 h2 hC hD).mono ?_
  rintro e w2 ⟨v2, L, i, f, rfl, hE, hO, hb⟩
  have hO' := hO
  obtain ⟨o2, c2, rfl⟩ := ownsRow_shape hO.row
  rw [List.length_map] at hO'
  rw [List.length_map]
  exact ⟨o2, c2, L, i, f, rfl, hE, OwnB.of hO', hb⟩
theorem diff27b {A B : List Res} {u1 u2 : Value} {w' : World} (h1 : ResS w' u1 A) (h2 : ResS w' u2 B) (hA : SzL A) (hB : SzL B) (hN : A.length + B.length ≤ 4194304) : Calls Try.prog 27 #[u1, u2] w' fun e w2 => ∃ o2 c2, ∃ L : List Rw, e = .returned (.slice o2 L.length c2) ∧ IsDiff A B (L.map Rw.r) ∧ OwnB w2 w'.heap.size w2.heap.size (.slice o2 L.length c2) (L.map Rw.rv) ∧ Below w'.heap.size w' w2 := by
  refine (diff27 A B u1 u2 w' h1 h2 hA hB hN).mono ?_
  rintro e w2 ⟨v2, L, rfl, hE, hO, hb⟩
  have hO' : OwnM w2 w'.heap.size v2 (L.map Rw.rv) := hO
  obtain ⟨o2, c2, rfl⟩ := ownsRow_shape hO'.row
  rw [List.length_map] at hO'
  rw [List.length_map]
  exact ⟨o2, c2, L, rfl, hE, OwnB.of hO', hb⟩
theorem own9 (C D : List Res) (v1 v2 : Value) (w : World) (h1 : ResS w v1 C) (h2 : ResS w v2 D) (hC : listM C ≤ 1048576) (hD : listM D ≤ 1048576) : Calls Try.prog 9 #[v1, v2] w fun e w' => e = .returned (.bool true) ∧ Below w.heap.size w w' := by
  obtain ⟨ao, cap, rfl⟩ := slice_shape h1
  obtain ⟨bo, bcp, rfl⟩ := slice_shape h2
  have hsC := sz_of hC
  have hsD := sz_of hD
  have hC2 := Nat.le_trans (len_le C) hC
  have hD2 := Nat.le_trans (len_le D) hD
  have hN2 : C.length + D.length ≤ 4194304 := by omega
  have k33 : ∀ (w' : World) (B N : Nat) (o : Option Addr) (c : Nat) (L : List Rw), OwnB w' B N (.slice o L.length c) (L.map Rw.rv) → N ≤ w'.heap.size → L.length ≤ 4194304 → (∀ x ∈ L.map Rw.rv, x.r.eps.length ≤ 4194304 ∧ x.r.tgts.length ≤ 4194304 ∧ x.r.rules.length ≤ 4194304) → Calls Try.prog 33 #[.slice o L.length c] w' fun e w2 => e = .returned (.tuple #[]) ∧ Shp w' w2 ∧ Tch (fun k => B ≤ k ∧ k < N) w' w2 := fun w' B N o c L hO hN hl hz => spoil33 w' B N _ _ hO.own hN hO.v hO.el (by rw [List.length_map]; exact hl) hz
  have hK22 : ∀ (v1 v2 : Value) (w' : World) (l : List Res), ResS w' v1 l → ResS w' v2 l → Calls Try.prog 22 #[v1, v2] w' fun e w2 => e = .returned (.bool true) ∧ Below w'.heap.size w' w2 := fun v1 v2 w' l h1 h2 => lists22r h1 h2
  have hK28 : ∀ (u1 u2 : Value) (w' : World), ResS w' u1 C → ResS w' u2 D → Calls Try.prog 28 #[u1, u2] w' fun e w2 => ∃ o2 c2 L, e = .returned (.slice o2 L.length c2) ∧ IsDiff C D L ∧ ResS w2 (.slice o2 L.length c2) L ∧ Below w'.heap.size w' w2 := fun u1 u2 w' h1 h2 => by
    refine (diff28 C D u1 u2 w' h1 h2 hC2 hD2).mono ?_
    rintro e w2 ⟨v2, L, rfl, hE, hr, _, hb⟩
    obtain ⟨o2, c2, rfl⟩ := slice_shape hr
    exact ⟨o2, c2, _, rfl, hE, hr, hb⟩
  have hK26 : ∀ (u1 u2 : Value) (w' : World), ResS w' u1 C → ResS w' u2 D → Calls Try.prog 26 #[u1, u2] w' fun e w2 => ∃ o2 c2 L i f, e = .returned (.tuple #[.slice o2 L.length c2, .int .i64 i, .int .i64 f]) ∧ MgE C D L i f ∧ ResS w2 (.slice o2 L.length c2) L ∧ Below w'.heap.size w' w2 := fun u1 u2 w' h1 h2 => by
    refine (merge26 C D u1 u2 w' h1 h2 hC2 hD2).mono ?_
    rintro e w2 ⟨v2, L, i, f, rfl, hE, hr, hb⟩
    obtain ⟨o2, c2, rfl⟩ := slice_shape hr
    exact ⟨o2, c2, _, i, f, rfl, hE, hr, hb⟩
  obtain ⟨i52, h52, h520, h521, h522⟩ := info_parts info52
  replace h1 := Lib.hid h1
  replace h2 := Lib.hid h2
  replace hC := Lib.hid hC
  replace hD := Lib.hid hD
  replace hsC := Lib.hid hsC
  replace hsD := Lib.hid hsD
  replace hC2 := Lib.hid hC2
  replace hD2 := Lib.hid hD2
  replace hN2 := Lib.hid hN2
  replace k33 := Lib.hid k33
  replace hK22 := Lib.hid hK22
  replace hK28 := Lib.hid hK28
  replace hK26 := Lib.hid hK26
  replace h52 := Lib.hid h52
  replace h520 := Lib.hid h520
  replace h521 := Lib.hid h521
  replace h522 := Lib.hid h522
  go_enter Try.func9, Try.ntmps9
  go_upto_region 4 with (first
    | (go_at_call 31; (with_reducible refine (awake31 _).mono ?_); rintro e w0 ⟨rfl, hb0⟩; have h10 := Lib.hid (h1.out.below hb0); replace hb0 := Lib.hid hb0)
    | (go_at_call 18; (with_reducible refine (own18r h10.out hsC.out).mono ?_); rintro e w1 ⟨p1, q1, rfl, ha, hb1⟩; have h21 := Lib.hid (h2.out.below (seq_below hb0.out hb1)); replace ha := Lib.hid ha; replace hb1 := Lib.hid hb1)
    | (go_at_call 18; (with_reducible refine (own18r h21.out hsD.out).mono ?_); rintro e w2 ⟨p2, q2, rfl, hb, hb2⟩; have ha2 := Lib.hid (ha.out.below hb2); have hB2 := Lib.hid (seq_below hb0.out (seq_below hb1.out hb2)); replace hb := Lib.hid hb; replace hb2 := Lib.hid hb2)
    | fail)
  go_upto_region 5 with (first
    | (go_at_call 25; (with_reducible refine (merge25b ha2.out hb.out hsC.out hsD.out).mono ?_); rintro e w3 ⟨p3, q3, Lm, i3, f3, rfl, hE3, hm3, hb3⟩; have ha3 := Lib.hid (ha2.out.below hb3); have hv3 := Lib.hid (hb.out.below hb3); replace hE3 := Lib.hid hE3; replace hm3 := Lib.hid hm3; replace hb3 := Lib.hid hb3)
    | fail)
  go_upto_region 6 with (first
    | (go_at_call 25; (with_reducible refine (merge25b ha3.out hv3.out hsC.out hsD.out).mono ?_); rintro e w4 ⟨p4, q4, Ln, i4, f4, rfl, hE4, hn4, hb4⟩; have ha4 := Lib.hid (ha3.out.below hb4); have hv4 := Lib.hid (hv3.out.below hb4); have hm4 := Lib.hid (hm3.out.below hb4); have hB4 := Lib.hid (seq_below hb3.out hb4); replace hE4 := Lib.hid hE4; replace hn4 := Lib.hid hn4; replace hb4 := Lib.hid hb4)
    | fail)
  go_upto_region 7 with (first
    | (go_at_call 27; (with_reducible refine (diff27b ha4.out hv4.out hsC.out hsD.out hN2.out).mono ?_); rintro e w5 ⟨p5, q5, Ld, rfl, hE5, hd5, hb5⟩; have ha5 := Lib.hid (ha4.out.below hb5); have hv5 := Lib.hid (hv4.out.below hb5); have hm5 := Lib.hid (hm4.out.below hb5); have hn5 := Lib.hid (hn4.out.below hb5); have hB5 := Lib.hid (seq_below hB4.out hb5); replace hE5 := Lib.hid hE5; replace hd5 := Lib.hid hd5; replace hb5 := Lib.hid hb5)
    | (go_at_call 27; (with_reducible refine (diff27b ha5.out hv5.out hsC.out hsD.out hN2.out).mono ?_); rintro e w6 ⟨p6, q6, Lo, rfl, hE6, ho6, hb6⟩; have hm6 := Lib.hid (hm5.out.below hb6); have hn6 := Lib.hid (hn5.out.below hb6); have hd6 := Lib.hid (hd5.out.below hb6); have hB6 := Lib.hid (seq_below hB5.out hb6); replace hE6 := Lib.hid hE6; replace ho6 := Lib.hid ho6; replace hb6 := Lib.hid hb6)
    | fail)
  have z3 : w2.heap.size ≤ w3.heap.size := hb3.out.size
  have z4 : w3.heap.size ≤ w4.heap.size := hb4.out.size
  have z5 : w4.heap.size ≤ w5.heap.size := hb5.out.size
  have z6 : w5.heap.size ≤ w6.heap.size := hb6.out.size
  have n36 : w3.heap.size ≤ w6.heap.size := by omega
  have lm := mge_len hE3.out
  rw [List.length_map] at lm
  have lm4 : Lm.length ≤ 4194304 := by omega
  have ld := diff_len hE5.out
  rw [List.length_map] at ld
  have ld4 : Ld.length ≤ 4194304 := Nat.le_trans ld hN2.out
  have ln := mge_len hE4.out
  rw [List.length_map] at ln
  have lo := diff_len hE6.out
  rw [List.length_map] at lo
  have lo4 : Lo.length ≤ 4194304 := Nat.le_trans lo hN2.out
  have sm := rv_small (mge_small hE3.out hC.out hD.out)
  have sd := rv_small (diff_small hE5.out hD.out)
  replace z3 := Lib.hid z3
  replace z4 := Lib.hid z4
  replace z5 := Lib.hid z5
  replace z6 := Lib.hid z6
  replace n36 := Lib.hid n36
  replace lm := Lib.hid lm
  replace lm4 := Lib.hid lm4
  replace ld := Lib.hid ld
  replace ld4 := Lib.hid ld4
  replace ln := Lib.hid ln
  replace lo := Lib.hid lo
  replace lo4 := Lib.hid lo4
  replace sm := Lib.hid sm
  replace sd := Lib.hid sd
  go_upto_region 8 with (first
    | (go_at_call 33; (with_reducible refine (k33.out _ _ _ _ _ _ hm6.out n36.out lm4.out sm.out).mono ?_); rintro e w7 ⟨rfl, hs7, ht7⟩; replace hs7 := Lib.hid hs7; replace ht7 := Lib.hid ht7)
    | fail)
  have hn7 := Lib.hid (hn6.out.tch ht7.out (fun k a b c => by have := c.2; omega))
  have hd7 := Lib.hid (hd6.out.tch ht7.out (fun k a b c => by have := c.2; have := z4.out; omega))
  have ho7 := Lib.hid (ho6.out.tch ht7.out (fun k a b c => by have := c.2; have := z4.out; have := z5.out; omega))
  have z7 : Hid (w6.heap.size ≤ w7.heap.size) := Lib.hid ht7.out.size
  have n57 : Hid (w5.heap.size ≤ w7.heap.size) := Lib.hid (Nat.le_trans z6.out z7.out)
  have hB7 := Lib.hid (Tch.below hB6.out ht7.out hB6.out.size (fun k q => q.1))
  go_upto_region 9 with (first
    | (go_at_call 33; (with_reducible refine (k33.out _ _ _ _ _ _ hd7.out n57.out ld4.out sd.out).mono ?_); rintro e w8 ⟨rfl, hs8, ht8⟩; replace hs8 := Lib.hid hs8; replace ht8 := Lib.hid ht8)
    | fail)
  have hn8 := Lib.hid (hn7.out.tch ht8.out (fun k a b c => by have := c.1; omega))
  have ho8 := Lib.hid (ho7.out.tch ht8.out (fun k a b c => by have := c.2; omega))
  have hB8 := Lib.hid (Tch.below hB7.out ht8.out hB7.out.size (fun k q => by have := q.1; have := z3.out; have := z4.out; omega))
  have am8 : Hid (Any w8 w2.heap.size 52 8 (.slice p3 Lm.length q3) Lm.length) := Lib.hid (by have := (hm6.out.any.shp hs7.out).shp hs8.out; rwa [List.length_map] at this)
  have ad8 : Hid (Any w8 w4.heap.size 52 8 (.slice p5 Ld.length q5) Ld.length) := Lib.hid (by have := (hd7.out.any.shp hs8.out); rwa [List.length_map] at this)
  have z8a := Lib.hid hB8.out.size
  have z8b : Hid (w4.heap.size ≤ w8.heap.size) := Lib.hid (Nat.le_trans (Nat.le_trans z5.out n57.out) ht8.out.size)
  have haa := Lib.hid (am8.out.shp (shp_alloc w8 (.cells #[.int .i64 0, .string ⟨#[]⟩, .slice none 0 0, .slice none 0 0, .string ⟨#[]⟩, .slice none 0 0, .string ⟨#[]⟩, .bool false, .int .i64 0, .string ⟨#[]⟩, .slice none 0 0, .slice none 0 0, .string ⟨#[]⟩, .slice none 0 0, .string ⟨#[]⟩, .bool false] 52)))
  have hna := Lib.hid (new_cells w8 [.int .i64 0, .string ⟨#[]⟩, .slice none 0 0, .slice none 0 0, .string ⟨#[]⟩, .slice none 0 0, .string ⟨#[]⟩, .bool false, .int .i64 0, .string ⟨#[]⟩, .slice none 0 0, .slice none 0 0, .string ⟨#[]⟩, .slice none 0 0, .string ⟨#[]⟩, .bool false] 52)
  have hBa := Lib.hid (show w2.heap.size ≤ (w8.alloc (.cells #[.int .i64 0, .string ⟨#[]⟩, .slice none 0 0, .slice none 0 0, .string ⟨#[]⟩, .slice none 0 0, .string ⟨#[]⟩, .bool false, .int .i64 0, .string ⟨#[]⟩, .slice none 0 0, .slice none 0 0, .string ⟨#[]⟩, .slice none 0 0, .string ⟨#[]⟩, .bool false] 52)).heap.size from Nat.le_trans z8a.out (by simp))
  go_cut [7] (fun mv wx => ∃ o c, mv = .slice o (Lm.length + 2) c ∧ Hid (Tch (fun k => w2.heap.size ≤ k ∧ k < w3.heap.size) w8 wx) ∧ Hid (Shp w8 wx))
  case first =>
    go_wp2_with (first
      | (at_builtin; go_loud (refine wp_append_shp (by rfl) _ _ 22 (by rfl) w2.heap.size 52 i52 _ 8 136 Try.underlying22 h52.out h520.out h521.out h522.out rfl (by decide) _ Lm.length (by rfl) haa.out ⟨w8.heap.size, 0, none⟩ 2 _ [.int .i64 0, .string ⟨#[]⟩, .slice none 0 0, .slice none 0 0, .string ⟨#[]⟩, .slice none 0 0, .string ⟨#[]⟩, .bool false, .int .i64 0, .string ⟨#[]⟩, .slice none 0 0, .slice none 0 0, .string ⟨#[]⟩, .slice none 0 0, .string ⟨#[]⟩, .bool false] (by rfl) rfl hna.out (by simp [Value.oneCell']) (by have := lm4.out; unfold maxLen; omega) (by have := lm4.out; omega) hBa.out ?_); intro v3 wt hv3 hg3 hs3; obtain ⟨o3, c3, rfl⟩ := hv3.shape; have hT3 := Lib.hid ((Tch.of_below (S := fun k => w2.heap.size ≤ k ∧ k < w3.heap.size) (alloc_below w8 (.cells #[.int .i64 0, .string ⟨#[]⟩, .slice none 0 0, .slice none 0 0, .string ⟨#[]⟩, .slice none 0 0, .string ⟨#[]⟩, .bool false, .int .i64 0, .string ⟨#[]⟩, .slice none 0 0, .slice none 0 0, .string ⟨#[]⟩, .slice none 0 0, .string ⟨#[]⟩, .bool false] 52))).trans (Tch.grown (S := fun k => w2.heap.size ≤ k ∧ k < w3.heap.size) hg3 (fun k q => .inl ⟨am8.out.ge q, hm6.out.v k q⟩)) (fun _ q => .inl q)); replace hs3 := Lib.hid ((shp_alloc w8 (.cells #[.int .i64 0, .string ⟨#[]⟩, .slice none 0 0, .slice none 0 0, .string ⟨#[]⟩, .slice none 0 0, .string ⟨#[]⟩, .bool false, .int .i64 0, .string ⟨#[]⟩, .slice none 0 0, .slice none 0 0, .string ⟨#[]⟩, .slice none 0 0, .string ⟨#[]⟩, .bool false] 52)).trans hs3); clear hg3 hv3)
      | fail)
    go_meet
    exact ⟨_, _, rfl, hT3, hs3⟩
  case rest =>
    obtain ⟨mo, mc, rfl, hT3, hs3⟩ := hcut
    clear haa hna hBa
    have hn9 := Lib.hid (hn8.out.tch hT3.out (fun k a b c => by have := c.2; omega))
    have ho9 := Lib.hid (ho8.out.tch hT3.out (fun k a b c => by have := c.2; have := z4.out; have := z5.out; omega))
    have ad9 := Lib.hid (ad8.out.shp hs3.out)
    have hB9 := Lib.hid (Tch.below hB8.out hT3.out hB8.out.size (fun k q => q.1))
    have z9 : Hid (w4.heap.size ≤ wc.heap.size) := Lib.hid (Nat.le_trans z8b.out hT3.out.size)
    obtain ⟨w9, hw9⟩ : ∃ w9, w9 = wc := ⟨_, rfl⟩
    rw [← hw9] at hn9 ho9 ad9 hB9 z9 ⊢
    clear hT3 hs3 hw9
    go_upto_region 10 with fail
    have haa := Lib.hid (ad9.out.shp (shp_alloc w9 (.cells #[.int .i64 0, .string ⟨#[]⟩, .slice none 0 0, .slice none 0 0, .string ⟨#[]⟩, .slice none 0 0, .string ⟨#[]⟩, .bool false, .int .i64 0, .string ⟨#[]⟩, .slice none 0 0, .slice none 0 0, .string ⟨#[]⟩, .slice none 0 0, .string ⟨#[]⟩, .bool false] 52)))
    have hna := Lib.hid (new_cells w9 [.int .i64 0, .string ⟨#[]⟩, .slice none 0 0, .slice none 0 0, .string ⟨#[]⟩, .slice none 0 0, .string ⟨#[]⟩, .bool false, .int .i64 0, .string ⟨#[]⟩, .slice none 0 0, .slice none 0 0, .string ⟨#[]⟩, .slice none 0 0, .string ⟨#[]⟩, .bool false] 52)
    have hBa := Lib.hid (show w4.heap.size ≤ (w9.alloc (.cells #[.int .i64 0, .string ⟨#[]⟩, .slice none 0 0, .slice none 0 0, .string ⟨#[]⟩, .slice none 0 0, .string ⟨#[]⟩, .bool false, .int .i64 0, .string ⟨#[]⟩, .slice none 0 0, .slice none 0 0, .string ⟨#[]⟩, .slice none 0 0, .string ⟨#[]⟩, .bool false] 52)).heap.size from Nat.le_trans z9.out (by simp))
    go_cut [13] (fun mv wx => ∃ o c, mv = .slice o (Ld.length + 2) c ∧ Hid (Tch (fun k => w4.heap.size ≤ k ∧ k < w5.heap.size) w9 wx) ∧ Hid (Shp w9 wx))
    case first =>
      go_wp2_with (first
        | (at_builtin; go_loud (refine wp_append_shp (by rfl) _ _ 22 (by rfl) w4.heap.size 52 i52 _ 8 136 Try.underlying22 h52.out h520.out h521.out h522.out rfl (by decide) _ Ld.length (by rfl) haa.out ⟨w9.heap.size, 0, none⟩ 2 _ [.int .i64 0, .string ⟨#[]⟩, .slice none 0 0, .slice none 0 0, .string ⟨#[]⟩, .slice none 0 0, .string ⟨#[]⟩, .bool false, .int .i64 0, .string ⟨#[]⟩, .slice none 0 0, .slice none 0 0, .string ⟨#[]⟩, .slice none 0 0, .string ⟨#[]⟩, .bool false] (by rfl) rfl hna.out (by simp [Value.oneCell']) (by have := ld4.out; unfold maxLen; omega) (by have := ld4.out; omega) hBa.out ?_); intro v3 wt hv3 hg3 hs3; obtain ⟨o3, c3, rfl⟩ := hv3.shape; have hT3 := Lib.hid ((Tch.of_below (S := fun k => w4.heap.size ≤ k ∧ k < w5.heap.size) (alloc_below w9 (.cells #[.int .i64 0, .string ⟨#[]⟩, .slice none 0 0, .slice none 0 0, .string ⟨#[]⟩, .slice none 0 0, .string ⟨#[]⟩, .bool false, .int .i64 0, .string ⟨#[]⟩, .slice none 0 0, .slice none 0 0, .string ⟨#[]⟩, .slice none 0 0, .string ⟨#[]⟩, .bool false] 52))).trans (Tch.grown (S := fun k => w4.heap.size ≤ k ∧ k < w5.heap.size) hg3 (fun k q => .inl ⟨ad9.out.ge q, hd6.out.v k q⟩)) (fun _ q => .inl q)); replace hs3 := Lib.hid ((shp_alloc w9 (.cells #[.int .i64 0, .string ⟨#[]⟩, .slice none 0 0, .slice none 0 0, .string ⟨#[]⟩, .slice none 0 0, .string ⟨#[]⟩, .bool false, .int .i64 0, .string ⟨#[]⟩, .slice none 0 0, .slice none 0 0, .string ⟨#[]⟩, .slice none 0 0, .string ⟨#[]⟩, .bool false] 52)).trans hs3); clear hg3 hv3)
        | fail)
      go_meet
      exact ⟨_, _, rfl, hT3, hs3⟩
    case rest =>
      obtain ⟨dz, dc, rfl, hT3, hs3⟩ := hcut
      clear haa hna hBa
      have hnA := Lib.hid (hn9.out.tch hT3.out (fun k a b c => by have := c.1; omega))
      have hoA := Lib.hid (ho9.out.tch hT3.out (fun k a b c => by have := c.2; omega))
      have hBA := Lib.hid (Tch.below hB9.out hT3.out hB9.out.size (fun k q => by have := q.1; have := z3.out; have := z4.out; omega))
      obtain ⟨wA, hwA⟩ : ∃ wA, wA = wc := ⟨_, rfl⟩
      rw [← hwA] at hnA hoA hBA ⊢
      clear hT3 hs3 hwA
      have hBz := Lib.hid (seq_below hB2.out hBA.out)
      have hrn := Lib.hid (own_reads2 hnA.out.own (by have := ln.out; omega))
      have hro := Lib.hid (own_reads2 hoA.out.own (by have := lo4.out; omega))
      have haA := Lib.hid (ha2.out.below hBA.out)
      have hbA := Lib.hid (hb.out.below hBA.out)
      obtain ⟨nm, hnm⟩ : ∃ q, q = Lm.length + 2 := ⟨_, rfl⟩
      obtain ⟨nd, hnd⟩ : ∃ q, q = Ld.length + 2 := ⟨_, rfl⟩
      rw [← hnm, ← hnd]
      have g1 : (2 : Int) ≤ (nm : Int) := by omega
      have g2 : (2 : Int) ≤ (nd : Int) := by omega
      obtain ⟨MN, hMN⟩ : ∃ l, l = Ln.map Rw.r := ⟨_, rfl⟩
      rw [← hMN] at hE4 hrn
      obtain ⟨MO, hMO⟩ : ∃ l, l = Lo.map Rw.r := ⟨_, rfl⟩
      rw [← hMO] at hE6 hro
      replace hnm := Lib.hid hnm
      replace hnd := Lib.hid hnd
      replace hMN := Lib.hid hMN
      replace hMO := Lib.hid hMO
      have hcur : Hid (Below wA.heap.size wA wA) := Lib.hid (Below.refl _ _)
      go_wp2_with (first
        | (go_at_call 26; (with_reducible refine (hK26.out _ _ _ (h1.out.below (seq_below hBz.out hcur.out)) (h2.out.below (seq_below hBz.out hcur.out))).mono ?_); rintro e wC ⟨p8, q8, L8, i8, f8, rfl, hE8, hr8, hbC⟩; (obtain ⟨rfl, rfl, rfl⟩ := hE8.one hE4.out); replace hcur := Lib.hid (seq_below hcur.out hbC); replace hr8 := Lib.hid hr8; (obtain ⟨_, _, rfl⟩ := hE3.out.one hE4.out); clear hbC hE8)
        | (go_at_call 21; (with_reducible refine (num21m _ _).mono ?_); rintro e wC ⟨rfl, rfl⟩)
        | (go_at_call 22; (with_reducible refine (hK22.out _ _ _ _ (hrn.out.below hcur.out) hr8.out).mono ?_); rintro e wC ⟨rfl, hbC⟩; replace hcur := Lib.hid (seq_below hcur.out hbC); clear hbC)
        | (go_at_call 28; (with_reducible refine (hK28.out _ _ _ (h1.out.below (seq_below hBz.out hcur.out)) (h2.out.below (seq_below hBz.out hcur.out))).mono ?_); rintro e wC ⟨p7, q7, L7, rfl, hE7, hr7, hbC⟩; (obtain rfl := hE7.one hE6.out); replace hcur := Lib.hid (seq_below hcur.out hbC); replace hr7 := Lib.hid hr7; clear hbC hE7)
        | (go_at_call 22; (with_reducible refine (hK22.out _ _ _ _ (hro.out.below hcur.out) hr7.out).mono ?_); rintro e wC ⟨rfl, hbC⟩; replace hcur := Lib.hid (seq_below hcur.out hbC); clear hbC)
        | (go_at_call 18; (with_reducible refine (own18r (h1.out.below (seq_below hBz.out hcur.out)) hsC.out).mono ?_); rintro e wC ⟨o2, c2, rfl, hv2, hbC⟩; replace hcur := Lib.hid (seq_below hcur.out hbC); replace hv2 := Lib.hid hv2; clear hbC)
        | (go_at_call 18; (with_reducible refine (own18r (h2.out.below (seq_below hBz.out hcur.out)) hsD.out).mono ?_); rintro e wC ⟨o2, c2, rfl, hv2, hbC⟩; replace hcur := Lib.hid (seq_below hcur.out hbC); replace hv2 := Lib.hid hv2; clear hbC)
        | (go_at_call 22; (with_reducible refine (hK22.out _ _ _ C (haA.out.below hcur.out) hv2.out).mono ?_); rintro e wC ⟨rfl, hbC⟩; replace hcur := Lib.hid (seq_below hcur.out hbC); clear hbC)
        | (go_at_call 22; (with_reducible refine (hK22.out _ _ _ D (hbA.out.below hcur.out) hv2.out).mono ?_); rintro e wC ⟨rfl, hbC⟩; replace hcur := Lib.hid (seq_below hcur.out hbC); clear hbC)
        | fail)
      go_ret
      exact ⟨rfl, seq_below hBz.out hcur.out⟩
end Go.Proofs.Ytjepgpocmnijiaa
end
