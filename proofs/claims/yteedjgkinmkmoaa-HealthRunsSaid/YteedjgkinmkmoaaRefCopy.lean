/- The document's Copy, walked. -/
import Derived.Test.YteedjgkinmkmoaaIs
import Derived.Deep.RegionHeld3
namespace Go.Tp
open Go.RowKit
/-- An append of whatever slice, at a step of a region that draws. -/
theorem step_append_any {P : Program} {w : World} {ops : Array Oper} {o : Oper} {a : Act} {K : Act → World → Prop} {Q : Exit → Act → World → Prop} {E : Prop} (hgd : o.guard = none) (s x : Operand) (t : TypeId)
    (ho : o.op = .call { callee := .builtin .append, args := #[s, x], argTypes := #[t, t] })
    (base : Nat) (e : TypeId) (i : TypeInfo) (z : Value) (size bytes : Nat) (ht : P.underlying t = some (.slice e)) (hi : P.info? e = some i) (hz : i.zero = some z)
    (hsize : i.size = size) (hby : i.bytes = bytes) (hzs : z.cells.size = size) (hsz : 0 < size)
    (v : Value) (n : Nat) (xs : List Value) (hs : a.eval s = v) (hown : w.ownsRow base e size v n xs)
    (ao : Option Addr) (m c : Nat) (news : List Value) (hx : a.eval x = .slice ao m c) (hl : news.length = m * size) (hsrc : ∀ j u, news[j]? = some u → ∃ ad, ao = some ad ∧ w.cell? (ad.add j) = some u) (h1 : ∀ u ∈ news, u.oneCell' = true)
    (h63 : n + m ≤ maxLen) (hbytes : (n + m) * bytes ≤ 140737488355328) (hbase : base ≤ w.heap.size)
    (h : ∀ v' w', w'.ownsRow base e size v' (n + m) (xs ++ news) → w.grownBy w' v.ownBlock → (v' = .slice none 0 0 ↔ v = .slice none 0 0 ∧ m = 0) → K (a.put o.dst v') w') :
    if Region.wanted o (yielded ops a.tmps) = true then Oper.wp P o a w K Q else E := by
  have hw : Region.wanted o (yielded ops a.tmps) = true := by simp [Region.wanted, hgd]
  rw [if_pos hw]
  exact wp_append_any s x t ho base e i z size bytes ht hi hz hsize hby hzs hsz v n xs hs hown ao m c news hx hl hsrc h1 h63 hbytes hbase h
end Go.Tp
namespace Go.Proofs.Yteedjgkinmkmoaa
open Go.RowKit
set_option linter.unusedVariables false
theorem refcopy_nil (w : World) : Calls Try.prog 24 #[.pointer none] w fun e w' => e = .returned (.pointer none) ∧ w = w' := by
  go_enter Try.func24, Try.ntmps24
  go_wp2
  go_ret
  exact ⟨rfl, rfl⟩
def CopyPost (rise fall : Int) (ps : List (Bool × Nat)) (w : World) (e : Ending) (w' : World) : Prop :=
  ∃ b pv', e = .returned (.pointer (some ⟨b, 0, none⟩)) ∧ w.heap.size ≤ b ∧ RSt w' w.heap.size b rise fall ps pv' ∧ Below w.heap.size w w'
set_option maxHeartbeats 1000000 in
theorem refcopy_any (bd : Nat) (rise fall : Int) (ps : List (Bool × Nat)) (pv : Value) (w : World)
    (hbl : w.heap[bd]? = some (rblk rise fall pv)) (hrd : RdP w pv ps) (hlen : ps.length ≤ 1000000) :
    Calls Try.prog 24 #[.pointer (some ⟨bd, 0, none⟩)] w (CopyPost rise fall ps w) := by
  obtain ⟨i0, hi, hz0, hz1, hz2⟩ := info_parts Try.info32
  have hbd : bd < w.heap.size := (Array.getElem?_eq_some_iff.1 hbl).1
  obtain ⟨ao, cap, rfl, hvr⟩ := hrd
  have hS : ∀ w', Below w.heap.size w w' → w'.cell? ⟨bd, 0, none⟩ = some (.int .i64 rise) ∧ w'.cell? ⟨bd, 1, none⟩ = some (.int .i64 fall) ∧ w'.cell? ⟨bd, 2, none⟩ = some (.slice ao ps.length cap) := fun w' hb => by
    have h := (hb.block _ hbd).trans hbl
    exact ⟨(cell_of_row _ _ 0 _ _ _ h).trans rfl, (cell_of_row _ _ 1 _ _ _ h).trans rfl, (cell_of_row _ _ 2 _ _ _ h).trans rfl⟩
  have hsrc : ∀ w', Below w.heap.size w w' → ∀ j u, (pcells ps)[j]? = some u → ∃ ad, ao = some ad ∧ w'.cell? (ad.add j) = some u := fun w' hb j u hj => by
    rcases hvr with h | ⟨b, off, rfl, hbw, hpr⟩
    · subst h; simp [pcells] at hj
    · refine ⟨_, rfl, ?_⟩
      have hpr' := hpr.below hbw hb
      have hjl : j < ps.length * 2 := by have := (List.getElem?_eq_some_iff.1 hj).1; rwa [pcells_length] at this
      have hadd : (⟨b, off, none⟩ : Addr).add j = ⟨b, off + j, none⟩ := by unfold Addr.add; split <;> simp_all
      rw [hadd]
      rcases Nat.mod_two_eq_zero_or_one j with hm | hm
      · obtain ⟨q, rfl⟩ : ∃ q, j = q * 2 := ⟨j / 2, by omega⟩
        rw [pc0 ps q (by omega)] at hj
        cases hj
        exact hpr'.ok _ (by omega)
      · obtain ⟨q, rfl⟩ : ∃ q, j = q * 2 + 1 := ⟨j / 2, by omega⟩
        rw [pc1 ps q (by omega)] at hj
        cases hj
        exact hpr'.took _ (by omega)
  have hown0 : (w.alloc (.cells #[] 32)).drew.ownsRow w.heap.size 32 2 (.slice (some ⟨w.heap.size, 0, none⟩) 0 0) 0 [] :=
    ⟨rfl, .inr ⟨w.heap.size, 0, #[], rfl, Nat.le_refl _, heap_alloc_new w _, Nat.le_refl _, by decide, rfl, rfl⟩⟩
  have hcells : ∀ u ∈ pcells ps, u.oneCell' = true := by
    intro u hu
    simp only [pcells, List.mem_flatMap] at hu
    obtain ⟨p, _, hp⟩ := hu
    simp at hp
    rcases hp with rfl | rfl <;> rfl
  have hb2 : Below w.heap.size w (w.alloc (.cells #[] 32)).drew := Tp.Below_seq (Tp.Below_alloc w (.cells #[] 32)) (below_drewN (Below.refl _ _) 1)
  replace hown0 := Lib.hid hown0
  replace hcells := Lib.hid hcells
  replace hb2 := Lib.hid hb2
  replace hS := Lib.hid hS
  replace hsrc := Lib.hid hsrc
  replace hbl := Lib.hid hbl
  have hbd1 : Below w.heap.size w w.drew := below_drewN (Below.refl _ _) 1
  replace hbd1 := Lib.hid hbd1
  clear hvr
  go_enter Try.func24, Try.ntmps24
  go_upto_region 3 with fail
  go_region_held3 (fun w' => Below w.heap.size w w' ∧ w'.cell? ⟨bd, 0, none⟩ = some (.int .i64 rise) ∧ w'.cell? ⟨bd, 1, none⟩ = some (.int .i64 fall) ∧ w'.cell? ⟨bd, 2, none⟩ = some (.slice ao ps.length cap))
    (first | exact ⟨hbd1.out, hS.out _ hbd1.out⟩ | exact ⟨hb2.out, hS.out _ hb2.out⟩ | exact ⟨hb3.out, hS.out _ hb3.out⟩ | exact ⟨Tp.Below_seq hb3.out (Tp.Below_alloc _ _), hS.out _ (Tp.Below_seq hb3.out (Tp.Below_alloc _ _))⟩ | fail)
    (first | (refine Tp.step_append_any rfl _ _ 22 (by rfl) w.heap.size 32 i0 (.agg #[.bool false, .float .f64 0]) 2 16 Try.underlying22 hi hz0 hz1 hz2 rfl (by decide) _ 0 [] (by rfl) hown0.out ao ps.length cap (pcells ps) (by rfl) (pcells_length ps) (hsrc.out _ hb2.out) hcells.out (by unfold maxLen; omega) (by omega) hb2.out.size ?_; intro v' w1 hown' hg hnil; obtain ⟨g, capg, rfl, hgb, hbg⟩ := Tp.own_shape hown' (fun h => by have := (hnil.1 h).1; cases this); clear hnil; have hb3 := Lib.hid (hb2.out.grown hg hb2.out.size (fun k hk => by cases hk; exact Nat.le_refl _)); replace hown' := Lib.hid hown') | fail)
  go_wp2
  go_ret
  have ho : w1.ownsRow w.heap.size 32 2 (.slice (some ⟨g, 0, none⟩) ps.length capg) ps.length (pcells ps) := by simpa using hown'.out
  exact ⟨w1.heap.size, .slice (some ⟨g, 0, none⟩) ps.length capg, rfl, hb3.out.size, ⟨heap_alloc_new w1 _, ho.alloc _⟩, Tp.Below_seq hb3.out (Tp.Below_alloc _ _)⟩
end Go.Proofs.Yteedjgkinmkmoaa
