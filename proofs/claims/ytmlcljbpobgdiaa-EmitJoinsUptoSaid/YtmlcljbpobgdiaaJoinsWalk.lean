/- The walk of the law on joins. -/
import Derived.Test.YtmlcljbpobgdiaaJoins
import Derived.Test.YtmlcljbpobgdiaaRefSame
namespace Go.Proofs.Ytmlcljbpobgdiaa.emitJoins
open Go.ChangeShapes Go.WideShapes Go.ChangeAt Go.RowKit
open Go.Em
set_option linter.unusedVariables false
theorem str_own {w : World} {base : Nat} {v : Value} {docs : List ByteArray} (h : w.ownsRow base 9 1 v docs.length (docs.map Value.string)) (hl : docs.length ≤ 1048576) (hm : ∀ d ∈ docs, d.size ≤ maxLen) : Rd.SliceOf Rd.str w v docs := by
  refine ⟨by omega, ?_⟩
  rcases h.2 with ⟨rfl, h0⟩ | ⟨g, cap, cur, rfl, hb, hg, hnc, _⟩
  · exact ⟨none, 0, by rw [h0], .inl (List.eq_nil_of_length_eq_zero h0)⟩
  · refine ⟨_, cap, rfl, .inr ⟨g, 0, rfl, (Array.getElem?_eq_some_iff.1 hg).1, fun i d hd => ?_⟩⟩
    have := h.cells (g := g) rfl i (.string d) (by rw [List.getElem?_map, hd]; rfl)
    rw [show ((⟨g, 0, none⟩ : Addr).add i) = ⟨g, 0 + i, none⟩ from by unfold Addr.add; split <;> simp_all] at this
    exact ⟨by simpa [Rd.cellsAt, Rd.str] using this, hm d (List.mem_of_getElem? hd)⟩
set_option maxHeartbeats 4000000 in
theorem joins (docs : List ByteArray) (a b : List ENode) (vd va vb : Value) (w : World) (hd : Rd.SliceOf Rd.str w vd docs) (ha : Rd.SliceOf nodeE w va a) (hb : Rd.SliceOf nodeE w vb b) (hs : (docs.map ByteArray.size).sum + docs.length ≤ 1048576) :
    Calls Try.prog 3 #[vd, va, vb] w fun e w' => e = .returned (.bool true) ∧ Below w.heap.size w w' := by
  obtain ⟨ao, cap, hv⟩ : ∃ ao cap, vd = .slice ao docs.length cap := by obtain ⟨_, ao, cap, rfl, _⟩ := hd; exact ⟨_, _, rfl⟩
  subst hv
  obtain ⟨i0, hi0, hz0, hz1, hz2⟩ := info_parts info9
  have hl : docs.length ≤ 1048576 := by omega
  have hown0 : (w.alloc (.cells #[] 9)).ownsRow w.heap.size 9 1 (.slice (some ⟨w.heap.size, 0, none⟩) 0 0) 0 [] :=
    ⟨rfl, .inr ⟨w.heap.size, 0, #[], rfl, Nat.le_refl _, heap_alloc_new w _, Nat.le_refl _, by decide, rfl, rfl⟩⟩
  have hb0 := Tp.Below_alloc w (.cells #[] 9)
  have hm : ∀ d ∈ docs, d.size ≤ maxLen := fun d hdm => by
    obtain ⟨i, hi, rfl⟩ := List.getElem_of_mem hdm
    have := size_mem (List.getElem?_eq_getElem hi)
    unfold maxLen
    omega
  have hsrc : ∀ j u, (docs.map Value.string)[j]? = some u → ∃ ad, ao = some ad ∧ (w.alloc (.cells #[] 9)).cell? (ad.add j) = some u := fun j u hj => by
    rw [List.getElem?_map] at hj
    obtain ⟨d, hdj, rfl⟩ := Option.map_eq_some_iff.1 hj
    obtain ⟨bk, off, rfl, hbk, hc⟩ := str_at hd hdj
    refine ⟨_, rfl, ?_⟩
    rw [show ((⟨bk, off, none⟩ : Addr).add j) = ⟨bk, off + j, none⟩ from by unfold Addr.add; split <;> simp_all]
    exact (hb0.cell (by exact hbk)).trans hc
  replace hd := Lib.hid hd
  replace ha := Lib.hid ha
  replace hb := Lib.hid hb
  replace hs := Lib.hid hs
  replace hm := Lib.hid hm
  replace hb0 := Lib.hid hb0
  go_enter Try.func3, Try.ntmps3
  go_wp2_with (at_builtin; (refine Tp.wpList_append_any rfl _ _ 22 rfl w.heap.size 9 i0 (.string ⟨#[]⟩) 1 16 Try.underlying22 hi0 hz0 hz1 hz2 rfl (by decide) _ 0 [] (by rfl) hown0 ao docs.length cap (docs.map Value.string) (by rfl) (by simp) hsrc (by intro u hu; obtain ⟨d, _, rfl⟩ := List.mem_map.1 hu; rfl) (by unfold maxLen; omega) (by omega) (by simp) ?_))
  intro v' w1 hown' hg hnil hbb
  have hb1 := Lib.hid (hbb w.heap.size w hb0.out (Nat.le_refl _))
  obtain ⟨g, capg, rfl, _, _⟩ := Tp.own_shape hown' hnil
  have hl7 := Lib.hid (str_own hown' hl hm.out)
  have hj6 := Lib.hid (join6 docs _ w1 hl7.out hs.out)
  clear hown' hg hnil hbb hown0 hsrc
  go_wp2_with fail
  refine hj6.out.mono ?_
  rintro e w2 ⟨rfl, hb2⟩
  have hb3 := Lib.hid (Tp.Below_seq hb1.out hb2)
  have hl8 := Lib.hid (hl7.out.below hb2)
  clear hb2 hj6 hb1 hl7
  obtain ⟨J, hJ⟩ : ∃ J, J = B (joined docs) := ⟨_, rfl⟩
  rw [← hJ]
  replace hJ := Lib.hid hJ
  go_wp2_with fail
  go_loopg [9] docs.length (fun g ic wr => ∃ i : Nat, i ≤ docs.length ∧ g = docs.length - i ∧ ic = .int .i64 i ∧ Below w2.heap.size w2 wr)
  case atStart => exact ⟨0, by omega, rfl, rfl, Below.refl _ _⟩
  case round =>
    obtain ⟨i, hi, rfl, rfl, hbr⟩ := hrel
    by_cases hlt : i < docs.length
    · have hi1 : (i : Int) < (docs.length : Int) := by omega
      have hdi := List.getElem?_eq_getElem hlt
      have hd' := (hd.out.below (Tp.Below_seq hb3.out hbr))
      obtain ⟨bk, off, hao, hbk, hc1⟩ := str_at hd' hdi
      cases hao
      obtain ⟨bk2, off2, hao, hbk2, hc2⟩ := str_at (hl8.out.below hbr) hdi
      cases hao
      rw [Nat.zero_add] at hc2
      generalize docs[i] = d at *
      have e1 : (d.toList == d.toList) = true := by simp
      have e2 : (d.toList != d.toList) = false := by simp
      replace hbr := Lib.hid hbr
      replace hdi := Lib.hid hdi
      replace hd' := Lib.hid hd'
      go_upto_region 6 with fail
      go_quiet (fail)
      go_wp2
      go_roundg (docs.length - (i + 1))
      case measure => omega
      case rel => exact ⟨i + 1, by omega, rfl, by go_num, below_drewN hbr.out _⟩
    · obtain rfl : i = docs.length := by omega
      have hbw := Tp.Below_seq hb3.out hbr
      have k7 := Lib.hid (refjoin7 docs _ wr (hd.out.below hbw) hs.out)
      have k8 := Lib.hid (same8 a b va vb wr (ha.out.below hbw) (hb.out.below hbw))
      have k9 := Lib.hid (fun w' (h : Below wr.heap.size wr w') => refsame9 a b va vb w' (ha.out.below (Tp.Below_seq hbw h)) (hb.out.below (Tp.Below_seq hbw h)))
      have k10 := Lib.hid (fun w' (h : Below wr.heap.size wr w') => same8 a a va va w' (ha.out.below (Tp.Below_seq hbw h)) (ha.out.below (Tp.Below_seq hbw h)))
      have hi1 : ¬ ((docs.length : Int) < (docs.length : Int)) := by omega
      have hrefl := Lib.hid (nodesEq_refl a)
      have hfin := Lib.hid hbw
      generalize nodesEq a b = r at *
      have e1 : (J.toList == J.toList) = true := by simp
      have e2 : (r == r) = true := by simp
      clear hbr hbw
      go_wp2_with fail
      refine k7.out.mono ?_
      rintro e w4 ⟨rfl, rfl⟩
      rw [← hJ.out]
      go_wp2_with fail
      refine k8.out.mono ?_
      rintro e w5 ⟨rfl, hb5⟩
      go_wp2_with fail
      refine (k9.out _ hb5).mono ?_
      rintro e w6 ⟨rfl, hb6⟩
      have hb7 := Tp.Below_seq hb5 hb6
      replace hb5 := Lib.hid hb5
      replace hb6 := Lib.hid hb6
      go_wp2_with fail
      refine (k10.out _ hb7).mono ?_
      rintro e w8 ⟨rfl, hb8⟩
      rw [hrefl.out]
      go_wp2_with fail
      go_ret
      exact ⟨rfl, Tp.Below_seq hfin.out (Tp.Below_seq hb7 hb8)⟩
end Go.Proofs.Ytmlcljbpobgdiaa.emitJoins
