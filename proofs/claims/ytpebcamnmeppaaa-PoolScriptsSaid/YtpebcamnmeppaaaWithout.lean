/- without, of the document's pool. -/
import Derived.Test.YtpebcamnmeppaaaRefM
namespace Go.Proofs.Ytpebcamnmeppaaa
open Go.RowKit Go.Mp Go.Po
set_option linter.unusedVariables false
theorem info77 : (Try.prog.info? 77).map (fun i => (i.zero, i.size, i.bytes)) = some (some (.agg #[.int .i64 0, .string ⟨#[]⟩, .int .i64 0]), 3, 32) := by kernel_rfl
theorem ccs_one (l : List C) : ∀ u ∈ ccs l, u.oneCell' = true := by
  intro u hu
  obtain ⟨c, _, hc⟩ := List.mem_flatMap.1 hu
  simp only [cc, List.mem_cons, List.not_mem_nil, or_false] at hc
  rcases hc with rfl | rfl | rfl <;> rfl
theorem ccs_get {w : World} {base n cap g : Nat} {l : List C} (h : w.ownsRow base 77 3 (.slice (some ⟨g, 0, none⟩) n cap) l.length (ccs l)) {j : Nat} {u : Value} (hu : (ccs l)[j]? = some u) : w.cell? ⟨g, j, none⟩ = some u := by
  have hj := (List.getElem?_eq_some_iff.1 hu).1
  rw [ccs_length] at hj
  rcases h.2 with ⟨h0, h1⟩ | ⟨g', cp, cur, h0, r⟩
  · omega
  · simp only [Value.slice.injEq] at h0
    obtain ⟨h1, hm, rfl⟩ := h0
    subst hm
    rw [h.cellAt j (by omega), hu]
theorem ccs_split (l : List C) (k : Nat) : ccs l = ccs (l.take k) ++ ccs (l.drop k) := by rw [← ccs_append, List.take_append_drop]
theorem row_cap {w : World} {base n cap : Nat} {ao : Option Addr} {l : List C} (h : w.ownsRow base 77 3 (.slice ao n cap) l.length (ccs l)) (hl : 0 < l.length) : ∃ g, ao = some ⟨g, 0, none⟩ ∧ n = l.length ∧ l.length ≤ cap ∧ cap ≤ maxLen ∧ g < w.heap.size := by
  rcases h.2 with ⟨h0, h1⟩ | ⟨g', cp, cur, h0, hb, hc, h2, h3, _⟩
  · omega
  · simp only [Value.slice.injEq] at h0
    obtain ⟨rfl, hm, rfl⟩ := h0
    exact ⟨g', rfl, hm, h2, h3, (Array.getElem?_eq_some_iff.1 hc).1⟩
theorem without_ref {w : World} {base : Nat} {v : Value} {l : List C} (h : w.ownsRow base 77 3 v l.length (ccs l)) (hl : l.length ≤ 4398046511104) {k : Nat} (hk : k < l.length) {r : List C} (hr : r = l.take k ++ l.drop (k + 1)) :
    Calls Try.prog 38 #[v, .int .i64 k] w fun e' w' => ∃ v', e' = .returned v' ∧ w'.ownsRow w.heap.size 77 3 v' r.length (ccs r) ∧ Below w.heap.size w w' := by
  obtain ⟨ao, cap, rfl⟩ := ownsRow_shape h
  obtain ⟨g, rfl, _, hcap, hcm, hg⟩ := row_cap h (by omega)
  obtain ⟨i0, hi, hz0, hz1, hz2⟩ := info_parts info77
  have hlt1 : (l.take k).length = k := by rw [List.length_take]; omega
  have hld : (l.drop (k + 1)).length = l.length - (k + 1) := List.length_drop
  have hn1 : ∀ (j : Nat) (u : Value), (ccs (l.take k))[j]? = some u → w.cell? ((⟨g, 0, none⟩ : Addr).add j) = some u := fun j u hu => by
    have e : (⟨g, 0, none⟩ : Addr).add j = ⟨g, j, none⟩ := by unfold Addr.add; split <;> simp_all
    rw [e]
    exact ccs_get h (by rw [ccs_split l k]; exact (List.getElem?_append_left (List.getElem?_eq_some_iff.1 hu).1).trans hu)
  have hn2 : ∀ (wx : World), Below w.heap.size w wx → ∀ (j : Nat) (u : Value), (ccs (l.drop (k + 1)))[j]? = some u → wx.cell? ((⟨g, (k + 1) * 3, none⟩ : Addr).add j) = some u := fun wx hb j u hu => by
    have e : (⟨g, (k + 1) * 3, none⟩ : Addr).add j = ⟨g, (k + 1) * 3 + j, none⟩ := by unfold Addr.add; split <;> simp_all
    rw [e, hb.cell (by exact hg)]
    refine ccs_get h ?_
    have hle : (l.take (k + 1)).length = k + 1 := by rw [List.length_take]; omega
    rw [ccs_split l (k + 1), List.getElem?_append_right (by rw [ccs_length, hle]; omega), ccs_length, hle, show (k + 1) * 3 + j - (k + 1) * 3 = j by omega]
    exact hu
  have hres : ∀ (w2 : World) (v2 : Value), w2.ownsRow w.heap.size 77 3 v2 (0 + k + (l.length - (k + 1))) ([] ++ ccs (l.take k) ++ ccs (l.drop (k + 1))) → w2.ownsRow w.heap.size 77 3 v2 r.length (ccs r) := fun w2 v2 hrow => by
    rw [hr, ccs_append, List.length_append, hlt1, hld]
    rw [Nat.zero_add, List.nil_append] at hrow
    exact hrow
  have q1 : (0 : Int) ≤ (k : Int) := by omega
  have q2 : (k : Int) ≤ (cap : Int) := by omega
  have q3 : (k : Int) + 1 ≤ (l.length : Int) := by omega
  replace hr := Lib.hid hr
  replace h := Lib.hid h
  replace hn1 := Lib.hid hn1
  replace hn2 := Lib.hid hn2
  replace hres := Lib.hid hres
  replace hi := Lib.hid hi
  replace hz0 := Lib.hid hz0
  replace hz1 := Lib.hid hz1
  replace hz2 := Lib.hid hz2
  replace hlt1 := Lib.hid hlt1
  replace hld := Lib.hid hld
  have tok1 : True := trivial
  go_enter Try.func38, Try.ntmps38
  by_cases hkc : k + 1 = cap
  · have q4 : (k : Int) + 1 = (cap : Int) := by omega
    have hk1 : k + 1 = l.length := by omega
    replace hkc := Lib.hid hkc
    replace hk1 := Lib.hid hk1
    go_upto_region 3 with (first
      | (at_builtin; have _t := tok1; (refine wpList_append_own_at _ rfl _ _ 63 rfl w.heap.size 77 i0 (.agg #[.int .i64 0, .string ⟨#[]⟩, .int .i64 0]) 3 32 Try.underlying63 hi.out hz0.out hz1.out hz2.out rfl (by decide) (.slice none 0 0) 0 [] rfl (World.ownsRow_nil _ _ _ _) ⟨g, 0, none⟩ k cap (ccs (l.take k)) rfl (by rw [ccs_length, hlt1.out]) hn1.out (ccs_one _) (by unfold maxLen; omega) (by omega) (Nat.le_refl _) ?_; clear tok1 _t; intro v1 w1 hr1 hg1 hnil1 hloc1; have hb1 := Lib.hid (show Below w.heap.size w w1 from (Below.refl _ _).grown hg1 (Nat.le_refl _) (fun j hj => by simp [Value.ownBlock] at hj)); replace hr1 := Lib.hid hr1; replace hnil1 := Lib.hid hnil1; replace hloc1 := Lib.hid hloc1))
      | fail)
    go_wp2_with (at_builtin; refine wpList_append_own_at _ rfl _ _ 63 rfl w.heap.size 77 i0 (.agg #[.int .i64 0, .string ⟨#[]⟩, .int .i64 0]) 3 32 Try.underlying63 hi.out hz0.out hz1.out hz2.out rfl (by decide) v1 (0 + k) ([] ++ ccs (l.take k)) rfl hr1.out ⟨g, 0, none⟩ 0 0 [] rfl rfl (fun j u hu => by simp at hu) (fun u hu => by cases hu) (by unfold maxLen; omega) (by omega) hb1.out.size ?_; intro v2 w2 hr2 hg2 hnil2 hloc2)
    go_ret
    refine ⟨v2, rfl, hres.out w2 v2 ?_, hb1.out.grown hg2 hb1.out.size (fun j hj => (ownsRow_ge hr1.out hj).1)⟩
    have e1 : l.length - (k + 1) = 0 := by have := hk1.out; omega
    have e2 : ccs (l.drop (k + 1)) = [] := by rw [List.drop_eq_nil_of_le (by have := hk1.out; omega)]; rfl
    rw [e1, e2]
    exact hr2
  · have q4 : (k : Int) + 1 < (cap : Int) := by omega
    replace hkc := Lib.hid hkc
    go_upto_region 3 with (first
      | (at_builtin; have _t := tok1; (refine wpList_append_own_at _ rfl _ _ 63 rfl w.heap.size 77 i0 (.agg #[.int .i64 0, .string ⟨#[]⟩, .int .i64 0]) 3 32 Try.underlying63 hi.out hz0.out hz1.out hz2.out rfl (by decide) (.slice none 0 0) 0 [] rfl (World.ownsRow_nil _ _ _ _) ⟨g, 0, none⟩ k cap (ccs (l.take k)) rfl (by rw [ccs_length, hlt1.out]) hn1.out (ccs_one _) (by unfold maxLen; omega) (by omega) (Nat.le_refl _) ?_; clear tok1 _t; intro v1 w1 hr1 hg1 hnil1 hloc1; have hb1 := Lib.hid (show Below w.heap.size w w1 from (Below.refl _ _).grown hg1 (Nat.le_refl _) (fun j hj => by simp [Value.ownBlock] at hj)); replace hr1 := Lib.hid hr1; replace hnil1 := Lib.hid hnil1; replace hloc1 := Lib.hid hloc1))
      | fail)
    go_wp2_with (at_builtin; refine wpList_append_own_at _ rfl _ _ 63 rfl w.heap.size 77 i0 (.agg #[.int .i64 0, .string ⟨#[]⟩, .int .i64 0]) 3 32 Try.underlying63 hi.out hz0.out hz1.out hz2.out rfl (by decide) v1 (0 + k) ([] ++ ccs (l.take k)) rfl hr1.out ⟨g, (k + 1) * 3, none⟩ (l.length - (k + 1)) (cap - (k + 1)) (ccs (l.drop (k + 1))) rfl (by rw [ccs_length, hld.out]) (hn2.out w1 hb1.out) (ccs_one _) (by unfold maxLen; omega) (by omega) hb1.out.size ?_; intro v2 w2 hr2 hg2 hnil2 hloc2)
    go_ret
    exact ⟨v2, rfl, hres.out w2 v2 hr2, hb1.out.grown hg2 hb1.out.size (fun j hj => (ownsRow_ge hr1.out hj).1)⟩
end Go.Proofs.Ytpebcamnmeppaaa
