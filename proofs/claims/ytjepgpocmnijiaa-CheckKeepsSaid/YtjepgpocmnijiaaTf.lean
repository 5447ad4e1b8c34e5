/- The walk of the laws' awake. -/
import Derived.Test.YtjepgpocmnijiaaTe
import Derived.Test.YtjepgpocmnijiaaRq
namespace Go.Ck
def s1 : Res := ⟨1, ⟨#[97]⟩, [⟨#[101]⟩], [], ⟨#[]⟩, [], ⟨#[]⟩, false⟩
def s2 : Res := ⟨2, ⟨#[115]⟩, [], [⟨⟨#[97]⟩, ⟨#[]⟩, 4636737291354636288⟩], ⟨#[]⟩, [], ⟨#[]⟩, false⟩
theorem mge1 {L : List Res} {i f : Int} (h : MgE [] [s1] L i f) : L = [s1] ∧ i = 0 ∧ f = 0 := by
  have h0 : MgS [] [s1] 0 [] := MgS.zero List.Pairwise.nil
  have h1 : MgS [] [s1] 1 (setD [] s1) := h0.succ (d := s1) rfl (by decide +kernel) rfl (fun q => by cases q)
  have h2 : setD [] s1 = [s1] := rfl
  rw [h2] at h1
  exact h.one (MgE.fine (by decide +kernel) h1 (by decide))
theorem fault2 : faultP [s2] = (0, 1, 140) := by decide +kernel
end Go.Ck
namespace Go.Proofs.Ytjepgpocmnijiaa
open Go.RowKit Go.Mp Go.Ck
set_option linter.unusedVariables false
set_option maxRecDepth 100000
set_option maxHeartbeats 8000000
theorem nil_of {α : Type} (E : Rd.Elem α) (w : World) : Rd.SliceOf E w (.slice none 0 0) [] := ⟨by simp, none, 0, rfl, Nat.le_refl _, .inl rfl⟩
theorem one_of {α : Type} {E : Rd.Elem α} {w : World} {g : Nat} {x : α} (hg : g < w.heap.size) (h : E.R w (Rd.cellsAt w g 0) x) : Rd.SliceOf E w (.slice (some ⟨g, 0, none⟩) 1 1) [x] :=
  ⟨by simp, _, _, rfl, Nat.le_refl _, .inr ⟨g, 0, rfl, hg, fun i y hy => by
    match i, hy with
    | 0, hy => simp only [List.getElem?_cons_zero, Option.some.injEq] at hy; subst hy; simpa using h
    | i + 1, hy => simp at hy⟩⟩
theorem awake31 (w : World) : Calls Try.prog 31 #[] w fun e w' => e = .returned (.bool true) ∧ Below w.heap.size w w' := by
  obtain ⟨wa, hwa⟩ : ∃ wa, wa = (w.alloc (.cells #[.string ⟨#[101]⟩] 9)).alloc (.cells #[.int .i64 1, .string ⟨#[97]⟩, .slice (some ⟨w.heap.size, 0, none⟩) 1 1, .slice none 0 0, .string ⟨#[]⟩, .slice none 0 0, .string ⟨#[]⟩, .bool false] 52) := ⟨_, rfl⟩
  obtain ⟨g, hg⟩ : ∃ g, g = w.heap.size := ⟨_, rfl⟩
  rw [← hg] at hwa
  have hba : Below w.heap.size w wa := by rw [hwa]; exact seq_below (alloc_below _ _) (alloc_below _ _)
  have hxg : wa.heap[g]? = some (.cells #[.string ⟨#[101]⟩] 9 (0, 0)) := by rw [hwa, Below.heap_alloc _ _ g (by simp; omega), hg]; exact heap_alloc_new w _
  have hxq : wa.heap[g + 1]? = some (.cells #[.int .i64 1, .string ⟨#[97]⟩, .slice (some ⟨g, 0, none⟩) 1 1, .slice none 0 0, .string ⟨#[]⟩, .slice none 0 0, .string ⟨#[]⟩, .bool false] 52 (0, 0)) := by
    have : g + 1 = (w.alloc (.cells #[.string ⟨#[101]⟩] 9)).heap.size := by simp; omega
    rw [hwa, this]; exact heap_alloc_new _ _
  have a0 : wa.cell? ⟨g + 1, 0, none⟩ = some (.int .i64 1) := box_at hxq rfl
  have a1 : wa.cell? ⟨g + 1, 1, none⟩ = some (.string ⟨#[97]⟩) := box_at hxq rfl
  have a2 : wa.cell? ⟨g + 1, 2, none⟩ = some (.slice (some ⟨g, 0, none⟩) 1 1) := box_at hxq rfl
  have a3 : wa.cell? ⟨g + 1, 3, none⟩ = some (.slice none 0 0) := box_at hxq rfl
  have a4 : wa.cell? ⟨g + 1, 4, none⟩ = some (.string ⟨#[]⟩) := box_at hxq rfl
  have a5 : wa.cell? ⟨g + 1, 5, none⟩ = some (.slice none 0 0) := box_at hxq rfl
  have a6 : wa.cell? ⟨g + 1, 6, none⟩ = some (.string ⟨#[]⟩) := box_at hxq rfl
  have a7 : wa.cell? ⟨g + 1, 7, none⟩ = some (.bool false) := box_at hxq rfl
  obtain ⟨wb, hwb⟩ : ∃ wb, wb = wa.alloc (.cells #[.int .i64 1, .string ⟨#[97]⟩, .slice (some ⟨g, 0, none⟩) 1 1, .slice none 0 0, .string ⟨#[]⟩, .slice none 0 0, .string ⟨#[]⟩, .bool false] 52) := ⟨_, rfl⟩
  obtain ⟨p, hp⟩ : ∃ p, p = wa.heap.size := ⟨_, rfl⟩
  have hxp : wb.heap[p]? = some (.cells #[.int .i64 1, .string ⟨#[97]⟩, .slice (some ⟨g, 0, none⟩) 1 1, .slice none 0 0, .string ⟨#[]⟩, .slice none 0 0, .string ⟨#[]⟩, .bool false] 52 (0, 0)) := by rw [hwb, hp]; exact heap_alloc_new wa _
  have hbb : Below wa.heap.size wa wb := by rw [hwb]; exact alloc_below _ _
  have hxg2 := (hbb.block g (Array.getElem?_eq_some_iff.1 hxg).1).trans hxg
  have hR : ResS wb (.slice (some ⟨p, 0, none⟩) 1 1) [s1] := one_of (Array.getElem?_eq_some_iff.1 hxp).1 (resE_of (ev := .slice (some ⟨g, 0, none⟩) 1 1) (tv := .slice none 0 0) (rv := .slice none 0 0)
    (rc_box fun j u hu => box_at hxp hu)
    ⟨by decide, by decide, one_of (Array.getElem?_eq_some_iff.1 hxg2).1 ⟨box_at hxg2 rfl, by decide⟩, nil_of _ _, by decide, nil_of _ _, by decide⟩)
  have c25 : Calls Try.prog 25 #[.slice none 0 0, .slice (some ⟨p, 0, none⟩) 1 1] wb fun e w2 => ∃ b off c, e = .returned (.tuple #[.slice (some ⟨b, off, none⟩) 1 c, .int .i64 0, .int .i64 0]) ∧ b < w2.heap.size ∧ w2.cell? ⟨b, off + 1, none⟩ = some (.string ⟨#[97]⟩) ∧ Below wb.heap.size wb w2 := by
    refine (merge25 [] [s1] _ _ wb (nil_res wb) hR (sz_of (by decide +kernel)) (sz_of (by decide +kernel))).mono ?_
    rintro e w2 ⟨v2, L, i, f, rfl, hE, hO, hb⟩
    obtain ⟨hL, rfl, rfl⟩ := mge1 hE
    have hl : L.length = 1 := by have := congrArg List.length hL; simpa using this
    have hr := own_reads2 hO (by omega)
    rw [hL] at hr
    obtain ⟨ao, c, rfl⟩ := slice_shape hr
    obtain ⟨b, off, _, _, _, _, _, _, rfl, hbl, hc, _⟩ := res_at2 hr (i := 0) (x := s1) rfl
    have h1 := hc.c1
    rw [Nat.zero_mul, Nat.add_zero] at h1
    exact ⟨b, off, c, rfl, hbl, h1, hb⟩
  have hbw : Below w.heap.size w wb := seq_below hba hbb
  replace hwa := Lib.hid hwa
  replace hg := Lib.hid hg
  replace hba := Lib.hid hba
  replace hxg := Lib.hid hxg
  replace hwb := Lib.hid hwb
  replace hp := Lib.hid hp
  replace hxp := Lib.hid hxp
  replace hbb := Lib.hid hbb
  replace hxg2 := Lib.hid hxg2
  replace hR := Lib.hid hR
  replace c25 := Lib.hid c25
  replace hbw := Lib.hid hbw
  replace hxq := Lib.hid hxq
  go_enter Try.func31, Try.ntmps31
  go_upto_region 2 with fail
  rw [← hg.out, ← hwa.out]
  go_upto_region 3 with (first
    | (rw [← hp.out, ← hwb.out]; go_at_call 25; (with_reducible refine c25.out.mono ?_); rintro e w3 ⟨b, off, c, rfl, hbl, hb1, hb3⟩; replace hb3 := Lib.hid hb3)
    | fail)
  clear a0 a1 a2 a3 a4 a5 a6 a7
  obtain ⟨wc, hwc⟩ : ∃ wc, wc = w3.alloc (.cells #[.string ⟨#[97]⟩, .string ⟨#[]⟩, .float .f64 4636737291354636288] 57) := ⟨_, rfl⟩
  obtain ⟨h, hh⟩ : ∃ h, h = w3.heap.size := ⟨_, rfl⟩
  have hxh : wc.heap[h]? = some (.cells #[.string ⟨#[97]⟩, .string ⟨#[]⟩, .float .f64 4636737291354636288] 57 (0, 0)) := by rw [hwc, hh]; exact heap_alloc_new w3 _
  obtain ⟨wd, hwd⟩ : ∃ wd, wd = wc.alloc (.cells #[.int .i64 2, .string ⟨#[115]⟩, .slice none 0 0, .slice (some ⟨h, 0, none⟩) 1 1, .string ⟨#[]⟩, .slice none 0 0, .string ⟨#[]⟩, .bool false] 52) := ⟨_, rfl⟩
  obtain ⟨k, hk⟩ : ∃ k, k = w3.heap.size + 1 := ⟨_, rfl⟩
  have hxk : wd.heap[k]? = some (.cells #[.int .i64 2, .string ⟨#[115]⟩, .slice none 0 0, .slice (some ⟨h, 0, none⟩) 1 1, .string ⟨#[]⟩, .slice none 0 0, .string ⟨#[]⟩, .bool false] 52 (0, 0)) := by
    have : k = wc.heap.size := by rw [hwc, hk]; simp
    rw [hwd, this]; exact heap_alloc_new wc _
  have hbc : Below w3.heap.size w3 wc := by rw [hwc]; exact alloc_below _ _
  have hbd : Below wc.heap.size wc wd := by rw [hwd]; exact alloc_below _ _
  have hxh2 := (hbd.block h (Array.getElem?_eq_some_iff.1 hxh).1).trans hxh
  have hR2 : ResS wd (.slice (some ⟨k, 0, none⟩) 1 1) [s2] := one_of (Array.getElem?_eq_some_iff.1 hxk).1 (resE_of (ev := .slice none 0 0) (tv := .slice (some ⟨h, 0, none⟩) 1 1) (rv := .slice none 0 0)
    (rc_box fun j u hu => box_at hxk hu)
    ⟨by decide, by decide, nil_of _ _, one_of (Array.getElem?_eq_some_iff.1 hxh2).1 ⟨⟨box_at hxh2 rfl, by decide⟩, ⟨box_at hxh2 rfl, by decide⟩, ⟨box_at hxh2 rfl, by decide⟩, trivial⟩, by decide, nil_of _ _, by decide⟩)
  have c19 : Calls Try.prog 19 #[.slice (some ⟨k, 0, none⟩) 1 1] wd fun e w4 => ∃ wv, e = .returned (.tuple #[wv, .agg #[.int .i64 0, .int .i64 1, .int .i64 140]]) ∧ Below wd.heap.size wd w4 := by
    refine (check19 [s2] _ wd hR2 (by decide +kernel)).mono ?_
    rintro e w4 ⟨wv, f, ws, hc, rfl, _, hb⟩
    obtain ⟨rfl, _⟩ := hc.eq
    rw [fault2]
    exact ⟨wv, rfl, hb⟩
  have hb3d := Lib.hid (seq_below hbc hbd)
  have hb1' := Lib.hid hb1
  replace hwc := Lib.hid hwc
  replace hh := Lib.hid hh
  replace hxh := Lib.hid hxh
  replace hwd := Lib.hid hwd
  replace hk := Lib.hid hk
  replace hxk := Lib.hid hxk
  replace hbc := Lib.hid hbc
  replace hbd := Lib.hid hbd
  replace hxh2 := Lib.hid hxh2
  replace hR2 := Lib.hid hR2
  replace c19 := Lib.hid c19
  replace hbl := Lib.hid hbl
  replace hb1 := Lib.hid hb1
  go_upto_region 4 with (first
    | (rw [← hk.out, ← hh.out, ← hwc.out, ← hwd.out]; go_at_call 19; (with_reducible refine c19.out.mono ?_); rintro e w4 ⟨wv, rfl, hb4⟩; replace hb4 := Lib.hid hb4)
    | fail)
  obtain ⟨we, hwe⟩ : ∃ we, we = w4.alloc (.cells #[.int .i64 0, .int .i64 1, .int .i64 140] 27) := ⟨_, rfl⟩
  obtain ⟨z, hz⟩ : ∃ z, z = w4.heap.size := ⟨_, rfl⟩
  have hxz : we.heap[z]? = some (.cells #[.int .i64 0, .int .i64 1, .int .i64 140] 27 (0, 0)) := by rw [hwe, hz]; exact heap_alloc_new w4 _
  have hbe : Below w4.heap.size w4 we := by rw [hwe]; exact alloc_below _ _
  have hb3e := seq_below hb3d.out (seq_below hb4.out hbe)
  rw [← hz, ← hwe]
  have m1 : we.cell? ⟨b, off + 1, none⟩ = some (.string ⟨#[97]⟩) := (hb3e.cell (p := ⟨b, off + 1, none⟩) hbl.out).trans hb1'.out
  have f1 : we.cell? ⟨z, 1, none⟩ = some (.int .i64 1) := box_at hxz rfl
  have f2 : we.cell? ⟨z, 2, none⟩ = some (.int .i64 140) := box_at hxz rfl
  have hfin := Lib.hid (seq_below hbw.out (seq_below hb3.out hb3e))
  replace hwe := Lib.hid hwe
  replace hz := Lib.hid hz
  replace hxz := Lib.hid hxz
  replace hbe := Lib.hid hbe
  replace hb3e := Lib.hid hb3e
  go_wp2
  go_ret
  exact ⟨rfl, hfin.out⟩
end Go.Proofs.Ytjepgpocmnijiaa
