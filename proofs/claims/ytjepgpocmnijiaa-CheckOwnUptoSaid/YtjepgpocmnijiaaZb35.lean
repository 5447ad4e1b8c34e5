/- What a merged configuration has, in plain words. -/
import Derived.Test.YtjepgpocmnijiaaZb31
import Derived.Test.YtjepgpocmnijiaaZb34
import Derived.Test.YtjepgpocmnijiaaZb21
section
/- The walk of the laws' awake. -/
namespace Go.Ck
def s1 : Res := ⟨1, ⟨#[97]⟩, [⟨#[101]⟩], [], ⟨#[]⟩, [], ⟨#[]⟩, false⟩
def s2 : Res := ⟨2, ⟨#[115]⟩, [], [⟨⟨#[97]⟩, ⟨#[]⟩, 4636737291354636288⟩], ⟨#[]⟩, [], ⟨#[]⟩, false⟩
theorem mge1 {L : List Res} {i f : Int} (h : MgE [] [s1] L i f) : L = [s1] ∧ i = 0 ∧ f = 0 := by
  have h0 : MgS [] [s1] 0 [] := MgS.zero List.Pairwise.nil
  have h1 : MgS [] [s1] 1 (setD [] s1) := h0.succ (d := s1) rfl (by decide +kernel) rfl (fun q => by cases q)
  have h2 : setD [] s1 = [s1] := rfl
  rw [h2] at h1
  exact h.one (MgE.fine (by decide +kernel) h1 (by decide))
theorem fault2 : faultP [s2] = (0, 1, 140) := by decide +kernel
end Go.Ck
namespace Go.Proofs.Ytjepgpocmnijiaa
open Go.RowKit Go.Mp Go.Ck
set_option linter.unusedVariables false
set_option maxRecDepth 100000
set_option maxHeartbeats 8000000
theorem nil_of {α : Type} (E : Rd.Elem α) (w : World) : Rd.SliceOf E w (.slice none 0 0) [] := ⟨by simp, none, 0, rfl, Nat.le_refl _, .inl rfl⟩
theorem one_of {α : Type} {E : Rd.Elem α} {w : World} {g : Nat} {x : α} (hg : g < w.heap.size) (h : E.R w (Rd.cellsAt w g 0) x) : Rd.SliceOf E w (.slice (some ⟨g, 0, none⟩) 1 1) [x] :=
  ⟨by simp, _, _, rfl, Nat.le_refl _, .inr ⟨g, 0, rfl, hg, fun i y hy => by
    match i, hy with
    | 0, hy => simp only [List.getElem?_cons_zero, Option.some.injEq] at hy; subst hy; simpa using h
    | i + 1, hy => simp at hy⟩⟩
theorem awake31 (w : World) : Calls Try.prog 31 #[] w fun e w' => e = .returned (.bool true) ∧ Below w.heap.size w w' := by
  obtain ⟨wa, hwa⟩ : ∃ wa, wa = (w.alloc (.cells #[.string ⟨#[101]⟩] 9)).alloc (.cells #[.int .i64 1, .string ⟨#[97]⟩, .slice (some ⟨w.heap.size, 0, none⟩) 1 1, .slice none 0 0, .string ⟨#[]⟩, .slice none 0 0, .string ⟨#[]⟩, .bool false] 52) := ⟨_, rfl⟩
  obtain ⟨g, hg⟩ : ∃ g, g = w.heap.size := ⟨_, rfl⟩
  rw [← hg] at hwa
  have hba : Below w.heap.size w wa := by rw [hwa]; exact seq_below (alloc_below _ _) (alloc_below _ _)
  have hxg : wa.heap[g]? = some (.cells #[.string ⟨#[101]⟩] 9 (0, 0)) := by rw [hwa, Below.heap_alloc _ _ g (by simp; omega), hg]; exact heap_alloc_new w _
  have hxq : wa.heap[g + 1]? = some (.cells #[.int .i64 1, .string ⟨#[97]⟩, .slice (some ⟨g, 0, none⟩) 1 1, .slice none 0 0, .string ⟨#[]⟩, .slice none 0 0, .string ⟨#[]⟩, .bool false] 52 (0, 0)) := by
    have : g + 1 = (w.alloc (.cells #[.string ⟨#[101]⟩] 9)).heap.size := by simp; omega
    rw [hwa, this]; exact heap_alloc_new _ _
  have a0 : wa.cell? ⟨g + 1, 0, none⟩ = some (.int .i64 1) := box_at hxq rfl
  have a1 : wa.cell? ⟨g + 1, 1, none⟩ = some (.string ⟨#[97]⟩) := box_at hxq rfl
  have a2 : wa.cell? ⟨g + 1, 2, none⟩ = some (.slice (some ⟨g, 0, none⟩) 1 1) := box_at hxq rfl
  have a3 : wa.cell? ⟨g + 1, 3, none⟩ = some (.slice none 0 0) := box_at hxq rfl
  have a4 : wa.cell? ⟨g + 1, 4, none⟩ = some (.string ⟨#[]⟩) := box_at hxq rfl
  have a5 : wa.cell? ⟨g + 1, 5, none⟩ = some (.slice none 0 0) := box_at hxq rfl
  have a6 : wa.cell? ⟨g + 1, 6, none⟩ = some (.string ⟨#[]⟩) := box_at hxq rfl
  have a7 : wa.cell? ⟨g + 1, 7, none⟩ = some (.bool false) := box_at hxq rfl
  obtain ⟨wb, hwb⟩ : ∃ wb, wb = wa.alloc (.cells #[.int .i64 1, .string ⟨#[97]⟩, .slice (some ⟨g, 0, none⟩) 1 1, .slice none 0 0, .string ⟨#[]⟩, .slice none 0 0, .string ⟨#[]⟩, .bool false] 52) := ⟨_, rfl⟩
  obtain ⟨p, hp⟩ : ∃ p, p = wa.heap.size := ⟨_, rfl⟩
  have hxp : wb.heap[p]? = some (.cells #[.int .i64 1, .string ⟨#[97]⟩, .slice (some ⟨g, 0, none⟩) 1 1, .slice none 0 0, .string ⟨#[]⟩, .slice none 0 0, .string ⟨#[]⟩, .bool false] 52 (0, 0)) := by rw [hwb, hp]; exact heap_alloc_new wa _
  have hbb : Below wa.heap.size wa wb := by rw [hwb]; exact alloc_below _ _
  have hxg2 := (hbb.block g (Array.getElem?_eq_some_iff.1 hxg).1).trans hxg
  have hR : ResS wb (.slice (some ⟨p, 0, none⟩) 1 1) [s1] := one_of (Array.getElem?_eq_some_iff.1 hxp).1 (resE_of (ev := .slice (some ⟨g, 0, none⟩) 1 1) (tv := .slice none 0 0) (rv := .slice none 0 0)
    (rc_box fun j u hu => box_at hxp hu)
    ⟨by decide, by decide, one_of (Array.getElem?_eq_some_iff.1 hxg2).1 ⟨box_at hxg2 rfl, by decide⟩, nil_of _ _, by decide, nil_of _ _, by decide⟩)
  have c25 : Calls Try.prog 25 #[.slice none 0 0, .slice (some ⟨p, 0, none⟩) 1 1] wb fun e w2 => ∃ b off c, e = .returned (.tuple #[.slice (some ⟨b, off, none⟩) 1 c, .int .i64 0, .int .i64 0]) ∧ b < w2.heap.size ∧ w2.cell? ⟨b, off + 1, none⟩ = some (.string ⟨#[97]⟩) ∧ Below wb.heap.size wb w2 := by
    refine (merge25 [] [s1] _ _ wb (nil_res wb) hR (sz_of (by decide +kernel)) (sz_of (by decide +kernel))).mono ?_
    rintro e w2 ⟨v2, L, i, f, rfl, hE, hO, hb⟩
    obtain ⟨hL, rfl, rfl⟩ := mge1 hE
    have hl : L.length = 1 := by have := congrArg List.length hL; simpa using this
    have hr := own_reads2 hO (by omega)
    rw [hL] at hr
    obtain ⟨ao, c, rfl⟩ := slice_shape hr
    obtain ⟨b, off, _, _, _, _, _, _, rfl, hbl, hc, _⟩ := res_at2 hr (i := 0) (x := s1) rfl
    have h1 := hc.c1
    rw [Nat.zero_mul, Nat.add_zero] at h1
    exact ⟨b, off, c, rfl, hbl, h1, hb⟩
  have hbw : Below w.heap.size w wb := seq_below hba hbb
  replace hwa := Lib.hid hwa
  replace hg := Lib.hid hg
  replace hba := Lib.hid hba
  replace hxg := Lib.hid hxg
  replace hwb := Lib.hid hwb
  replace hp := Lib.hid hp
  replace hxp := Lib.hid hxp
  replace hbb := Lib.hid hbb
  replace hxg2 := Lib.hid hxg2
  replace hR := Lib.hid hR
  replace c25 := Lib.hid c25
  replace hbw := Lib.hid hbw
  replace hxq := Lib.hid hxq
  go_enter Try.func31, Try.ntmps31
  go_upto_region 2 with fail
  rw [← hg.out, ← hwa.out]
  go_upto_region 3 with (first
    | (rw [← hp.out, ← hwb.out]; go_at_call 25; (with_reducible refine c25.out.mono ?_); rintro e w3 ⟨b, off, c, rfl, hbl, hb1, hb3⟩; replace hb3 := Lib.hid hb3)
    | fail)
  clear a0 a1 a2 a3 a4 a5 a6 a7
  obtain ⟨wc, hwc⟩ : ∃ wc, wc = w3.alloc (.cells #[.string ⟨#[97]⟩, .string ⟨#[]⟩, .float .f64 4636737291354636288] 57) := ⟨_, rfl⟩
  obtain ⟨h, hh⟩ : ∃ h, h = w3.heap.size := ⟨_, rfl⟩
  have hxh : wc.heap[h]? = some (.cells #[.string ⟨#[97]⟩, .string ⟨#[]⟩, .float .f64 4636737291354636288] 57 (0, 0)) := by rw [hwc, hh]; exact heap_alloc_new w3 _
  obtain ⟨wd, hwd⟩ : ∃ wd, wd = wc.alloc (.cells #[.int .i64 2, .string ⟨#[115]⟩, .slice none 0 0, .slice (some ⟨h, 0, none⟩) 1 1, .string ⟨#[]⟩, .slice none 0 0, .string ⟨#[]⟩, .bool false] 52) := ⟨_, rfl⟩
  obtain ⟨k, hk⟩ : ∃ k, k = w3.heap.size + 1 := ⟨_, rfl⟩
  have hxk : wd.heap[k]? = some (.cells #[.int .i64 2, .string ⟨#[115]⟩, .slice none 0 0, .slice (some ⟨h, 0, none⟩) 1 1, .string ⟨#[]⟩, .slice none 0 0, .string ⟨#[]⟩, .bool false] 52 (0, 0)) := by
    have : k = wc.heap.size := by rw [hwc, hk]; simp
    rw [hwd, this]; exact heap_alloc_new wc _
  have hbc : Below w3.heap.size w3 wc := by rw [hwc]; exact alloc_below _ _
  have hbd : Below wc.heap.size wc wd := by rw [hwd]; exact alloc_below _ _
  have hxh2 := (hbd.block h (Array.getElem?_eq_some_iff.1 hxh).1).trans hxh
  have hR2 : ResS wd (.slice (some ⟨k, 0, none⟩) 1 1) [s2] := one_of (Array.getElem?_eq_some_iff.1 hxk).1 (resE_of (ev := .slice none 0 0) (tv := .slice (some ⟨h, 0, none⟩) 1 1) (rv := .slice none 0 0)
    (rc_box fun j u hu => box_at hxk hu)
    ⟨by decide, by decide, nil_of _ _, one_of (Array.getElem?_eq_some_iff.1 hxh2).1 ⟨⟨box_at hxh2 rfl, by decide⟩, ⟨box_at hxh2 rfl, by decide⟩, ⟨box_at hxh2 rfl, by decide⟩, trivial⟩, by decide, nil_of _ _, by decide⟩)
  have c19 : Calls Try.prog 19 #[.slice (some ⟨k, 0, none⟩) 1 1] wd fun e w4 => ∃ wv, e = .returned (.tuple #[wv, .agg #[.int .i64 0, .int .i64 1, .int .i64 140]]) ∧ Below wd.heap.size wd w4 := by
    refine (check19 [s2] _ wd hR2 (by decide +kernel)).mono ?_
    rintro e w4 ⟨wv, f, ws, hc, rfl, _, hb⟩
    obtain ⟨rfl, _⟩ := hc.eq
    rw [fault2]
    exact ⟨wv, rfl, hb⟩
  have hb3d := Lib.hid (seq_below hbc hbd)
  have hb1' := Lib.hid hb1
  replace hwc := Lib.hid hwc
  replace hh := Lib.hid hh
  replace hxh := Lib.hid hxh
  replace hwd := Lib.hid hwd
  replace hk := Lib.hid hk
  replace hxk := Lib.hid hxk
  replace hbc := Lib.hid hbc
  replace hbd := Lib.hid hbd
  replace hxh2 := Lib.hid hxh2
  replace hR2 := Lib.hid hR2
  replace c19 := Lib.hid c19
  replace hbl := Lib.hid hbl
  replace hb1 := Lib.hid hb1
  go_upto_region 4 with (first
    | (rw [← hk.out, ← hh.out, ← hwc.out, ← hwd.out]; go_at_call 19; (with_reducible refine c19.out.mono ?_); rintro e w4 ⟨wv, rfl, hb4⟩; replace hb4 := Lib.hid hb4)
    | fail)
  obtain ⟨we, hwe⟩ : ∃ we, we = w4.alloc (.cells #[.int .i64 0, .int .i64 1, .int .i64 140] 27) := ⟨_, rfl⟩
  obtain ⟨z, hz⟩ : ∃ z, z = w4.heap.size := ⟨_, rfl⟩
  have hxz : we.heap[z]? = some (.cells #[.int .i64 0, .int .i64 1, .int .i64 140] 27 (0, 0)) := by rw [hwe, hz]; exact heap_alloc_new w4 _
  have hbe : Below w4.heap.size w4 we := by rw [hwe]; exact alloc_below _ _
  have hb3e := seq_below hb3d.out (seq_below hb4.out hbe)
  rw [← hz, ← hwe]
  have m1 : we.cell? ⟨b, off + 1, none⟩ = some (.string ⟨#[97]⟩) := (hb3e.cell (p := ⟨b, off + 1, none⟩) hbl.out).trans hb1'.out
  have f1 : we.cell? ⟨z, 1, none⟩ = some (.int .i64 1) := box_at hxz rfl
  have f2 : we.cell? ⟨z, 2, none⟩ = some (.int .i64 140) := box_at hxz rfl
  have hfin := Lib.hid (seq_below hbw.out (seq_below hb3.out hb3e))
  replace hwe := Lib.hid hwe
  replace hz := Lib.hid hz
  replace hxz := Lib.hid hxz
  replace hbe := Lib.hid hbe
  replace hb3e := Lib.hid hb3e
  go_wp2
  go_ret
  exact ⟨rfl, hfin.out⟩
end Go.Proofs.Ytjepgpocmnijiaa
end

section

namespace Go.Ck
set_option linter.unusedVariables false
open Go.Proofs.Ytjepgpocmnijiaa (Key)
theorem mge_err {C D L : List Res} {i f : Int} (h : MgE C D L i f) (hf : f ≠ 0) : L = [] ∧ 0 ≤ i ∧ (i < D.length ∨ i = 0) := by
  have lt : ∀ {m : Nat} {d : Res}, D[m]? = some d → (m : Int) < D.length := fun h => by have := (List.getElem?_eq_some_iff.1 h).1; omega
  cases h with
  | out _ => exact ⟨rfl, by omega, .inr rfl⟩
  | kind _ _ d _ => exact ⟨rfl, by omega, .inl (lt d)⟩
  | twice _ _ d _ _ => exact ⟨rfl, by omega, .inl (lt d)⟩
  | del _ _ d _ _ _ _ => exact ⟨rfl, by omega, .inl (lt d)⟩
  | count _ _ _ => exact ⟨rfl, by omega, .inr rfl⟩
  | fine _ _ _ => exact absurd rfl hf
theorem mge_ok {C D L : List Res} {i f : Int} (h : MgE C D L i f) (hf : f = 0) : outI C < 0 ∧ MgS C D D.length L ∧ L.length ≤ 64 ∧ i = 0 := by
  cases h with
  | out _ => cases hf
  | kind _ _ _ _ => cases hf
  | twice _ _ _ _ _ => cases hf
  | del _ _ _ _ _ _ _ => cases hf
  | count _ _ _ => cases hf
  | fine a b c => exact ⟨a, b, c, rfl⟩
theorem fold_succ {C D : List Res} {m : Nat} {d : Res} (hd : D[m]? = some d) : (D.take (m + 1)).foldl setD C = setD ((D.take m).foldl setD C) d := by
  rw [List.take_add_one, hd, List.foldl_append]; rfl
theorem mgs_doc {C D a : List Res} {n : Nat} (h : MgS C D n a) {j : Nat} {d : Res} (hj : j < n) (hd : D[j]? = some d) : fnd a (rk d) = if d.del = true then none else some d := by
  have key : ∀ m, j < m → m ≤ n → fnd ((D.take m).foldl setD C) (rk d) = if d.del = true then none else some d := by
    intro m
    induction m with
    | zero => intro h; omega
    | succ m ih =>
      intro h1 h2
      have hl := h.le
      have hx : D[m]? = some D[m] := List.getElem?_eq_getElem (by omega)
      rw [fold_succ hx, setD_fnd]
      by_cases e : m = j
      · subst e
        rw [hd] at hx
        rw [← Option.some.inj hx, if_pos rfl]
      · have hjm : j < m := by omega
        have h3 := (h.ok m _ (by omega) hx).2
        have hjt : (D.take m)[j]? = some d := by rw [List.getElem?_take_of_lt hjm]; exact hd
        rw [if_neg (fun q => fnd_none.1 h3 d (List.mem_of_getElem? hjt) q.symm)]
        exact ih hjm (by omega)
  rw [h.from0]
  exact key n hj (Nat.le_refl _)
theorem mgs_conf {C D a : List Res} {n : Nat} (h : MgS C D n a) {k : Key} (hk : ∀ (j : Nat) d, j < n → D[j]? = some d → rk d ≠ k) : fnd a k = fnd C k := by
  have key : ∀ m, m ≤ n → fnd ((D.take m).foldl setD C) k = fnd C k := by
    intro m
    induction m with
    | zero => intro _; rw [List.take_zero]; rfl
    | succ m ih =>
      intro h2
      have hl := h.le
      have hx : D[m]? = some D[m] := List.getElem?_eq_getElem (by omega)
      rw [fold_succ hx, setD_fnd, if_neg (hk m _ (by omega) hx)]
      exact ih (by omega)
  rw [h.from0]
  exact key n (Nat.le_refl _)
theorem setD_mem {a : List Res} {d r : Res} (h : r ∈ setD a d) : r ∈ a ∨ (r = d ∧ d.del = false) := by
  unfold setD at h
  split at h
  · exact .inl (List.mem_filter.1 h).1
  · rename_i hd
    rcases putL_mem h with rfl | h
    · exact .inr ⟨rfl, by simpa using hd⟩
    · exact .inl (List.mem_filter.1 h).1
theorem mgs_kind {C D a : List Res} {n : Nat} (h : MgS C D n a) (hC : Ord C) : ∀ r ∈ a, 1 ≤ r.kind ∧ r.kind ≤ 4 ∧ r.del = false := by
  have key : ∀ m, m ≤ n → ∀ r ∈ (D.take m).foldl setD C, 1 ≤ r.kind ∧ r.kind ≤ 4 ∧ r.del = false := by
    intro m
    induction m with
    | zero => intro _ r hr; rw [List.take_zero] at hr; exact hC.kind r hr
    | succ m ih =>
      intro h2 r hr
      have hl := h.le
      have hx : D[m]? = some D[m] := List.getElem?_eq_getElem (by omega)
      rw [fold_succ hx] at hr
      rcases setD_mem hr with hr | ⟨rfl, hd⟩
      · exact ih (by omega) r hr
      · have h3 := (h.ok m _ (by omega) hx).1
        unfold badKind at h3
        simp only [Bool.or_eq_false_iff, decide_eq_false_iff_not] at h3
        exact ⟨by omega, by omega, hd⟩
  rw [h.from0]
  exact key n (Nat.le_refl _)
theorem out_of {l : List Res} (hk : ∀ r ∈ l, 1 ≤ r.kind ∧ r.kind ≤ 4 ∧ r.del = false) (hs : Srt l) : outI l < 0 := by
  have : outI l = -1 := by
    unfold outI
    refine firstN_none fun j hj => ?_
    have hx : l[j]? = some l[j] := List.getElem?_eq_getElem hj
    rw [badIx_at hx]
    obtain ⟨k1, k2, k3⟩ := hk _ (List.mem_of_getElem? hx)
    unfold badAt
    rw [decide_eq_false (by omega), decide_eq_false (by omega), k3]
    cases j with
    | zero => rfl
    | succ j =>
      have hy : l[j]? = some l[j] := List.getElem?_eq_getElem (by omega)
      rw [Nat.add_sub_cancel, hy]
      have h1 := List.pairwise_iff_getElem.1 hs j (j + 1) (by omega) hj (Nat.lt_succ_self j)
      simp only [Nat.zero_lt_succ, decide_true, Bool.true_and, Bool.false_or]
      rw [less_eq, h1]; rfl
  rw [this]; omega
theorem ord_of_mgs {C D a : List Res} {n : Nat} (h : MgS C D n a) (hC : outI C < 0) : outI a < 0 := out_of (mgs_kind h (ord_of hC)) h.srt
/-- In a list in order a key's resource is the one that is found. -/
theorem srt_at {l : List Res} (h : Srt l) {i : Nat} {x : Res} (hx : l[i]? = some x) {k : Key} (hk : rk x = k) : fnd l k = some x := by
  rw [← hk]; exact h.fnd_mem (List.mem_of_getElem? hx)
def hasK (l : List Res) (n : Nat) (k : Key) : Bool := (fnd (l.take n) k).isSome
theorem hasK_zero (l : List Res) (k : Key) : hasK l 0 k = false := by unfold hasK; rw [List.take_zero]; rfl
theorem hasK_succ {l : List Res} {n : Nat} {x : Res} (hx : l[n]? = some x) (k : Key) : hasK l (n + 1) k = (hasK l n k || decide (rk x = k)) := by
  unfold hasK
  rw [fnd_take_succ hx]
  by_cases e : rk x = k
  · rw [if_pos e]; cases fnd (l.take n) k <;> simp [e]
  · rw [if_neg e]; cases fnd (l.take n) k <;> simp [e]
def hasS (l : List Res) (n : Nat) (c : Res) : Bool := (l.take n).any fun x => sameR x c
theorem hasS_zero (l : List Res) (c : Res) : hasS l 0 c = false := by unfold hasS; rw [List.take_zero]; rfl
theorem hasS_succ {l : List Res} {n : Nat} {x : Res} (hx : l[n]? = some x) (c : Res) : hasS l (n + 1) c = (hasS l n c || sameR x c) := by
  unfold hasS
  rw [List.take_add_one, hx, List.any_append]; simp
end Go.Ck
end
