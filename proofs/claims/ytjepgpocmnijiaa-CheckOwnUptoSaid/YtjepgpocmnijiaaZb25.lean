/- The walk of the document's Merge. -/
import Derived.Test.YtjepgpocmnijiaaZb21
section

namespace Go.Ck
open Go.Proofs.Ytjepgpocmnijiaa (Key)
theorem filter_drop {l : List Res} (h : Srt l) {i : Nat} {x : Res} (hx : l[i]? = some x) {k : Key} (hk : rk x = k) : l.filter (fun r => decide (rk r ≠ k)) = dropL l i :=
  (filter_srt h _).ext (dropL_srt h i) fun j => by rw [filter_fnd, dropL_fnd h hx, hk]
theorem filter_none {l : List Res} (h : Srt l) {k : Key} (hk : fnd l k = none) : l.filter (fun r => decide (rk r ≠ k)) = l :=
  (filter_srt h _).ext h fun j => by
    rw [filter_fnd]
    split
    · rename_i e; rw [← e, hk]
    · rfl
theorem setD_len (all : List Res) (d : Res) : (setD all d).length ≤ all.length + 1 := by
  have := List.length_filter_le (fun r => decide (rk r ≠ rk d)) all
  unfold setD
  split
  · exact Nat.le_trans this (Nat.le_succ _)
  · rw [putL_len]; exact Nat.succ_le_succ this
theorem foldl_len : ∀ (ds : List Res) (c : List Res), (ds.foldl setD c).length ≤ c.length + ds.length
  | [], c => by simp
  | d :: ds, c => by
    have h1 := foldl_len ds (setD c d)
    have h2 := setD_len c d
    simp only [List.foldl_cons, List.length_cons]
    omega
theorem MgS.len {conf docs : List Res} {i : Nat} {all : List Res} (h : MgS conf docs i all) : all.length ≤ conf.length + i := by
  have h1 := foldl_len (docs.take i) conf
  rw [← h.from0, List.length_take] at h1
  exact Nat.le_trans h1 (by omega)
end Go.Ck
namespace Go.Proofs.Ytjepgpocmnijiaa
open Go.RowKit Go.Mp Go.Ck
set_option linter.unusedVariables false
set_option maxRecDepth 100000
set_option maxHeartbeats 8000000
theorem nil_res (w : World) : ResS w (.slice none 0 0) [] := ⟨by simp, none, 0, rfl, Nat.le_refl _, .inl rfl⟩
/-- How a merge is answered. -/
def MergeOut (w : World) (C D : List Res) (e : Ending) (w' : World) : Prop := ∃ (v' : Value) (L : List Res) (i f : Int), e = .returned (.tuple #[v', .int .i64 i, .int .i64 f]) ∧ MgE C D L i f ∧ ResS w' v' L ∧ Below w.heap.size w w'
theorem merge_none {w w' : World} {C D : List Res} {i f : Int} (h : MgE C D [] i f) (hb : Below w.heap.size w w') : MergeOut w C D (.returned (.tuple #[.slice none 0 0, .int .i64 i, .int .i64 f])) w' := ⟨_, [], i, f, rfl, h, nil_res w', hb⟩
theorem merge26 (C D : List Res) (v1 v2 : Value) (w : World) (h1 : ResS w v1 C) (h2 : ResS w v2 D) (hC : C.length ≤ 1048576) (hD : D.length ≤ 1048576) : Calls Try.prog 26 #[v1, v2] w (MergeOut w C D) := by
  obtain ⟨ao, cap, rfl⟩ := slice_shape h1
  obtain ⟨bo, bcp, rfl⟩ := slice_shape h2
  have hlen2 := h2.1
  have hcap2 := Lib.hid (slice_cap h2)
  obtain ⟨o, ho⟩ : ∃ o, o = outI C := ⟨_, rfl⟩
  have c24 : Calls Try.prog 24 #[.slice ao C.length cap] w fun e w' => e = .returned (.int .i64 o) ∧ Below w.heap.size w w' := by rw [ho]; exact Out24 C _ w h1
  replace c24 := Lib.hid c24
  go_enter Try.func26, Try.ntmps26
  by_cases ho0 : 0 ≤ o
  · have hE := fun (w' : World) hb => merge_none (w := w) (w' := w') (C := C) (D := D) (i := 0) (f := 2) (.out (by rw [← ho]; exact ho0)) hb
    replace hE := Lib.hid hE
    replace ho := Lib.hid ho
    go_wp2_with (first
      | (go_at_call 24; (with_reducible refine c24.out.mono ?_); rintro e w1 ⟨rfl, hb1⟩; replace hb1 := Lib.hid hb1)
      | fail)
    refine bodyPost_ret (v := .tuple #[.slice none 0 0, .int .i64 0, .int .i64 2]) (by simp [results, Try.results26, go_sem]) rfl (hE.out _ hb1.out)
  · have hoN : outI C < 0 := by rw [← ho]; omega
    have hZ := MgS.zero (docs := D) (srt_of_ord (ord_of hoN))
    replace hZ := Lib.hid hZ
    replace ho := Lib.hid ho
    replace hoN := Lib.hid hoN
    go_wp2_with (first
      | (go_at_call 24; (with_reducible refine c24.out.mono ?_); rintro e w1 ⟨rfl, hb1⟩; replace hb1 := Lib.hid hb1)
      | fail)
    have h11 := Lib.hid (h1.below hb1.out)
    replace h1 := Lib.hid h1
    replace h2 := Lib.hid h2
    go_loopg [7, 8] (D.length + 1) (fun gg av ic wx => ∃ (i : Nat) (a : List Res), gg = D.length - i + 1 ∧ i ≤ D.length ∧ ic = .int .i64 i ∧ Hid (MgS C D i a) ∧ Hid (ResS wx av a) ∧ Hid (Below w.heap.size w wx))
    case atStart => exact ⟨0, C, rfl, Nat.zero_le _, rfl, hZ, h11, hb1⟩
    case round =>
      obtain ⟨i, a, rfl, hi, rfl, hg, hav, hbw⟩ := hrel
      obtain ⟨po, pc, rfl⟩ := slice_shape hav.out
      by_cases hlt : i < D.length
      · obtain ⟨d, hd⟩ : ∃ d, D[i]? = some d := ⟨_, List.getElem?_eq_getElem hlt⟩
        obtain ⟨b, off, eo, ec, ta, tc, ra, rc, rfl, hbl, c, hp⟩ := res_at2 h2.out hd
        obtain ⟨c0, c1, c2, c3, c4, c5, c6, c7⟩ := c.below hbl hbw.out
        have hk0 : (i : Int) < (D.length : Int) := nn_lt hlt
        have hwk := Lib.hid (nn_succ2 hlt hlen2)
        obtain ⟨wb, hwb⟩ : ∃ wb, wb = wr.alloc (.cells #[Value.int .i64 d.kind, .string d.name, .slice eo d.eps.length ec, .slice ta d.tgts.length tc, .string d.host, .slice ra d.rules.length rc, .string d.route, .bool d.del] 52) := ⟨_, rfl⟩
        obtain ⟨bk, hbk⟩ : ∃ bk, bk = wr.heap.size := ⟨_, rfl⟩
        have hbx : wb.heap[bk]? = some (.cells #[Value.int .i64 d.kind, .string d.name, .slice eo d.eps.length ec, .slice ta d.tgts.length tc, .string d.host, .slice ra d.rules.length rc, .string d.route, .bool d.del] 52 (0, 0)) := by rw [hwb, hbk]; exact heap_alloc_new wr _
        have hba : Below wr.heap.size wr wb := by rw [hwb]; exact alloc_below _ _
        have hBX : Hid (∀ w', Below wb.heap.size wb w' → w'.cell? ⟨bk, 0, none⟩ = some (.int .i64 d.kind) ∧ w'.cell? ⟨bk, 1, none⟩ = some (.string d.name) ∧ w'.cell? ⟨bk, 2, none⟩ = some (.slice eo d.eps.length ec) ∧ w'.cell? ⟨bk, 3, none⟩ = some (.slice ta d.tgts.length tc) ∧ w'.cell? ⟨bk, 4, none⟩ = some (.string d.host) ∧ w'.cell? ⟨bk, 5, none⟩ = some (.slice ra d.rules.length rc) ∧ w'.cell? ⟨bk, 6, none⟩ = some (.string d.route) ∧ w'.cell? ⟨bk, 7, none⟩ = some (.bool d.del)) := Lib.hid (fun w' h => by
          have x := (h.block bk (Array.getElem?_eq_some_iff.1 hbx).1).trans hbx
          exact ⟨box_at x rfl, box_at x rfl, box_at x rfl, box_at x rfl, box_at x rfl, box_at x rfl, box_at x rfl, box_at x rfl⟩)
        have hbwb := Lib.hid (seq_below hbw.out hba)
        have havb := Lib.hid (hav.out.below hba)
        obtain ⟨dl, hdl⟩ : ∃ dl, dl = d.del := ⟨_, rfl⟩
        rw [← hdl] at hBX
        replace hwb := Lib.hid hwb
        replace hbk := Lib.hid hbk
        replace hbx := Lib.hid hbx
        replace hba := Lib.hid hba
        replace hbl := Lib.hid hbl
        replace c := Lib.hid c
        replace hp := Lib.hid hp
        replace hd := Lib.hid hd
        replace hdl := Lib.hid hdl
        go_upto_region 8 with fail
        rw [← hwb.out, ← hbk.out]
        have hRet : Hid (∀ (f : Int) (w' : World), MgE C D [] i f → Below wb.heap.size wb w' → MergeOut w C D (.returned (.tuple #[.slice none 0 0, .int .i64 i, .int .i64 f])) w') := Lib.hid (fun f w' h hb => merge_none h (seq_below hbwb.out hb))
        obtain ⟨e0, e1, e2, e3, e4, e5, e6, e7⟩ := hBX.out wb (Below.refl _ _)
        clear c0 c1 c2 c3 c4 c5 c6 c7
        by_cases hk1 : d.kind < 1
        · have hE := Lib.hid (MgE.kind (conf := C) (docs := D) hoN.out hg.out hd.out (by unfold badKind; simp [hk1]))
          go_wp2
          refine bodyPost_ret (v := .tuple #[.slice none 0 0, .int .i64 i, .int .i64 2]) (by simp [results, Try.results26, go_sem]) rfl (hRet.out _ _ hE.out (Below.refl _ _))
        · by_cases hk4 : 4 < d.kind
          · have hE := Lib.hid (MgE.kind (conf := C) (docs := D) hoN.out hg.out hd.out (by unfold badKind; simp [hk4]))
            go_wp2
            refine bodyPost_ret (v := .tuple #[.slice none 0 0, .int .i64 i, .int .i64 2]) (by simp [results, Try.results26, go_sem]) rfl (hRet.out _ _ hE.out (Below.refl _ _))
          · have hbd : Hid (badKind d = false) := Lib.hid (by unfold badKind; simp [hk1, hk4])
            have hT := Lib.hid (slice_take (h2.out.below hbwb.out) (k := i) hi)
            have hib : i ≤ bcp := by have := hcap2.out; omega
            have hib2 : (i : Int) ≤ (bcp : Int) := by omega
            obtain ⟨o2, ho2⟩ : ∃ o2, o2 = findI (D.take i) d.kind d.name := ⟨_, rfl⟩
            have hK2 : Hid (∀ w', Below wb.heap.size wb w' → Calls Try.prog 70 #[.slice (some ⟨b, off, none⟩) i bcp, .int .i64 d.kind, .string d.name] w' fun e w2 => e = .returned (.int .i64 o2) ∧ w' = w2) := Lib.hid (fun w' h => by rw [ho2]; exact find70_at hT.out _ _ h)
            obtain ⟨o3, ho3⟩ : ∃ o3, o3 = findI a d.kind d.name := ⟨_, rfl⟩
            have hK3 : Hid (∀ w', Below wb.heap.size wb w' → Calls Try.prog 70 #[.slice po a.length pc, .int .i64 d.kind, .string d.name] w' fun e w2 => e = .returned (.int .i64 o3) ∧ w' = w2) := Lib.hid (fun w' h => by rw [ho3]; exact find70_at havb.out _ _ h)
            have hcur : Hid (Below wb.heap.size wb wb.drew) := Lib.hid ⟨rfl, rfl, rfl, Nat.le_refl _, fun _ _ => rfl⟩
            have hal := Lib.hid (show a.length ≤ 4294967296 by have := hg.out.len; omega)
            replace hav := Lib.hid hav
            have hi' := Lib.hid hi
            clear hi
            rcases findI_cases (D.take i) (rk d) with ⟨eo, hf⟩ | ⟨n2, x2, eo, _, _, _, hf, _⟩
            · have eo' : o2 = -1 := ho2.trans eo
              clear eo
              subst eo'
              replace ho2 := Lib.hid ho2
              replace hf := Lib.hid hf
              have hK5 : Hid (∀ (w' : World) (v : Value) (a2 : List Res), Below wb.heap.size wb w' → ResS w' v a2 → a2.length ≤ 4294967296 → Calls Try.prog 72 #[v, .agg #[Value.int .i64 d.kind, .string d.name, .slice eo d.eps.length ec, .slice ta d.tgts.length tc, .string d.host, .slice ra d.rules.length rc, .string d.route, .bool d.del]] w' (LieOut w' (putL a2 d))) := Lib.hid (fun w' v a2 h hv hl => put72 a2 v d _ _ _ w' hv (hp.out.below (seq_below hbwb.out h)) hl)
              rw [← hdl.out] at hK5
              replace hdl := hdl.out
              rcases findI_cases a (rk d) with ⟨eo, hfa⟩ | ⟨n3, x3, eo, hn3, hx3, hkx, hfa, _⟩
              · have eo' : o3 = -1 := ho3.trans eo
                clear eo
                subst eo'
                replace ho3 := Lib.hid ho3
                cases dl with
                | true =>
                  have hE := Lib.hid (MgE.del (conf := C) (docs := D) hoN.out hg.out hd.out hbd.out hf.out hdl.symm hfa)
                  replace hfa := Lib.hid hfa
                  replace hdl := Lib.hid hdl
                  go_upto_region 10 with fail
                  go_region_held3 (fun w' => Below wb.heap.size wb w' ∧ w'.cell? ⟨bk, 0, none⟩ = some (.int .i64 d.kind) ∧ w'.cell? ⟨bk, 1, none⟩ = some (.string d.name))
                    (first | (exact ⟨hcur.out, (hBX.out _ hcur.out).1, (hBX.out _ hcur.out).2.1⟩) | fail)
                    (first
                      | (go_at_call 70; (with_reducible refine (hK2.out _ hcur.out).mono ?_); rintro e wC ⟨rfl, rfl⟩)
                      | fail)
                  all_goals
                    obtain ⟨e0, e1, e2, e3, e4, e5, e6, e7⟩ := hBX.out _ hcur.out
                    go_wp2_with (first
                      | (go_at_call 70; (with_reducible refine (hK3.out _ hcur.out).mono ?_); rintro e wE ⟨rfl, rfl⟩)
                      | fail)
                    refine bodyPost_ret (v := .tuple #[.slice none 0 0, .int .i64 i, .int .i64 290]) (by simp [results, Try.results26, go_sem]) rfl (hRet.out _ _ hE.out hcur.out)
                | false =>
                  have hG := hg.out.succ hd.out hbd.out hf.out (fun q => by rw [← hdl] at q; cases q)
                  have hs : setD a d = putL a d := by
                    unfold setD
                    rw [if_neg (by rw [← hdl]; simp), filter_none hg.out.srt hfa]
                  rw [hs] at hG
                  replace hfa := Lib.hid hfa
                  replace hG := Lib.hid hG
                  replace hs := Lib.hid hs
                  replace hdl := Lib.hid hdl
                  go_upto_region 10 with fail
                  go_region_held3 (fun w' => Below wb.heap.size wb w' ∧ w'.cell? ⟨bk, 0, none⟩ = some (.int .i64 d.kind) ∧ w'.cell? ⟨bk, 1, none⟩ = some (.string d.name))
                    (first | (exact ⟨hcur.out, (hBX.out _ hcur.out).1, (hBX.out _ hcur.out).2.1⟩) | fail)
                    (first
                      | (go_at_call 70; (with_reducible refine (hK2.out _ hcur.out).mono ?_); rintro e wC ⟨rfl, rfl⟩)
                      | fail)
                  all_goals
                    obtain ⟨e0, e1, e2, e3, e4, e5, e6, e7⟩ := hBX.out _ hcur.out
                    go_wp2_with (first
                      | (go_at_call 70; (with_reducible refine (hK3.out _ hcur.out).mono ?_); rintro e wE ⟨rfl, rfl⟩)
                      | (go_at_call 72; (with_reducible refine (hK5.out _ _ _ hcur.out (havb.out.below hcur.out) hal.out).mono ?_); rintro e wP ⟨vP, rfl, hvP, hbP⟩; replace hvP := Lib.hid hvP; replace hbP := Lib.hid hbP)
                      | fail)
                    go_roundg (D.length - (i + 1) + 1)
                    case rel => exact ⟨i + 1, putL a d, rfl, hlt, by first | rw [hwk.out] | go_num, hG, hvP, Lib.hid (seq_below hbwb.out (seq_below hcur.out hbP.out))⟩
                    case measure => exact nn_downS hlt
              · have eo' : o3 = (n3 : Int) := ho3.trans eo
                clear eo
                subst eo'
                have hK4 : Hid (∀ w', Below wb.heap.size wb w' → Calls Try.prog 71 #[.slice po a.length pc, .int .i64 n3] w' (LieOut w' (dropL a n3))) := Lib.hid (fun w' h => drop71 a _ n3 w' (havb.out.below h) hn3 hal.out)
                have hG := hg.out.succ hd.out hbd.out hf.out (fun q => by rw [hfa]; rfl)
                have hal2 := Lib.hid (show (dropL a n3).length ≤ 4294967296 by have := dropL_len hn3; have := hal.out; omega)
                have hn0 : (0 : Int) ≤ (n3 : Int) := by omega
                have hn1 : ¬ (n3 : Int) < 0 := by omega
                replace ho3 := Lib.hid ho3
                cases dl with
                | true =>
                  have hs : setD a d = dropL a n3 := by
                    unfold setD
                    rw [if_pos hdl.symm, filter_drop hg.out.srt hx3 hkx]
                  rw [hs] at hG
                  replace hfa := Lib.hid hfa
                  replace hG := Lib.hid hG
                  replace hs := Lib.hid hs
                  replace hdl := Lib.hid hdl
                  replace hx3 := Lib.hid hx3
                  replace hkx := Lib.hid hkx
                  replace hn3 := Lib.hid hn3
                  go_upto_region 10 with fail
                  go_region_held3 (fun w' => Below wb.heap.size wb w' ∧ w'.cell? ⟨bk, 0, none⟩ = some (.int .i64 d.kind) ∧ w'.cell? ⟨bk, 1, none⟩ = some (.string d.name))
                    (first | (exact ⟨hcur.out, (hBX.out _ hcur.out).1, (hBX.out _ hcur.out).2.1⟩) | fail)
                    (first
                      | (go_at_call 70; (with_reducible refine (hK2.out _ hcur.out).mono ?_); rintro e wC ⟨rfl, rfl⟩)
                      | fail)
                  all_goals
                    obtain ⟨e0, e1, e2, e3, e4, e5, e6, e7⟩ := hBX.out _ hcur.out
                    go_wp2_with (first
                      | (go_at_call 70; (with_reducible refine (hK3.out _ hcur.out).mono ?_); rintro e wE ⟨rfl, rfl⟩)
                      | (go_at_call 71; (with_reducible refine (hK4.out _ hcur.out).mono ?_); rintro e wD ⟨vD, rfl, hvD, hbD⟩; replace hcur := Lib.hid (seq_below hcur.out hbD); (obtain ⟨e0, e1, e2, e3, e4, e5, e6, e7⟩ := hBX.out _ hcur.out); replace hvD := Lib.hid hvD; clear hbD)
                      | fail)
                    go_roundg (D.length - (i + 1) + 1)
                    case rel => exact ⟨i + 1, dropL a n3, rfl, hlt, by first | rw [hwk.out] | go_num, hG, hvD, Lib.hid (seq_below hbwb.out hcur.out)⟩
                    case measure => exact nn_downS hlt
                | false =>
                  have hs : setD a d = putL (dropL a n3) d := by
                    unfold setD
                    rw [if_neg (by rw [← hdl]; simp), filter_drop hg.out.srt hx3 hkx]
                  rw [hs] at hG
                  replace hfa := Lib.hid hfa
                  replace hG := Lib.hid hG
                  replace hs := Lib.hid hs
                  replace hdl := Lib.hid hdl
                  replace hx3 := Lib.hid hx3
                  replace hkx := Lib.hid hkx
                  replace hn3 := Lib.hid hn3
                  go_upto_region 10 with fail
                  go_region_held3 (fun w' => Below wb.heap.size wb w' ∧ w'.cell? ⟨bk, 0, none⟩ = some (.int .i64 d.kind) ∧ w'.cell? ⟨bk, 1, none⟩ = some (.string d.name))
                    (first | (exact ⟨hcur.out, (hBX.out _ hcur.out).1, (hBX.out _ hcur.out).2.1⟩) | fail)
                    (first
                      | (go_at_call 70; (with_reducible refine (hK2.out _ hcur.out).mono ?_); rintro e wC ⟨rfl, rfl⟩)
                      | fail)
                  all_goals
                    obtain ⟨e0, e1, e2, e3, e4, e5, e6, e7⟩ := hBX.out _ hcur.out
                    go_wp2_with (first
                      | (go_at_call 70; (with_reducible refine (hK3.out _ hcur.out).mono ?_); rintro e wE ⟨rfl, rfl⟩)
                      | (go_at_call 71; (with_reducible refine (hK4.out _ hcur.out).mono ?_); rintro e wD ⟨vD, rfl, hvD, hbD⟩; replace hcur := Lib.hid (seq_below hcur.out hbD); (obtain ⟨e0, e1, e2, e3, e4, e5, e6, e7⟩ := hBX.out _ hcur.out); replace hvD := Lib.hid hvD; clear hbD)
                      | (go_at_call 72; (with_reducible refine (hK5.out _ _ _ hcur.out hvD.out hal2.out).mono ?_); rintro e wP ⟨vP, rfl, hvP, hbP⟩; replace hvP := Lib.hid hvP; replace hbP := Lib.hid hbP)
                      | fail)
                    go_roundg (D.length - (i + 1) + 1)
                    case rel => exact ⟨i + 1, putL (dropL a n3) d, rfl, hlt, by first | rw [hwk.out] | go_num, hG, hvP, Lib.hid (seq_below hbwb.out (seq_below hcur.out hbP.out))⟩
                    case measure => exact nn_downS hlt
            · have eo' : o2 = (n2 : Int) := ho2.trans eo
              clear eo
              have hE := Lib.hid (MgE.twice (conf := C) (docs := D) hoN.out hg.out hd.out hbd.out (by rw [hf]; rfl))
              subst eo'
              replace ho2 := Lib.hid ho2
              replace hf := Lib.hid hf
              go_upto_region 10 with fail
              go_region_held3 (fun w' => Below wb.heap.size wb w' ∧ w'.cell? ⟨bk, 0, none⟩ = some (.int .i64 d.kind) ∧ w'.cell? ⟨bk, 1, none⟩ = some (.string d.name))
                (first | (exact ⟨hcur.out, (hBX.out _ hcur.out).1, (hBX.out _ hcur.out).2.1⟩) | fail)
                (first
                  | (go_at_call 70; (with_reducible refine (hK2.out _ hcur.out).mono ?_); rintro e wC ⟨rfl, rfl⟩)
                  | fail)
              all_goals
                go_wp2
                refine bodyPost_ret (v := .tuple #[.slice none 0 0, .int .i64 i, .int .i64 91]) (by simp [results, Try.results26, go_sem]) rfl (hRet.out _ _ hE.out hcur.out)
      · have hk0 : decide ((i : Int) < (D.length : Int)) = false := decide_eq_false (by omega)
        have hie : i = D.length := by omega
        subst hie
        clear hlt
        by_cases h64 : 64 < a.length
        · have hE := Lib.hid (MgE.count (conf := C) (docs := D) hoN.out hg.out h64)
          have h640 : (64 : Int) < (a.length : Int) := by omega
          replace h64 := Lib.hid h64
          go_wp2
          refine bodyPost_ret (v := .tuple #[.slice none 0 0, .int .i64 0, .int .i64 124]) (by simp [results, Try.results26, go_sem]) rfl (merge_none hE.out hbw.out)
        · have hE := Lib.hid (MgE.fine (conf := C) (docs := D) hoN.out hg.out (by omega))
          have h640 : ¬ (64 : Int) < (a.length : Int) := by omega
          replace h64 := Lib.hid h64
          go_wp2
          refine bodyPost_ret (v := .tuple #[.slice po a.length pc, .int .i64 0, .int .i64 0]) (by simp [results, Try.results26, go_sem]) rfl ⟨_, a, 0, 0, rfl, hE.out, hav.out, hbw.out⟩
end Go.Proofs.Ytjepgpocmnijiaa
end
