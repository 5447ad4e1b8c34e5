/- The law TreeTokens, walked. -/
import Derived.Test.YtcnjmkjfgghgoaaZt12
import Derived.Test.YtcnjmkjfgghgoaaZt13
import Derived.Test.YtcnjmkjfgghgoaaZt27
import Derived.Test.YtcnjmkjfgghgoaaZt34
section

namespace Go.Proofs.Ytcnjmkjfgghgoaa
open Go.RowKit Go.Mp Go.Tr
set_option linter.unusedVariables false
set_option maxRecDepth 100000
set_option maxHeartbeats 4000000
theorem tok_run {g off len cap i n : Nat} (hi : i + n ≤ cap) (hne : i < cap) (I E : Int) (hI : I = (i : Int)) (hE : E = ((i + n : Nat) : Int)) :
    (∀ w, (Instr.sliceAt 22 (.slice (some ⟨g, off, none⟩) len cap) (some (.int .i64 I)) (some (.int .i64 E)) none).run Try.prog w = .ok (.slice (some ⟨g, off + i * 5, none⟩) n (cap - i)) w) ∧ (∀ w, (Instr.slice 22 (.slice (some ⟨g, off, none⟩) len cap) (some (.int .i64 I)) (some (.int .i64 E)) none).run Try.prog w = .ok (.slice (some ⟨g, off + i * 5, none⟩) n (cap - i)) w) := by
  have e : Try.prog.underlying 22 = some (.slice (Try.prog.elem 22)) := by kernel_rfl
  have run2 : ∀ w, (Instr.slice 22 (.slice (some ⟨g, off, none⟩) len cap) (some (.int .i64 I)) (some (.int .i64 E)) none).run Try.prog w = .ok (.slice (some ⟨g, off + i * 5, none⟩) n (cap - i)) w := fun w => by
    have z : (sizeOf (Try.prog.elem 22)).run Try.prog w = .ok 5 w := by kernel_rfl
    rw [run_slice_lh (ht := e) (h0 := by omega) (h1 := by omega) (h2 := by omega), z]
    rw [show I.toNat = i by omega, show E.toNat = i + n by omega]
    simp only [Result.andThen_ok, sliced, if_neg (show ¬ cap = i by omega), Option.map_some, add_at, Nat.add_sub_cancel_left]
  refine ⟨fun w => ?_, run2⟩
  rw [run_sliceAt_slice (h := e)]; exact run2 w
theorem kids_range {t : T} (hs : t.size ≤ 4096) : ∀ n ∈ lay 0 t, n.kids.length ≤ 4096 ∧ ∀ k ∈ n.kids, 0 ≤ k ∧ k < ((lay 0 t).length : Int) := fun n hn => by
  obtain ⟨h1, h2⟩ := bounds_lay 0 t n hn
  refine ⟨by omega, fun k hk => ?_⟩
  have := h2 k hk
  rw [lay_length]
  omega
theorem tree_tokens {W : World} {kb : Nat} {lv : Value} {l : List Tok} {m : Int} (tv : TokV W kb lv l) (hk : kb < W.heap.size ∨ l = []) (hll : l.length < 2932031007400) (hm : W.cell? ⟨0, 0, none⟩ = some (.int .i64 m)) :
    Calls Try.prog 5 #[lv] W fun e w' => e = .returned (.bool true) ∧ Below W.heap.size W w' := by
  obtain ⟨tk, lo, lcap, rfl, hcl⟩ := tv
  have hAw := awake_any W m hm
  obtain ⟨r, hr⟩ : ∃ r, r = ofRun l := ⟨_, rfl⟩
  obtain ⟨fk, fln, fer, hfl⟩ : ∃ a b c, flt r = (a, b, c) := ⟨_, _, _, rfl⟩
  replace tk := Lib.hid tk
  replace hcl := Lib.hid hcl
  replace hAw := Lib.hid hAw
  replace hr := Lib.hid hr
  replace hfl := Lib.hid hfl
  replace hk := Lib.hid hk
  replace hll := Lib.hid hll
  replace hm := Lib.hid hm
  go_enter Try.func5, Try.ntmps5
  go_upto_region 3 with (first
    | (go_at_call 19; (with_reducible refine hAw.out.mono ?_); rintro e w1 ⟨rfl, t1⟩; have hOwn := Lib.hid (own_any (tk.out.stay hk.out t1 id) (hk.out.imp (fun h => Nat.lt_of_lt_of_le h t1.size) id) hll.out); replace t1 := Lib.hid t1)
    | fail)
  clear hAw
  go_upto_region 4 with (first
    | (go_at_call 9; (with_reducible refine hOwn.out.mono ?_); rintro e w2 ⟨gb, cap, rfl, hO2, t2⟩; have hOf := Lib.hid (of_any hO2.tok hO2.lt.2 (by have := hll.out; omega)); replace hO2 := Lib.hid hO2; replace t2 := Lib.hid t2)
    | (go_at_call 10; (with_reducible refine hOf.out.mono ?_); rintro e w3 h3; obtain ⟨tv, F3, L3, rfl, hL3, hT3, t3⟩ := ofOut_any h3; rw [← hr.out] at hL3 ⊢; rw [hfl.out]; obtain ⟨ta, tc, rfl⟩ := ownsRow_shape hT3.row; replace hL3 := Lib.hid hL3; replace hT3 := Lib.hid hT3; replace t3 := Lib.hid t3; clear h3)
    | fail)
  clear hOf hOwn
  obtain ⟨w5, hw5⟩ : ∃ w5, w5 = w3.alloc (.cells #[.int .i64 fk, .int .i64 fln, .int .i64 fer] 28) := ⟨_, rfl⟩
  obtain ⟨b28, h28⟩ : ∃ b, b = w3.heap.size := ⟨_, rfl⟩
  rw [← hw5, ← h28]
  have t35 : Tch No w3 w5 := by rw [hw5]; exact Tch.alloc No w3 _
  have g5 : w5.heap[b28]? = some (.cells #[.int .i64 fk, .int .i64 fln, .int .i64 fer] 28) := by rw [hw5, h28]; exact heap_alloc_new w3 _
  have t05 : Tch No W w5 := ((t1.out.trans t2.out (fun _ h => h.elim)).trans t3.out (fun _ h => h.elim)).trans t35 (fun _ h => h.elim)
  have hT5 := hT3.out.tch t35 (fun _ _ h => h)
  have tk5 := tk.out.stay hk.out t05 id
  obtain ⟨x0, x1, x2, _, _, _⟩ := row3_cells g5
  replace hw5 := Lib.hid hw5
  replace h28 := Lib.hid h28
  replace t35 := Lib.hid t35
  replace g5 := Lib.hid g5
  replace t05 := Lib.hid t05
  replace hT5 := Lib.hid hT5
  replace tk5 := Lib.hid tk5
  cases hrr : r with
  | error fe =>
    obtain ⟨k, ln, er⟩ := fe
    obtain ⟨hne, t0, ht0, hln⟩ := of_err (hr.out.symm.trans hrr)
    have hf2 := hfl.out
    rw [hrr] at hf2
    simp only [flt, Prod.mk.injEq] at hf2
    obtain ⟨rfl, rfl, rfl⟩ := hf2
    have hnb : (er == 0) = false := by rw [beq_eq_false_iff_ne]; exact hne
    have hnb2 : (er != 0) = true := by simp [bne, hnb]
    have hLn : L3 = [] := by
      have h := hL3.out
      rw [hrr] at h
      exact List.map_eq_nil_iff.1 h
    subst hLn
    obtain ⟨i0, hi0⟩ := List.mem_iff_getElem?.1 ht0
    have hfirst : True := trivial
    have kge : decide ((0 : Int) ≤ (k : Int)) = true := decide_eq_true (Int.natCast_nonneg k)
    have kge2 : (0 : Int) ≤ (k : Int) := Int.natCast_nonneg k
    replace hrr := Lib.hid hrr
    replace hne := Lib.hid hne
    replace ht0 := Lib.hid ht0
    replace hln := Lib.hid hln
    replace hi0 := Lib.hid hi0
    replace hfirst := Lib.hid hfirst
    go_wp2
    go_loopg [5] (l.length + 1) (fun gg iv wr => ∃ i q : Nat, gg = l.length - i + 1 ∧ iv = .int .i64 i ∧ i ≤ i0 ∧ wr = w5.drewN q)
    case atStart => exact ⟨0, 0, rfl, rfl, Nat.zero_le _, rfl⟩
    case round =>
      obtain ⟨i, q, rfl, rfl, hil, rfl⟩ := hrel
      have hi0l := (List.getElem?_eq_some_iff.1 hi0.out).1
      have hlt : i < l.length := by omega
      have k0 := nn_lt hlt
      obtain ⟨t, ht⟩ : ∃ t, l[i]? = some t := ⟨_, List.getElem?_eq_getElem hlt⟩
      obtain ⟨off, rfl, _, d0, d1, _, _, _⟩ := tk5.out.at ht
      have d1' : (w5.drewN q).cell? ⟨kb, off + i * 5 + 1, none⟩ = some (.int .i64 t.line) := d1
      have x0' : (w5.drewN q).cell? ⟨b28, 0, none⟩ = some (.int .i64 k) := x0
      have x1' : (w5.drewN q).cell? ⟨b28, 1, none⟩ = some (.int .i64 ln) := x1
      have hwk := Lib.hid (nn_succ hlt (Nat.lt_trans hll.out (by decide)))
      by_cases hq : t.line = ln
      · have hqb : (t.line == ln) = true := by rw [beq_iff_eq]; exact hq
        replace hil := Lib.hid hil
        replace hi0l := Lib.hid hi0l
        replace ht := Lib.hid ht
        replace hq := Lib.hid hq
        go_upto_region 8 with fail
        go_quiet (fail)
        have x0n : ∀ n, (w5.drewN n).cell? ⟨b28, 0, none⟩ = some (.int .i64 k) := fun n => x0
        go_wp2
        go_ret
        exact ⟨rfl, tchBelow (t05.out.trans (Tch.drewN No w5 _) (fun _ h => h.elim))⟩
      · have hqb : (t.line == ln) = false := by rw [beq_eq_false_iff_ne]; exact hq
        have hii : i ≠ i0 := fun e => hq (by rw [e, hi0.out] at ht; cases ht; exact hln.out)
        replace hil := Lib.hid hil
        replace hi0l := Lib.hid hi0l
        replace ht := Lib.hid ht
        replace hq := Lib.hid hq
        replace hii := Lib.hid hii
        go_upto_region 8 with fail
        go_quiet (fail)
        go_wp2
        go_roundg (l.length - (i + 1) + 1)
        case rel => exact ⟨i + 1, q + nq, rfl, by rw [hwk.out], by have := hil.out; have := hii.out; omega, rfl⟩
        case measure => exact nn_down2 hlt
  | ok ts =>
    have hf2 := hfl.out
    rw [hrr] at hf2
    simp only [flt, Prod.mk.injEq] at hf2
    obtain ⟨rfl, rfl, rfl⟩ := hf2
    obtain ⟨hts1, hts2⟩ := docsRun_at (hr.out.symm.trans hrr)
    have hLt : L3.map (·.1) = ts := by have h := hL3.out; rw [hrr] at h; exact h
    have hLl : L3.length = ts.length := by rw [← hLt, List.length_map]
    obtain ⟨ds, hds⟩ : ∃ ds, ds = segs [] l := ⟨_, rfl⟩
    rw [← hds] at hts1 hts2
    have hstart : segs [] (l.drop 0) = ds.drop 0 := by rw [hds]; rfl
    have hdl : ds.length ≤ l.length + 1 := by rw [hds]; exact segs_length [] l
    replace hrr := Lib.hid hrr
    replace hts1 := Lib.hid hts1
    replace hts2 := Lib.hid hts2
    replace hLt := Lib.hid hLt
    replace hLl := Lib.hid hLl
    replace hds := Lib.hid hds
    replace hstart := Lib.hid hstart
    replace hdl := Lib.hid hdl
    go_wp2
    go_loopg [6, 7] (l.length + 1 + 1) (fun gg nv av wr => ∃ a n : Nat, gg = l.length + 1 - a + 1 ∧ av = .int .i64 a ∧ nv = .int .i64 n ∧ a ≤ l.length + 1 ∧ n ≤ ds.length ∧ segs [] (l.drop a) = ds.drop n ∧ Hid (Tch No w5 wr))
    case atStart => exact ⟨0, 0, rfl, rfl, rfl, Nat.zero_le _, Nat.zero_le _, hstart.out, Lib.hid (Tch.refl _ _)⟩
    case round =>
      obtain ⟨a, n, rfl, rfl, rfl, hal, hnl, hsd, tr⟩ := hrel
      by_cases hlt : a < l.length
      · have k0 := nn_lt hlt
        replace hal := Lib.hid hal
        replace hnl := Lib.hid hnl
        replace hsd := Lib.hid hsd
        obtain ⟨E, hE⟩ : ∃ E, E = a + upDoc (l.drop a) := ⟨_, rfl⟩
        have hEl : E ≤ l.length := by have := upDoc_le (l.drop a); rw [List.length_drop] at this; omega
        have hEa : a ≤ E := by omega
        obtain ⟨we, hwe⟩ : ∃ we, we = wr := ⟨_, rfl⟩
        subst hwe
        replace hE := Lib.hid hE
        replace hEl := Lib.hid hEl
        replace hEa := Lib.hid hEa
        go_upto_block 4 with fail
        go_cut [8] (fun ev wx => ev = .int .i64 E ∧ wx = we)
        case first =>
          go_wp2
          go_loopg [8] (l.length - a + 1) (fun gg ev wx => ∃ e : Nat, gg = l.length - e + 1 ∧ ev = .int .i64 e ∧ a ≤ e ∧ e ≤ l.length ∧ e + upDoc (l.drop e) = E ∧ wx = we)
          case atStart => exact ⟨a, rfl, rfl, Nat.le_refl _, by omega, hE.out.symm, rfl⟩
          case round =>
            obtain ⟨e, rfl, rfl, hae, hel, hee, rfl⟩ := hrel
            by_cases hlt2 : e < l.length
            · have j0 := nn_lt hlt2
              obtain ⟨t, ht⟩ : ∃ t, l[e]? = some t := ⟨_, List.getElem?_eq_getElem hlt2⟩
              obtain ⟨off, rfl, _, d0, _, _, _, _⟩ := (tk5.out.stay (hk.out.imp (fun h => Nat.lt_of_lt_of_le h t05.out.size) id) tr.out id).at ht
              have hst := upDoc_step ht
              by_cases h1 : t.kind = 1
              · have h1b : (t.kind == 1) = true := by rw [beq_iff_eq]; exact h1
                have h1c : (t.kind != 1) = false := by rw [bne, h1b]; rfl
                rw [if_pos h1] at hst
                have heE : e = E := by omega
                replace hst := Lib.hid hst
                replace h1 := Lib.hid h1
                replace hae := Lib.hid hae
                replace hel := Lib.hid hel
                replace hee := Lib.hid hee
                replace ht := Lib.hid ht
                replace heE := Lib.hid heE
                go_wp2
                go_meet
                exact ⟨by rw [heE.out], rfl⟩
              · have h1b : (t.kind == 1) = false := by rw [beq_eq_false_iff_ne]; exact h1
                have h1c : (t.kind != 1) = true := by rw [bne, h1b]; rfl
                rw [if_neg h1] at hst
                have hee2 : e + 1 + upDoc (l.drop (e + 1)) = E := by omega
                replace hst := Lib.hid hst
                replace h1 := Lib.hid h1
                replace hae := Lib.hid hae
                replace hel := Lib.hid hel
                replace hee := Lib.hid hee
                replace ht := Lib.hid ht
                replace hee2 := Lib.hid hee2
                go_wp2
                go_roundg (l.length - (e + 1) + 1)
                case rel => exact ⟨e + 1, rfl, by rw [nn_succ hlt2 (by have := hll.out; omega)], by have := hae.out; omega, hlt2, hee2.out, rfl⟩
                case measure => exact nn_down2 hlt2
            · have j0 := nn_ge hlt2
              have j1 : decide (e < l.length) = false := decide_eq_false hlt2
              rw [List.drop_of_length_le (by omega)] at hee
              have heE : e = E := hee
              replace hae := Lib.hid hae
              replace hel := Lib.hid hel
              replace hee := Lib.hid hee
              replace hlt2 := Lib.hid hlt2
              replace heE := Lib.hid heE
              go_wp2
              go_meet
              exact ⟨by rw [heE.out], rfl⟩
        case rest =>
          obtain ⟨rfl, rfl⟩ := hcut
          have hWd := Lib.hid (tr.out.trans (Tch.drew No wc) (fun _ h => h.elim))
          by_cases hgt : a < E
          · have g0 : (a : Int) < (E : Int) := by omega
            have hup : 0 < upDoc (l.drop a) := by have := hE.out; omega
            have hne : l.drop a ≠ [] := fun e => by rw [e] at hup; exact absurd hup (by simp [upDoc])
            have hsg := segs_first hup hne
            obtain ⟨sg, hsge⟩ : ∃ sg, sg = (l.drop a).take (upDoc (l.drop a)) := ⟨_, rfl⟩
            rw [← hsge, List.drop_drop] at hsg
            have hsgl : sg.length = E - a := by rw [hsge, List.length_take, List.length_drop]; have := hE.out; have := hEl.out; omega
            rw [hsd.out] at hsg
            have hnd : n < ds.length := by
              have h := congrArg List.length hsg
              rw [List.length_drop, List.length_cons] at h; omega
            have hdn : ds[n]? = some sg := by
              have h := congrArg (fun x => x[0]?) hsg
              simpa using h
            have hnext : segs [] (l.drop (E + 1)) = ds.drop (n + 1) := by
              have h := congrArg (List.drop 1) hsg
              rw [List.drop_drop] at h
              rw [h, show a + (upDoc (l.drop a) + 1) = E + 1 by have := hE.out; omega]
              rfl
            obtain ⟨t, ht, hdoc⟩ := hts2.out n sg hdn
            obtain ⟨x, hx, hx1⟩ : ∃ x, L3[n]? = some x ∧ x.1 = t := by
              have h := ht
              rw [← hLt.out, List.getElem?_map] at h
              cases hq : L3[n]? with
              | none => rw [hq] at h; cases h
              | some x => rw [hq] at h; exact ⟨x, rfl, by simpa using h⟩
            have hsz := doc_size hdoc
            obtain ⟨hky, htx⟩ := doc_tells hdoc
            have hkl : decide ((L3.length : Int) ≤ (n : Int)) = false := decide_eq_false (by have := hLl.out; have := hts1.out; omega)
            have hkn : decide (L3.length ≤ n) = false := decide_eq_false (by have := hLl.out; have := hts1.out; omega)
            have hnl : (n : Int) < (L3.length : Int) := by have := hLl.out; have := hts1.out; omega
            obtain ⟨t9, ht9⟩ : ∃ t9, l[a]? = some t9 := ⟨_, List.getElem?_eq_getElem hlt⟩
            obtain ⟨off, rfl, _, _, _, _, _, _⟩ := tk5.out.at ht9
            have hkw : kb < w5.heap.size := by rcases hk.out with h | h; exact Nat.lt_of_lt_of_le h t05.out.size; rw [h] at hlt; exact absurd hlt (by simp)
            obtain ⟨D, hD⟩ : ∃ D, D = E - a := ⟨_, rfl⟩
            have htkS : TokS w5 kb (.slice (some ⟨kb, off + a * 5, none⟩) sg.length (lcap - a)) sg := by
              have hv : TokV w5 kb (.slice (some ⟨kb, off, none⟩) l.length lcap) l := ⟨tk5.out, _, _, rfl, hcl.out⟩
              have hd := hv.drop (n := a) (by omega)
              rw [← List.length_drop] at hd
              have h2 := hd.take (n := D) (by rw [List.length_drop]; have := hEl.out; omega)
              have e : (l.drop a).take D = sg := by rw [hsge, hD]; congr 1; have := hE.out; omega
              rw [e] at h2
              have h3 := h2.1
              simp only [Option.map_some, add_at] at h3
              rw [show D = sg.length by rw [hsgl, hD]] at h3
              exact h3
            rw [hsgl, ← hD] at htkS
            obtain ⟨run1, run2⟩ := tok_run (g := kb) (off := off) (len := l.length) (cap := lcap) (i := a) (n := D) (by have := hEl.out; have := hcl.out; omega) (by have := hcl.out; omega) a E rfl (by omega)
            obtain ⟨gv, no, nc, rfl, _, cv, _, hNd5, _, _⟩ := hT5.out.elem hx (by rw [hx1]; exact hsz)
            rw [hx1] at cv hNd5
            have hSH : ∀ w', Tch No w5 w' → (Tch No w5 w' ∧ w'.cell? ⟨gv, n, none⟩ = some (.slice no t.size nc)) := fun w' tt => ⟨tt, tt.cell_some cv id⟩
            have hLow : ∀ w', Tch No w5 w' → Calls Try.prog 20 #[.slice (some ⟨kb, off, none⟩) l.length lcap] w' fun e w2 => e = .returned (.bool (l.any fun t => decide (t.line < 0))) ∧ w2 = w' := fun w' tt => low_any (tk5.out.stay (.inl hkw) tt id) hll.out
            have hll2 := hll.out
            have hTld : ∀ w', Tch No w5 w' → Calls Try.prog 23 #[.slice no t.size nc, .slice (some ⟨kb, off + a * 5, none⟩) D (lcap - a)] w' fun e w2 => e = .returned (.bool true) ∧ Tch No w5 w2 := fun w' tt => (told_any (hNd5.tch tt) (by rw [lay_length]; exact hsz) (kids_range hsz) (htkS.stay (.inl hkw) tt id) (.inl (Nat.lt_of_lt_of_le hkw tt.size)) (by rw [hsgl]; have := hEl.out; omega) (by rw [keysN_lay, hky]) (by rw [texts_lay, htx])).mono (by rintro e w2 ⟨rfl, h⟩; exact ⟨rfl, tt.trans h (fun _ h => h.elim)⟩)
            have hTwn : ∀ w', Tch No w5 w' → Calls Try.prog 22 #[.slice no t.size nc] w' fun e w2 => ∃ g c, e = .returned (.slice (some ⟨g, 0, none⟩) t.size c) ∧ NdV w2 (.slice (some ⟨g, 0, none⟩) t.size c) (lay 0 t) ∧ Tch No w5 w2 := fun w' tt => by
              have hkb8 : ∀ n ∈ lay 0 t, n.kids.length * 8 ≤ 140737488351232 := fun n hn => by have := (kids_range hsz n hn).1; omega
              refine (twin_any (hNd5.tch tt) hkb8 (by rw [lay_length]; omega)).mono ?_
              rintro e w2 ⟨g, c, F, R, rfl, h1, h2, h3, h4⟩
              have h5 := h3.twin h2 (by rw [lay_length]; omega) hkb8
              rw [lay_length] at h5
              exact ⟨g, c, by rw [lay_length], h5, tt.trans h4 (fun _ h => h.elim)⟩
            have hMay : ∀ w' v, LinesOk sg → NdV w' v (lay 0 t) → Tch No w5 w' → Calls Try.prog 21 #[v] w' fun e w2 => e = .returned (.bool true) ∧ Tch No w5 w2 := fun w' v hl hv tt => by
              obtain ⟨o1, o2⟩ := doc_may hl hdoc
              refine (may_any (lay 0 t) v w' hv).mono ?_
              rw [mayR_lay o1 hsz o2]
              rintro e w2 ⟨rfl, h⟩
              exact ⟨rfl, tt.trans (Tch.of_below (S := No) h) (fun _ h => h.elim)⟩
            have hall : (l.any fun t => decide (t.line < 0)) = false → LinesOk sg := fun h u hu => by
              have hm2 : u ∈ l := by rw [hsge] at hu; exact List.mem_of_mem_drop (List.mem_of_mem_take hu)
              rw [List.any_eq_false] at h
              have := h u hm2
              simpa using this
            obtain ⟨bl, hbl⟩ : ∃ bl, bl = (l.any fun t => decide (t.line < 0)) := ⟨_, rfl⟩
            rw [← hbl] at hLow hall
            have hwn := Lib.hid (nn_succ hnd (Nat.lt_of_le_of_lt hdl.out (by omega)))
            have hwE : Hid (wrap64 ((E : Int) + 1) = ((E + 1 : Nat) : Int)) := Lib.hid (by have := hEl.out; unfold wrap64; omega)
            replace hup := Lib.hid hup
            replace hne := Lib.hid hne
            replace hsg := Lib.hid hsg
            replace hsge := Lib.hid hsge
            replace hsgl := Lib.hid hsgl
            replace hnd := Lib.hid hnd
            replace hdn := Lib.hid hdn
            replace hnext := Lib.hid hnext
            replace ht := Lib.hid ht
            replace hdoc := Lib.hid hdoc
            replace hx := Lib.hid hx
            replace hx1 := Lib.hid hx1
            replace hsz := Lib.hid hsz
            replace hky := Lib.hid hky
            replace htx := Lib.hid htx
            replace ht9 := Lib.hid ht9
            replace hkw := Lib.hid hkw
            replace hD := Lib.hid hD
            replace htkS := Lib.hid htkS
            replace hNd5 := Lib.hid hNd5
            replace hSH := Lib.hid hSH
            replace hLow := Lib.hid hLow
            replace hTld := Lib.hid hTld
            replace hTwn := Lib.hid hTwn
            replace hMay := Lib.hid hMay
            replace hbl := Lib.hid hbl
            replace hgt := Lib.hid hgt
            replace hll2 := Lib.hid hll2
            replace tr := Lib.hid tr
            cases bl with
            | false =>
              have hLs := Lib.hid (hall rfl)
              clear hall
              go_upto_region 18 with fail
              go_region_held3 (fun w' => Tch No w5 w' ∧ w'.cell? ⟨gv, n, none⟩ = some (.slice no t.size nc))
                (first | exact hSH.out _ hWd.out | exact hSH.out _ tw2.out | exact hSH.out _ tw3.out | exact hSH.out _ tw4.out | fail)
                (first
                  | (go_at_call 20; (with_reducible refine (hLow.out _ hWd.out).mono ?_); rintro e w' ⟨rfl, rfl⟩)
                  | (go_at_call 22; (with_reducible refine (hTwn.out _ hWd.out).mono ?_); rintro e w8 ⟨g8, c8, rfl, hN8, tw2⟩; replace hN8 := Lib.hid hN8; replace tw2 := Lib.hid tw2)
                  | (go_at_call 21; (with_reducible refine (hMay.out _ _ hLs.out hN8.out tw2.out).mono ?_); rintro e w9 ⟨rfl, tw3⟩; replace tw3 := Lib.hid tw3)
                  | (go_at_call 23; (with_reducible refine (hTld.out _ tw3.out).mono ?_); rintro e w10 ⟨rfl, tw4⟩; replace tw4 := Lib.hid tw4)
                  | fail)
              go_wp2
              go_roundg (l.length + 1 - (E + 1) + 1)
              case rel => exact ⟨E + 1, n + 1, rfl, by rw [hwE.out], by rw [hwn.out], by have := hEl.out; omega, hnd.out, hnext.out, tw4⟩
              case measure => have := hEa.out; have := hEl.out; omega
            | true =>
              clear hall
              go_upto_region 18 with fail
              refine wp_region_noPanic ?_
              refine wp_region_held_drew (S := (fun w' => Tch No w5 w' ∧ w'.cell? ⟨gv, n, none⟩ = some (.slice no t.size nc))) (by kernel_rfl) (hSH.out _ hWd.out) (fun hHeld => ?_)
              refine wpAnyH_take (i := 0) (oi := _) (v := ?_) rfl (by kernel_rfl) (by kernel_rfl) (by kernel_rfl) (fun _ _ _ h => h) (Or.inl ⟨by rfl, ?_⟩) (by assumption) ?_
              rotate_left
              · intro w hSw; (try dsimp only at hSw); go_simp; try with_reducible rfl
              try simp only [Act.put, List.getElem_toArray, List.getElem_cons_zero, List.setIfInBounds_toArray, List.set_cons_zero, List.set_cons_succ]
              refine wpAnyH_take (i := 1) (oi := _) (v := ?_) rfl (by kernel_rfl) (by kernel_rfl) (by kernel_rfl) (fun _ _ _ h => h) (Or.inl ⟨by rfl, ?_⟩) (by assumption) ?_
              rotate_left
              · intro w hSw; (try dsimp only at hSw); go_simp; try with_reducible rfl
              try simp only [Act.put, List.getElem_toArray, List.getElem_cons_succ, List.getElem_cons_zero, List.setIfInBounds_toArray, List.set_cons_zero, List.set_cons_succ]
              refine wpAnyH_take (i := 2) (oi := _) (v := ?_) rfl (by kernel_rfl) (by kernel_rfl) (by kernel_rfl) (fun _ _ _ h => h) (Or.inl ⟨by rfl, ?_⟩) (by assumption) ?_
              rotate_left
              · intro w hSw; (try dsimp only at hSw); go_simp; try with_reducible rfl
              try simp only [Act.put, List.getElem_toArray, List.getElem_cons_succ, List.getElem_cons_zero, List.setIfInBounds_toArray, List.set_cons_zero, List.set_cons_succ]
              refine wpAnyH_take (i := 3) (oi := _) (v := ?_) rfl (by kernel_rfl) (by kernel_rfl) (by kernel_rfl) (fun _ _ _ h => h) (Or.inl ⟨by rfl, ?_⟩) (by assumption) ?_
              rotate_left
              · intro w hSw; (try dsimp only at hSw); go_simp; try with_reducible rfl
              try simp only [Act.put, List.getElem_toArray, List.getElem_cons_succ, List.getElem_cons_zero, List.setIfInBounds_toArray, List.set_cons_zero, List.set_cons_succ]
              refine wpAnyH_take (i := 4) (oi := _) (v := ?_) rfl (by kernel_rfl) (by kernel_rfl) (by kernel_rfl) (fun _ _ _ h => h) (Or.inl ⟨by rfl, ?_⟩) (by assumption) ?_
              rotate_left
              · intro w hSw; (try dsimp only at hSw); go_simp; try with_reducible rfl
              try simp only [Act.put, List.getElem_toArray, List.getElem_cons_succ, List.getElem_cons_zero, List.setIfInBounds_toArray, List.set_cons_zero, List.set_cons_succ]
              refine wpAnyH_take (i := 5) (oi := _) (v := ?_) rfl (by kernel_rfl) (by kernel_rfl) (by kernel_rfl) (fun _ _ _ h => h) (Or.inl ⟨by rfl, ?_⟩) (by assumption) ?_
              rotate_left
              · intro w hSw; (try dsimp only at hSw); go_simp; try with_reducible rfl
              try simp only [Act.put, List.getElem_toArray, List.getElem_cons_succ, List.getElem_cons_zero, List.setIfInBounds_toArray, List.set_cons_zero, List.set_cons_succ]
              refine wpAnyH_ready (rs := [6]) (by kernel_rfl) (by simp) ?_
              refine AllReadyH.cons (o := _) rfl (fun K hK => ?_) AllReadyH.nil
              go_simp
              go_at_call 20
              with_reducible refine (hLow.out _ hWd.out).mono ?_
              rintro e w' ⟨rfl, rfl⟩
              refine hK.out _ _ (hSH.out _ hWd.out) (fun hHeld => ?_)
              clear hK K
              try simp only [Act.put, List.getElem_toArray, List.getElem_cons_succ, List.getElem_cons_zero, List.setIfInBounds_toArray, List.set_cons_zero, List.set_cons_succ]
              refine wpAnyH_take (i := 7) (oi := _) (v := ?_) rfl (by kernel_rfl) (by kernel_rfl) (by kernel_rfl) (fun _ _ _ h => h) (Or.inl ⟨by rfl, ?_⟩) (by assumption) ?_
              rotate_left
              · intro w hSw; (try dsimp only at hSw); go_simp; try with_reducible rfl
              try simp only [Act.put, List.getElem_toArray, List.getElem_cons_succ, List.getElem_cons_zero, List.setIfInBounds_toArray, List.set_cons_zero, List.set_cons_succ]
              refine wpAnyH_take (i := 8) (oi := _) (v := ?_) rfl (by kernel_rfl) (by kernel_rfl) (by kernel_rfl) (fun _ _ _ h => h) (Or.inl ⟨by rfl, ?_⟩) (by assumption) ?_
              rotate_left
              · intro w hSw; (try dsimp only at hSw); go_simp; try with_reducible rfl
              try simp only [Act.put, List.getElem_toArray, List.getElem_cons_succ, List.getElem_cons_zero, List.setIfInBounds_toArray, List.set_cons_zero, List.set_cons_succ]
              refine wpAnyH_take (i := 9) (oi := _) (v := undef) rfl (by kernel_rfl) (by kernel_rfl) (by kernel_rfl) (fun _ _ _ h => h) (Or.inr ⟨by rfl, rfl⟩) (by assumption) ?_
              try simp only [Act.put, List.getElem_toArray, List.getElem_cons_succ, List.getElem_cons_zero, List.setIfInBounds_toArray, List.set_cons_zero, List.set_cons_succ]
              refine wpAnyH_take (i := 10) (oi := _) (v := undef) rfl (by kernel_rfl) (by kernel_rfl) (by kernel_rfl) (fun _ _ _ h => h) (Or.inr ⟨by rfl, rfl⟩) (by assumption) ?_
              try simp only [Act.put, List.getElem_toArray, List.getElem_cons_succ, List.getElem_cons_zero, List.setIfInBounds_toArray, List.set_cons_zero, List.set_cons_succ]
              refine wpAnyH_take (i := 11) (oi := _) (v := undef) rfl (by kernel_rfl) (by kernel_rfl) (by kernel_rfl) (fun _ _ _ h => h) (Or.inr ⟨by rfl, rfl⟩) (by assumption) ?_
              try simp only [Act.put, List.getElem_toArray, List.getElem_cons_succ, List.getElem_cons_zero, List.setIfInBounds_toArray, List.set_cons_zero, List.set_cons_succ]
              refine wpAnyH_take (i := 12) (oi := _) (v := undef) rfl (by kernel_rfl) (by kernel_rfl) (by kernel_rfl) (fun _ _ _ h => h) (Or.inr ⟨by rfl, rfl⟩) (by assumption) ?_
              try simp only [Act.put, List.getElem_toArray, List.getElem_cons_succ, List.getElem_cons_zero, List.setIfInBounds_toArray, List.set_cons_zero, List.set_cons_succ]
              refine wpAnyH_take (i := 13) (oi := _) (v := undef) rfl (by kernel_rfl) (by kernel_rfl) (by kernel_rfl) (fun _ _ _ h => h) (Or.inr ⟨by rfl, rfl⟩) (by assumption) ?_
              try simp only [Act.put, List.getElem_toArray, List.getElem_cons_succ, List.getElem_cons_zero, List.setIfInBounds_toArray, List.set_cons_zero, List.set_cons_succ]
              refine wpAnyH_take (i := 14) (oi := _) (v := undef) rfl (by kernel_rfl) (by kernel_rfl) (by kernel_rfl) (fun _ _ _ h => h) (Or.inr ⟨by rfl, rfl⟩) (by assumption) ?_
              try simp only [Act.put, List.getElem_toArray, List.getElem_cons_succ, List.getElem_cons_zero, List.setIfInBounds_toArray, List.set_cons_zero, List.set_cons_succ]
              refine wpAnyH_take (i := 15) (oi := _) (v := undef) rfl (by kernel_rfl) (by kernel_rfl) (by kernel_rfl) (fun _ _ _ h => h) (Or.inr ⟨by rfl, rfl⟩) (by assumption) ?_
              try simp only [Act.put, List.getElem_toArray, List.getElem_cons_succ, List.getElem_cons_zero, List.setIfInBounds_toArray, List.set_cons_zero, List.set_cons_succ]
              refine wpAnyH_take (i := 16) (oi := _) (v := ?_) rfl (by kernel_rfl) (by kernel_rfl) (by kernel_rfl) (fun _ _ _ h => h) (Or.inl ⟨by rfl, ?_⟩) (by assumption) ?_
              rotate_left
              · intro w hSw; (try dsimp only at hSw); go_simp; try with_reducible rfl
              try simp only [Act.put, List.getElem_toArray, List.getElem_cons_succ, List.getElem_cons_zero, List.setIfInBounds_toArray, List.set_cons_zero, List.set_cons_succ]
              refine wpAnyH_take (i := 17) (oi := _) (v := ?_) rfl (by kernel_rfl) (by kernel_rfl) (by kernel_rfl) (fun _ _ _ h => h) (Or.inl ⟨by rfl, ?_⟩) (by assumption) ?_
              rotate_left
              · intro w hSw; (try dsimp only at hSw); go_simp; try with_reducible rfl
              try simp only [Act.put, List.getElem_toArray, List.getElem_cons_succ, List.getElem_cons_zero, List.setIfInBounds_toArray, List.set_cons_zero, List.set_cons_succ]
              refine wpAnyH_take (i := 18) (oi := _) (v := ?_) rfl (by kernel_rfl) (by kernel_rfl) (by kernel_rfl) (fun _ _ _ h => h) (Or.inl ⟨by rfl, ?_⟩) (by assumption) ?_
              rotate_left
              · intro w hSw; (try dsimp only at hSw); go_simp; try with_reducible rfl
              try simp only [Act.put, List.getElem_toArray, List.getElem_cons_succ, List.getElem_cons_zero, List.setIfInBounds_toArray, List.set_cons_zero, List.set_cons_succ]
              refine wpAnyH_take (i := 19) (oi := _) (v := ?_) rfl (by kernel_rfl) (by kernel_rfl) (by kernel_rfl) (fun _ _ _ h => h) (Or.inl ⟨by rfl, ?_⟩) (by assumption) ?_
              rotate_left
              · intro w hSw; (try dsimp only at hSw); go_simp; try with_reducible rfl
              try simp only [Act.put, List.getElem_toArray, List.getElem_cons_succ, List.getElem_cons_zero, List.setIfInBounds_toArray, List.set_cons_zero, List.set_cons_succ]
              refine wpAnyH_take (i := 20) (oi := _) (v := ?_) rfl (by kernel_rfl) (by kernel_rfl) (by kernel_rfl) (fun _ _ _ h => h) (Or.inl ⟨by rfl, ?_⟩) (by assumption) ?_
              rotate_left
              · intro w hSw; (try dsimp only at hSw); go_simp; try with_reducible rfl
              try simp only [Act.put, List.getElem_toArray, List.getElem_cons_succ, List.getElem_cons_zero, List.setIfInBounds_toArray, List.set_cons_zero, List.set_cons_succ]
              refine wpAnyH_take (i := 21) (oi := _) (v := ?_) rfl (by kernel_rfl) (by kernel_rfl) (by kernel_rfl) (fun _ _ _ h => h) (Or.inl ⟨by rfl, ?_⟩) (by assumption) ?_
              rotate_left
              · intro w hSw; (try dsimp only at hSw); go_simp; try with_reducible rfl
              try simp only [Act.put, List.getElem_toArray, List.getElem_cons_succ, List.getElem_cons_zero, List.setIfInBounds_toArray, List.set_cons_zero, List.set_cons_succ]
              refine wpAnyH_take (i := 22) (oi := _) (v := ?_) rfl (by kernel_rfl) (by kernel_rfl) (by kernel_rfl) (fun _ _ _ h => h) (Or.inl ⟨by rfl, ?_⟩) (by assumption) ?_
              rotate_left
              · intro w hSw; (try dsimp only at hSw); go_simp; try with_reducible rfl
              try simp only [Act.put, List.getElem_toArray, List.getElem_cons_succ, List.getElem_cons_zero, List.setIfInBounds_toArray, List.set_cons_zero, List.set_cons_succ]
              refine wpAnyH_take (i := 23) (oi := _) (v := ?_) rfl (by kernel_rfl) (by kernel_rfl) (by kernel_rfl) (fun _ _ _ h => h) (Or.inl ⟨by rfl, ?_⟩) (by assumption) ?_
              rotate_left
              · intro w hSw; (try dsimp only at hSw); go_simp; try with_reducible rfl
              try simp only [Act.put, List.getElem_toArray, List.getElem_cons_succ, List.getElem_cons_zero, List.setIfInBounds_toArray, List.set_cons_zero, List.set_cons_succ]
              refine wpAnyH_take (i := 24) (oi := _) (v := ?_) rfl (by kernel_rfl) (by kernel_rfl) (by kernel_rfl) (fun _ _ _ h => h) (Or.inl ⟨by rfl, ?_⟩) (by assumption) ?_
              rotate_left
              · intro w hSw; (try dsimp only at hSw); go_simp; try with_reducible rfl
              try simp only [Act.put, List.getElem_toArray, List.getElem_cons_succ, List.getElem_cons_zero, List.setIfInBounds_toArray, List.set_cons_zero, List.set_cons_succ]
              refine wpAnyH_take (i := 25) (oi := _) (v := ?_) rfl (by kernel_rfl) (by kernel_rfl) (by kernel_rfl) (fun _ _ _ h => h) (Or.inl ⟨by rfl, ?_⟩) (by assumption) ?_
              rotate_left
              · intro w hSw; (try dsimp only at hSw); go_simp; try with_reducible rfl
              try simp only [Act.put, List.getElem_toArray, List.getElem_cons_succ, List.getElem_cons_zero, List.setIfInBounds_toArray, List.set_cons_zero, List.set_cons_succ]
              refine wpAnyH_take (i := 26) (oi := _) (v := ?_) rfl (by kernel_rfl) (by kernel_rfl) (by kernel_rfl) (fun _ _ _ h => h) (Or.inl ⟨by rfl, ?_⟩) (by assumption) ?_
              rotate_left
              · intro w hSw; (try dsimp only at hSw); go_simp; try with_reducible rfl
              try simp only [Act.put, List.getElem_toArray, List.getElem_cons_succ, List.getElem_cons_zero, List.setIfInBounds_toArray, List.set_cons_zero, List.set_cons_succ]
              refine wpAnyH_ready (rs := [27]) (by kernel_rfl) (by simp) ?_
              refine AllReadyH.cons (o := _) rfl (fun K hK => ?_) AllReadyH.nil
              go_simp
              go_at_call 23
              with_reducible refine (hTld.out _ hWd.out).mono ?_
              rintro e w10 ⟨rfl, tw4⟩
              refine hK.out _ _ (hSH.out _ tw4) (fun hHeld => ?_)
              clear hK K
              try simp only [Act.put, List.getElem_toArray, List.getElem_cons_succ, List.getElem_cons_zero, List.setIfInBounds_toArray, List.set_cons_zero, List.set_cons_succ]
              replace tw4 := Lib.hid tw4
              refine wpAnyH_take (i := 28) (oi := _) (v := ?_) rfl (by kernel_rfl) (by kernel_rfl) (by kernel_rfl) (fun _ _ _ h => h) (Or.inl ⟨by rfl, ?_⟩) (by assumption) ?_
              rotate_left
              · intro w hSw; (try dsimp only at hSw); go_simp; try with_reducible rfl
              try simp only [Act.put, List.getElem_toArray, List.getElem_cons_succ, List.getElem_cons_zero, List.setIfInBounds_toArray, List.set_cons_zero, List.set_cons_succ]
              refine wpAnyH_take (i := 29) (oi := _) (v := ?_) rfl (by kernel_rfl) (by kernel_rfl) (by kernel_rfl) (fun _ _ _ h => h) (Or.inl ⟨by rfl, ?_⟩) (by assumption) ?_
              rotate_left
              · intro w hSw; (try dsimp only at hSw); go_simp; try with_reducible rfl
              try simp only [Act.put, List.getElem_toArray, List.getElem_cons_succ, List.getElem_cons_zero, List.setIfInBounds_toArray, List.set_cons_zero, List.set_cons_succ]
              refine wpAnyH_done (by kernel_rfl) ?_ _
              refine NoPanic.normal ?_
              go_wp2
              go_roundg (l.length + 1 - (E + 1) + 1)
              case rel => exact ⟨E + 1, n + 1, rfl, by rw [hwE.out], by rw [hwn.out], by have := hEl.out; omega, hnd.out, hnext.out, tw4⟩
              case measure => have := hEa.out; have := hEl.out; omega
          · have g0 : decide ((a : Int) < (E : Int)) = false := decide_eq_false (by omega)
            have g1 : decide (a < E) = false := decide_eq_false hgt
            have hEq : E = a := by have := hEa.out; omega
            have hnext : segs [] (l.drop (E + 1)) = ds.drop n := by
              rw [← hsd.out, segs_zero (l := l.drop a) (by have := hE.out; omega), List.drop_drop, hEq]
            have hwE : Hid (wrap64 ((E : Int) + 1) = ((E + 1 : Nat) : Int)) := Lib.hid (by have := hEl.out; have := hll.out; unfold wrap64; omega)
            replace hgt := Lib.hid hgt
            replace hEq := Lib.hid hEq
            replace hnext := Lib.hid hnext
            replace tr := Lib.hid tr
            go_wp2
            go_roundg (l.length + 1 - (E + 1) + 1)
            case rel => exact ⟨E + 1, n, rfl, by rw [hwE.out], rfl, by have := hEl.out; omega, hnl.out, hnext.out, tr⟩
            case measure => have := hEa.out; have := hEl.out; omega
      · have k0 := nn_ge hlt
        have k1 : decide (a < l.length) = false := decide_eq_false hlt
        rw [List.drop_of_length_le (by omega)] at hsd
        have hnn : n = L3.length := by
          have h := congrArg List.length hsd
          have h1 := hLl.out
          have h2 := hts1.out
          simp [segs] at h
          omega
        subst hnn
        replace hal := Lib.hid hal
        replace hnl := Lib.hid hnl
        replace hsd := Lib.hid hsd
        replace hlt := Lib.hid hlt
        go_wp2
        go_ret
        exact ⟨by simp, tchBelow (t05.out.trans tr.out (fun _ h => h.elim))⟩
end Go.Proofs.Ytcnjmkjfgghgoaa
end
