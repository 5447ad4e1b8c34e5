/- dict of the reader. -/
import Derived.Test.YtcnjmkjfgghgoaaZt3
import Derived.Carry
section

namespace Go.Proofs.Ytcnjmkjfgghgoaa
open Go.RowKit Go.Mp Go.Tr
set_option linter.unusedVariables false
set_option maxRecDepth 100000
set_option maxHeartbeats 4000000
theorem two_ne {a b k : Nat} {o p : Obj} (h1 : a ≠ k) (h2 : b ≠ k) : ∀ x ∈ [(a, o), (b, p)], x.1 ≠ k := fun x hx => by
  simp only [List.mem_cons, List.not_mem_nil, or_false] at hx
  rcases hx with h | h
  · rw [h]; exact h1
  · rw [h]; exact h2
theorem zero4 (w : World) : (zeroValue 4).run Try.prog w = .ok (.bool false) w := by kernel_rfl
def kf (acc : List T) : ByteArray → Option Value := fun k => if (acc.any fun t => decide (t.key = k)) = true then some (.bool true) else none
theorem ent_nil : Go.Mp.Ent sk #[] 0 (kf []) := by
  obtain ⟨es, clock, h1, h2⟩ := MapS.made sk (default : World)
  rw [heap_alloc_new] at h1
  cases h1
  exact h2
theorem Ent.congr {es : Array MapEntry} {clock : Nat} {f g : ByteArray → Option Value} (h : Go.Mp.Ent sk es clock f) (e : ∀ k, f k = g k) : Go.Mp.Ent sk es clock g := by
  rw [show g = f from funext fun k => (e k).symm]; exact h
theorem kf_add (acc : List T) (v : T) (k : ByteArray) : upd (kf acc) v.key (.bool true) k = kf (acc ++ [v]) k := by
  unfold upd kf
  by_cases h : k = v.key
  · subst h; simp
  · rw [if_neg h]; simp only [List.any_append, List.any_cons, List.any_nil, Bool.or_false]
    have : decide (v.key = k) = false := decide_eq_false (fun e => h e.symm)
    rw [this, Bool.or_false]
theorem order3 {w0 w : World} {B b kb at' : Nat} {F0 F : Nat → Prop} {lv : Value} {l : List Tok} {N : List Nd} {x y z : Nat × Obj} (h : KS w0 w B F0 F b kb lv l at' N [x, y, z]) : KS w0 w B F0 F b kb lv l at' N [x, z, y] := h.less (fun a ha => by simp only [List.mem_cons, List.not_mem_nil, or_false] at ha ⊢; rcases ha with h | h | h <;> simp [h])
theorem dict_any {l : List Tok} {f : Nat} (hll : l.length < 4398046511104) (hv : ∀ g, g < f → ValueOK l g) : KidsOK 54 3 l f := by
  intro w B F b kb lv at' N d key t h hB hN hd ht hk hl
  have hkb := Lib.hid h.kl.1
  obtain ⟨w1, hw1⟩ : ∃ w1, w1 = w.alloc (tokO t 39) := ⟨_, rfl⟩
  obtain ⟨cb, hcb⟩ : ∃ cb, cb = w.heap.size := ⟨_, rfl⟩
  have hK1 : KS w w1 B F F b kb lv l at' N [(cb, tokO t 39)] := by rw [hw1, hcb]; exact KS.new ⟨h, Tch.refl _ _, fun _ h => .inl h, fun _ h => by cases h⟩ _
  obtain ⟨d0, d1, d2, d3, d4⟩ := tokO_cells (hK1.gu (cb, tokO t 39) List.mem_cons_self).1
  have hcw : w.heap.size ≤ cb := by rw [hcb]; exact Nat.le_refl _
  by_cases hf : full d N.length = true
  · have hr : blockW (loop l f) l at' d N.length key = .error (t.line, 92) := by unfold blockW; rw [ht]; simp only [if_pos hf]
    rw [hr]
    have hC := Lib.hid (begin_bad hK1.rd 2 d key t hf)
    have hT := Lib.hid hK1.t
    replace hf := Lib.hid hf
    replace hr := Lib.hid hr
    replace h := Lib.hid h
    replace hK1 := Lib.hid hK1
    replace ht := Lib.hid ht
    replace hk := Lib.hid hk
    replace hcw := Lib.hid hcw
    go_enter Try.func54, Try.ntmps54
    go_upto_region 1 with fail
    rw [show (w.alloc (tokO t 39)) = w1 from hw1.symm, ← hcb]
    replace hw1 := Lib.hid hw1
    replace hcb := Lib.hid hcb
    go_wp2_with (first
      | (go_at_call 56; refine hC.out.mono ?_; rintro e w4 ⟨he, t4⟩; simp only [faultP] at he; subst he)
      | fail)
    exact ⟨rfl, rfl, hT.out.trans t4 (fun _ h => h.elim)⟩
  have hkk := kids_of_block (lp := loop l f) (key := key) ht hf (by omega)
  rw [hk] at hkk
  replace hkk : blockW (loop l f) l at' d N.length key = match loop l f 3 t.col at' d (N.length + 1) [] with
    | .error e => .error e
    | .ok (ks, at2, made2) => .ok (.node 2 key ⟨#[]⟩ false t.line ks, at2, made2) := hkk
  obtain ⟨hd16, hn96⟩ := Go.Tr.full_false hf
  have hC := Lib.hid (begin_ok hK1.rd (Nat.le_trans hB hK1.t.size) 2 d key t (by simpa using hf) hN)
  generalize blockW (loop l f) l at' d N.length key = r at *
  have hU0 : (l[at']?).getD zero = t := by rw [ht]; rfl
  have hd1 := Lib.hid (show d + 1 ≤ 17 by omega)
  have hdw : wrap64 ((d : Int) + 1) = ((d + 1 : Nat) : Int) := by unfold wrap64; omega
  have hlen0 := Lib.hid (show N.length + 1 ≤ 4096 by omega)
  replace hkk := Lib.hid hkk
  replace hU0 := Lib.hid hU0
  replace hf := Lib.hid hf
  replace h := Lib.hid h
  replace hK1 := Lib.hid hK1
  replace ht := Lib.hid ht
  replace hk := Lib.hid hk
  replace hd16 := Lib.hid hd16
  replace hn96 := Lib.hid hn96
  replace hcw := Lib.hid hcw
  obtain ⟨i0, hi, hz0, hz1, hz2⟩ := info_parts info3
  replace hi := Lib.hid hi
  replace hz0 := Lib.hid hz0
  replace hz1 := Lib.hid hz1
  replace hz2 := Lib.hid hz2
  go_enter Try.func54, Try.ntmps54
  go_upto_region 1 with fail
  rw [show (w.alloc (tokO t 39)) = w1 from hw1.symm, ← hcb]
  replace hw1 := Lib.hid hw1
  replace hcb := Lib.hid hcb
  go_upto_region 2 with (first
    | (go_at_call 56; refine hC.out.mono ?_; clear hC; rintro e w2 ⟨he, hP⟩; subst he; obtain ⟨F2, hK2⟩ := hK1.out.post hP; rw [← openN_nil] at hK2; replace hK2 := Lib.hid hK2; clear hP)
    | fail)
  clear d0 d1 d2 d3 d4
  have hmm := @run_makeMap Try.prog
  go_upto_region 3 with fail
  obtain ⟨w3, hw3⟩ : ∃ w3, w3 = w2.alloc (.map #[] 0) := ⟨_, rfl⟩
  obtain ⟨mb, hmb⟩ : ∃ mb, mb = w2.heap.size := ⟨_, rfl⟩
  rw [← hw3, ← hmb]
  clear hmm
  have hK3 : KS w w3 B F F2 b kb lv l at' (openN N 2 key t.line []) [(mb, .map #[] 0), (cb, tokO t 39)] := by rw [hw3, hmb]; exact hK2.out.new _
  have hM3 : Go.Mp.Ent sk #[] 0 (kf []) := ent_nil
  have hmw : w.heap.size ≤ mb := by rw [hmb]; exact hK2.out.t.size
  have hmc : cb ≠ mb := nn_lb (Array.getElem?_eq_some_iff.1 (hK2.out.gu (cb, tokO t 39) List.mem_cons_self).1).1 (by rw [hmb]; exact Nat.le_refl _)
  have hNx := Lib.hid hK3.rd.next
  replace hw3 := Lib.hid hw3
  replace hmb := Lib.hid hmb
  replace hK3 := Lib.hid hK3
  replace hM3 := Lib.hid hM3
  replace hmw := Lib.hid hmw
  replace hmc := Lib.hid hmc
  go_upto_block 0 with (first
    | (go_at_call 47; refine hNx.out.mono ?_; clear hNx; rintro _ w4 ⟨rfl, _, t4⟩; have hK4 := Lib.hid (hK3.out.same t4); rw [hU0.out])
    | fail)
  obtain ⟨w5, hw5⟩ : ∃ w5, w5 = w4.alloc (tokO t 39) := ⟨_, rfl⟩
  obtain ⟨ub, hub⟩ : ∃ ub, ub = w4.heap.size := ⟨_, rfl⟩
  rw [show (w4.alloc (tokO t 39)) = w5 from hw5.symm, ← hub]
  have hK5 : KS w w5 B F F2 b kb lv l at' (openN N 2 key t.line []) [(ub, tokO t 39), (mb, .map #[] 0), (cb, tokO t 39)] := by rw [hw5, hub]; exact hK4.out.new _
  have hubw : w.heap.size ≤ ub := by rw [hub]; exact hK4.out.t.size
  have hne : cb ≠ ub := nn_lb (Array.getElem?_eq_some_iff.1 (hK4.out.gu (cb, tokO t 39) (by simp)).1).1 (by rw [hub]; exact Nat.le_refl _)
  have hme : mb ≠ ub := nn_lb (Array.getElem?_eq_some_iff.1 (hK4.out.gu (mb, .map #[] 0) (by simp)).1).1 (by rw [hub]; exact Nat.le_refl _)
  replace hw5 := Lib.hid hw5
  replace hub := Lib.hid hub
  replace hK5 := Lib.hid hK5
  replace hubw := Lib.hid hubw
  replace hne := Lib.hid hne
  replace hme := Lib.hid hme
  go_wp2
  go_loopg [11] (f + 1) (fun gg pv wr => ∃ (g at2 : Nat) (acc : List T) (F' : Nat → Prop) (ub : Nat) (es : Array MapEntry) (clock : Nat), gg = g + 1 ∧ pv = .pointer (some ⟨ub, 0, none⟩) ∧ KS w wr B F F' b kb lv l at2 (openN N 2 key t.line acc) [(ub, tokO ((l[at2]?).getD zero) 39), (mb, .map es clock), (cb, tokO t 39)] ∧ Go.Mp.Ent sk es clock (kf acc) ∧ w.heap.size ≤ ub ∧ cb ≠ ub ∧ mb ≠ ub ∧ l.length - at2 ≤ g ∧ g ≤ f ∧ loop l f 3 t.col at' d (N.length + 1) [] = loop l g 3 t.col at2 d (openN N 2 key t.line acc).length acc ∧ (openN N 2 key t.line acc).length ≤ 4096)
  case atStart => exact ⟨f, at', [], F2, ub, #[], 0, rfl, rfl, by rw [hU0.out]; exact hK5.out, hM3.out, hubw.out, hne.out, hme.out, hl, Nat.le_refl _, by rw [openN_length]; simp [sizes], by rw [openN_length]; simpa [sizes] using hlen0.out⟩
  case round =>
    clear hK1 hK2 hK3 hK4 hK5 hM3 hubw hne hme
    obtain ⟨g, at2, acc, F', ub, es, clock, rfl, rfl, hK, hM, hubw, hne, hme, hlg, hgf, hlp, hlen⟩ := hrel
    obtain ⟨U, hU⟩ : ∃ U, U = (l[at2]?).getD zero := ⟨_, rfl⟩
    rw [← hU] at hK
    obtain ⟨e0, e1, e2, e3, e4⟩ := tokO_cells (hK.gu (ub, tokO U 39) List.mem_cons_self).1
    obtain ⟨d0, d1, d2, d3, d4⟩ := tokO_cells (hK.gu (cb, tokO t 39) (by simp)).1
    replace hlp := Lib.hid hlp
    replace hubw := Lib.hid hubw
    replace hne := Lib.hid hne
    replace hme := Lib.hid hme
    replace hM := Lib.hid hM
    replace hlen := Lib.hid hlen
    by_cases k2 : U.kind = 3
    · have q2 : (U.kind == 3) = true := by rw [beq_iff_eq]; exact k2
      by_cases kc : U.col = t.col
      · have qc : (U.col == t.col) = true := by rw [beq_iff_eq]; exact kc
        have hsome := zero_or hU (by rw [k2]; decide)
        have hatl := (List.getElem?_eq_some_iff.1 hsome).1
        obtain ⟨g', rfl⟩ := nn_ex hatl hlg
        have hMS : MapS sk wr mb (kf acc) := ⟨es, clock, (hK.gu (mb, .map es clock) (by simp)).1, hM.out⟩
        have hlk : (Instr.lookup 106 (.map (some mb)) (.string U.text) false).run Try.prog wr = .ok ((kf acc U.text).getD (.bool false)) wr := hMS.look (t := 106) (e := 4) Try.underlying106 (zero4 wr) false U.text
        cases htw : (acc.any fun k => decide (k.key = U.text)) with
        | true =>
          have hx := loop_twice hsome ⟨k2, kc⟩ g' d (openN N 2 key t.line acc).length htw
          have hr' : r = .error (U.line, 91) := by rw [hkk.out, hlp.out, hx]
          rw [show kf acc U.text = some (.bool true) by unfold kf; rw [htw]; rfl] at hlk
          clear hkk hlp hx
          subst hr'
          have hT := Lib.hid hK.t
          replace hU := Lib.hid hU
          replace hsome := Lib.hid hsome
          replace hatl := Lib.hid hatl
          replace hK := Lib.hid hK
          replace hMS := Lib.hid hMS
          replace htw := Lib.hid htw
          replace k2 := Lib.hid k2
          replace kc := Lib.hid kc
          go_wp2
          exact ⟨rfl, rfl, hT.out⟩
        | false =>
          have hst := loop_key hsome ⟨k2, kc⟩ g' d (openN N 2 key t.line acc).length htw
          rw [show kf acc U.text = none by unfold kf; rw [htw]; rfl] at hlk
          obtain ⟨wm, hrun, hMm, hTm⟩ := hMS.store (t := 106) Try.underlying106 U.text (.bool true)
          replace hrun : (Instr.mapUpdate 106 (.map (some mb)) (.string U.text) (.bool true)).run Try.prog wr = .ok () wm := hrun
          obtain ⟨es2, clock2, hes2, hMm⟩ := hMm
          have hmbl := (Array.getElem?_eq_some_iff.1 (hK.gu (mb, .map es clock) (by simp)).1).1
          have hKm : KS w wm B F F' b kb lv l at2 (openN N 2 key t.line acc) [(mb, .map es2 clock2), (ub, tokO U 39), (cb, tokO t 39)] := (hK.less (gs' := [(mb, .map es clock), (ub, tokO U 39), (cb, tokO t 39)]) (fun a ha => by simp only [List.mem_cons, List.not_mem_nil, or_false] at ha ⊢; rcases ha with h | h | h <;> simp [h])).write (two_ne hme.out.symm hmc.out) hmw.out (nn_lb hkb.out hmw.out) (Tch.turned hTm rfl) hes2
          obtain ⟨n, hn⟩ : ∃ n, n = (l[at2 + 1]?).getD zero := ⟨_, rfl⟩
          rw [← hn] at hst
          obtain ⟨f1, c1, hA, tA⟩ := hKm.rd.setAt (at2 + 1)
          have hcast := nn_cast at2
          rw [hcast] at hA tA
          replace hcast := Lib.hid hcast
          obtain ⟨wa, hwa⟩ : ∃ wa, wa = wm.setCell ⟨b, 1, none⟩ (.int .i64 ((at2 : Int) + 1)) := ⟨_, rfl⟩
          rw [← hwa] at hA tA
          obtain ⟨Fa, hKa⟩ := hKm.post ⟨F', hA, tA, fun _ h => .inl h⟩
          have hwk := nn_succ hatl (Nat.lt_trans hll (by decide))
          have hNx := hKa.rd.next
          rw [← hn] at hNx
          have hvo := hv g' hgf
          have hlg' : l.length - (at2 + 1) ≤ g' := nn_fuel hlg
          have hgf' : g' ≤ f := Nat.le_of_succ_le hgf
          replace hU := Lib.hid hU
          replace hn := Lib.hid hn
          replace hsome := Lib.hid hsome
          replace hatl := Lib.hid hatl
          replace hst := Lib.hid hst
          replace hK := Lib.hid hK
          replace hKm := Lib.hid hKm
          replace hKa := Lib.hid hKa
          replace hNx := Lib.hid hNx
          replace hA := Lib.hid hA
          replace tA := Lib.hid tA
          replace hvo := Lib.hid hvo
          replace hlg' := Lib.hid hlg'
          replace hgf' := Lib.hid hgf'
          replace k2 := Lib.hid k2
          replace kc := Lib.hid kc
          replace hMS := Lib.hid hMS
          replace hMm := Lib.hid hMm
          replace hTm := Lib.hid hTm
          replace hes2 := Lib.hid hes2
          replace hmbl := Lib.hid hmbl
          replace htw := Lib.hid htw
          go_upto_region 10 with fail
          rw [← hwa]
          replace hwa := Lib.hid hwa
          clear c1 f1 e0 e1 e2 e3 e4 d0 d1 d2 d3 d4 hlk hrun
          go_upto_region 11 with (first
            | (go_at_call 47; refine hNx.out.mono ?_; clear hNx; rintro _ wb ⟨rfl, _, tb⟩; have hKb := Lib.hid (hKa.out.same tb); clear tb)
            | fail)
          obtain ⟨wc', hwc⟩ : ∃ wc', wc' = wb.alloc (tokO n 39) := ⟨_, rfl⟩
          obtain ⟨nb, hnb⟩ : ∃ nb, nb = wb.heap.size := ⟨_, rfl⟩
          rw [show (wb.alloc (tokO n 39)) = wc' from hwc.symm, ← hnb]
          have hKc : KS w wc' B F Fa b kb lv l (at2 + 1) (openN N 2 key t.line acc) [(nb, tokO n 39), (mb, .map es2 clock2), (ub, tokO U 39), (cb, tokO t 39)] := by rw [hwc, hnb]; exact hKb.out.new _
          obtain ⟨e0, e1, e2, e3, e4⟩ := tokO_cells (hKc.gu (ub, tokO U 39) (by simp)).1
          obtain ⟨n0, n1, n2, n3, n4⟩ := tokO_cells (hKc.gu (nb, tokO n 39) (by simp)).1
          have hCv := hvo.out wc' B Fa b kb lv (at2 + 1) (openN N 2 key t.line acc) (d + 1) U.text (isVal 3 U n) U hKc.rd (Nat.le_trans hB hKc.t.size) hlen.out hd1.out hlg'.out
          replace hst := hst.out
          generalize hrv : valueW (loop l g') l (isVal 3 U n) U (at2 + 1) (d + 1) (openN N 2 key t.line acc).length U.text = rv at hst hCv
          replace hst := Lib.hid hst
          replace hwc := Lib.hid hwc
          replace hnb := Lib.hid hnb
          replace hKc := Lib.hid hKc
          replace hrv := Lib.hid hrv
          replace hCv := Lib.hid hCv
          go_cut [13] (fun bv wx => bv = .bool (isVal 3 U n) ∧ wx = wc')
          case first =>
            have hiv : isVal 3 U n = (decide (n.line = U.line) && decide (n.kind = 4) || !decide (n.line = U.line) && (decide (U.col < n.col) || decide (n.kind = 2) && decide (n.col = U.col))) := rfl
            replace hiv := Lib.hid hiv
            by_cases ka : n.line = U.line
            · have qa : (n.line == U.line) = true := by rw [beq_iff_eq]; exact ka
              have qa' : (n.line != U.line) = false := by simp [ka]
              by_cases k4 : n.kind = 4
              · have q4 : (n.kind == 4) = true := by rw [beq_iff_eq]; exact k4
                have hfin : isVal 3 U n = true := by rw [hiv.out]; simp [ka, k4]
                replace ka := Lib.hid ka
                replace k4 := Lib.hid k4
                replace hfin := Lib.hid hfin
                go_wp2
                go_meet
                exact ⟨by rw [hfin.out], rfl⟩
              · have q4 : (n.kind == 4) = false := by rw [beq_eq_false_iff_ne]; exact k4
                have hfin : isVal 3 U n = false := by rw [hiv.out]; simp [ka, k4]
                replace ka := Lib.hid ka
                replace k4 := Lib.hid k4
                replace hfin := Lib.hid hfin
                go_wp2
                go_meet
                exact ⟨by rw [hfin.out], rfl⟩
            · have qa : (n.line == U.line) = false := by rw [beq_eq_false_iff_ne]; exact ka
              have qa' : (n.line != U.line) = true := by simp [bne, qa]
              by_cases kg : U.col < n.col
              · have qg : decide (U.col < n.col) = true := decide_eq_true kg
                have hfin : isVal 3 U n = true := by rw [hiv.out]; simp [ka, kg]
                replace ka := Lib.hid ka
                replace hfin := Lib.hid hfin
                go_wp2
                go_meet
                exact ⟨by rw [hfin.out], rfl⟩
              · have qg : decide (U.col < n.col) = false := decide_eq_false kg
                by_cases k5 : n.kind = 2
                · have q5 : (n.kind == 2) = true := by rw [beq_iff_eq]; exact k5
                  obtain ⟨x, hx⟩ : ∃ x, (n.col == U.col) = x := ⟨_, rfl⟩
                  have hfin : isVal 3 U n = x := by rw [hiv.out, show decide (n.col = U.col) = (n.col == U.col) from rfl, hx]; simp [ka, kg, k5]
                  replace ka := Lib.hid ka
                  replace k5 := Lib.hid k5
                  replace kg := Lib.hid kg
                  replace hfin := Lib.hid hfin
                  go_wp2
                  go_meet
                  exact ⟨by rw [hfin.out], rfl⟩
                · have q5 : (n.kind == 2) = false := by rw [beq_eq_false_iff_ne]; exact k5
                  have hfin : isVal 3 U n = false := by rw [hiv.out]; simp [ka, kg, k5]
                  replace ka := Lib.hid ka
                  replace k5 := Lib.hid k5
                  replace kg := Lib.hid kg
                  replace hfin := Lib.hid hfin
                  go_wp2
                  go_meet
                  exact ⟨by rw [hfin.out], rfl⟩
          case rest =>
            obtain ⟨rfl, rfl⟩ := hcut
            rcases rv with ⟨ln, er⟩ | ⟨v, at3, made3⟩
            · have hr' : r = .error (ln, er) := by rw [hkk.out, hlp.out, hst.out]
              clear hkk hlp hst
              subst hr'
              go_wp2_with (first
                | (go_at_call 65; refine hCv.out.mono ?_; rintro e wd ⟨he, td⟩; simp only [faultP] at he; subst he)
                | fail)
              exact ⟨rfl, rfl, hKc.out.t.trans td hKc.out.fs⟩
            · have hlp2 : loop l f 3 t.col at' d (N.length + 1) [] = loop l g' 3 t.col at3 d (openN N 2 key t.line (acc ++ [v])).length (acc ++ [v]) ∧ l.length - at3 ≤ g' ∧ (openN N 2 key t.line (acc ++ [v])).length ≤ 4096 := by
                obtain ⟨h1, h2, _⟩ := value_goes (loop_goes l g') hrv.out
                have h3 := value_caps (loop_caps l g') hlen.out hrv.out
                have h4 : (openN N 2 key t.line (acc ++ [v])).length = made3 := by rw [openN_length]; exact nn_made (by rw [h2, openN_length])
                exact ⟨by rw [hlp.out, hst.out, h4], nn_fuel2 hlg'.out h1, by rw [h4]; exact h3⟩
              replace hlp2 := Lib.hid hlp2
              have hE : Hid (Go.Mp.Ent sk es2 clock2 (kf (acc ++ [v]))) := Lib.hid (Ent.congr hMm.out (fun k => by rw [← (value_goes (loop_goes l g') hrv.out).2.2]; exact kf_add acc v k))
              go_upto_region 13 with (first
                | (go_at_call 65; refine hCv.out.mono ?_; clear hCv; rintro e wd ⟨he, hPd⟩; subst he; obtain ⟨Fd, hKd⟩ := hKc.out.post hPd; replace hKd := Lib.hid hKd; clear hPd)
                | fail)
              have hKdd := Lib.hid (hKd.out.same (Tch.drew No wd))
              obtain ⟨g2, cap, m, kv, hm, him, _, c2, c5, hrk, hset⟩ := hKdd.out.rd.kidOf (openN_at N 2 key t.line acc _)
              obtain ⟨ko, kcp, rfl⟩ := ownsRow_shape hrk
              obtain ⟨kl, hkl⟩ : ∃ kl, kl = (kidAts (N.length + 1) acc).length := ⟨_, rfl⟩
              have hkl2 : kl ≤ 4096 := by rw [hkl, kidAts_length]; exact nn_kl (by rw [← openN_length N 2 key t.line acc]; exact hlen.out) (le_sizes acc)
              rw [← hkl] at c5 hrk hset
              replace c2 : wd.cell? ⟨b, 2, none⟩ = some (.slice (some ⟨g2, 0, none⟩) m cap) := c2
              replace c5 : wd.cell? ⟨g2, N.length * 6 + 5, none⟩ = some (.slice ko kl kcp) := c5
              have c2' : (wd.alloc (.cells #[.int .i64 (openN N 2 key t.line acc).length] 3)).cell? ⟨b, 2, none⟩ = some (.slice (some ⟨g2, 0, none⟩) m cap) := (Tch.alloc No wd _).cell_some c2 id
              have c5' : (wd.alloc (.cells #[.int .i64 (openN N 2 key t.line acc).length] 3)).cell? ⟨g2, N.length * 6 + 5, none⟩ = some (.slice ko kl kcp) := (Tch.alloc No wd _).cell_some c5 id
              have him' := nn_lt him
              have hBd : B ≤ wd.drew.heap.size := Nat.le_trans hB hKdd.out.t.size
              replace hrk := Lib.hid hrk
              replace hset := Lib.hid hset
              replace hm := Lib.hid hm
              replace hkl := Lib.hid hkl
              replace hBd := Lib.hid hBd
              replace hkl2 := Lib.hid hkl2
              clear him n0 n1 n2 n3 n4 e0 e1 e2 e3 e4
              go_region_law ((refine step_append_us rfl _ _ 56 (by rfl) B 3 i0 (.int .i64 0) 1 8 Try.underlying56 hi.out hz0.out hz1.out hz2.out rfl (by decide) _ kl (icells (kidAts (N.length + 1) acc)) (by rfl) hrk.out 1 (by rfl) rfl (by simp [Value.oneCell']) (nn_room hkl2.out).1 (nn_room hkl2.out).2 hBd.out ?_; intro v7 w7 hr7 hg7 hl7; obtain ⟨no, ncp, rfl⟩ := ownsRow_shape hr7; obtain ⟨e7, f7, b7, hP7⟩ := hset.out w7 _ _ hr7 (Tch.grown (S := fun z => (Value.slice ko kl kcp).ownBlock = some z) hg7 (fun z hz => .inl hz)) hl7; replace hP7 := Lib.hid hP7; replace hr7 := Lib.hid hr7; clear hg7 hl7))
              all_goals
                obtain ⟨Fe, hKe⟩ := hKdd.out.post hP7.out
                rw [openN_kid] at hKe
                obtain ⟨we, hwe⟩ : ∃ we, we = w7.setCell ⟨g2, N.length * 6 + 5, none⟩ (.slice no (kl + 1) ncp) := ⟨_, rfl⟩
                rw [← hwe] at hKe ⊢
                replace hwe := Lib.hid hwe
                have hKe' := hKe.less (gs' := [(cb, tokO t 39), (mb, .map es2 clock2)]) (fun a ha => by simp only [List.mem_cons, List.not_mem_nil, or_false] at ha ⊢; rcases ha with h | h <;> simp [h])
                obtain ⟨e0, e1, e2, e3, e4⟩ := tokO_cells (hKe.gu (ub, tokO U 39) (by simp)).1
                replace hKe := Lib.hid hKe
                have hcbl := (Array.getElem?_eq_some_iff.1 (hKe'.gu (cb, tokO t 39) (by simp)).1).1
                obtain ⟨wf, hwf⟩ : ∃ wf, wf = we.alloc (tokO U 39) := ⟨_, rfl⟩
                obtain ⟨vb, hvb⟩ : ∃ vb, vb = we.heap.size := ⟨_, rfl⟩
                have hKf : KS w wf B F Fe b kb lv l at3 (openN N 2 key t.line (acc ++ [v])) [(vb, tokO U 39), (cb, tokO t 39), (mb, .map es2 clock2)] := by rw [hwf, hvb]; exact hKe'.new _
                have hvw : w.heap.size ≤ vb := by rw [hvb]; exact hKe'.t.size
                have hcv : cb ≠ vb := nn_lb hcbl (by rw [hvb]; exact Nat.le_refl _)
                have hmv : mb ≠ vb := nn_lb ((Array.getElem?_eq_some_iff.1 (hKe'.gu (mb, .map es2 clock2) (by simp)).1).1) (by rw [hvb]; exact Nat.le_refl _)
                replace hmv := Lib.hid hmv
                have hNg := hKf.rd.next
                replace hKe' := Lib.hid hKe'
                replace hKf := Lib.hid hKf
                replace hNg := Lib.hid hNg
                replace hvw := Lib.hid hvw
                replace hcv := Lib.hid hcv
                replace hcbl := Lib.hid hcbl
                clear c2 c5 c2' c5' e7 f7 b7
                go_upto_region 5 with fail
                rw [show (we.alloc (tokO U 39)) = wf from hwf.symm, ← hvb]
                replace hwf := Lib.hid hwf
                replace hvb := Lib.hid hvb
                clear e0 e1 e2 e3 e4
                go_wp2_with (first
                  | (go_at_call 47; refine hNg.out.mono ?_; clear hNg; rintro _ wg ⟨rfl, _, tg⟩; have hKg := Lib.hid (hKf.out.same tg); have hvx := (hKg.out.gu (vb, tokO U 39) List.mem_cons_self).1; obtain ⟨e0, e1, e2, e3, e4⟩ := tokO_cells hvx; have f0 : wg.frozen? ⟨vb, 0, none⟩ = false := frozen_of_row _ _ _ _ _ hvx; have f1 : wg.frozen? ⟨vb, 1, none⟩ = false := frozen_of_row _ _ _ _ _ hvx; have f2 : wg.frozen? ⟨vb, 2, none⟩ = false := frozen_of_row _ _ _ _ _ hvx; have f3 : wg.frozen? ⟨vb, 3, none⟩ = false := frozen_of_row _ _ _ _ _ hvx; have f4 : wg.frozen? ⟨vb, 4, none⟩ = false := frozen_of_row _ _ _ _ _ hvx; replace hvx := Lib.hid hvx; clear tg)
                  | fail)
                go_roundg (g' + 1)
                case rel =>
                  obtain ⟨h5, t5⟩ := set5 hvx.out (.int .i64 ((l[at3]?).getD zero).kind) (.int .i64 ((l[at3]?).getD zero).line) (.int .i64 ((l[at3]?).getD zero).col) (.string ((l[at3]?).getD zero).text) (.bool ((l[at3]?).getD zero).quoted)
                  exact ⟨g', at3, acc ++ [v], Fe, vb, es2, clock2, rfl, rfl, order3 (hKg.out.write (o' := tokO ((l[at3]?).getD zero) 39) (two_ne hcv.out hmv.out) hvw.out (nn_lb hkb.out hvw.out) t5 h5), hE.out, hvw.out, hcv.out, hmv.out, hlp2.out.2.1, hgf'.out, hlp2.out.1, hlp2.out.2.2⟩
                case measure => exact Nat.lt_succ_self _
      · have qc : (U.col == t.col) = false := by rw [beq_eq_false_iff_ne]; exact kc
        have hx := loop_stops hU (show ¬ (U.kind = 3 ∧ U.col = t.col) from fun h => kc h.2) g d (openN N 2 key t.line acc).length acc
        have hr' : r = .ok (.node 2 key ⟨#[]⟩ false t.line acc, at2, (openN N 2 key t.line acc).length) := by rw [hkk.out, hlp.out, hx]
        clear hkk hlp hx
        subst hr'
        replace hU := Lib.hid hU
        replace hK := Lib.hid hK
        replace k2 := Lib.hid k2
        replace kc := Lib.hid kc
        go_wp2
        go_ret
        exact ⟨rfl, by rw [← openN_lay]; exact ⟨F', hK.out.rd, hK.out.t, hK.out.fs⟩⟩
    · have q2 : (U.kind == 3) = false := by rw [beq_eq_false_iff_ne]; exact k2
      have hx := loop_stops hU (show ¬ (U.kind = 3 ∧ U.col = t.col) from fun h => k2 h.1) g d (openN N 2 key t.line acc).length acc
      have hr' : r = .ok (.node 2 key ⟨#[]⟩ false t.line acc, at2, (openN N 2 key t.line acc).length) := by rw [hkk.out, hlp.out, hx]
      clear hkk hlp hx
      subst hr'
      replace hU := Lib.hid hU
      replace hK := Lib.hid hK
      replace k2 := Lib.hid k2
      go_wp2
      go_ret
      exact ⟨rfl, by rw [← openN_lay]; exact ⟨F', hK.out.rd, hK.out.t, hK.out.fs⟩⟩
end Go.Proofs.Ytcnjmkjfgghgoaa
end
