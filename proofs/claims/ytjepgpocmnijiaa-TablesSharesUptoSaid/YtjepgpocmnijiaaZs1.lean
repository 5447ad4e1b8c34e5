/- The laws' own comparison of resources, of what is the same; and stay. -/
import Derived.Test.YtjepgpocmnijiaaZs0
import Derived.Test.YtjepgpocmnijiaaZb34
import Derived.Test.YtjepgpocmnijiaaZb18
import Derived.Laws.Externs
section
/- What the document has reckoned of splits: how it lies, where a split is in it, and one split's shares. -/
namespace Go.Proofs.Ytjepgpocmnijiaa
open Go.RowKit Go.Mp Go.Ck Fl
set_option linter.unusedVariables false
set_option maxRecDepth 100000
set_option maxHeartbeats 4000000
abbrev Kn := List (ByteArray × Value)
def nmV (p : ByteArray × Value) : Value := .string p.1
/-- Splits that were reckoned, in memory. -/
structure KS (W0 w : World) (l : List Res) (kb : Nat) (K : Kn) (nv sv : Value) : Prop where
  bel : Below W0.heap.size W0 w
  le : W0.heap.size ≤ kb
  box : w.heap[kb]? = some (.cells #[nv, sv] 149 (0, 0))
  rn : w.ownsRow W0.heap.size 9 1 nv K.length (K.map nmV)
  rs : w.ownsRow W0.heap.size 67 1 sv K.length (K.map Prod.snd)
  ok : ∀ p ∈ K, OwnS w W0.heap.size p.2 (shOf l p.1) ∧ has l 2 p.1 = true
  nd : (K.map Prod.fst).Nodup
theorem KS.below {W0 w w' : World} {l : List Res} {kb : Nat} {K : Kn} {nv sv : Value} (h : KS W0 w l kb K nv sv) (hb : Below w.heap.size w w') : KS W0 w' l kb K nv sv :=
  ⟨h.bel.trans (hb.mono h.bel.size), h.le, (hb.block kb (Array.getElem?_eq_some_iff.1 h.box).1).trans h.box, ownsRow_tch h.rn (Tch.of_below (S := fun _ => False) hb) (fun _ _ q => q), ownsRow_tch h.rs (Tch.of_below (S := fun _ => False) hb) (fun _ _ q => q), fun p hp => ⟨(h.ok p hp).1.tch (Tch.of_below (S := fun _ => False) hb) (fun _ _ q => q), (h.ok p hp).2⟩, h.nd⟩
def atB (K : Kn) (n : ByteArray) (m : Nat) : Bool := match K[m]? with
  | some p => p.1.toList == n.toList
  | none => false
theorem atB_at {K : Kn} {n : ByteArray} {m : Nat} {p : ByteArray × Value} (h : K[m]? = some p) : atB K n m = (p.1.toList == n.toList) := by unfold atB; rw [h]
def atK (K : Kn) (n : ByteArray) : Int := firstN K.length (atB K n)
/-- Is a split known? -/
def inK (K : Kn) (n : ByteArray) : Prop := ∃ p ∈ K, p.1 = n
theorem atK_cases (K : Kn) (n : ByteArray) : (atK K n = -1 ∧ ¬ inK K n) ∨ ∃ (i : Nat) (p : ByteArray × Value), atK K n = i ∧ i < K.length ∧ K[i]? = some p ∧ p.1 = n := by
  unfold atK
  rcases firstN_cases K.length (atB K n) with ⟨e, h⟩ | ⟨i, hi, e, h1, _⟩
  · refine .inl ⟨e, fun ⟨p, hp, hn⟩ => ?_⟩
    obtain ⟨j, hj⟩ := List.mem_iff_getElem?.1 hp
    have := h j (List.getElem?_eq_some_iff.1 hj).1
    rw [atB_at hj, hn] at this
    simp at this
  · have hx : K[i]? = some K[i] := List.getElem?_eq_getElem hi
    rw [atB_at hx] at h1
    exact .inr ⟨i, K[i], e, hi, hx, seq_iff.1 h1⟩
theorem at97 {W0 w : World} {l : List Res} {kb : Nat} {K : Kn} {nv sv : Value} (h : KS W0 w l kb K nv sv) (hl : K.length ≤ 1048576) (n : ByteArray) : Calls Try.prog 97 #[.pointer (some ⟨kb, 0, none⟩), .string n] w fun e w' => e = .returned (.int .i64 (atK K n)) ∧ w = w' := by
  obtain ⟨no, nc, rfl⟩ := ownsRow_shape h.rn
  have c0 : w.cell? ⟨kb, 0, none⟩ = some (.slice no K.length nc) := box_at h.box (j := 0) rfl
  unfold atK
  replace h := Lib.hid h
  go_enter Try.func97, Try.ntmps97
  go_wp2
  go_loopg [5] (K.length + 1) (fun gg ic wr => ∃ i : Nat, gg = K.length - i + 1 ∧ i ≤ K.length ∧ ic = .int .i64 i ∧ Hid (∀ j, j < i → atB K n j = false) ∧ Hid (wr = w))
  case atStart => exact ⟨0, rfl, Nat.zero_le _, rfl, Lib.hid (fun j hj => absurd hj (Nat.not_lt_zero j)), Lib.hid rfl⟩
  case round =>
    obtain ⟨i, rfl, hi, rfl, hno, hw⟩ := hrel
    have hw' := hw.out
    clear hw
    subst hw'
    by_cases hlt : i < K.length
    · obtain ⟨p, hp⟩ : ∃ p, K[i]? = some p := ⟨_, List.getElem?_eq_getElem hlt⟩
      obtain ⟨g, hg, _, _, cp, _⟩ := ownsRow_cell h.out.rn (j := i) (u := .string p.1) (by rw [List.getElem?_map, hp]; rfl)
      subst hg
      have hk0 : (i : Int) < (K.length : Int) := nn_lt hlt
      have hwk := Lib.hid (nn_succ2 hlt (by omega))
      have hix := atB_at (n := n) hp
      obtain ⟨cv, hcv⟩ : ∃ b, (p.1.toList == n.toList) = b := ⟨_, rfl⟩
      rw [hcv] at hix
      cases cv with
      | true =>
        have hf := firstN_at hno.out hlt hix
        replace hix := Lib.hid hix
        replace hf := Lib.hid hf
        replace hno := Lib.hid hno
        replace hp := Lib.hid hp
        go_wp2
        go_ret
        exact ⟨ret_i hf.out.symm, rfl⟩
      | false =>
        have hno2 := no_upto hno.out hix
        replace hix := Lib.hid hix
        replace hno := Lib.hid hno
        replace hno2 := Lib.hid hno2
        replace hp := Lib.hid hp
        go_wp2
        go_roundg (K.length - (i + 1) + 1)
        case rel => exact ⟨i + 1, rfl, hlt, by first | rw [hwk.out] | go_num, hno2, Lib.hid rfl⟩
        case measure => exact nn_downS hlt
    · have hk0 : decide ((i : Int) < (K.length : Int)) = false := decide_eq_false (by omega)
      have hk1 : ¬ (i : Int) < (K.length : Int) := by omega
      have hf := firstN_none (n := K.length) (fun j hj => hno.out j (by omega))
      replace hf := Lib.hid hf
      replace hno := Lib.hid hno
      go_wp2
      go_ret
      exact ⟨ret_i hf.out.symm, rfl⟩
end Go.Proofs.Ytjepgpocmnijiaa
end

section
/- One split's shares, as the document reckons them. -/
namespace Go.Proofs.Ytjepgpocmnijiaa
open Go.RowKit Go.Mp Go.Ck Fl
set_option linter.unusedVariables false
set_option maxRecDepth 100000
set_option maxHeartbeats 4000000
/-- Are all parts of a split known? -/
def allIn (K : Kn) (ts : List Tgt) : Prop := ∀ t ∈ ts, noS t.service = true → inK K t.split
def OneO (w : World) (l : List Res) (K : Kn) (n : ByteArray) (e : Ending) (w' : World) : Prop := Below w.heap.size w w' ∧
  ((allIn K (tgtsOf l n) ∧ ∃ v', e = .returned (.tuple #[v', .bool true]) ∧ OwnS w' w.heap.size v' (shOf l n)) ∨ (¬ allIn K (tgtsOf l n) ∧ e = .returned (.tuple #[.slice none 0 0, .bool false])))
theorem one134 {W0 w : World} {l : List Res} {kb : Nat} {K : Kn} {nv sv : Value} (hC : Cfg l) (h : KS W0 w l kb K nv sv) (hl : K.length ≤ 1048576) (r : Res) (ev tv rv : Value) (hp : RP w r ev tv rv) (hn : has l 2 r.name = true) (ht : tgtsOf l r.name = r.tgts) :
    Calls Try.prog 134 #[.pointer (some ⟨kb, 0, none⟩), .agg #[.int .i64 r.kind, .string r.name, ev, tv, .string r.host, rv, .string r.route, .bool r.del]] w (OneO w l K r.name) := by
  obtain ⟨eo, ec, rfl⟩ := slice_shape hp.e
  obtain ⟨ta, tc, rfl⟩ := slice_shape hp.t
  obtain ⟨ra, rc, rfl⟩ := slice_shape hp.ru
  have htl := hp.t.1
  obtain ⟨hof, hofl⟩ := hC.of hn
  rw [ht] at hof hofl
  have hkn := hC.known hn
  have hst := fun i hi => step_take hC hn i hi
  rw [ht] at hst
  have hfin := shOf_eq hkn
  rw [ht] at hfin
  obtain ⟨w1, hw1⟩ : ∃ w1, w1 = w.alloc (.cells #[.int .i64 r.kind, .string r.name, .slice eo r.eps.length ec, .slice ta r.tgts.length tc, .string r.host, .slice ra r.rules.length rc, .string r.route, .bool r.del] 52) := ⟨_, rfl⟩
  obtain ⟨bk, hbk⟩ : ∃ bk, bk = w.heap.size := ⟨_, rfl⟩
  have hbx : w1.heap[bk]? = some (.cells #[.int .i64 r.kind, .string r.name, .slice eo r.eps.length ec, .slice ta r.tgts.length tc, .string r.host, .slice ra r.rules.length rc, .string r.route, .bool r.del] 52 (0, 0)) := by rw [hw1, hbk]; exact heap_alloc_new w _
  have hb1 : Below w.heap.size w w1 := by rw [hw1]; exact alloc_below _ _
  have hK1 := h.below hb1
  have hp1 := hp.below hb1
  have hbkl : bk < w1.heap.size := (Array.getElem?_eq_some_iff.1 hbx).1
  have hO0 : Hid (OwnS w1 w1.heap.size (.slice none 0 0) (shStep (shOf l) (r.tgts.take 0))) := Lib.hid ⟨World.ownsRow_nil _ _ _ _, fun s hs => by cases hs⟩
  obtain ⟨no, nc, rfl⟩ := ownsRow_shape h.rn
  obtain ⟨so, sc, rfl⟩ := ownsRow_shape h.rs
  have hall0 : Hid (∀ j t, j < 0 → r.tgts[j]? = some t → noS t.service = true → inK K t.split) := Lib.hid (fun j t hj => absurd hj (Nat.not_lt_zero j))
  replace h := Lib.hid h
  replace hp := Lib.hid hp
  replace hof := Lib.hid hof
  replace hofl := Lib.hid hofl
  replace hst := Lib.hid hst
  replace hfin := Lib.hid hfin
  replace hkn := Lib.hid hkn
  replace hn := Lib.hid hn
  replace ht := Lib.hid ht
  replace hbx := Lib.hid hbx
  replace hb1 := Lib.hid hb1
  replace hK1 := Lib.hid hK1
  replace hp1 := Lib.hid hp1
  go_enter Try.func134, Try.ntmps134
  go_upto_region 1 with fail
  rw [← hw1, ← hbk]
  replace hw1 := Lib.hid hw1
  replace hbk := Lib.hid hbk
  go_wp2
  go_loopg [6, 7] (r.tgts.length + 1) (fun gg lv ic wr => ∃ i : Nat, gg = r.tgts.length - i + 1 ∧ i ≤ r.tgts.length ∧ ic = .int .i64 i ∧ Hid (OwnS wr w1.heap.size lv (shStep (shOf l) (r.tgts.take i))) ∧ Hid (∀ j t, j < i → r.tgts[j]? = some t → noS t.service = true → inK K t.split) ∧ Hid (Below w1.heap.size w1 wr))
  case atStart => exact ⟨0, rfl, Nat.zero_le _, rfl, hO0, hall0, Lib.hid (Below.refl _ _)⟩
  case round =>
    obtain ⟨i, rfl, hi, rfl, hO, hin, hbw⟩ := hrel
    obtain ⟨lo, lc, rfl⟩ := ownsRow_shape hO.out.row
    have hbxr := (hbw.out.block bk hbkl).trans hbx.out
    have r3 : wr.cell? ⟨bk, 3, none⟩ = some (.slice ta r.tgts.length tc) := box_at hbxr (j := 3) rfl
    obtain ⟨hbd, hap, hln⟩ := hst.out i hi
    by_cases hlt : i < r.tgts.length
    · obtain ⟨t, htt⟩ : ∃ t, r.tgts[i]? = some t := ⟨_, List.getElem?_eq_getElem hlt⟩
      obtain ⟨rb, roff, rfl, _, e0, e1, e2, s0, s1, _⟩ := tgt_at hp1.out.t hbw.out htt
      have hk0 : (i : Int) < (r.tgts.length : Int) := nn_lt hlt
      have hwk := Lib.hid (nn_succ2 hlt htl)
      have hmem := List.mem_of_getElem? htt
      obtain ⟨ho1, ho2, ho3⟩ := hof.out t hmem
      obtain ⟨hd1, hd2⟩ := fdiv_ok ho2 ho3
      have hdv : ∀ w, (binOp .quo 55 (.float .f64 t.weight) (.float .f64 4636737291354636288)).run Try.prog w = .ok (.float .f64 (fdiv t.weight HUN)) w := run_div hd1
      have hsn := step_snoc (e := shOf l) htt
      unfold tgtS at hsn
      generalize hq : fdiv t.weight HUN = q at *
      obtain ⟨a, ha⟩ : ∃ a, a = shStep (shOf l) (r.tgts.take i) := ⟨_, rfl⟩
      rw [← ha] at hsn hbd hap hln hO ⊢
      have hti : i + 1 ≤ 1048577 := by have := hofl.out; omega
      have hKr := hK1.out.below hbw.out
      cases hs : t.service.toList.isEmpty with
      | true =>
        rw [if_pos (show noS t.service = true from hs)] at hsn
        have h97 := at97 hKr hl t.split
        rcases atK_cases K t.split with ⟨hat, hnin⟩ | ⟨ix, p, hat, hix, hpx, hpn⟩
        · rw [hat] at h97
          have hnall : ¬ allIn K (tgtsOf l r.name) := fun q => hnin (q t (by rw [ht.out]; exact hmem) hs)
          replace hsn := Lib.hid hsn
          replace hbd := Lib.hid hbd
          replace hap := Lib.hid hap
          replace ha := Lib.hid ha
          replace ho1 := Lib.hid ho1
          replace ho2 := Lib.hid ho2
          replace ho3 := Lib.hid ho3
          replace hd1 := Lib.hid hd1
          replace hd2 := Lib.hid hd2
          replace htt := Lib.hid htt
          replace hmem := Lib.hid hmem
          replace hq := Lib.hid hq
          replace hat := Lib.hid hat
          replace hnin := Lib.hid hnin
          replace hKr := Lib.hid hKr
          replace h97 := Lib.hid h97
          replace hnall := Lib.hid hnall
          replace hbxr := Lib.hid hbxr
          go_wp2_with (first
            | (go_at_call 97; (with_reducible refine h97.out.mono ?_); rintro e w3 ⟨rfl, rfl⟩)
            | fail)
          refine bodyPost_ret (v := .tuple #[.slice none 0 0, .bool false]) (by simp [results, Try.results134, go_sem]) rfl ⟨seq_below hb1.out hbw.out, .inr ⟨hnall.out, rfl⟩⟩
        · rw [hat] at h97
          have g0 : decide ((ix : Int) < 0) = false := decide_eq_false (by omega)
          have g1 : ¬ (ix : Int) < 0 := by omega
          have hin2 : ∀ j t', j < i + 1 → r.tgts[j]? = some t' → noS t'.service = true → inK K t'.split := fun j t' hj h1 h2 => by
            rcases Nat.lt_succ_iff_lt_or_eq.1 hj with h3 | h3
            · exact hin.out j t' h3 h1 h2
            · rw [h3, htt] at h1
              cases h1
              exact ⟨p, List.mem_of_getElem? hpx, hpn⟩
          obtain ⟨sub, hsub⟩ : ∃ sub, sub = shOf l t.split := ⟨_, rfl⟩
          have hsb := shOf_bd hC t.split
          have hsa := shOf_apart l t.split
          have hsl := shOf_len hC t.split
          rw [← hsub] at hsb hsa hsl hsn
          obtain ⟨po, pc, hpv⟩ := ownsRow_shape (hKr.ok p (List.mem_of_getElem? hpx)).1.row
          rw [hpn, ← hsub] at hpv
          have hB0 : Hid (∃ f, SubB 160 i 0 q a sub f) := Lib.hid ⟨_, SubB.zero hbd⟩
          have ha0 : Hid (a = addL q a (sub.take 0)) := Lib.hid (by rw [List.take_zero]; rfl)
          replace hsn := Lib.hid hsn
          replace hbd := Lib.hid hbd
          replace hap := Lib.hid hap
          replace ha := Lib.hid ha
          replace ho1 := Lib.hid ho1
          replace ho2 := Lib.hid ho2
          replace ho3 := Lib.hid ho3
          replace hd1 := Lib.hid hd1
          replace hd2 := Lib.hid hd2
          replace htt := Lib.hid htt
          replace hmem := Lib.hid hmem
          replace hq := Lib.hid hq
          replace hat := Lib.hid hat
          replace hKr := Lib.hid hKr
          replace h97 := Lib.hid h97
          replace hin2 := Lib.hid hin2
          replace hbxr := Lib.hid hbxr
          replace hsub := Lib.hid hsub
          replace hsb := Lib.hid hsb
          replace hsa := Lib.hid hsa
          replace hpx := Lib.hid hpx
          replace hpn := Lib.hid hpn
          replace hpv := Lib.hid hpv
          go_upto_region 12 with (first
            | (go_at_call 97; (with_reducible refine h97.out.mono ?_); rintro e w3 ⟨rfl, rfl⟩)
            | fail)
          go_loopg [6, 10] (sub.length + 1) (fun gg lv jc wx => ∃ (j : Nat) (a' : List Shr), gg = sub.length - j + 1 ∧ j ≤ sub.length ∧ jc = .int .i64 j ∧ Hid (a' = addL q a (sub.take j)) ∧ Hid (∃ f, SubB 160 i j q a sub f) ∧ Hid (OwnS wx w1.heap.size lv a') ∧ Hid (Below w1.heap.size w1 wx))
          case atStart => exact ⟨0, a, rfl, Nat.zero_le _, rfl, ha0, hB0, hO, hbw⟩
          case round =>
            clear r3 e0 e1 e2
            obtain ⟨j, a', rfl, hj, rfl, ha', hB, hJ, hbx2⟩ := hrel
            obtain ⟨jo, jc, rfl⟩ := ownsRow_shape hJ.out.row
            have hal : a'.length ≤ 128 := by
              have h1 := addL_len q (sub.take j) a
              rw [← ha'.out, List.length_take] at h1
              omega
            have hKx := hK1.out.below hbx2.out
            have k1 : wr.cell? ⟨kb, 1, none⟩ = some (.slice so K.length sc) := box_at hKx.box (j := 1) rfl
            obtain ⟨sg, hsg, _, _, kp, _⟩ := ownsRow_cell hKx.rs (j := ix) (u := p.2) (by rw [List.getElem?_map, hpx.out]; rfl)
            subst hsg
            rw [hpv.out] at kp
            have i0 : (ix : Int) < (K.length : Int) := nn_lt hix
            have i1 : (0 : Int) ≤ (ix : Int) := by omega
            by_cases hjl : j < sub.length
            · obtain ⟨x, hx⟩ : ∃ x, sub[j]? = some x := ⟨_, List.getElem?_eq_getElem hjl⟩
              have hso := (hKx.ok p (List.mem_of_getElem? hpx.out)).1
              rw [hpn.out, ← hsub.out, hpv.out] at hso
              obtain ⟨pg, hpg, _, _, x0, _⟩ := ownsRow_cell hso.row (flat_at hx).1
              obtain ⟨pg', hpg', _, _, x1, _⟩ := ownsRow_cell hso.row (flat_at hx).2
              rw [hpg] at hpg'
              simp only [Option.some.injEq, Addr.mk.injEq, and_true] at hpg'
              subst hpg'
              rw [hpg] at kp
              obtain ⟨xs, xu⟩ := hso.ok x (List.mem_of_getElem? hx)
              have j0 : (j : Int) < (sub.length : Int) := nn_lt hjl
              have jwk := Lib.hid (nn_succ2 hjl (by omega))
              obtain ⟨hm1, hm2⟩ := fmul_ok (k := 160) hd2.out (hsb.out x (List.mem_of_getElem? hx)) (by omega)
              have hmul := run_mul hm1
              obtain ⟨f, hf⟩ := hB.out
              have hB1 : Hid (∃ f, SubB 160 i (j + 1) q a sub f) := Lib.hid ⟨_, hf.succ hsa.out hx hm2 (by omega) (by omega)⟩
              have ha1 := addL_snoc (w := q) (l := a) hx
              rw [← ha'.out] at ha1
              have h0 := hf.rest j x (Nat.le_refl _) hx
              have hadd : ∀ y ∈ a', y.service = x.service → dbl.add y.upto (fmul q x.upto) = some (fadd y.upto (fmul q x.upto)) ∧ fadd y.upto (fmul q x.upto) ≤ INF := fun y hy he => by
                have hb := hf.bd y (by rw [← ha'.out]; exact hy)
                rw [he] at hb
                have hh := fadd_ok (j := f x.service) (k := 160) hb hm2 (by omega) (by omega)
                exact ⟨hh.1, Nat.le_trans hh.2 (D_le _ _)⟩
              have hz0 := fadd_ok (a := 0) (j := 0) (k := 160) (Nat.zero_le _) hm2 (by omega) (by omega)
              generalize hfm : fmul q x.upto = u at *
              have hcallx := Lib.hid (add154 a' (.slice jo a'.length jc) w1.heap.size wr x.service u hJ.out (by omega) xs hbx2.out.size hadd ⟨hz0.1, Nat.le_trans hz0.2 (D_le _ _)⟩)
              replace hx := Lib.hid hx
              replace hso := Lib.hid hso
              replace hm1 := Lib.hid hm1
              replace hm2 := Lib.hid hm2
              replace hf := Lib.hid hf
              replace hB := Lib.hid hB
              replace ha1 := Lib.hid ha1
              replace h0 := Lib.hid h0
              replace hadd := Lib.hid hadd
              replace hz0 := Lib.hid hz0
              replace hfm := Lib.hid hfm
              replace xs := Lib.hid xs
              replace xu := Lib.hid xu
              replace hKx := Lib.hid hKx
              replace hpg := Lib.hid hpg
              go_wp2_with (first
                | (go_at_call 154; (with_reducible refine hcallx.out.mono ?_); rintro e w4 ⟨v4, rfl, hO4, ht4, hg4⟩; have hb4 := Lib.hid (Tch.below hbx2.out ht4 hbx2.out.size (fun k q => (hJ.out.row.lt k q).1)); replace hO4 := Lib.hid hO4; clear ht4 hg4)
                | fail)
              go_roundg (sub.length - (j + 1) + 1)
              case rel => exact ⟨j + 1, addS a' x.service u, rfl, hjl, by first | rw [jwk.out] | go_num, Lib.hid ha1.out.symm, hB1, hO4, hb4⟩
              case measure => exact nn_downS hjl
            · have j0 : decide ((j : Int) < (sub.length : Int)) = false := decide_eq_false (by omega)
              have j1 : ¬ (j : Int) < (sub.length : Int) := by omega
              have haf : a' = shStep (shOf l) (r.tgts.take (i + 1)) := by rw [ha'.out, List.take_of_length_le (by omega), hsn.out]
              replace haf := Lib.hid haf
              replace hKx := Lib.hid hKx
              go_wp2
              go_roundg (r.tgts.length - (i + 1) + 1)
              case rel => exact ⟨i + 1, rfl, hlt, by first | rw [hwk.out] | go_num, by rw [← haf.out]; exact hJ, hin2, hbx2⟩
              case measure => exact nn_downS hlt
      | false =>
        rw [if_neg (by unfold noS; rw [hs]; simp)] at hsn
        have hin2 : ∀ j t', j < i + 1 → r.tgts[j]? = some t' → noS t'.service = true → inK K t'.split := fun j t' hj h1 h2 => by
          rcases Nat.lt_succ_iff_lt_or_eq.1 hj with h3 | h3
          · exact hin.out j t' h3 h1 h2
          · rw [h3, htt] at h1
            cases h1
            unfold noS at h2; rw [hs] at h2; cases h2
        have hcall := Lib.hid (add154 a (.slice lo a.length lc) w1.heap.size wr t.service q hO.out (by omega) s0 hbw.out.size (fun y hy _ => ⟨(fadd_ok (j := i) (k := 160) (hbd y hy) (hd2.up (Nat.zero_le _)) (by omega) (by omega)).1, Nat.le_trans (fadd_ok (j := i) (k := 160) (hbd y hy) (hd2.up (Nat.zero_le _)) (by omega) (by omega)).2 (D_le _ _)⟩) ⟨(fadd_ok (j := 0) (k := 160) (Nat.zero_le _) (hd2.up (Nat.zero_le _)) (by omega) (by omega)).1, Nat.le_trans (fadd_ok (j := 0) (k := 160) (Nat.zero_le _) (hd2.up (Nat.zero_le _)) (by omega) (by omega)).2 (D_le _ _)⟩)
        replace hsn := Lib.hid hsn
        replace hbd := Lib.hid hbd
        replace hap := Lib.hid hap
        replace hln := Lib.hid hln
        replace ha := Lib.hid ha
        replace ho1 := Lib.hid ho1
        replace ho2 := Lib.hid ho2
        replace ho3 := Lib.hid ho3
        replace hd1 := Lib.hid hd1
        replace hd2 := Lib.hid hd2
        replace htt := Lib.hid htt
        replace hmem := Lib.hid hmem
        replace hq := Lib.hid hq
        replace hKr := Lib.hid hKr
        replace hin2 := Lib.hid hin2
        replace hbxr := Lib.hid hbxr
        go_wp2_with (first
          | (go_at_call 154; (with_reducible refine hcall.out.mono ?_); rintro e w3 ⟨v3, rfl, hO3, ht3, hg3⟩; have hb3 := Lib.hid (Tch.below hbw.out ht3 hbw.out.size (fun k q => (hO.out.row.lt k q).1)); replace hO3 := Lib.hid hO3; clear ht3 hg3)
          | fail)
        go_roundg (r.tgts.length - (i + 1) + 1)
        case rel => exact ⟨i + 1, rfl, hlt, by first | rw [hwk.out] | go_num, by rw [hsn.out]; exact hO3, hin2, hb3⟩
        case measure => exact nn_downS hlt
    · have hk0 : decide ((i : Int) < (r.tgts.length : Int)) = false := decide_eq_false (by omega)
      have hk1 : ¬ (i : Int) < (r.tgts.length : Int) := by omega
      have hie : i = r.tgts.length := by omega
      have hfi : shStep (shOf l) (r.tgts.take i) = shOf l r.name := by rw [List.take_of_length_le (by omega), hfin.out]
      have hal : allIn K (tgtsOf l r.name) := fun t hm hs => by
        rw [ht.out] at hm
        obtain ⟨j, hj⟩ := List.mem_iff_getElem?.1 hm
        exact hin.out j t (by have := (List.getElem?_eq_some_iff.1 hj).1; omega) hj hs
      rw [hfi] at hO ⊢
      replace hie := Lib.hid hie
      replace hfi := Lib.hid hfi
      replace hal := Lib.hid hal
      replace hbd := Lib.hid hbd
      replace hap := Lib.hid hap
      replace hln := Lib.hid hln
      replace hbxr := Lib.hid hbxr
      go_wp2
      refine bodyPost_ret (v := .tuple #[.slice lo (shOf l r.name).length lc, .bool true]) (by simp [results, Try.results134, go_sem]) rfl ⟨seq_below hb1.out hbw.out, .inl ⟨hal.out, _, rfl, ⟨ownsRow_base hO.out.row hb1.out.size, hO.out.ok⟩⟩⟩
end Go.Proofs.Ytjepgpocmnijiaa
end

section
/- The shares of all splits, as the document reckons them: All. -/
namespace Go.Ck
set_option linter.unusedVariables false
theorem stepE_max {e : ByteArray → Nat} : ∀ (ts : List Tgt) (a : Nat), stepE e ts a ≠ 0 → stepE e ts a = a ∨ ∃ t ∈ ts, noS t.service = true ∧ e t.split + 1 = stepE e ts a
  | [], a, _ => .inl rfl
  | t :: ts, a, h => by
    unfold stepE at h ⊢
    by_cases h1 : noS t.service = true
    · rw [if_pos h1] at h ⊢
      by_cases h2 : e t.split = 0
      · rw [if_pos h2] at h; exact absurd rfl h
      · rw [if_neg h2] at h ⊢
        rcases stepE_max ts _ h with q | ⟨u, hu, h3, h4⟩
        · rcases Nat.le_total (e t.split + 1) a with h5 | h5
          · left; omega
          · right; exact ⟨t, .head _, h1, by omega⟩
        · exact .inr ⟨u, .tail _ hu, h3, h4⟩
    · rw [if_neg h1] at h ⊢
      rcases stepE_max ts a h with q | ⟨u, hu, h3, h4⟩
      · exact .inl q
      · exact .inr ⟨u, .tail _ hu, h3, h4⟩
theorem chain (l : List Res) : ∀ (d : Nat) (n : ByteArray), known l 8 n = d + 1 → ∃ L : List ByteArray, L.length = d + 1 ∧ L.Nodup ∧ ∀ x ∈ L, has l 2 x = true ∧ known l 8 x ≤ d + 1
  | d, n, h => by
    have h0 : known l 8 n ≠ 0 := by omega
    have hh := known_has h0
    have h1 : known l 8 n = stepE (known l 7) (tgtsOf l n) 1 := known_succ hh 7
    have h2 : stepE (known l 7) (tgtsOf l n) 1 ≠ 0 := by rw [← h1]; exact h0
    rcases stepE_max _ _ h2 with q | ⟨t, ht, hs, hq⟩
    · have hd : d = 0 := by omega
      subst hd
      exact ⟨[n], rfl, by simp, fun x hx => by rw [List.mem_singleton.1 hx]; exact ⟨hh, by omega⟩⟩
    · have h3 := (stepE_kid _ _ h2 t ht hs).1
      have h4 : known l 8 t.split = known l 7 t.split := known_up l (r := 7) (s := 8) (by decide) h3
      obtain ⟨e, he⟩ : ∃ e, d = e + 1 := ⟨d - 1, by omega⟩
      subst he
      obtain ⟨L, hL, hnd, hx⟩ := chain l e t.split (by omega)
      refine ⟨n :: L, by simp [hL], List.nodup_cons.2 ⟨fun hm => ?_, hnd⟩, fun x hm => ?_⟩
      · have := (hx n hm).2; omega
      · rcases List.mem_cons.1 hm with rfl | hm
        · exact ⟨hh, by omega⟩
        · exact ⟨(hx x hm).1, by have := (hx x hm).2; omega⟩
  termination_by d => d
/-- So many rounds as there are resources are enough. -/
theorem known_len {l : List Res} {n : ByteArray} (h : known l 8 n ≠ 0) : known l l.length n ≠ 0 := by
  obtain ⟨d, hd⟩ : ∃ d, known l 8 n = d + 1 := ⟨known l 8 n - 1, by omega⟩
  obtain ⟨L, hL, hnd, hx⟩ := chain l d n hd
  have hle : L.length ≤ (l.map (·.name)).length := nodup_len hnd (fun x hm => by
    obtain ⟨r, hr, _, hn⟩ := has_iff.1 (hx x hm).1
    exact List.mem_map.2 ⟨r, hr, hn⟩)
  rw [List.length_map, hL, ← hd] at hle
  have h1 := known_by l 8 n h
  have h2 : known l (known l 8 n) n ≠ 0 := by rw [h1]; exact h
  rw [known_up l hle h2]; exact h2
theorem tgts_at {l : List Res} (hC : Cfg l) {r : Res} (hr : r ∈ l) (hk : r.kind = 2) : has l 2 r.name = true ∧ tgtsOf l r.name = r.tgts := by
  have hn : has l 2 r.name = true := has_iff.2 ⟨r, hr, hk, rfl⟩
  obtain ⟨x, _, hx, hxk, hxn, ht⟩ := find_split hn
  refine ⟨hn, ?_⟩
  rw [ht, Go.Proofs.Ytjepgpocmnijiaa.srt_one (srt_of_ord (ord_of hC.out)) hx hr (Prod.ext (hxk.trans hk.symm) hxn)]
end Go.Ck
namespace Go.Proofs.Ytjepgpocmnijiaa
open Go.RowKit Go.Mp Go.Ck Fl
set_option linter.unusedVariables false
set_option maxRecDepth 100000
set_option maxHeartbeats 4000000
theorem kn_len {W0 w : World} {l : List Res} {kb : Nat} {K : Kn} {nv sv : Value} (h : KS W0 w l kb K nv sv) : K.length ≤ l.length := by
  have hle : (K.map Prod.fst).length ≤ (l.map (·.name)).length := nodup_len h.nd (fun x hm => by
    obtain ⟨p, hp, rfl⟩ := List.mem_map.1 hm
    obtain ⟨r, hr, _, hn⟩ := has_iff.1 (h.ok p hp).2
    exact List.mem_map.2 ⟨r, hr, hn⟩)
  simpa using hle
theorem own_ne {w : World} {B B' : Nat} {e e' : TypeId} {s s' : Nat} {v v' : Value} {n n' : Nat} {xs xs' : List Value} (h : w.ownsRow B e s v n xs) (h' : w.ownsRow B' e' s' v' n' xs') (he : e ≠ e') {a b : Nat} (ha : v.ownBlock = some a) (hb : v'.ownBlock = some b) : a ≠ b := Any.ne ⟨xs, h⟩ ⟨xs', h'⟩ he ha hb
/-- Between the two appends. -/
theorem KS.put {W0 w w3 w5 : World} {l : List Res} {kb : Nat} {K : Kn} {nv sv v3 v5 lv : Value} {n : ByteArray} (h : KS W0 w l kb K nv sv) (hn : ¬ inK K n) (hh : has l 2 n = true) (hv : OwnS w W0.heap.size lv (shOf l n))
    (hr3 : w3.ownsRow W0.heap.size 9 1 v3 (K.length + 1) (K.map nmV ++ [.string n])) (t3 : Tch (fun k => nv.ownBlock = some k) w w3)
    (hr5 : w5.ownsRow W0.heap.size 67 1 v5 (K.length + 1) (K.map Prod.snd ++ [lv])) (t5 : Tch (fun k => sv.ownBlock = some k) (w3.setCell ⟨kb, 0, none⟩ v3) w5) :
    KS W0 (w5.setCell ⟨kb, 1, none⟩ v5) l kb (K ++ [(n, lv)]) v3 v5 := by
  have b3 : w3.heap[kb]? = some (.cells #[nv, sv] 149 (0, 0)) := (t3.block kb (Array.getElem?_eq_some_iff.1 h.box).1 (fun q => row_block_ne h.rn h.box (by decide) kb q rfl)).trans h.box
  have rs3 := ownsRow_tch h.rs t3 (fun g hg q => own_ne h.rs h.rn (by decide) hg q rfl)
  have t4 : Tch (fun k => k = kb) w3 (w3.setCell ⟨kb, 0, none⟩ v3) := Tch.setCell (S := fun k => k = kb) w3 (p := ⟨kb, 0, none⟩) rfl v3
  have b4 : (w3.setCell ⟨kb, 0, none⟩ v3).heap[kb]? = some (.cells #[v3, sv] 149 (0, 0)) := box_set (i := 0) (v := v3) b3
  have rs4 := ownsRow_tch rs3 t4 (fun g hg q => row_block_ne rs3 b3 (by decide) g hg q)
  have rn4 := ownsRow_tch hr3 t4 (fun g hg q => row_block_ne hr3 b3 (by decide) g hg q)
  have b5 : w5.heap[kb]? = some (.cells #[v3, sv] 149 (0, 0)) := (t5.block kb (Array.getElem?_eq_some_iff.1 b4).1 (fun q => row_block_ne rs4 b4 (by decide) kb q rfl)).trans b4
  have rn5 := ownsRow_tch rn4 t5 (fun g hg q => own_ne rn4 rs4 (by decide) hg q rfl)
  have t6 : Tch (fun k => k = kb) w5 (w5.setCell ⟨kb, 1, none⟩ v5) := Tch.setCell (S := fun k => k = kb) w5 (p := ⟨kb, 1, none⟩) rfl v5
  have b6 : (w5.setCell ⟨kb, 1, none⟩ v5).heap[kb]? = some (.cells #[v3, v5] 149 (0, 0)) := box_set (i := 1) (v := v5) b5
  have rn6 := ownsRow_tch rn5 t6 (fun g hg q => row_block_ne rn5 b5 (by decide) g hg q)
  have rs6 := ownsRow_tch hr5 t6 (fun g hg q => row_block_ne hr5 b5 (by decide) g hg q)
  have bel3 := Tch.below h.bel t3 h.bel.size (fun k q => (h.rn.lt k q).1)
  have bel4 := Tch.below bel3 t4 bel3.size (fun k q => by rw [q]; exact h.le)
  have bel5 := Tch.below bel4 t5 bel4.size (fun k q => (rs4.lt k q).1)
  have bel6 := Tch.below bel5 t6 bel5.size (fun k q => by rw [q]; exact h.le)
  have keep : ∀ (u : Value) (a : List Shr), OwnS w W0.heap.size u a → OwnS (w5.setCell ⟨kb, 1, none⟩ v5) W0.heap.size u a := fun u a hu => by
    have o3 := hu.tch t3 (fun g hg q => own_ne hu.row h.rn (by decide) hg q rfl)
    have o4 := o3.tch t4 (fun g hg q => row_block_ne o3.row b3 (by decide) g hg q)
    have o5 := o4.tch t5 (fun g hg q => own_ne o4.row rs4 (by decide) hg q rfl)
    exact o5.tch t6 (fun g hg q => row_block_ne o5.row b5 (by decide) g hg q)
  refine ⟨bel6, h.le, b6, by rw [List.length_append, List.map_append]; exact rn6, by rw [List.length_append, List.map_append]; exact rs6, fun p hp => ?_, ?_⟩
  · rcases List.mem_append.1 hp with q | q
    · exact ⟨keep _ _ (h.ok p q).1, (h.ok p q).2⟩
    · rw [List.mem_singleton.1 q]; exact ⟨keep _ _ hv, hh⟩
  · rw [List.map_append]
    refine List.nodup_append.2 ⟨h.nd, by simp, fun x hx y hy e => ?_⟩
    rw [List.map_singleton, List.mem_singleton] at hy
    obtain ⟨p, hp, hpx⟩ := List.mem_map.1 hx
    exact hn ⟨p, hp, by rw [hpx, e, hy]⟩
theorem KS.mid {W0 w w3 : World} {l : List Res} {kb : Nat} {K : Kn} {nv sv v3 : Value} (h : KS W0 w l kb K nv sv) (t3 : Tch (fun k => nv.ownBlock = some k) w w3) : (w3.setCell ⟨kb, 0, none⟩ v3).heap[kb]? = some (.cells #[v3, sv] 149 (0, 0)) ∧ (w3.setCell ⟨kb, 0, none⟩ v3).ownsRow W0.heap.size 67 1 sv K.length (K.map Prod.snd) ∧ W0.heap.size ≤ (w3.setCell ⟨kb, 0, none⟩ v3).heap.size := by
  have b3 : w3.heap[kb]? = some (.cells #[nv, sv] 149 (0, 0)) := (t3.block kb (Array.getElem?_eq_some_iff.1 h.box).1 (fun q => row_block_ne h.rn h.box (by decide) kb q rfl)).trans h.box
  have rs3 := ownsRow_tch h.rs t3 (fun g hg q => own_ne h.rs h.rn (by decide) hg q rfl)
  have t4 : Tch (fun k => k = kb) w3 (w3.setCell ⟨kb, 0, none⟩ v3) := Tch.setCell (S := fun k => k = kb) w3 (p := ⟨kb, 0, none⟩) rfl v3
  exact ⟨box_set (i := 0) (v := v3) b3, ownsRow_tch rs3 t4 (fun g hg q => row_block_ne rs3 b3 (by decide) g hg q), Nat.le_trans (Nat.le_trans h.bel.size t3.size) t4.size⟩
theorem info67 : (Try.prog.info? 67).map (fun i => (i.zero, i.size, i.bytes)) = some (some (.slice none 0 0), 1, 24) := by kernel_rfl
def All96 (w : World) (l : List Res) (e : Ending) (w' : World) : Prop := ∃ kb K nv sv, e = .returned (.pointer (some ⟨kb, 0, none⟩)) ∧ KS w w' l kb K nv sv ∧ ∀ n, has l 2 n = true → inK K n
theorem all96 (l : List Res) (v : Value) (w : World) (hl : ResS w v l) (hC : Cfg l) : Calls Try.prog 96 #[v] w (All96 w l) := by
  obtain ⟨ao, cap, rfl⟩ := slice_shape hl
  have hlen := hl.1
  have h64 := hC.n
  obtain ⟨i9, h9, h90, h91, h92⟩ := info_parts info9
  obtain ⟨i67, h67, h670, h671, h672⟩ := info_parts info67
  obtain ⟨wA, hwA⟩ : ∃ wA, wA = w.alloc (.cells #[Value.slice none 0 0, Value.slice none 0 0] 149) := ⟨_, rfl⟩
  obtain ⟨kb, hkb⟩ : ∃ kb, kb = w.heap.size := ⟨_, rfl⟩
  have hKA : Hid (KS w wA l kb [] (.slice none 0 0) (.slice none 0 0)) := Lib.hid ⟨by rw [hwA]; exact alloc_below _ _, by omega, by rw [hwA, hkb]; exact heap_alloc_new w _, World.ownsRow_nil _ _ _ _, World.ownsRow_nil _ _ _ _, (fun p hp => by cases hp), by simp⟩
  have hcov0 : Hid (∀ n, known l 0 n ≠ 0 → inK [] n) := Lib.hid (fun n h => absurd rfl h)
  replace hl := Lib.hid hl
  replace h9 := Lib.hid h9
  replace h90 := Lib.hid h90
  replace h91 := Lib.hid h91
  replace h92 := Lib.hid h92
  replace h67 := Lib.hid h67
  replace h670 := Lib.hid h670
  replace h671 := Lib.hid h671
  replace h672 := Lib.hid h672
  go_enter Try.func96, Try.ntmps96
  go_upto_region 2 with fail
  rw [← hwA, ← hkb]
  replace hwA := Lib.hid hwA
  replace hkb := Lib.hid hkb
  go_wp2
  go_loopg [4] (l.length + 1) (fun gg rc wr => ∃ (r : Nat) (K : Kn) (nv sv : Value), gg = l.length - r + 1 ∧ r ≤ l.length ∧ rc = .int .i64 r ∧ Hid (KS w wr l kb K nv sv) ∧ Hid (∀ n, known l r n ≠ 0 → inK K n))
  case atStart => exact ⟨0, [], _, _, rfl, Nat.zero_le _, rfl, hKA, hcov0⟩
  case round =>
    obtain ⟨r, K, nv, sv, rfl, hr, rfl, hK, hcov⟩ := hrel
    by_cases hlt : r < l.length
    · have hk0 : (r : Int) < (l.length : Int) := nn_lt hlt
      have hwk := Lib.hid (nn_succ2 hlt hlen)
      have hc20 : Hid (∀ (j : Nat) x, j < 0 → l[j]? = some x → x.kind = 2 → known l (r + 1) x.name ≠ 0 → inK K x.name) := Lib.hid (fun j x hj => absurd hj (Nat.not_lt_zero j))
      go_upto_region 6 with fail
      go_loopg [5] (l.length + 1) (fun gg ic wx => ∃ (i : Nat) (K : Kn) (nv sv : Value), gg = l.length - i + 1 ∧ i ≤ l.length ∧ ic = .int .i64 i ∧ Hid (KS w wx l kb K nv sv) ∧ Hid (∀ n, known l r n ≠ 0 → inK K n) ∧ Hid (∀ (j : Nat) x, j < i → l[j]? = some x → x.kind = 2 → known l (r + 1) x.name ≠ 0 → inK K x.name))
      case atStart => exact ⟨0, K, nv, sv, rfl, Nat.zero_le _, rfl, hK, hcov, hc20⟩
      case round =>
        clear hK hcov hc20
        obtain ⟨i, K, nv, sv, rfl, hi, rfl, hK, hcov, hc2⟩ := hrel
        by_cases hil : i < l.length
        · obtain ⟨x, hx⟩ : ∃ x, l[i]? = some x := ⟨_, List.getElem?_eq_getElem hil⟩
          obtain ⟨b, off, eo, ec, ta, tc, ra, rc, rfl, hbl, c, hp⟩ := res_at2 hl.out hx
          obtain ⟨c0, c1, c2, c3, c4, c5, c6, c7⟩ := c.below hbl hK.out.bel
          have hi0 : (i : Int) < (l.length : Int) := nn_lt hil
          have hwi := Lib.hid (nn_succ2 hil hlen)
          have hkl := kn_len hK.out
          have hnext : (x.kind ≠ 2 ∨ inK K x.name ∨ known l (r + 1) x.name = 0) → ∀ (j : Nat) y, j < i + 1 → l[j]? = some y → y.kind = 2 → known l (r + 1) y.name ≠ 0 → inK K y.name := fun ho j y hj hy h1 h2 => by
            rcases Nat.lt_succ_iff_lt_or_eq.1 hj with h3 | h3
            · exact hc2.out j y h3 hy h1 h2
            · rw [h3, hx] at hy
              cases hy
              rcases ho with q | q | q
              · exact absurd h1 q
              · exact q
              · exact absurd q h2
          by_cases hkd : x.kind = 2
          · obtain ⟨hn, ht⟩ := tgts_at hC (List.mem_of_getElem? hx) hkd
            have h97 := at97 hK.out (by omega) x.name
            have hq1 : (x.kind != 2) = false := by rw [hkd]; rfl
            have hq2 : (x.kind == 2) = true := by rw [hkd]; rfl
            rcases atK_cases K x.name with ⟨hat, hnin⟩ | ⟨ix, p, hat, hix, hpx, hpn⟩
            · rw [hat] at h97
              have hcall := one134 hC hK.out (by omega) x (.slice eo x.eps.length ec) (.slice ta x.tgts.length tc) (.slice ra x.rules.length rc) (hp.below hK.out.bel) hn ht
              by_cases hal : allIn K (tgtsOf l x.name)
              · have hcall2 : Hid (Calls Try.prog 134 #[.pointer (some ⟨kb, 0, none⟩), .agg #[.int .i64 x.kind, .string x.name, .slice eo x.eps.length ec, .slice ta x.tgts.length tc, .string x.host, .slice ra x.rules.length rc, .string x.route, .bool x.del]] wr fun e w' => ∃ v', e = .returned (.tuple #[v', .bool true]) ∧ OwnS w' w.heap.size v' (shOf l x.name) ∧ Below wr.heap.size wr w') := Lib.hid (hcall.mono fun e w' ⟨hb, h⟩ => by
                  rcases h with ⟨_, v', e1, e2⟩ | ⟨q, _⟩
                  · exact ⟨v', e1, ⟨ownsRow_base e2.row hK.out.bel.size, e2.ok⟩, hb⟩
                  · exact absurd hal q)
                replace hx := Lib.hid hx
                replace c := Lib.hid c
                replace hp := Lib.hid hp
                replace hkl := Lib.hid hkl
                replace hnext := Lib.hid hnext
                replace hkd := Lib.hid hkd
                replace hn := Lib.hid hn
                replace ht := Lib.hid ht
                replace h97 := Lib.hid h97
                replace hat := Lib.hid hat
                replace hnin := Lib.hid hnin
                replace hcall := Lib.hid hcall
                replace hal := Lib.hid hal
                go_upto_region 11 with (first
                  | (go_at_call 97; (with_reducible refine h97.out.mono ?_); rintro e w3 ⟨rfl, rfl⟩)
                  | (go_at_call 134; (with_reducible refine hcall2.out.mono ?_); rintro e w4 ⟨v4, rfl, hO4, hb4⟩; have hK4 := Lib.hid (hK.out.below hb4); have hbl4 := Lib.hid (seq_below hK.out.bel hb4); replace hO4 := Lib.hid hO4; clear hb4)
                  | fail)
                obtain ⟨no, nc, rfl⟩ := ownsRow_shape hK4.out.rn
                obtain ⟨so, sc, rfl⟩ := ownsRow_shape hK4.out.rs
                have d1 : w4.cell? ⟨b, off + i * 8 + 1, none⟩ = some (.string x.name) := (c.out.below hbl hbl4.out).c1
                have hKx := hK4.out.box
                have q0 : w4.cell? ⟨kb, 0, none⟩ = some (.slice no K.length nc) := box_at hKx (j := 0) rfl
                have q0d : w4.drew.cell? ⟨kb, 0, none⟩ = some (.slice no K.length nc) := q0
                have d1d : w4.drew.cell? ⟨b, off + i * 8 + 1, none⟩ = some (.string x.name) := d1
                have hkl4 : kb < w4.drew.heap.size := (Array.getElem?_eq_some_iff.1 hKx).1
                have hbl5 : b < w4.drew.heap.size := Nat.lt_of_lt_of_le hbl hbl4.out.size
                have q0a : (w4.drew.alloc (.cells #[.string x.name] 9)).cell? ⟨kb, 0, none⟩ = some (.slice no K.length nc) := ((alloc_below w4.drew (.cells #[.string x.name] 9)).cell (p := ⟨kb, 0, none⟩) hkl4).trans q0d
                have d1a : (w4.drew.alloc (.cells #[.string x.name] 9)).cell? ⟨b, off + i * 8 + 1, none⟩ = some (.string x.name) := ((alloc_below w4.drew (.cells #[.string x.name] 9)).cell (p := ⟨b, off + i * 8 + 1, none⟩) hbl5).trans d1d
                have q0b : (w4.alloc (.cells #[.string x.name] 9)).cell? ⟨kb, 0, none⟩ = some (.slice no K.length nc) := q0a
                have d1b : (w4.alloc (.cells #[.string x.name] 9)).cell? ⟨b, off + i * 8 + 1, none⟩ = some (.string x.name) := d1a
                have hrnd := Lib.hid (ownsRow_tch hK4.out.rn (Tch.drew No w4) (fun _ _ q => q))
                have hBd : Hid (w.heap.size ≤ w4.drew.heap.size) := Lib.hid hK4.out.bel.size
                have hk64 : K.length ≤ 64 := Nat.le_trans hkl.out h64
                clear c0 c1 c2 c3 c4 c5 c6 c7
                go_cut [] (fun wx => ∃ (v3 : Value) (w3 : World), Hid (wx = w3.setCell ⟨kb, 0, none⟩ v3) ∧ Hid (w3.ownsRow w.heap.size 9 1 v3 (K.length + 1) (K.map nmV ++ [.string x.name])) ∧ Hid (Tch (fun k => (Value.slice no K.length nc).ownBlock = some k) w4 w3))
                case first =>
                  go_region_law ((refine step_append_us rfl _ _ 48 (by rfl) w.heap.size 9 i9 (.string ⟨#[]⟩) 1 16 Try.underlying48 h9.out h90.out h91.out h92.out rfl (by decide) _ K.length (K.map nmV) (by rfl) hrnd.out 1 (by rfl) rfl (by simp [Value.oneCell']) (by unfold maxLen; omega) (by omega) hBd.out ?_; intro v3 w3 hr3 hg3 hl3; obtain ⟨o3, c3', rfl⟩ := ownsRow_shape hr3; have t3 := (Tch.drew (fun k => (Value.slice no K.length nc).ownBlock = some k) w4).trans (Tch.grown (S := fun k => (Value.slice no K.length nc).ownBlock = some k) hg3 (fun k q => .inl q)) (fun k q => .inl q); have b3 := (t3.block kb (Array.getElem?_eq_some_iff.1 hKx).1 (fun q => row_block_ne hK4.out.rn hKx (by decide) kb q rfl)).trans hKx; have q3 : w3.cell? ⟨kb, 0, none⟩ = some (.slice no K.length nc) := box_at b3 (j := 0) rfl; have f3 : w3.frozen? ⟨kb, 0, none⟩ = false := frozen_of_row _ kb 0 _ _ b3; replace hr3 := Lib.hid hr3; replace t3 := Lib.hid t3; clear hg3 hl3 b3))
                  all_goals (first | (go_wp2; go_meet; exact ⟨_, w3, Lib.hid rfl, hr3, t3⟩) | (go_meet; exact ⟨_, w3, Lib.hid rfl, hr3, t3⟩))
                case rest =>
                  clear q0 q0d q0a q0b d1 d1d d1a d1b
                  obtain ⟨v3, w3, hwx, hr3, t3⟩ := hcut
                  obtain ⟨m1, m2, m3⟩ := hK4.out.mid (v3 := v3) t3.out
                  rw [← hwx.out] at m1 m2 m3
                  have q1 : wc.cell? ⟨kb, 1, none⟩ = some (.slice so K.length sc) := box_at m1 (j := 1) rfl
                  have hrb := Lib.hid (m2.alloc (.cells #[v4] 67))
                  have hnb := Lib.hid (new_cells wc [v4] 67)
                  have hBb := Lib.hid (show w.heap.size ≤ (wc.alloc (.cells #[v4] 67)).heap.size from Nat.le_trans m3 (by simp))
                  have hcv2 : ∀ lv, Hid (∀ n, known l r n ≠ 0 → inK (K ++ [(x.name, lv)]) n) := fun lv => Lib.hid (fun n hn => by
                    obtain ⟨p, hp, e⟩ := hcov.out n hn
                    exact ⟨p, List.mem_append_left _ hp, e⟩)
                  have hc3 : ∀ lv, Hid (∀ (j : Nat) y, j < i + 1 → l[j]? = some y → y.kind = 2 → known l (r + 1) y.name ≠ 0 → inK (K ++ [(x.name, lv)]) y.name) := fun lv => Lib.hid (fun j y hj hy h1 h2 => by
                    rcases Nat.lt_succ_iff_lt_or_eq.1 hj with h3 | h3
                    · obtain ⟨p, hp, e⟩ := hc2.out j y h3 hy h1 h2
                      exact ⟨p, List.mem_append_left _ hp, e⟩
                    · rw [h3, hx.out] at hy
                      cases hy
                      exact ⟨_, List.mem_append_right _ (List.mem_singleton.2 rfl), rfl⟩)
                  obtain ⟨vo, vc, rfl⟩ := ownsRow_shape hO4.out.row
                  replace m1 := Lib.hid m1
                  replace m2 := Lib.hid m2
                  replace m3 := Lib.hid m3
                  replace hwx := Lib.hid hwx
                  replace hcv2 := Lib.hid hcv2
                  replace hc3 := Lib.hid hc3
                  go_wp2_with (first
                    | (at_builtin; go_loud (refine wp_append_lit (by rfl) _ _ 147 (by rfl) w.heap.size 67 i67 (.slice none 0 0) 1 24 Try.underlying147 h67.out h670.out h671.out h672.out rfl (by decide) _ K.length (K.map Prod.snd) (by rfl) hrb.out ⟨wc.heap.size, 0, none⟩ 1 _ [.slice vo (shOf l x.name).length vc] (by rfl) rfl hnb.out (fun u hu => by rw [List.mem_singleton.1 hu]; rfl) (by unfold maxLen; omega) (by omega) hBb.out ?_); intro v5 w5 hr5 hg5 hl5; obtain ⟨o5, c5', rfl⟩ := ownsRow_shape hr5; have t5 := (Tch.of_below (S := fun k => (Value.slice so K.length sc).ownBlock = some k) (alloc_below wc (.cells #[.slice vo (shOf l x.name).length vc] 67))).trans (Tch.grown (S := fun k => (Value.slice so K.length sc).ownBlock = some k) hg5 (fun k q => .inl q)) (fun k q => .inl q); have b5 := (t5.block kb (Array.getElem?_eq_some_iff.1 m1.out).1 (fun q => row_block_ne m2.out m1.out (by decide) kb q rfl)).trans m1.out; have q5 : w5.cell? ⟨kb, 1, none⟩ = some (.slice so K.length sc) := box_at b5 (j := 1) rfl; have f5 : w5.frozen? ⟨kb, 1, none⟩ = false := frozen_of_row _ kb 1 _ _ b5; have hK5 := Lib.hid (hK4.out.put hnin.out hn.out hO4.out hr3.out t3.out hr5 (by rw [← hwx.out]; exact t5)); clear hg5 hl5 b5 t5 hr5)
                    | fail)
                  go_roundg (l.length - (i + 1) + 1)
                  case rel => exact ⟨i + 1, _, _, _, rfl, hil, by first | rw [hwi.out] | go_num, hK5, hcv2.out _, hc3.out _⟩
                  case measure => exact nn_downS hil
              · have hkz : known l (r + 1) x.name = 0 := Classical.byContradiction fun q => hal (fun t hm hs => hcov.out _ (by
                  rw [known_succ hn r] at q
                  exact (stepE_kid _ _ q t hm hs).1))
                have hc3 := hnext (.inr (.inr hkz))
                have hcall2 : Hid (Calls Try.prog 134 #[.pointer (some ⟨kb, 0, none⟩), .agg #[.int .i64 x.kind, .string x.name, .slice eo x.eps.length ec, .slice ta x.tgts.length tc, .string x.host, .slice ra x.rules.length rc, .string x.route, .bool x.del]] wr fun e w' => e = .returned (.tuple #[.slice none 0 0, .bool false]) ∧ Below wr.heap.size wr w') := Lib.hid (hcall.mono fun e w' ⟨hb, h⟩ => by
                  rcases h with ⟨q, _⟩ | ⟨_, q⟩
                  · exact absurd q hal
                  · exact ⟨q, hb⟩)
                replace hx := Lib.hid hx
                replace c := Lib.hid c
                replace hp := Lib.hid hp
                replace hkl := Lib.hid hkl
                replace hnext := Lib.hid hnext
                replace hkd := Lib.hid hkd
                replace hn := Lib.hid hn
                replace ht := Lib.hid ht
                replace h97 := Lib.hid h97
                replace hat := Lib.hid hat
                replace hnin := Lib.hid hnin
                replace hcall := Lib.hid hcall
                replace hal := Lib.hid hal
                replace hkz := Lib.hid hkz
                replace hc3 := Lib.hid hc3
                go_wp2_with (first
                  | (go_at_call 97; (with_reducible refine h97.out.mono ?_); rintro e w3 ⟨rfl, rfl⟩)
                  | (go_at_call 134; (with_reducible refine hcall2.out.mono ?_); rintro e w4 ⟨rfl, hb4⟩; have hK4 := Lib.hid (hK.out.below hb4); clear hb4)
                  | fail)
                go_roundg (l.length - (i + 1) + 1)
                case rel => exact ⟨i + 1, K, nv, sv, rfl, hil, by first | rw [hwi.out] | go_num, hK4, hcov, hc3⟩
                case measure => exact nn_downS hil
            · rw [hat] at h97
              have g0 : (0 : Int) ≤ (ix : Int) := by omega
              have hc3 := hnext (.inr (.inl ⟨p, List.mem_of_getElem? hpx, hpn⟩))
              replace hx := Lib.hid hx
              replace c := Lib.hid c
              replace hp := Lib.hid hp
              replace hkl := Lib.hid hkl
              replace hnext := Lib.hid hnext
              replace hkd := Lib.hid hkd
              replace hn := Lib.hid hn
              replace ht := Lib.hid ht
              replace h97 := Lib.hid h97
              replace hat := Lib.hid hat
              replace hc3 := Lib.hid hc3
              replace hpx := Lib.hid hpx
              replace hpn := Lib.hid hpn
              go_wp2_with (first
                | (go_at_call 97; (with_reducible refine h97.out.mono ?_); rintro e w3 ⟨rfl, rfl⟩)
                | fail)
              go_roundg (l.length - (i + 1) + 1)
              case rel => exact ⟨i + 1, K, nv, sv, rfl, hil, by first | rw [hwi.out] | go_num, hK, hcov, hc3⟩
              case measure => exact nn_downS hil
          · have hq1 : (x.kind != 2) = true := bne_iff_ne.2 hkd
            have hq2 : (x.kind == 2) = false := beq_eq_false_iff_ne.2 hkd
            have hc3 := hnext (.inl hkd)
            replace hx := Lib.hid hx
            replace c := Lib.hid c
            replace hp := Lib.hid hp
            replace hkl := Lib.hid hkl
            replace hnext := Lib.hid hnext
            replace hkd := Lib.hid hkd
            replace hc3 := Lib.hid hc3
            go_wp2
            go_roundg (l.length - (i + 1) + 1)
            case rel => exact ⟨i + 1, K, nv, sv, rfl, hil, by first | rw [hwi.out] | go_num, hK, hcov, hc3⟩
            case measure => exact nn_downS hil
        · have hi0 : decide ((i : Int) < (l.length : Int)) = false := decide_eq_false (by omega)
          have hi1 : ¬ (i : Int) < (l.length : Int) := by omega
          have hcn : Hid (∀ n, known l (r + 1) n ≠ 0 → inK K n) := Lib.hid (fun n hn => by
            obtain ⟨y, _, hy, hyk, hyn, _⟩ := find_split (known_has hn)
            obtain ⟨j, hj, hyj⟩ := at_mem hy
            rw [← hyn]
            exact hc2.out j y (by omega) hyj hyk (by rw [hyn]; exact hn))
          go_wp2
          go_roundg (l.length - (r + 1) + 1)
          case rel => exact ⟨r + 1, K, nv, sv, rfl, hlt, by first | rw [hwk.out] | go_num, hK, hcn⟩
          case measure => exact nn_downS hlt
    · have hk0 : decide ((r : Int) < (l.length : Int)) = false := decide_eq_false (by omega)
      have hk1 : ¬ (r : Int) < (l.length : Int) := by omega
      have hre : r = l.length := by omega
      have hfin : ∀ n, has l 2 n = true → inK K n := fun n hn => hcov.out n (by rw [hre]; exact known_len (hC.known hn))
      replace hre := Lib.hid hre
      replace hfin := Lib.hid hfin
      go_wp2
      go_ret
      exact ⟨kb, K, nv, sv, rfl, hK.out, hfin.out⟩
end Go.Proofs.Ytjepgpocmnijiaa
end

section
/- A split's shares: the program's Shares and the document's. -/
namespace Go.Proofs.Ytjepgpocmnijiaa
open Go.RowKit Go.Mp Go.Ck Fl
set_option linter.unusedVariables false
set_option maxRecDepth 100000
set_option maxHeartbeats 4000000
def SharesO (w : World) (l : List Res) (s : ByteArray) (e : Ending) (w' : World) : Prop := ∃ v', e = .returned (.tuple #[v', .int .i64 (sharesC l s)]) ∧ OwnS w' w.heap.size v' (sharesL l s) ∧ Below w.heap.size w w'
theorem check19c (l : List Res) (v : Value) (w : World) (hl : ResS w v l) (hM : listM l ≤ 1048576) : Calls Try.prog 19 #[v] w fun e w' => ∃ wv d n, e = .returned (.tuple #[wv, .agg #[.int .i64 d, .int .i64 n, .int .i64 (faultC l)]]) ∧ (faultC l = 0 → Cfg l) ∧ Below w.heap.size w w' := by
  refine (check19 l v w hl hM).mono ?_
  rintro e w' ⟨wv, f, ws, hc, rfl, _, hb⟩
  have he := hc.eq.1
  exact ⟨wv, f.1, f.2.1, by unfold faultC; rw [← he], fun h0 => cfg_of hl hM hc (by rw [he]; exact h0), hb⟩
theorem check20c (l : List Res) (v : Value) (w : World) (hl : ResS w v l) (hM : listM l ≤ 1048576) : Calls Try.prog 20 #[v] w fun e w' => ∃ wv d n, e = .returned (.tuple #[wv, .agg #[.int .i64 d, .int .i64 n, .int .i64 (faultC l)]]) ∧ (faultC l = 0 → Cfg l) ∧ Below w.heap.size w w' := by
  refine (check20 l v w hl hM).mono ?_
  rintro e w' ⟨wv, f, ws, hc, rfl, _, hb⟩
  have he := hc.eq.1
  exact ⟨wv, f.1, f.2.1, by unfold faultC; rw [← he], fun h0 => cfg_of hl hM hc (by rw [he]; exact h0), hb⟩
theorem shares39 (l : List Res) (s : ByteArray) (v : Value) (w : World) (hl : ResS w v l) (hM : listM l ≤ 1048576) : Calls Try.prog 39 #[v, .string s] w (SharesO w l s) := by
  obtain ⟨ao, cap, rfl⟩ := slice_shape hl
  have hsz := sz_of hM
  obtain ⟨wa, hwa⟩ : ∃ wa, wa = w.alloc (.cells #[.string s] 9) := ⟨_, rfl⟩
  obtain ⟨sb, hsb⟩ : ∃ sb, sb = w.heap.size := ⟨_, rfl⟩
  have hba : Below w.heap.size w wa := by rw [hwa]; exact alloc_below _ _
  have cs : wa.cell? ⟨sb, 0, none⟩ = some (.string s) := by rw [hwa, hsb]; exact (cell_of_row _ _ 0 _ _ _ (heap_alloc_new w _)).trans rfl
  have hsl : sb < wa.heap.size := by rw [hwa, hsb]; simp
  have hC19 := Lib.hid (check19c l _ wa (hl.below hba) hM)
  obtain ⟨c, hc⟩ : ∃ c, c = faultC l := ⟨_, rfl⟩
  have hcC : sharesC l s = if c ≠ 0 then c else if has l 2 s = true then 0 else 2 := by rw [hc]; rfl
  have hcL : sharesL l s = if c ≠ 0 then [] else if has l 2 s = true then shOf l s else [] := by rw [hc]; rfl
  rw [← hc] at hC19
  unfold SharesO
  have hK92 : ∀ w', Below w.heap.size w w' → Calls Try.prog 92 #[.slice ao l.length cap, .int .i64 2] w' fun e w2 => ∃ o c, e = .returned (.slice o (l.filter (kindP 2)).length c) ∧ ResS w2 (.slice o (l.filter (kindP 2)).length c) (l.filter (kindP 2)) ∧ Below w'.heap.size w' w2 := fun w' hb => by
    refine (named92 l 2 _ w w' hl hsz hb).mono ?_
    rintro e w2 ⟨o, c, L, rfl, hL, hrow, hP, hb2⟩
    have hn : L.length = (l.filter (kindP 2)).length := by rw [← hL, List.length_map]
    have hsl : Rd.SliceOf rwE w2 (.slice o L.length c) L := Rd.own_slice rwC hrow (fun _ _ => trivial) (by
      have h1 := List.length_filter_le (kindP 2) l
      have h2 := hl.1
      omega)
    have hr := lies_reads hsl (fun x hx => RP.below (hP x hx) (seq_below hb hb2))
    rw [hL] at hr
    rw [hn] at hr ⊢
    exact ⟨o, c, rfl, hr, hb2⟩
  by_cases h0 : c = 0
  · rw [if_neg (by omega)] at hcC hcL
    rw [hcC, hcL]
    subst h0
    have hzc : faultC l = 0 := hc.symm
    cases hh : has l 2 s with
    | false =>
      simp only [Bool.false_eq_true, if_false]
      replace hl := Lib.hid hl
      replace hM := Lib.hid hM
      replace hsz := Lib.hid hsz
      replace hc := Lib.hid hc
      replace hcC := Lib.hid hcC
      replace hcL := Lib.hid hcL
      replace hba := Lib.hid hba
      replace hzc := Lib.hid hzc
      replace hK92 := Lib.hid hK92
      replace hh := Lib.hid hh
      go_enter Try.func39, Try.ntmps39
      go_upto_region 1 with fail
      rw [← hwa, ← hsb]
      replace hwa := Lib.hid hwa
      replace hsb := Lib.hid hsb
      go_upto_region 4 with (first
        | (go_at_call 19; (with_reducible refine hC19.out.mono ?_); rintro e w2 ⟨wv, d, n, rfl, hCf, hb2⟩; have hb3 := Lib.hid (seq_below hba.out hb2); have hC := hCf rfl; have cs2 := (hb2.cell (p := ⟨sb, 0, none⟩) hsl).trans cs; have hsl2 := Nat.lt_of_lt_of_le hsl hb2.size; clear hb2 hCf)
        | fail)
      obtain ⟨wf, hwf⟩ : ∃ wf, wf = w2.alloc (.cells #[.int .i64 d, .int .i64 n, .int .i64 0] 27) := ⟨_, rfl⟩
      obtain ⟨bf, hbf⟩ : ∃ bf, bf = w2.heap.size := ⟨_, rfl⟩
      have hbF0 : Below w2.heap.size w2 wf := by rw [hwf]; exact alloc_below _ _
      have hbF : Hid (Below w.heap.size w wf) := Lib.hid (seq_below hb3.out hbF0)
      have csf := (hbF0.cell (p := ⟨sb, 0, none⟩) hsl2).trans cs2
      have hslf := Nat.lt_of_lt_of_le hsl2 hbF0.size
      rw [← hwf, ← hbf]
      replace hwf := Lib.hid hwf
      replace hbf := Lib.hid hbf
      replace hbF0 := Lib.hid hbF0
      have hmf := mkf
      have hnh := named_has l s
      rw [hh.out] at hnh
      obtain ⟨F, hF⟩ : ∃ F, F = l.filter (kindP 2) := ⟨_, rfl⟩
      rw [← hF] at hnh hK92
      replace hnh := Lib.hid hnh
      replace hF := Lib.hid hF
      go_wp2_with (first
        | (go_at_call 92; (with_reducible refine (hK92.out _ hbF.out).mono ?_); rintro e w3 ⟨fo, fc, rfl, hr3, hb3'⟩; have csn := (hb3'.cell (p := ⟨sb, 0, none⟩) hslf).trans csf; have hsln := Nat.lt_of_lt_of_le hslf hb3'.size; have hb4 := Lib.hid (seq_below hbF.out hb3'); have h91 := has91 F s sb _ w3 hr3 hsln csn; rw [hnh.out] at h91; replace h91 := Lib.hid h91; clear hb3' hr3)
        | (go_at_call 91; (with_reducible refine h91.out.mono ?_); rintro e w4 ⟨rfl, hb5⟩; have hb6 := Lib.hid (seq_below hb4.out hb5); have cs4 := (hb5.cell (p := ⟨sb, 0, none⟩) hsln).trans csn; have hsl4 := Nat.lt_of_lt_of_le hsln hb5.size; clear hb5)
        | fail)
      refine bodyPost_ret (v := .tuple #[.slice none 0 0, .int .i64 2]) (by simp [results, Try.results39, go_sem]) rfl ⟨_, rfl, ⟨World.ownsRow_nil _ _ _ _, fun s hs => by cases hs⟩, hb6.out⟩
    | true =>
      simp only [if_true]
      replace hl := Lib.hid hl
      replace hM := Lib.hid hM
      replace hsz := Lib.hid hsz
      replace hc := Lib.hid hc
      replace hcC := Lib.hid hcC
      replace hcL := Lib.hid hcL
      replace hba := Lib.hid hba
      replace hzc := Lib.hid hzc
      replace hK92 := Lib.hid hK92
      replace hh := Lib.hid hh
      go_enter Try.func39, Try.ntmps39
      go_upto_region 1 with fail
      rw [← hwa, ← hsb]
      replace hwa := Lib.hid hwa
      replace hsb := Lib.hid hsb
      go_upto_region 4 with (first
        | (go_at_call 19; (with_reducible refine hC19.out.mono ?_); rintro e w2 ⟨wv, d, n, rfl, hCf, hb2⟩; have hb3 := Lib.hid (seq_below hba.out hb2); have hC := hCf rfl; have cs2 := (hb2.cell (p := ⟨sb, 0, none⟩) hsl).trans cs; have hsl2 := Nat.lt_of_lt_of_le hsl hb2.size; clear hb2 hCf)
        | fail)
      obtain ⟨wf, hwf⟩ : ∃ wf, wf = w2.alloc (.cells #[.int .i64 d, .int .i64 n, .int .i64 0] 27) := ⟨_, rfl⟩
      obtain ⟨bf, hbf⟩ : ∃ bf, bf = w2.heap.size := ⟨_, rfl⟩
      have hbF0 : Below w2.heap.size w2 wf := by rw [hwf]; exact alloc_below _ _
      have hbF : Hid (Below w.heap.size w wf) := Lib.hid (seq_below hb3.out hbF0)
      have csf := (hbF0.cell (p := ⟨sb, 0, none⟩) hsl2).trans cs2
      have hslf := Nat.lt_of_lt_of_le hsl2 hbF0.size
      rw [← hwf, ← hbf]
      replace hwf := Lib.hid hwf
      replace hbf := Lib.hid hbf
      replace hbF0 := Lib.hid hbF0
      have hmf := mkf
      have hnh := named_has l s
      rw [hh.out] at hnh
      obtain ⟨F, hF⟩ : ∃ F, F = l.filter (kindP 2) := ⟨_, rfl⟩
      rw [← hF] at hnh hK92
      replace hnh := Lib.hid hnh
      replace hF := Lib.hid hF
      go_wp2_with (first
        | (go_at_call 92; (with_reducible refine (hK92.out _ hbF.out).mono ?_); rintro e w3 ⟨fo, fc, rfl, hr3, hb3'⟩; have csn := (hb3'.cell (p := ⟨sb, 0, none⟩) hslf).trans csf; have hsln := Nat.lt_of_lt_of_le hslf hb3'.size; have hb4 := Lib.hid (seq_below hbF.out hb3'); have h91 := has91 F s sb _ w3 hr3 hsln csn; rw [hnh.out] at h91; replace h91 := Lib.hid h91; clear hb3' hr3)
        | (go_at_call 91; (with_reducible refine h91.out.mono ?_); rintro e w4 ⟨rfl, hb5⟩; have hb6 := Lib.hid (seq_below hb4.out hb5); have cs4 := (hb5.cell (p := ⟨sb, 0, none⟩) hsln).trans csn; have hsl4 := Nat.lt_of_lt_of_le hsln hb5.size; clear hb5)
        | fail)
      have hS : Hid (∀ w', Below w4.heap.size w4 w' → w'.cell? ⟨sb, 0, none⟩ = some (.string s)) := Lib.hid (fun w' h => (h.cell (p := ⟨sb, 0, none⟩) hsl4).trans cs4)
      have hcur : Hid (Below w4.heap.size w4 w4.drew) := Lib.hid (drew_below w4 1)
      have k95 : Hid (∀ w', Below w4.heap.size w4 w' → Calls Try.prog 95 #[.slice ao l.length cap] w' (All95 w' l)) := Lib.hid (fun w' h => all95 l _ w' (hl.out.below (seq_below hb6.out h)) hsz.out hC)
      go_cut [4, 5] (fun rv cv wx => cv = .int .i64 0 ∧ Hid (OwnS wx w.heap.size rv (shOf l s)) ∧ Hid (Below w.heap.size w wx))
      case first =>
        have e0 := hS.out w4 (Below.refl _ _)
        go_region_held3 (fun w' => w'.cell? ⟨sb, 0, none⟩ = some (.string s))
          (first | exact hS.out _ hcur.out | fail)
          (first
            | (go_at_call 95; (with_reducible refine (k95.out _ hcur.out).mono ?_); rintro e w5 ⟨kb, M, rfl, hm5, hM5, hO5, hb7⟩; obtain ⟨v0, hv0⟩ := hM5 s hh.out; have hlk : (Instr.lookup 143 (.map (some kb)) (.string s) false).run Try.prog w5 = .ok v0 w5 := (by have := hm5.look (t := 143) (e := 67) Try.underlying143 (z := .slice none 0 0) (by kernel_rfl) false s; rw [hv0] at this; exact this); have hO6 := hO5 s v0 hv0; replace hcur := Lib.hid (seq_below hcur.out hb7); have hcl := Lib.hid (clone94 (shOf l s) v0 w5 (hO6.reads (by have := shOf_len hC s; omega)) (by have := shOf_len hC s; omega)); clear hm5 hM5 hO5 hb7 hv0 hO6)
            | (go_at_call 94; (with_reducible refine hcl.out.mono ?_); rintro e w6 ⟨v6, rfl, hO7, hb9⟩; have hb10 := Lib.hid (seq_below hb6.out (seq_below hcur.out hb9)); have hOz : OwnS w6 w.heap.size v6 (shOf l s) := ⟨ownsRow_base hO7.row (seq_below hb6.out hcur.out).size, hO7.ok⟩; replace hOz := Lib.hid hOz; replace hcur := Lib.hid (seq_below hcur.out hb9); clear hO7 hb9)
            | fail)
        all_goals (first | (go_wp2; go_meet; exact ⟨rfl, hOz, hb10⟩) | (go_meet; exact ⟨rfl, hOz, hb10⟩))
      case rest =>
        obtain ⟨rfl, hOz, hbz⟩ := hcut
        go_wp2
        refine bodyPost_ret (v := .tuple #[u4, .int .i64 0]) (by simp [results, Try.results39, go_sem]) rfl ⟨_, rfl, hOz.out, hbz.out⟩
  · rw [if_pos h0] at hcC hcL
    rw [hcC, hcL]
    have g0 : (c == 0) = false := beq_eq_false_iff_ne.2 h0
    have g1 : (c != 0) = true := bne_iff_ne.2 h0
    replace hl := Lib.hid hl
    replace hM := Lib.hid hM
    replace hsz := Lib.hid hsz
    replace hc := Lib.hid hc
    replace hcC := Lib.hid hcC
    replace hcL := Lib.hid hcL
    replace hba := Lib.hid hba
    replace hK92 := Lib.hid hK92
    go_enter Try.func39, Try.ntmps39
    go_upto_region 1 with fail
    rw [← hwa, ← hsb]
    replace hwa := Lib.hid hwa
    replace hsb := Lib.hid hsb
    go_upto_region 3 with (first
      | (go_at_call 19; (with_reducible refine hC19.out.mono ?_); rintro e w2 ⟨wv, d, n, rfl, _, hb2⟩; have hb3 := Lib.hid (seq_below hba.out hb2); clear hb2)
      | fail)
    obtain ⟨wf, hwf⟩ : ∃ wf, wf = w2.alloc (.cells #[.int .i64 d, .int .i64 n, .int .i64 c] 27) := ⟨_, rfl⟩
    obtain ⟨bf, hbf⟩ : ∃ bf, bf = w2.heap.size := ⟨_, rfl⟩
    have hbx : wf.heap[bf]? = some (.cells #[.int .i64 d, .int .i64 n, .int .i64 c] 27) := by rw [hwf, hbf]; exact heap_alloc_new w2 _
    have f2 : wf.cell? ⟨bf, 2, none⟩ = some (.int .i64 c) := box_at hbx (j := 2) rfl
    have hbF : Hid (Below w.heap.size w wf) := Lib.hid (by rw [hwf]; exact seq_below hb3.out (alloc_below _ _))
    rw [← hwf, ← hbf]
    replace hwf := Lib.hid hwf
    replace hbf := Lib.hid hbf
    replace hbx := Lib.hid hbx
    go_quiet (fail)
    all_goals
      go_wp2
      refine bodyPost_ret (v := .tuple #[.slice none 0 0, .int .i64 c]) (by simp [results, Try.results39, go_sem]) rfl ⟨_, rfl, ⟨World.ownsRow_nil _ _ _ _, fun s hs => by cases hs⟩, below_drewN hbF.out _⟩
theorem shares40 (l : List Res) (s : ByteArray) (v : Value) (w : World) (hl : ResS w v l) (hM : listM l ≤ 1048576) : Calls Try.prog 40 #[v, .string s] w (SharesO w l s) := by
  obtain ⟨ao, cap, rfl⟩ := slice_shape hl
  have hC20 := Lib.hid (check20c l _ w hl hM)
  obtain ⟨c, hc⟩ : ∃ c, c = faultC l := ⟨_, rfl⟩
  have hcC : sharesC l s = if c ≠ 0 then c else if has l 2 s = true then 0 else 2 := by rw [hc]; rfl
  have hcL : sharesL l s = if c ≠ 0 then [] else if has l 2 s = true then shOf l s else [] := by rw [hc]; rfl
  rw [← hc] at hC20
  unfold SharesO
  by_cases h0 : c = 0
  · rw [if_neg (by omega)] at hcC hcL
    rw [hcC, hcL]
    subst h0
    have hzc : faultC l = 0 := hc.symm
    cases hh : has l 2 s with
    | true =>
      simp only [if_true]
      replace hl := Lib.hid hl
      replace hM := Lib.hid hM
      replace hc := Lib.hid hc
      replace hcC := Lib.hid hcC
      replace hcL := Lib.hid hcL
      replace hzc := Lib.hid hzc
      go_enter Try.func40, Try.ntmps40
      go_upto_region 4 with (first
        | (go_at_call 20; (with_reducible refine hC20.out.mono ?_); rintro e w2 ⟨wv, d, n, rfl, hCf, hb2⟩; have hC := hCf rfl; have hb3 := Lib.hid hb2; clear hb2 hCf)
        | fail)
      obtain ⟨wf, hwf⟩ : ∃ wf, wf = w2.alloc (.cells #[.int .i64 d, .int .i64 n, .int .i64 0] 32) := ⟨_, rfl⟩
      obtain ⟨bf, hbf⟩ : ∃ bf, bf = w2.heap.size := ⟨_, rfl⟩
      have hbF : Hid (Below w.heap.size w wf) := Lib.hid (by rw [hwf]; exact seq_below hb3.out (alloc_below _ _))
      rw [← hwf, ← hbf]
      replace hwf := Lib.hid hwf
      replace hbf := Lib.hid hbf
      go_upto_region 5 with (first
        | (go_at_call 96; (with_reducible refine (all96 l _ _ (hl.out.below hbF.out) hC).mono ?_); rintro e w3 ⟨kb, K, nv, sv, rfl, hK, hin⟩; have hkn := kn_len hK; have h64 := hC.n; have h97 := at97 hK (by omega) s; replace hK := Lib.hid hK; replace hin := Lib.hid hin)
        | fail)
      have hbz := Lib.hid (seq_below hbF.out hK.out.bel)
      rcases atK_cases K s with ⟨hat, hnin⟩ | ⟨ix, p, hat, hix, hpx, hpn⟩
      · exact absurd (hin.out s hh) hnin
      · rw [hat] at h97
        have g0 : decide ((ix : Int) < 0) = false := decide_eq_false (by omega)
        have g1 : ¬ (ix : Int) < 0 := by omega
        obtain ⟨so, sc, rfl⟩ := ownsRow_shape hK.out.rs
        have k1 : w3.cell? ⟨kb, 1, none⟩ = some (.slice so K.length sc) := box_at hK.out.box (j := 1) rfl
        obtain ⟨sg, hsg, _, _, kp, _⟩ := ownsRow_cell hK.out.rs (j := ix) (u := p.2) (by rw [List.getElem?_map, hpx]; rfl)
        subst hsg
        have i0 : (ix : Int) < (K.length : Int) := nn_lt hix
        have i1 : (0 : Int) ≤ (ix : Int) := by omega
        have hOz := (hK.out.ok p (List.mem_of_getElem? hpx)).1
        rw [hpn] at hOz
        have hOy : Hid (OwnS w3 w.heap.size p.2 (shOf l s)) := Lib.hid ⟨ownsRow_base hOz.row hbF.out.size, hOz.ok⟩
        obtain ⟨po, pc, hpv⟩ := ownsRow_shape hOz.row
        rw [hpv] at kp hOy
        replace hOz := Lib.hid hOz
        replace hpx := Lib.hid hpx
        replace hpn := Lib.hid hpn
        replace hat := Lib.hid hat
        replace h97 := Lib.hid h97
        replace hpv := Lib.hid hpv
        go_wp2_with (first
          | (go_at_call 97; (with_reducible refine h97.out.mono ?_); rintro e w4 ⟨rfl, rfl⟩)
          | fail)
        refine bodyPost_ret (v := .tuple #[.slice po (shOf l s).length pc, .int .i64 0]) (by simp [results, Try.results40, go_sem]) rfl ⟨_, rfl, hOy.out, hbz.out⟩
    | false =>
      simp only [Bool.false_eq_true, if_false]
      replace hl := Lib.hid hl
      replace hM := Lib.hid hM
      replace hc := Lib.hid hc
      replace hcC := Lib.hid hcC
      replace hcL := Lib.hid hcL
      replace hzc := Lib.hid hzc
      go_enter Try.func40, Try.ntmps40
      go_upto_region 4 with (first
        | (go_at_call 20; (with_reducible refine hC20.out.mono ?_); rintro e w2 ⟨wv, d, n, rfl, hCf, hb2⟩; have hC := hCf rfl; have hb3 := Lib.hid hb2; clear hb2 hCf)
        | fail)
      obtain ⟨wf, hwf⟩ : ∃ wf, wf = w2.alloc (.cells #[.int .i64 d, .int .i64 n, .int .i64 0] 32) := ⟨_, rfl⟩
      obtain ⟨bf, hbf⟩ : ∃ bf, bf = w2.heap.size := ⟨_, rfl⟩
      have hbF : Hid (Below w.heap.size w wf) := Lib.hid (by rw [hwf]; exact seq_below hb3.out (alloc_below _ _))
      rw [← hwf, ← hbf]
      replace hwf := Lib.hid hwf
      replace hbf := Lib.hid hbf
      go_upto_region 5 with (first
        | (go_at_call 96; (with_reducible refine (all96 l _ _ (hl.out.below hbF.out) hC).mono ?_); rintro e w3 ⟨kb, K, nv, sv, rfl, hK, hin⟩; have hkn := kn_len hK; have h64 := hC.n; have h97 := at97 hK (by omega) s; replace hK := Lib.hid hK; replace hin := Lib.hid hin)
        | fail)
      have hbz := Lib.hid (seq_below hbF.out hK.out.bel)
      rcases atK_cases K s with ⟨hat, hnin⟩ | ⟨ix, p, hat, hix, hpx, hpn⟩
      · rw [hat] at h97
        replace hnin := Lib.hid hnin
        replace hat := Lib.hid hat
        replace h97 := Lib.hid h97
        go_wp2_with (first
          | (go_at_call 97; (with_reducible refine h97.out.mono ?_); rintro e w4 ⟨rfl, rfl⟩)
          | fail)
        refine bodyPost_ret (v := .tuple #[.slice none 0 0, .int .i64 2]) (by simp [results, Try.results40, go_sem]) rfl ⟨_, rfl, ⟨World.ownsRow_nil _ _ _ _, fun s hs => by cases hs⟩, hbz.out⟩
      · have := (hK.out.ok p (List.mem_of_getElem? hpx)).2
        rw [hpn, hh] at this; cases this
  · rw [if_pos h0] at hcC hcL
    rw [hcC, hcL]
    have g0 : (c == 0) = false := beq_eq_false_iff_ne.2 h0
    have g1 : (c != 0) = true := bne_iff_ne.2 h0
    replace hl := Lib.hid hl
    replace hM := Lib.hid hM
    replace hc := Lib.hid hc
    replace hcC := Lib.hid hcC
    replace hcL := Lib.hid hcL
    go_enter Try.func40, Try.ntmps40
    go_upto_region 3 with (first
      | (go_at_call 20; (with_reducible refine hC20.out.mono ?_); rintro e w2 ⟨wv, d, n, rfl, _, hb2⟩; have hb3 := Lib.hid hb2; clear hb2)
      | fail)
    obtain ⟨wf, hwf⟩ : ∃ wf, wf = w2.alloc (.cells #[.int .i64 d, .int .i64 n, .int .i64 c] 32) := ⟨_, rfl⟩
    obtain ⟨bf, hbf⟩ : ∃ bf, bf = w2.heap.size := ⟨_, rfl⟩
    have hbx : wf.heap[bf]? = some (.cells #[.int .i64 d, .int .i64 n, .int .i64 c] 32) := by rw [hwf, hbf]; exact heap_alloc_new w2 _
    have f2 : wf.cell? ⟨bf, 2, none⟩ = some (.int .i64 c) := box_at hbx (j := 2) rfl
    have hbF : Hid (Below w.heap.size w wf) := Lib.hid (by rw [hwf]; exact seq_below hb3.out (alloc_below _ _))
    rw [← hwf, ← hbf]
    replace hwf := Lib.hid hwf
    replace hbf := Lib.hid hbf
    replace hbx := Lib.hid hbx
    go_quiet (fail)
    all_goals
      go_wp2
      refine bodyPost_ret (v := .tuple #[.slice none 0 0, .int .i64 c]) (by simp [results, Try.results40, go_sem]) rfl ⟨_, rfl, ⟨World.ownsRow_nil _ _ _ _, fun s hs => by cases hs⟩, below_drewN hbF.out _⟩
end Go.Proofs.Ytjepgpocmnijiaa
end

section
/- The laws' own comparisons of chapter 15, of what is the same. -/
namespace Go.Proofs.Ytjepgpocmnijiaa
open Go.RowKit Go.Mp Go.Ck Fl
set_option linter.unusedVariables false
set_option maxRecDepth 100000
set_option maxHeartbeats 4000000
theorem bits135 (x : Nat) (w : World) : (callFunc 135 #[.float .f64 x]).run Try.prog w = .ok (.value (.int .u64 x)) w := by
  rw [run_callFunc_extern Try.func135 (by kernel_rfl) (by kernel_rfl) (by kernel_rfl) (e := Extern.MathFloatBits.float64bits) (by kernel_rfl)]
  rfl
theorem alike98 (x : Nat) (w : World) : Calls Try.prog 98 #[.float .f64 x, .float .f64 x] w fun e w' => e = .returned (.bool true) ∧ w = w' := by
  have hb := fun w => bits135 x w
  go_enter Try.func98, Try.ntmps98
  go_wp2
  go_ret
  exact ⟨rfl, rfl⟩
theorem seq_self (a : ByteArray) : (a.toList == a.toList) = true := by simp
theorem texts104 (l : List ByteArray) (v1 v2 : Value) (w : World) (h1 : Rd.SliceOf Rd.str w v1 l) (h2 : Rd.SliceOf Rd.str w v2 l) : Calls Try.prog 104 #[v1, v2] w fun e w' => e = .returned (.bool true) ∧ Below w.heap.size w w' := by
  obtain ⟨a1, cap1, rfl⟩ := slice_shape h1
  obtain ⟨a2, cap2, rfl⟩ := slice_shape h2
  have hlen := h1.1
  replace h1 := Lib.hid h1
  replace h2 := Lib.hid h2
  go_enter Try.func104, Try.ntmps104
  go_wp2
  go_loopg [5] (l.length + 1) (fun gg ic wx => ∃ i : Nat, gg = l.length - i + 1 ∧ i ≤ l.length ∧ ic = .int .i64 i ∧ Hid (Below w.heap.size w wx))
  case atStart => exact ⟨0, rfl, Nat.zero_le _, rfl, Lib.hid (Below.refl _ _)⟩
  case round =>
    obtain ⟨i, rfl, hi, rfl, hbw⟩ := hrel
    by_cases hlt : i < l.length
    · obtain ⟨x, hx⟩ : ∃ x, l[i]? = some x := ⟨_, List.getElem?_eq_getElem hlt⟩
      obtain ⟨xb, xo, rfl, _, c0, _⟩ := at_i h1.out hbw.out hx
      obtain ⟨yb, yo, rfl, _, d0, _⟩ := at_i h2.out hbw.out hx
      replace c0 : wr.cell? ⟨xb, xo + i, none⟩ = some (.string x) := by simpa [Rd.cellsAt, Rd.str] using c0
      replace d0 : wr.cell? ⟨yb, yo + i, none⟩ = some (.string x) := by simpa [Rd.cellsAt, Rd.str] using d0
      have k0 : (i : Int) < (l.length : Int) := nn_lt hlt
      have hwk := Lib.hid (nn_succ2 hlt hlen)
      have hq := seq_self x
      replace hx := Lib.hid hx
      go_upto_region 6 with fail
      go_quiet (fail)
      all_goals
        go_wp2
        go_roundg (l.length - (i + 1) + 1)
        case rel => exact ⟨i + 1, rfl, hlt, by first | rw [hwk.out] | go_num, Lib.hid (below_drewN hbw.out _)⟩
        case measure => exact nn_downS hlt
    · have k0 : decide ((i : Int) < (l.length : Int)) = false := decide_eq_false (by omega)
      have k1 : ¬ (i : Int) < (l.length : Int) := by omega
      go_wp2
      go_ret
      exact ⟨rfl, hbw.out⟩
theorem targets136 (l : List Tgt) (v1 v2 : Value) (w : World) (h1 : Rd.SliceOf tgtE w v1 l) (h2 : Rd.SliceOf tgtE w v2 l) : Calls Try.prog 136 #[v1, v2] w fun e w' => e = .returned (.bool true) ∧ Below w.heap.size w w' := by
  obtain ⟨a1, cap1, rfl⟩ := slice_shape h1
  obtain ⟨a2, cap2, rfl⟩ := slice_shape h2
  have hlen := h1.1
  have hal := fun x w => alike98 x w
  replace h1 := Lib.hid h1
  replace h2 := Lib.hid h2
  replace hal := Lib.hid hal
  go_enter Try.func136, Try.ntmps136
  go_wp2
  go_loopg [5] (l.length + 1) (fun gg ic wx => ∃ i : Nat, gg = l.length - i + 1 ∧ i ≤ l.length ∧ ic = .int .i64 i ∧ Hid (Below w.heap.size w wx))
  case atStart => exact ⟨0, rfl, Nat.zero_le _, rfl, Lib.hid (Below.refl _ _)⟩
  case round =>
    obtain ⟨i, rfl, hi, rfl, hbw⟩ := hrel
    by_cases hlt : i < l.length
    · obtain ⟨x, hx⟩ : ∃ x, l[i]? = some x := ⟨_, List.getElem?_eq_getElem hlt⟩
      obtain ⟨xb, xo, rfl, xl, c0, c1, c2, _⟩ := tgt_at h1.out hbw.out hx
      obtain ⟨yb, yo, rfl, yl, d0, d1, d2, _⟩ := tgt_at h2.out hbw.out hx
      have hSS : Hid (∀ w', Below w.heap.size w w' → w'.cell? ⟨xb, xo + i * 3, none⟩ = some (.string x.service) ∧ w'.cell? ⟨xb, xo + i * 3 + 1, none⟩ = some (.string x.split) ∧ w'.cell? ⟨xb, xo + i * 3 + 2, none⟩ = some (.float .f64 x.weight) ∧ w'.cell? ⟨yb, yo + i * 3, none⟩ = some (.string x.service) ∧ w'.cell? ⟨yb, yo + i * 3 + 1, none⟩ = some (.string x.split) ∧ w'.cell? ⟨yb, yo + i * 3 + 2, none⟩ = some (.float .f64 x.weight)) := Lib.hid (fun w' h => by
        obtain ⟨_, _, e1, _, p0, p1, p2, _⟩ := tgt_at h1.out h hx
        obtain ⟨_, _, e2, _, q0, q1, q2, _⟩ := tgt_at h2.out h hx
        simp only [Option.some.injEq, Addr.mk.injEq, and_true] at e1 e2
        obtain ⟨rfl, rfl⟩ := e1
        obtain ⟨rfl, rfl⟩ := e2
        exact ⟨p0, p1, p2, q0, q1, q2⟩)
      have k0 : (i : Int) < (l.length : Int) := nn_lt hlt
      have hwk := Lib.hid (nn_succ2 hlt hlen)
      replace hx := Lib.hid hx
      replace xl := Lib.hid xl
      replace yl := Lib.hid yl
      go_upto_region 6 with fail
      have hcur2 : Hid (Below w.heap.size w wr.drew) := Lib.hid (seq_below hbw.out (drew_below wr 1))
      have hS : Hid (∀ w', Below w.heap.size w w' → w'.cell? ⟨xb, xo + i * 3, none⟩ = some (.string x.service) ∧ w'.cell? ⟨xb, xo + i * 3 + 1, none⟩ = some (.string x.split) ∧ w'.cell? ⟨xb, xo + i * 3 + 2, none⟩ = some (.float .f64 x.weight) ∧ w'.cell? ⟨yb, yo + i * 3, none⟩ = some (.string x.service) ∧ w'.cell? ⟨yb, yo + i * 3 + 1, none⟩ = some (.string x.split) ∧ w'.cell? ⟨yb, yo + i * 3 + 2, none⟩ = some (.float .f64 x.weight)) := hSS
      go_cut [54] (fun b wx => b = .bool false ∧ Hid (Below w.heap.size w wx))
      case first =>
        go_region_held3 (fun w' => w'.cell? ⟨xb, xo + i * 3, none⟩ = some (.string x.service) ∧ w'.cell? ⟨xb, xo + i * 3 + 1, none⟩ = some (.string x.split) ∧ w'.cell? ⟨xb, xo + i * 3 + 2, none⟩ = some (.float .f64 x.weight) ∧ w'.cell? ⟨yb, yo + i * 3, none⟩ = some (.string x.service) ∧ w'.cell? ⟨yb, yo + i * 3 + 1, none⟩ = some (.string x.split) ∧ w'.cell? ⟨yb, yo + i * 3 + 2, none⟩ = some (.float .f64 x.weight))
          (first | exact hS.out _ hcur2.out | fail)
          (first
            | (go_at_call 98; (with_reducible refine (hal.out _ _).mono ?_); rintro e w2 ⟨rfl, rfl⟩)
            | fail)
        all_goals (first | (go_wp2; go_meet; exact ⟨rfl, hcur2⟩) | (go_meet; exact ⟨rfl, hcur2⟩))
      case rest =>
        obtain ⟨rfl, hbz⟩ := hcut
        go_wp2
        go_roundg (l.length - (i + 1) + 1)
        case rel => exact ⟨i + 1, rfl, hlt, by first | rw [hwk.out] | go_num, hbz⟩
        case measure => exact nn_downS hlt
    · have k0 : decide ((i : Int) < (l.length : Int)) = false := decide_eq_false (by omega)
      have k1 : ¬ (i : Int) < (l.length : Int) := by omega
      go_wp2
      go_ret
      exact ⟨rfl, hbw.out⟩
theorem sameU_self (x : Rul) : sameU x x = true := by unfold sameU; simp [seq_iff]
theorem rules137 (l : List Rul) (v1 v2 : Value) (w : World) (h1 : Rd.SliceOf rulE w v1 l) (h2 : Rd.SliceOf rulE w v2 l) : Calls Try.prog 137 #[v1, v2] w fun e w' => e = .returned (.bool true) ∧ Below w.heap.size w w' := by
  obtain ⟨a1, cap1, rfl⟩ := slice_shape h1
  obtain ⟨a2, cap2, rfl⟩ := slice_shape h2
  have hlen := h1.1
  replace h1 := Lib.hid h1
  replace h2 := Lib.hid h2
  go_enter Try.func137, Try.ntmps137
  go_wp2
  go_loopg [5] (l.length + 1) (fun gg ic wx => ∃ i : Nat, gg = l.length - i + 1 ∧ i ≤ l.length ∧ ic = .int .i64 i ∧ Hid (Below w.heap.size w wx))
  case atStart => exact ⟨0, rfl, Nat.zero_le _, rfl, Lib.hid (Below.refl _ _)⟩
  case round =>
    obtain ⟨i, rfl, hi, rfl, hbw⟩ := hrel
    by_cases hlt : i < l.length
    · obtain ⟨x, hx⟩ : ∃ x, l[i]? = some x := ⟨_, List.getElem?_eq_getElem hlt⟩
      obtain ⟨xb, xo, rfl, _, c0, c1, c2, c3, _⟩ := rul_at h1.out hbw.out hx
      obtain ⟨yb, yo, rfl, _, d0, d1, d2, d3, _⟩ := rul_at h2.out hbw.out hx
      have heq : ∀ w, (binOp .neq 101 (.agg #[.string x.path, .string x.method, .string x.split, .bool x.allow]) (.agg #[.string x.path, .string x.method, .string x.split, .bool x.allow])).run Try.prog w = .ok (.bool false) w := fun w => by
        have := rul_neq x x w
        rwa [sameU_self] at this
      have k0 : (i : Int) < (l.length : Int) := nn_lt hlt
      have hwk := Lib.hid (nn_succ2 hlt hlen)
      replace hx := Lib.hid hx
      go_upto_region 6 with fail
      go_quiet (fail)
      all_goals
        go_wp2
        go_roundg (l.length - (i + 1) + 1)
        case rel => exact ⟨i + 1, rfl, hlt, by first | rw [hwk.out] | go_num, Lib.hid (below_drewN hbw.out _)⟩
        case measure => exact nn_downS hlt
    · have k0 : decide ((i : Int) < (l.length : Int)) = false := decide_eq_false (by omega)
      have k1 : ¬ (i : Int) < (l.length : Int) := by omega
      go_wp2
      go_ret
      exact ⟨rfl, hbw.out⟩
theorem shares42 (l : List Shr) (v1 v2 : Value) (w : World) (h1 : ShS w v1 l) (h2 : ShS w v2 l) : Calls Try.prog 42 #[v1, v2] w fun e w' => e = .returned (.bool true) ∧ Below w.heap.size w w' := by
  obtain ⟨a1, cap1, rfl⟩ := slice_shape h1
  obtain ⟨a2, cap2, rfl⟩ := slice_shape h2
  have hlen := h1.1
  have hal := fun x w => alike98 x w
  replace h1 := Lib.hid h1
  replace h2 := Lib.hid h2
  replace hal := Lib.hid hal
  go_enter Try.func42, Try.ntmps42
  go_wp2
  go_loopg [5] (l.length + 1) (fun gg ic wx => ∃ i : Nat, gg = l.length - i + 1 ∧ i ≤ l.length ∧ ic = .int .i64 i ∧ Hid (Below w.heap.size w wx))
  case atStart => exact ⟨0, rfl, Nat.zero_le _, rfl, Lib.hid (Below.refl _ _)⟩
  case round =>
    obtain ⟨i, rfl, hi, rfl, hbw⟩ := hrel
    by_cases hlt : i < l.length
    · obtain ⟨x, hx⟩ : ∃ x, l[i]? = some x := ⟨_, List.getElem?_eq_getElem hlt⟩
      obtain ⟨xb, xo, rfl, xl, c0, c1, _⟩ := shr_at h1.out hbw.out hx
      obtain ⟨yb, yo, rfl, yl, d0, d1, _⟩ := shr_at h2.out hbw.out hx
      have hSS : Hid (∀ w', Below w.heap.size w w' → w'.cell? ⟨xb, xo + i * 2, none⟩ = some (.string x.service) ∧ w'.cell? ⟨xb, xo + i * 2 + 1, none⟩ = some (.float .f64 x.upto) ∧ w'.cell? ⟨yb, yo + i * 2, none⟩ = some (.string x.service) ∧ w'.cell? ⟨yb, yo + i * 2 + 1, none⟩ = some (.float .f64 x.upto)) := Lib.hid (fun w' h => by
        obtain ⟨_, _, e1, _, p0, p1, _⟩ := shr_at h1.out h hx
        obtain ⟨_, _, e2, _, q0, q1, _⟩ := shr_at h2.out h hx
        simp only [Option.some.injEq, Addr.mk.injEq, and_true] at e1 e2
        obtain ⟨rfl, rfl⟩ := e1
        obtain ⟨rfl, rfl⟩ := e2
        exact ⟨p0, p1, q0, q1⟩)
      have k0 : (i : Int) < (l.length : Int) := nn_lt hlt
      have hwk := Lib.hid (nn_succ2 hlt hlen)
      replace hx := Lib.hid hx
      replace xl := Lib.hid xl
      replace yl := Lib.hid yl
      go_upto_region 6 with fail
      have hcur2 : Hid (Below w.heap.size w wr.drew) := Lib.hid (seq_below hbw.out (drew_below wr 1))
      have hS : Hid (∀ w', Below w.heap.size w w' → w'.cell? ⟨xb, xo + i * 2, none⟩ = some (.string x.service) ∧ w'.cell? ⟨xb, xo + i * 2 + 1, none⟩ = some (.float .f64 x.upto) ∧ w'.cell? ⟨yb, yo + i * 2, none⟩ = some (.string x.service) ∧ w'.cell? ⟨yb, yo + i * 2 + 1, none⟩ = some (.float .f64 x.upto)) := hSS
      go_cut [41] (fun b wx => b = .bool false ∧ Hid (Below w.heap.size w wx))
      case first =>
        go_region_held3 (fun w' => w'.cell? ⟨xb, xo + i * 2, none⟩ = some (.string x.service) ∧ w'.cell? ⟨xb, xo + i * 2 + 1, none⟩ = some (.float .f64 x.upto) ∧ w'.cell? ⟨yb, yo + i * 2, none⟩ = some (.string x.service) ∧ w'.cell? ⟨yb, yo + i * 2 + 1, none⟩ = some (.float .f64 x.upto))
          (first | exact hS.out _ hcur2.out | fail)
          (first
            | (go_at_call 98; (with_reducible refine (hal.out _ _).mono ?_); rintro e w2 ⟨rfl, rfl⟩)
            | fail)
        all_goals (first | (go_wp2; go_meet; exact ⟨rfl, hcur2⟩) | (go_meet; exact ⟨rfl, hcur2⟩))
      case rest =>
        obtain ⟨rfl, hbz⟩ := hcut
        go_wp2
        go_roundg (l.length - (i + 1) + 1)
        case rel => exact ⟨i + 1, rfl, hlt, by first | rw [hwk.out] | go_num, hbz⟩
        case measure => exact nn_downS hlt
    · have k0 : decide ((i : Int) < (l.length : Int)) = false := decide_eq_false (by omega)
      have k1 : ¬ (i : Int) < (l.length : Int) := by omega
      go_wp2
      go_ret
      exact ⟨rfl, hbw.out⟩
end Go.Proofs.Ytjepgpocmnijiaa
end

section

namespace Go.Proofs.Ytjepgpocmnijiaa
open Go.RowKit Go.Mp Go.Ck Fl
set_option linter.unusedVariables false
set_option maxRecDepth 100000
set_option maxHeartbeats 4000000
theorem resource99 (a : Res) (ea ta ra eb tb rb : Value) (w : World) (ha : RP w a ea ta ra) (hb : RP w a eb tb rb) : Calls Try.prog 99 #[.agg #[.int .i64 a.kind, .string a.name, ea, ta, .string a.host, ra, .string a.route, .bool a.del], .agg #[.int .i64 a.kind, .string a.name, eb, tb, .string a.host, rb, .string a.route, .bool a.del]] w
    fun e w' => e = .returned (.bool true) ∧ Below w.heap.size w w' := by
  obtain ⟨eao, eac, rfl⟩ := slice_shape ha.e
  obtain ⟨tao, tac, rfl⟩ := slice_shape ha.t
  obtain ⟨rao, rac, rfl⟩ := slice_shape ha.ru
  obtain ⟨ebo, ebc, rfl⟩ := slice_shape hb.e
  obtain ⟨tbo, tbc, rfl⟩ := slice_shape hb.t
  obtain ⟨rbo, rbc, rfl⟩ := slice_shape hb.ru
  obtain ⟨w1, hw1⟩ : ∃ w1, w1 = w.alloc (.cells #[.int .i64 a.kind, .string a.name, .slice eao a.eps.length eac, .slice tao a.tgts.length tac, .string a.host, .slice rao a.rules.length rac, .string a.route, .bool a.del] 52) := ⟨_, rfl⟩
  obtain ⟨w2, hw2⟩ : ∃ w2, w2 = w1.alloc (.cells #[.int .i64 a.kind, .string a.name, .slice ebo a.eps.length ebc, .slice tbo a.tgts.length tbc, .string a.host, .slice rbo a.rules.length rbc, .string a.route, .bool a.del] 52) := ⟨_, rfl⟩
  obtain ⟨ba, hba⟩ : ∃ ba, ba = w.heap.size := ⟨_, rfl⟩
  obtain ⟨bb, hbb⟩ : ∃ bb, bb = w.heap.size + 1 := ⟨_, rfl⟩
  have hs1 : w1.heap.size = bb := by rw [hw1, hbb]; simp
  have hb1 : Below w.heap.size w w1 := by rw [hw1]; exact alloc_below _ _
  have hb2 : Below w1.heap.size w1 w2 := by rw [hw2]; exact alloc_below _ _
  have hbw := seq_below hb1 hb2
  have xa0 : w1.heap[ba]? = some (.cells #[.int .i64 a.kind, .string a.name, .slice eao a.eps.length eac, .slice tao a.tgts.length tac, .string a.host, .slice rao a.rules.length rac, .string a.route, .bool a.del] 52 (0, 0)) := by rw [hw1, hba]; exact heap_alloc_new w _
  have xa := (hb2.block ba (Array.getElem?_eq_some_iff.1 xa0).1).trans xa0
  have xb : w2.heap[bb]? = some (.cells #[.int .i64 a.kind, .string a.name, .slice ebo a.eps.length ebc, .slice tbo a.tgts.length tbc, .string a.host, .slice rbo a.rules.length rbc, .string a.route, .bool a.del] 52 (0, 0)) := by rw [hw2, ← hs1]; exact heap_alloc_new w1 _
  have hYA : Hid (∀ w', Below w2.heap.size w2 w' → w'.cell? ⟨ba, 0, none⟩ = some (.int .i64 a.kind) ∧ w'.cell? ⟨ba, 1, none⟩ = some (.string a.name) ∧ w'.cell? ⟨ba, 2, none⟩ = some (.slice eao a.eps.length eac) ∧ w'.cell? ⟨ba, 3, none⟩ = some (.slice tao a.tgts.length tac) ∧ w'.cell? ⟨ba, 4, none⟩ = some (.string a.host) ∧ w'.cell? ⟨ba, 5, none⟩ = some (.slice rao a.rules.length rac) ∧ w'.cell? ⟨ba, 6, none⟩ = some (.string a.route) ∧ w'.cell? ⟨ba, 7, none⟩ = some (.bool a.del)) := Lib.hid (fun w' h => by
    have x := (h.block ba (Array.getElem?_eq_some_iff.1 xa).1).trans xa
    exact ⟨box_at x rfl, box_at x rfl, box_at x rfl, box_at x rfl, box_at x rfl, box_at x rfl, box_at x rfl, box_at x rfl⟩)
  have hYB : Hid (∀ w', Below w2.heap.size w2 w' → w'.cell? ⟨bb, 0, none⟩ = some (.int .i64 a.kind) ∧ w'.cell? ⟨bb, 1, none⟩ = some (.string a.name) ∧ w'.cell? ⟨bb, 2, none⟩ = some (.slice ebo a.eps.length ebc) ∧ w'.cell? ⟨bb, 3, none⟩ = some (.slice tbo a.tgts.length tbc) ∧ w'.cell? ⟨bb, 4, none⟩ = some (.string a.host) ∧ w'.cell? ⟨bb, 5, none⟩ = some (.slice rbo a.rules.length rbc) ∧ w'.cell? ⟨bb, 6, none⟩ = some (.string a.route) ∧ w'.cell? ⟨bb, 7, none⟩ = some (.bool a.del)) := Lib.hid (fun w' h => by
    have x := (h.block bb (Array.getElem?_eq_some_iff.1 xb).1).trans xb
    exact ⟨box_at x rfl, box_at x rfl, box_at x rfl, box_at x rfl, box_at x rfl, box_at x rfl, box_at x rfl, box_at x rfl⟩)
  obtain ⟨y0, y1, y2, y3, y4, y5, y6, y7⟩ := hYA.out w2 (Below.refl _ _)
  obtain ⟨z0, z1, z2, z3, z4, z5, z6, z7⟩ := hYB.out w2 (Below.refl _ _)
  have ha1 := ha.below hbw
  have hb1' := hb.below hbw
  have hK104 : Hid (∀ w', Below w2.heap.size w2 w' → Calls Try.prog 104 #[.slice eao a.eps.length eac, .slice ebo a.eps.length ebc] w' fun e wx => e = .returned (.bool true) ∧ Below w2.heap.size w2 wx) := Lib.hid (fun w' h => (texts104 a.eps _ _ w' (ha1.e.below h) (hb1'.e.below h)).mono fun _ _ ⟨he, hb⟩ => ⟨he, seq_below h hb⟩)
  have hK136 : Hid (∀ w', Below w2.heap.size w2 w' → Calls Try.prog 136 #[.slice tao a.tgts.length tac, .slice tbo a.tgts.length tbc] w' fun e wx => e = .returned (.bool true) ∧ Below w2.heap.size w2 wx) := Lib.hid (fun w' h => (targets136 a.tgts _ _ w' (ha1.t.below h) (hb1'.t.below h)).mono fun _ _ ⟨he, hb⟩ => ⟨he, seq_below h hb⟩)
  have hK137 : Hid (∀ w', Below w2.heap.size w2 w' → Calls Try.prog 137 #[.slice rao a.rules.length rac, .slice rbo a.rules.length rbc] w' fun e wx => e = .returned (.bool true) ∧ Below w2.heap.size w2 wx) := Lib.hid (fun w' h => (rules137 a.rules _ _ w' (ha1.ru.below h) (hb1'.ru.below h)).mono fun _ _ ⟨he, hb⟩ => ⟨he, seq_below h hb⟩)
  have hcur := Lib.hid (Below.refl w2.heap.size w2)
  have hdd : (a.del == a.del) = true := by simp
  replace hw1 := Lib.hid hw1
  replace hw2 := Lib.hid hw2
  replace hba := Lib.hid hba
  replace hbb := Lib.hid hbb
  replace hs1 := Lib.hid hs1
  replace hb1 := Lib.hid hb1
  replace hb2 := Lib.hid hb2
  replace hbw := Lib.hid hbw
  replace xa0 := Lib.hid xa0
  replace xa := Lib.hid xa
  replace xb := Lib.hid xb
  replace ha1 := Lib.hid ha1
  replace hb1' := Lib.hid hb1'
  replace ha := Lib.hid ha
  replace hb := Lib.hid hb
  go_enter Try.func99, Try.ntmps99
  go_upto_region 1 with fail
  rw [← hw1.out, ← hw2.out, ← hbb.out, ← hba.out]
  go_wp2_with (first
    | (go_at_call 104; (with_reducible refine (hK104.out _ hcur.out).mono ?_); rintro e wC ⟨rfl, hbC⟩; (obtain ⟨y0, y1, y2, y3, y4, y5, y6, y7⟩ := hYA.out _ hbC); (obtain ⟨z0, z1, z2, z3, z4, z5, z6, z7⟩ := hYB.out _ hbC); replace hcur := Lib.hid hbC; clear hbC)
    | (go_at_call 136; (with_reducible refine (hK136.out _ hcur.out).mono ?_); rintro e wC ⟨rfl, hbC⟩; (obtain ⟨y0, y1, y2, y3, y4, y5, y6, y7⟩ := hYA.out _ hbC); (obtain ⟨z0, z1, z2, z3, z4, z5, z6, z7⟩ := hYB.out _ hbC); replace hcur := Lib.hid hbC; clear hbC)
    | (go_at_call 137; (with_reducible refine (hK137.out _ hcur.out).mono ?_); rintro e wC ⟨rfl, hbC⟩; (obtain ⟨y0, y1, y2, y3, y4, y5, y6, y7⟩ := hYA.out _ hbC); (obtain ⟨z0, z1, z2, z3, z4, z5, z6, z7⟩ := hYB.out _ hbC); replace hcur := Lib.hid hbC; clear hbC)
    | fail)
  go_ret
  exact ⟨rfl, seq_below hbw.out hcur.out⟩
theorem stay43 (l : List Res) (g : Nat) (gc : Nat) (v2 : Value) (w : World) (h1 : ResS w (.slice (some ⟨g, 0, none⟩) l.length gc) l) (h2 : ResS w v2 l) (hc : l.length + 1 ≤ gc) (hm : w.cell? ⟨g, l.length * 8, none⟩ = some (.int .i64 (-77))) (hgl : g < w.heap.size) :
    Calls Try.prog 43 #[.slice (some ⟨g, 0, none⟩) l.length gc, v2] w fun e w' => e = .returned (.bool true) ∧ Below w.heap.size w w' := by
  obtain ⟨ao, cap, rfl⟩ := slice_shape h2
  have hlen := h1.1
  have w1 : IntKind.i64.wrap ((l.length : Int) + 1) = (((l.length + 1 : Nat)) : Int) := by rw [IntKind.wrap_i64]; omega
  have g1 : ((l.length + 1 : Nat) : Int) ≤ (gc : Int) := by omega
  have g2 : (l.length : Int) < ((l.length + 1 : Nat) : Int) := by omega
  replace h1 := Lib.hid h1
  replace h2 := Lib.hid h2
  go_enter Try.func43, Try.ntmps43
  go_wp2
  go_loopg [5] (l.length + 1) (fun gg ic wx => ∃ i : Nat, gg = l.length - i + 1 ∧ i ≤ l.length ∧ ic = .int .i64 i ∧ Hid (Below w.heap.size w wx))
  case atStart => exact ⟨0, rfl, Nat.zero_le _, rfl, Lib.hid (Below.refl _ _)⟩
  case round =>
    obtain ⟨i, rfl, hi, rfl, hbw⟩ := hrel
    by_cases hlt : i < l.length
    · obtain ⟨x, hx⟩ : ∃ x, l[i]? = some x := ⟨_, List.getElem?_eq_getElem hlt⟩
      obtain ⟨b1, f1, e1, k1, t1, m1, r1, n1, eb, hbl1, c1, hp1⟩ := res_at2 h1.out hx
      obtain ⟨b2, f2, e2, k2, t2, m2, r2, n2, rfl, hbl2, c2, hp2⟩ := res_at2 h2.out hx
      simp only [Option.some.injEq, Addr.mk.injEq, and_true] at eb
      obtain ⟨rfl, rfl⟩ := eb
      have hk0 : (i : Int) < (l.length : Int) := nn_lt hlt
      have hwk := Lib.hid (nn_succ2 hlt hlen)
      have hS : Hid (∀ w', Below w.heap.size w w' → w'.cell? ⟨g, 0 + i * 8, none⟩ = some (.int .i64 x.kind) ∧ w'.cell? ⟨g, 0 + i * 8 + 1, none⟩ = some (.string x.name) ∧ w'.cell? ⟨g, 0 + i * 8 + 2, none⟩ = some (.slice e1 x.eps.length k1) ∧ w'.cell? ⟨g, 0 + i * 8 + 3, none⟩ = some (.slice t1 x.tgts.length m1) ∧ w'.cell? ⟨g, 0 + i * 8 + 4, none⟩ = some (.string x.host) ∧ w'.cell? ⟨g, 0 + i * 8 + 5, none⟩ = some (.slice r1 x.rules.length n1) ∧ w'.cell? ⟨g, 0 + i * 8 + 6, none⟩ = some (.string x.route) ∧ w'.cell? ⟨g, 0 + i * 8 + 7, none⟩ = some (.bool x.del) ∧ w'.cell? ⟨b2, f2 + i * 8, none⟩ = some (.int .i64 x.kind) ∧ w'.cell? ⟨b2, f2 + i * 8 + 1, none⟩ = some (.string x.name) ∧ w'.cell? ⟨b2, f2 + i * 8 + 2, none⟩ = some (.slice e2 x.eps.length k2) ∧ w'.cell? ⟨b2, f2 + i * 8 + 3, none⟩ = some (.slice t2 x.tgts.length m2) ∧ w'.cell? ⟨b2, f2 + i * 8 + 4, none⟩ = some (.string x.host) ∧ w'.cell? ⟨b2, f2 + i * 8 + 5, none⟩ = some (.slice r2 x.rules.length n2) ∧ w'.cell? ⟨b2, f2 + i * 8 + 6, none⟩ = some (.string x.route) ∧ w'.cell? ⟨b2, f2 + i * 8 + 7, none⟩ = some (.bool x.del)) := Lib.hid (fun w' h => by
        have a := c1.below hbl1 h
        have b := c2.below hbl2 h
        exact ⟨a.c0, a.c1, a.c2, a.c3, a.c4, a.c5, a.c6, a.c7, b.c0, b.c1, b.c2, b.c3, b.c4, b.c5, b.c6, b.c7⟩)
      have k99 : Hid (∀ w', Below w.heap.size w w' → Calls Try.prog 99 #[Value.agg #[.int .i64 x.kind, .string x.name, .slice e1 x.eps.length k1, .slice t1 x.tgts.length m1, .string x.host, .slice r1 x.rules.length n1, .string x.route, .bool x.del], Value.agg #[.int .i64 x.kind, .string x.name, .slice e2 x.eps.length k2, .slice t2 x.tgts.length m2, .string x.host, .slice r2 x.rules.length n2, .string x.route, .bool x.del]] w' fun e w2 => e = .returned (.bool true) ∧ Below w'.heap.size w' w2) := Lib.hid (fun w' h => resource99 x _ _ _ _ _ _ w' (hp1.below h) (hp2.below h))
      replace hx := Lib.hid hx
      replace hp1 := Lib.hid hp1
      replace hp2 := Lib.hid hp2
      replace hbl1 := Lib.hid hbl1
      replace hbl2 := Lib.hid hbl2
      clear c1 c2
      go_upto_region 6 with fail
      have hcur2 : Hid (Below w.heap.size w wr.drew) := Lib.hid (seq_below hbw.out (drew_below wr 1))
      go_cut [6] (fun b wx => b = .bool true ∧ Hid (Below w.heap.size w wx))
      case first =>
        obtain ⟨x0, x1, x2, x3, x4, x5, x6, x7, y0, y1, y2, y3, y4, y5, y6, y7⟩ := hS.out wr hbw.out
        simp only [Nat.zero_add] at x0 x1 x2 x3 x4 x5 x6 x7
        go_region_held3 (fun w' => w'.cell? ⟨g, i * 8, none⟩ = some (.int .i64 x.kind) ∧ w'.cell? ⟨g, i * 8 + 1, none⟩ = some (.string x.name) ∧ w'.cell? ⟨g, i * 8 + 2, none⟩ = some (.slice e1 x.eps.length k1) ∧ w'.cell? ⟨g, i * 8 + 3, none⟩ = some (.slice t1 x.tgts.length m1) ∧ w'.cell? ⟨g, i * 8 + 4, none⟩ = some (.string x.host) ∧ w'.cell? ⟨g, i * 8 + 5, none⟩ = some (.slice r1 x.rules.length n1) ∧ w'.cell? ⟨g, i * 8 + 6, none⟩ = some (.string x.route) ∧ w'.cell? ⟨g, i * 8 + 7, none⟩ = some (.bool x.del) ∧ w'.cell? ⟨b2, f2 + i * 8, none⟩ = some (.int .i64 x.kind) ∧ w'.cell? ⟨b2, f2 + i * 8 + 1, none⟩ = some (.string x.name) ∧ w'.cell? ⟨b2, f2 + i * 8 + 2, none⟩ = some (.slice e2 x.eps.length k2) ∧ w'.cell? ⟨b2, f2 + i * 8 + 3, none⟩ = some (.slice t2 x.tgts.length m2) ∧ w'.cell? ⟨b2, f2 + i * 8 + 4, none⟩ = some (.string x.host) ∧ w'.cell? ⟨b2, f2 + i * 8 + 5, none⟩ = some (.slice r2 x.rules.length n2) ∧ w'.cell? ⟨b2, f2 + i * 8 + 6, none⟩ = some (.string x.route) ∧ w'.cell? ⟨b2, f2 + i * 8 + 7, none⟩ = some (.bool x.del))
          (first | exact hS.out _ hcur2.out | (have q := hS.out _ hcur2.out; simp only [Nat.zero_add] at q; exact q) | fail)
          (first
            | (go_at_call 99; (with_reducible refine (k99.out _ hcur2.out).mono ?_); rintro e wC ⟨rfl, hbC⟩; replace hcur2 := Lib.hid (seq_below hcur2.out hbC); clear hbC)
            | fail)
        all_goals (first | (go_wp2; go_meet; exact ⟨rfl, hcur2⟩) | (go_meet; exact ⟨rfl, hcur2⟩))
      case rest =>
        obtain ⟨rfl, hbz⟩ := hcut
        go_wp2
        go_roundg (l.length - (i + 1) + 1)
        case rel => exact ⟨i + 1, rfl, hlt, by first | rw [hwk.out] | go_num, hbz⟩
        case measure => exact nn_downS hlt
    · have hk0 : decide ((i : Int) < (l.length : Int)) = false := decide_eq_false (by omega)
      have hk2 : ¬ (i : Int) < (l.length : Int) := by omega
      go_wp2
      go_ret
      exact ⟨rfl, hbw.out⟩
end Go.Proofs.Ytjepgpocmnijiaa
end
