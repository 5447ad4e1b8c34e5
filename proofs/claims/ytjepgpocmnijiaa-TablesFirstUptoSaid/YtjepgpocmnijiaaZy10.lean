/- The walks of dangling, the document's and the program's: what of a resource names nothing. -/
import Derived.Test.YtjepgpocmnijiaaZy9
section

namespace Go.Ck
open Go.RowKit
@[go_sem] theorem run_store_float {P : Program} (w : World) (a : Addr) (m : Mode) (n : Nat) : (store a (.float .f64 n) m).run P w = stored P w a (.float .f64 n) m := run_store P w a _ m rfl
theorem up_at {n i : Nat} {p : Nat → Bool} (h : ∀ j, j < i → p j = false) (hi : i < n) (hp : p i = true) : upI (firstN n p) = (i : Int) + 1 := by
  rw [firstN_at h hi hp]; unfold upI; rw [if_neg (by omega)]
theorem up_none {n : Nat} {p : Nat → Bool} (h : ∀ j, j < n → p j = false) : upI (firstN n p) = -1 := by rw [firstN_none h]; rfl
theorem no_upto {i : Nat} {p : Nat → Bool} (h : ∀ j, j < i → p j = false) (hi : p i = false) : ∀ j, j < i + 1 → p j = false := fun j hj => by
  rcases Nat.lt_succ_iff_lt_or_eq.1 hj with h1 | h1
  · exact h j h1
  · rw [h1]; exact hi
end Go.Ck
namespace Go.Proofs.Ytjepgpocmnijiaa
open Go.RowKit Go.Mp Go.Ck
set_option linter.unusedVariables false
set_option maxRecDepth 100000
set_option maxHeartbeats 4000000
/-- A map that tells which keys there are. -/
def Looks (w : World) (mb : Nat) (l : List Res) : Prop := ∀ w', Below w.heap.size w w' → ∀ (k : Int) (n : ByteArray), (Instr.lookup 104 (.map (some mb)) (.agg #[.int .i64 k, .string n]) false).run Try.prog w' = .ok (.bool (has l k n)) w'
theorem looks_of {w : World} {mb : Nat} {f : Key → Option Value} {l : List Res} (h : MapS keyKey w mb f) (hf : ∀ k, f k = if has l k.1 k.2 = true then some (.bool true) else none) : Looks w mb l := fun w' hb k n => by
  have h2 : MapS keyKey w' mb f := h.keep (hb.block mb h.lt)
  have := h2.look (t := 104) (e := 4) Try.underlying104 (z := .bool false) (by kernel_rfl) false (k, n)
  rw [show (Value.agg #[.int .i64 k, .string n]) = keyKey.kv (k, n) from rfl, this, hf]
  cases has l k n <;> rfl
theorem dang62 (l : List Res) (mb : Nat) (r : Res) (ev tv rv : Value) (w : World) (hL : Looks w mb l) (hp : RP w r ev tv rv) :
    Calls Try.prog 62 #[.agg #[.int .i64 r.kind, .string r.name, ev, tv, .string r.host, rv, .string r.route, .bool r.del], .map (some mb)] w fun e w' => e = .returned (.int .i64 (dangI l r)) ∧ Below w.heap.size w w' := by
  obtain ⟨eo, ec, rfl⟩ := slice_shape hp.e
  obtain ⟨ta, tc, rfl⟩ := slice_shape hp.t
  obtain ⟨ra, rc, rfl⟩ := slice_shape hp.ru
  have htl := hp.t.1
  have hrl := hp.ru.1
  obtain ⟨kd, hkd⟩ : ∃ k, k = r.kind := ⟨_, rfl⟩
  have hdef : dangI l r = dangI l r := rfl
  conv at hdef => rhs; unfold dangI
  rw [← hkd] at hdef ⊢
  obtain ⟨w1, hw1⟩ : ∃ w1, w1 = w.alloc (.cells #[.int .i64 kd, .string r.name, .slice eo r.eps.length ec, .slice ta r.tgts.length tc, .string r.host, .slice ra r.rules.length rc, .string r.route, .bool r.del] 52) := ⟨_, rfl⟩
  have hb1 : Below w.heap.size w w1 := by rw [hw1]; exact alloc_below _ _
  obtain ⟨bk, hbk⟩ : ∃ bk, bk = w.heap.size := ⟨_, rfl⟩
  have hbkl : bk < w1.heap.size := by rw [hw1, hbk]; simp
  have hbox := box_cells8 w (.int .i64 kd) (.string r.name) (.slice eo r.eps.length ec) (.slice ta r.tgts.length tc) (.string r.host) (.slice ra r.rules.length rc) (.string r.route) (.bool r.del) 52
  rw [← hw1, ← hbk] at hbox
  have b0 := hbox 0 _ rfl
  have b3 := hbox 3 _ rfl
  have b5 := hbox 5 _ rfl
  have b6 := hbox 6 _ rfl
  have hp1 := hp.below hb1
  clear hp
  replace hw1 := Lib.hid hw1
  replace hbk := Lib.hid hbk
  replace hkd := Lib.hid hkd
  replace hbox := Lib.hid hbox
  by_cases k2 : kd = 2
  · subst k2
    rw [if_pos rfl] at hdef
    replace hdef := Lib.hid hdef
    replace hb1 := Lib.hid hb1
    replace hL := Lib.hid hL
    replace hp1 := Lib.hid hp1
    go_enter Try.func62, Try.ntmps62
    go_wp2
    rw [← hbk.out, ← hw1.out]
    go_loopg [16] (r.tgts.length + 1) (fun gg ic wr => ∃ i : Nat, gg = r.tgts.length - i + 1 ∧ i ≤ r.tgts.length ∧ ic = .int .i64 i ∧ Hid (∀ j, j < i → badTx l r j = false) ∧ Hid (Below w1.heap.size w1 wr))
    case atStart => exact ⟨0, rfl, Nat.zero_le _, rfl, Lib.hid (fun j hj => absurd hj (Nat.not_lt_zero j)), Lib.hid (Below.refl _ _)⟩
    case round =>
      obtain ⟨i, rfl, hi, rfl, hno, hbw⟩ := hrel
      have d3 : wr.cell? ⟨bk, 3, none⟩ = some (.slice ta r.tgts.length tc) := (hbw.out.cell (p := ⟨bk, 3, none⟩) hbkl).trans b3
      have d0 : wr.cell? ⟨bk, 0, none⟩ = some (.int .i64 2) := (hbw.out.cell (p := ⟨bk, 0, none⟩) hbkl).trans b0
      by_cases hlt : i < r.tgts.length
      · obtain ⟨t, ht⟩ : ∃ t, r.tgts[i]? = some t := ⟨_, List.getElem?_eq_getElem hlt⟩
        obtain ⟨tb, toff, rfl, _, c0, c1, c2, _⟩ := tgt_at hp1.out.t hbw.out ht
        have hix := badTx_at (l := l) ht
        unfold badT noS at hix
        have hk0 : (i : Int) < (r.tgts.length : Int) := nn_lt hlt
        have hwk := Lib.hid (nn_succ2 hlt htl)
        have hbw2 := Lib.hid (seq_below hbw.out (alloc_below wr (.cells #[.string t.service, .string t.split, .float .f64 t.weight] 57)))
        have hF1 := hL.out _ (seq_below hb1.out hbw2.out) 1 t.service
        have hF2 := hL.out _ (seq_below hb1.out hbw2.out) 2 t.split
        generalize has l 1 t.service = f1 at *
        generalize has l 2 t.split = f2 at *
        cases hs : t.service.toList.isEmpty with
        | true =>
          rw [hs, if_pos rfl] at hix
          have hs2 : (!t.service.toList.isEmpty) = false := by rw [hs]; rfl
          clear hF1
          cases f2 with
          | false =>
            have hf := up_at hno.out hlt hix
            replace hix := Lib.hid hix
            replace hno := Lib.hid hno
            replace hf := Lib.hid hf
            go_wp2
            go_ret
            exact ⟨ret_i (by rw [hdef.out, hf.out]), seq_below hb1.out hbw2.out⟩
          | true =>
            have hno2 := no_upto hno.out hix
            replace hix := Lib.hid hix
            replace hno := Lib.hid hno
            replace hno2 := Lib.hid hno2
            go_wp2
            go_roundg (r.tgts.length - (i + 1) + 1)
            case rel => exact ⟨i + 1, rfl, hlt, by first | rw [hwk.out] | go_num, hno2, hbw2⟩
            case measure => exact nn_downS hlt
        | false =>
          rw [hs, if_neg (by simp)] at hix
          have hs2 : (!t.service.toList.isEmpty) = true := by rw [hs]; rfl
          clear hF2
          cases f1 with
          | false =>
            have hf := up_at hno.out hlt hix
            replace hix := Lib.hid hix
            replace hno := Lib.hid hno
            replace hf := Lib.hid hf
            go_wp2
            go_ret
            exact ⟨ret_i (by rw [hdef.out, hf.out]), seq_below hb1.out hbw2.out⟩
          | true =>
            have hno2 := no_upto hno.out hix
            replace hix := Lib.hid hix
            replace hno := Lib.hid hno
            replace hno2 := Lib.hid hno2
            go_wp2
            go_roundg (r.tgts.length - (i + 1) + 1)
            case rel => exact ⟨i + 1, rfl, hlt, by first | rw [hwk.out] | go_num, hno2, hbw2⟩
            case measure => exact nn_downS hlt
      · have hk0 : decide ((i : Int) < (r.tgts.length : Int)) = false := decide_eq_false (by omega)
        have hf := up_none (n := r.tgts.length) (fun j hj => hno.out j (by omega))
        replace hf := Lib.hid hf
        replace hno := Lib.hid hno
        go_wp2
        go_ret
        exact ⟨ret_i (by rw [hdef.out, hf.out]), seq_below hb1.out hbw.out⟩
  · rw [if_neg k2] at hdef
    have k2' : (kd == 2) = false := beq_eq_false_iff_ne.2 k2
    by_cases k3 : kd = 3
    · subst k3
      rw [if_pos rfl] at hdef
      replace hdef := Lib.hid hdef
      replace hb1 := Lib.hid hb1
      replace hL := Lib.hid hL
      replace hp1 := Lib.hid hp1
      go_enter Try.func62, Try.ntmps62
      go_wp2
      rw [← hbk.out, ← hw1.out]
      go_loopg [53] (r.rules.length + 1) (fun gg ic wr => ∃ i : Nat, gg = r.rules.length - i + 1 ∧ i ≤ r.rules.length ∧ ic = .int .i64 i ∧ Hid (∀ j, j < i → badRx l r j = false) ∧ Hid (Below w1.heap.size w1 wr))
      case atStart => exact ⟨0, rfl, Nat.zero_le _, rfl, Lib.hid (fun j hj => absurd hj (Nat.not_lt_zero j)), Lib.hid (Below.refl _ _)⟩
      case round =>
        obtain ⟨i, rfl, hi, rfl, hno, hbw⟩ := hrel
        by_cases hlt : i < r.rules.length
        · obtain ⟨t, ht⟩ : ∃ t, r.rules[i]? = some t := ⟨_, List.getElem?_eq_getElem hlt⟩
          obtain ⟨tb, toff, rfl, _, c0, c1, c2, c3, _⟩ := rul_at hp1.out.ru hbw.out ht
          have hix := badRx_at (l := l) ht
          have hk0 : (i : Int) < (r.rules.length : Int) := nn_lt hlt
          have hwk := Lib.hid (nn_succ2 hlt hrl)
          have hbw2 := Lib.hid (seq_below hbw.out (alloc_below wr (.cells #[.string t.path, .string t.method, .string t.split, .bool t.allow] 101)))
          have hF2 := hL.out _ (seq_below hb1.out hbw2.out) 2 t.split
          generalize has l 2 t.split = f2 at *
          cases f2 with
          | false =>
            have hf := up_at hno.out hlt hix
            replace hix := Lib.hid hix
            replace hno := Lib.hid hno
            replace hf := Lib.hid hf
            go_wp2
            go_ret
            exact ⟨ret_i (by rw [hdef.out, hf.out]), seq_below hb1.out hbw2.out⟩
          | true =>
            have hno2 := no_upto hno.out hix
            replace hix := Lib.hid hix
            replace hno := Lib.hid hno
            replace hno2 := Lib.hid hno2
            go_wp2
            go_roundg (r.rules.length - (i + 1) + 1)
            case rel => exact ⟨i + 1, rfl, hlt, by first | rw [hwk.out] | go_num, hno2, hbw2⟩
            case measure => exact nn_downS hlt
        · have hk0 : decide ((i : Int) < (r.rules.length : Int)) = false := decide_eq_false (by omega)
          have hf := up_none (n := r.rules.length) (fun j hj => hno.out j (by omega))
          replace hf := Lib.hid hf
          replace hno := Lib.hid hno
          go_wp2
          go_ret
          exact ⟨ret_i (by rw [hdef.out, hf.out]), seq_below hb1.out hbw.out⟩
    · rw [if_neg k3] at hdef
      have k3' : (kd == 3) = false := beq_eq_false_iff_ne.2 k3
      by_cases k4 : kd = 4
      · subst k4
        rw [if_pos rfl] at hdef
        have hF3 := hL _ hb1 3 r.route
        generalize has l 3 r.route = f3 at *
        cases f3 with
        | false =>
          replace hdef := Lib.hid hdef
          replace hb1 := Lib.hid hb1
          replace hL := Lib.hid hL
          replace hp1 := Lib.hid hp1
          go_enter Try.func62, Try.ntmps62
          go_upto_region 17 with fail
          rw [← hbk.out, ← hw1.out]
          go_wp2
          go_ret
          exact ⟨ret_i (by rw [hdef.out]; rfl), hb1.out⟩
        | true =>
          replace hdef := Lib.hid hdef
          replace hb1 := Lib.hid hb1
          replace hL := Lib.hid hL
          replace hp1 := Lib.hid hp1
          go_enter Try.func62, Try.ntmps62
          go_upto_region 17 with fail
          rw [← hbk.out, ← hw1.out]
          go_wp2
          go_ret
          exact ⟨ret_i (by rw [hdef.out]; rfl), hb1.out⟩
      · rw [if_neg k4] at hdef
        have k4' : (kd == 4) = false := beq_eq_false_iff_ne.2 k4
        replace hdef := Lib.hid hdef
        replace hb1 := Lib.hid hb1
        replace hL := Lib.hid hL
        replace hp1 := Lib.hid hp1
        replace k2 := Lib.hid k2
        replace k3 := Lib.hid k3
        replace k4 := Lib.hid k4
        go_enter Try.func62, Try.ntmps62
        go_wp2
        rw [← hbk.out, ← hw1.out]
        go_ret
        exact ⟨ret_i (by rw [hdef.out]), by first | exact hb1.out | (rw [hbk.out]; exact hb1.out)⟩
end Go.Proofs.Ytjepgpocmnijiaa
end
