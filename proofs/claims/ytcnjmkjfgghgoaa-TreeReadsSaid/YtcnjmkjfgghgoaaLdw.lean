/- Laid, walked. -/
import Derived.Test.YtcnjmkjfgghgoaaLaid
namespace Go.Proofs.Ytcnjmkjfgghgoaa
open Go.RowKit Go.Mp Go.Tr
set_option linter.unusedVariables false
set_option maxRecDepth 100000
set_option maxHeartbeats 4000000
theorem five_keep' {w w7 : World} {row : Option Nat} {b : Nat} {x0 x1 x2 x3 x4 : Value} (hg : w.grownBy w7 row) (hn : row ≠ some b) (h0 : w.cell? ⟨b, 0, none⟩ = some x0) (h1 : w.cell? ⟨b, 1, none⟩ = some x1) (h2 : w.cell? ⟨b, 2, none⟩ = some x2) (h3 : w.cell? ⟨b, 3, none⟩ = some x3) (h4 : w.cell? ⟨b, 4, none⟩ = some x4) :
    w7.cell? ⟨b, 0, none⟩ = some x0 ∧ w7.cell? ⟨b, 1, none⟩ = some x1 ∧ w7.cell? ⟨b, 2, none⟩ = some x2 ∧ w7.cell? ⟨b, 3, none⟩ = some x3 ∧ w7.cell? ⟨b, 4, none⟩ = some x4 := by
  have t : Tch (fun k => row = some k) w w7 := Tch.grown hg (fun k hk => .inl hk)
  exact ⟨t.cell_some h0 hn, t.cell_some h1 hn, t.cell_some h2 hn, t.cell_some h3 hn, t.cell_some h4 hn⟩
theorem nn_nodes {a s : Nat} (h : a + (1 + s) ≤ 4096) : a + 1 ≤ maxLen ∧ (a + 1) * 80 ≤ 140737488355328 := by unfold maxLen; omega
theorem nn_kids {i n s : Nat} (h : i < n) (h2 : n ≤ s) (h3 : s ≤ 4096) : i + 1 ≤ maxLen ∧ (i + 1) * 8 ≤ 140737488355328 ∧ i < 8796093022208 := by unfold maxLen; omega
theorem nn_klen {n s : Nat} (h2 : n ≤ s) (h3 : s ≤ 4096) : n < 8796093022208 := by omega
theorem nn_lt' {a b : Nat} (h : a < b) : (a : Int) < (b : Int) := by omega
theorem laid_any : ∀ (n : Nat) (t : T), t.size ≤ n → LaidOK t := by
  intro n
  induction n with
  | zero => intro t ht; have := size_pos t; omega
  | succ n ih =>
    intro t ht
    obtain ⟨kd, key, text, q, ln, ks⟩ := t
    intro w B b F Fn nv R hp hN hF hB hsz
    have hks : ∀ (i : Nat) (t : T), ks[i]? = some t → LaidOK t := fun i t hi => ih t (by have := kid_size hi; simp only [T.size] at ht; omega)
    unfold PT at hp
    obtain ⟨kv0, bs, F', hb, hrow0, hpts, hFb, hFk, hF'⟩ := hp
    have hbl := PTs.len _ _ _ hpts
    obtain ⟨ao, cap, rfl⟩ := ownsRow_shape hN.row
    have d0 : w.cell? ⟨b, 0, none⟩ = some (.int .i64 kd) := (cell_of_row _ _ 0 _ _ _ hb).trans rfl
    have d1 : w.cell? ⟨b, 1, none⟩ = some (.string key) := (cell_of_row _ _ 1 _ _ _ hb).trans rfl
    have d2 : w.cell? ⟨b, 2, none⟩ = some (.string text) := (cell_of_row _ _ 2 _ _ _ hb).trans rfl
    have d3 : w.cell? ⟨b, 3, none⟩ = some (.bool q) := (cell_of_row _ _ 3 _ _ _ hb).trans rfl
    have d4 : w.cell? ⟨b, 4, none⟩ = some (.int .i64 ln) := (cell_of_row _ _ 4 _ _ _ hb).trans rfl
    have hnk := Lib.hid (show (Value.slice ao R.length cap).ownBlock ≠ some b from fun e => (hF b hFb).1 (hN.own.1 b e))
    have hrw := Lib.hid (show w.drew.ownsRow B 58 6 (.slice ao R.length cap) R.length (ncs R) from hN.row)
    obtain ⟨i0, hi, hz0, hz1, hz2⟩ := info_parts info58
    replace hi := Lib.hid hi
    replace hz0 := Lib.hid hz0
    replace hz1 := Lib.hid hz1
    replace hz2 := Lib.hid hz2
    have hsz' := hsz
    simp only [T.size] at hsz'
    replace hsz := Lib.hid hsz
    replace hsz' := Lib.hid hsz'
    replace hb := Lib.hid hb
    replace hrow0 := Lib.hid hrow0
    replace hpts := Lib.hid hpts
    replace hFk := Lib.hid hFk
    replace hF' := Lib.hid hF'
    replace hbl := Lib.hid hbl
    replace hks := Lib.hid hks
    replace ht := Lib.hid ht
    replace hN := Lib.hid hN
    replace hF := Lib.hid hF
    replace hFb := Lib.hid hFb
    have hBd := Lib.hid (show B ≤ w.drew.heap.size from hB)
    replace hB := Lib.hid hB
    clear ih
    go_enter Try.func36, Try.ntmps36
    go_upto_region 2 with fail
    go_region_held3 (fun w' => w'.cell? ⟨b, 0, none⟩ = some (.int .i64 kd) ∧ w'.cell? ⟨b, 1, none⟩ = some (.string key) ∧ w'.cell? ⟨b, 2, none⟩ = some (.string text) ∧ w'.cell? ⟨b, 3, none⟩ = some (.bool q) ∧ w'.cell? ⟨b, 4, none⟩ = some (.int .i64 ln)) (first | go_keep | exact five_keep' hg7.out hnk.out d0 d1 d2 d3 d4 | fail)
      ((refine step_append_us (by rfl) _ _ 50 (by rfl) B 58 i0 (.agg #[.int .i64 0, .string ⟨#[]⟩, .string ⟨#[]⟩, .bool false, .int .i64 0, .slice none 0 0]) 6 80 Try.underlying50 hi.out hz0.out hz1.out hz2.out rfl (by decide) _ R.length _ (by rfl) hrw.out 1 (by rfl) rfl (by simp [Value.oneCell']) (nn_nodes hsz'.out).1 (nn_nodes hsz'.out).2 hBd.out ?_; intro v7 w7 hr7 hg7 hl7; obtain ⟨o7, c7, rfl⟩ := ownsRow_shape hr7; replace hr7 := Lib.hid hr7; replace hg7 := Lib.hid hg7; replace hl7 := Lib.hid hl7))
    have hT7 : Tch (fun k => (Value.slice ao R.length cap).ownBlock = some k) w w7 := (Tch.drew _ w).trans (Tch.grown hg7.out (fun k hk => .inl hk)) (fun _ h => .inl h)
    have hN7 := hN.out.push (n := ⟨kd, key, text, q, ln, []⟩) rfl hr7.out hT7 hl7.out
    have hL7 : LL w w7 B b F Fn R ⟨kd, key, text, q, ln, []⟩ ks 0 (.slice o7 (R.length + 1) c7) (.slice none 0 0) _ _ := ⟨hN7, by simp [lays], fun k hk => by
      rcases hk with hk | hk
      · exact .inl hk
      · rcases hl7.out k hk with h1 | h1
        · exact .inl (hN.out.own.1 k h1)
        · exact .inr h1, World.ownsRow_nil _ _ _ _, (fun k hk => by cases hk), hT7.mono (fun k hk => hN.out.own.1 k hk)⟩
    replace hL7 := Lib.hid hL7
    replace hN7 := Lib.hid hN7
    replace hT7 := Lib.hid hT7
    clear d0 d1 d2 d3 d4
    go_wp2
    obtain ⟨j0, hj, hj0, hj1, hj2⟩ := info_parts info3
    replace hj := Lib.hid hj
    replace hj0 := Lib.hid hj0
    replace hj1 := Lib.hid hj1
    replace hj2 := Lib.hid hj2
    go_loopg [1, 6, 7] (ks.length + 1) (fun gg ov kv iv wr => ∃ (i : Nat) (F1 : Nat → Prop) (R1 : List (Nd × Value)), gg = ks.length - i + 1 ∧ iv = .int .i64 i ∧ i ≤ ks.length ∧ LL w wr B b F Fn R ⟨kd, key, text, q, ln, []⟩ ks i ov kv F1 R1)
    case atStart => exact ⟨0, _, _, rfl, rfl, Nat.zero_le _, hL7.out⟩
    case round =>
      obtain ⟨i, F1, R1, rfl, rfl, hil, hL⟩ := hrel
      have hbw := (hF.out b hFb.out).2
      have tb : wr.heap[b]? = w.heap[b]? := hL.t.block b hbw (hF.out b hFb.out).1
      have p5 : wr.cell? ⟨b, 5, none⟩ = some kv0 := (World.cell?_of_block tb).trans ((cell_of_row _ _ 5 _ _ _ hb.out).trans rfl)
      obtain ⟨ko0, kc0, ek0⟩ := ownsRow_shape hrow0.out
      rw [hbl.out] at ek0
      obtain ⟨on, oc, eov⟩ := ownsRow_shape hL.nm.row
      obtain ⟨ko, kc, ekv⟩ := ownsRow_shape hL.row
      subst eov ekv
      rw [ek0] at p5
      replace tb := Lib.hid tb
      replace hbw := Lib.hid hbw
      by_cases hlt : i < ks.length
      · have k0 := nn_lt hlt
        have hx := List.getElem?_eq_getElem hlt
        generalize ks[i] = t at *
        have hpr := PTs.tch hL.t _ _ _ hpts.out (fun k hk => (hF.out k (hF'.out k hk).1).1)
        obtain ⟨bi, Fi, hbi, hpi, hFi⟩ := PTs.at _ _ _ hpr i t hx
        have hr0 := ownsRow_tch hrow0.out hL.t (fun g hg => (hF.out g (hFk.out g hg)).1)
        rw [ek0] at hr0
        obtain ⟨g0, e0, _, _, ck, _⟩ := ownsRow_cell hr0 (j := i) (u := ptr bi) (by simp [hbi])
        subst e0
        have hFk0 : F g0 := hFk.out g0 (by rw [ek0]; rfl)
        have hLn := hL.len
        have hBr := Lib.hid (show w.heap.size ≤ wr.heap.size from hL.t.size)
        have hkr := Lib.hid hL.row
        have hlen4 := Lib.hid (show ks.length ≤ sizes ks from le_sizes ks)
        have hsk := Lib.hid (show sizes ks ≤ 4096 by have := hsz'.out; omega)
        have hkw : ∀ k, (Value.slice ko i kc).ownBlock = some k → w.heap.size ≤ k := fun k hk => (ownsRow_ge hL.row hk).1
        have hts := take_size hx
        replace hpr := Lib.hid hpr
        replace hpi := Lib.hid hpi
        replace hr0 := Lib.hid hr0
        replace hFk0 := Lib.hid hFk0
        replace hLn := Lib.hid hLn
        replace hL := Lib.hid hL
        replace hx := Lib.hid hx
        replace hbi := Lib.hid hbi
        replace hFi := Lib.hid hFi
        replace ek0 := Lib.hid ek0
        replace hkw := Lib.hid hkw
        replace hts := Lib.hid hts
        replace hil := Lib.hid hil
        have hwi := Lib.hid (nn_succ hlt (nn_klen hlen4.out hsk.out))
        go_upto_region 8 with (first
          | (at_builtin; refine wp_append_us rfl _ _ 56 (by rfl) w.heap.size 3 j0 (.int .i64 0) 1 8 Try.underlying56 hj.out hj0.out hj1.out hj2.out rfl (by decide) _ i _ (by rfl) hkr.out 1 (by rfl) rfl (by simp [Value.oneCell']) (nn_kids hlt hlen4.out hsk.out).1 (nn_kids hlt hlen4.out hsk.out).2.1 hBr.out ?_; intro v8 w8 hr8 hg8 hl8; obtain ⟨o8, c8, rfl⟩ := ownsRow_shape hr8; replace hr8 := Lib.hid hr8; replace hg8 := Lib.hid hg8; replace hl8 := Lib.hid hl8)
          | fail)
        obtain ⟨hN8, hrow8, hkn8, t8⟩ := hL.out.kidNo hx.out hr8.out hg8.out hl8.out
        have tk8 : Tch (fun k => (Value.slice ko i kc).ownBlock = some k) wr w8 := Tch.grown hg8.out (fun k hk => .inl hk)
        have nb : (Value.slice ko i kc).ownBlock ≠ some b := fun e => by have := hkw.out b e; have := hbw.out; omega
        have nk : ∀ k, F k → (Value.slice ko i kc).ownBlock ≠ some k := fun k hk e => by have := hkw.out k e; have := (hF.out k hk).2; omega
        have p8 : w8.cell? ⟨b, 5, none⟩ = some (.slice (some ⟨g0, 0, none⟩) ks.length kc0) := tk8.cell_some p5 nb
        have q8 : w8.cell? ⟨g0, i, none⟩ = some (ptr bi) := tk8.cell_some ck (nk g0 hFk0.out)
        have hp8 := PT.tch tk8 _ _ _ hpi.out (fun k hk e => nk k (hF'.out k (hFi.out k hk)).1 e)
        have hC := hks.out i t hx.out w8 B bi Fi F1 _ R1 hp8 hN8 (fun k hk => by
          have h1 := hF.out k (hF'.out k (hFi.out k hk)).1
          refine ⟨fun hf => ?_, by have := t8.size; omega⟩
          rcases hL.out.sub k hf with h2 | h2
          · exact h1.1 h2
          · omega) (Nat.le_trans hB.out t8.size) (by have := hLn.out; have := hts.out; have := hsz'.out; omega)
        replace hC := Lib.hid hC
        replace hN8 := Lib.hid hN8
        replace hrow8 := Lib.hid hrow8
        replace hkn8 := Lib.hid hkn8
        replace t8 := Lib.hid t8
        replace tk8 := Lib.hid tk8
        replace nb := Lib.hid nb
        replace nk := Lib.hid nk
        replace hp8 := Lib.hid hp8
        clear p5 ck
        go_wp2_with (first
          | (go_at_call 36; refine hC.out.mono ?_; clear hC; rintro e w9 ⟨v9, F9, R9, rfl, hN9, hm9, t9, hs9⟩; replace hN9 := Lib.hid hN9; replace hm9 := Lib.hid hm9; replace t9 := Lib.hid t9; replace hs9 := Lib.hid hs9)
          | fail)
        go_roundg (ks.length - (i + 1) + 1)
        case rel => exact ⟨i + 1, F9, R9, rfl, by rw [hwi.out], hlt, hL.out.next hx.out hrow8.out hkn8.out t8.out hN9.out hm9.out t9.out hs9.out⟩
        case measure => exact Nat.succ_lt_succ (nn_sub hlt)
      · have k0 := nn_ge hlt
        have k1 : decide (i < ks.length) = false := decide_eq_false hlt
        have e : i = ks.length := nn_eq hil hlt
        subst e
        obtain ⟨g, u, rfl, _, hlr, cu, cf, F2, R2, hN2, hm2, t2, hs2⟩ := hL.done hB.out rfl
        have k2 := nn_lt' hlr
        have hfin : R2.map (·.1) = R.map (·.1) ++ lay R.length (.node kd key text q ln ks) := hm2
        replace hm2 := Lib.hid hm2
        replace hfin := Lib.hid hfin
        replace hN2 := Lib.hid hN2
        replace t2 := Lib.hid t2
        replace hs2 := Lib.hid hs2
        replace hL := Lib.hid hL
        replace hlt := Lib.hid hlt
        replace hil := Lib.hid hil
        replace ek0 := Lib.hid ek0
        replace hlr := Lib.hid hlr
        go_wp2
        go_ret
        exact ⟨_, F2, R2, rfl, hN2.out, hfin.out, t2.out, hs2.out⟩
end Go.Proofs.Ytcnjmkjfgghgoaa
