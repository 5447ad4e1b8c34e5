/- The walks of the document's put and drop. -/
import Derived.Test.YtjepgpocmnijiaaSv
import Derived.Test.YtjepgpocmnijiaaMg
namespace Go.Proofs.Ytjepgpocmnijiaa
open Go.RowKit Go.Mp Go.Ck
set_option linter.unusedVariables false
set_option maxRecDepth 100000
set_option maxHeartbeats 8000000
theorem slice_drop {α : Type} {E : Rd.Elem α} {w : World} {b off n cap : Nat} {xs : List α} (h : Rd.SliceOf E w (.slice (some ⟨b, off, none⟩) n cap) xs) {k : Nat} (hk : k ≤ xs.length) : Rd.SliceOf E w (.slice (some ⟨b, off + k * E.k, none⟩) (n - k) (cap - k)) (xs.drop k) := by
  obtain ⟨h1, ao', cap', e, hc, h2⟩ := h
  cases e
  refine ⟨by rw [List.length_drop]; omega, _, _, by rw [List.length_drop], by rw [List.length_drop]; omega, ?_⟩
  rcases h2 with rfl | ⟨b', off', e', hb, hx⟩
  · left; simp
  · cases e'
    refine .inr ⟨_, _, rfl, hb, fun i x hi => ?_⟩
    rw [List.getElem?_drop] at hi
    have h3 := hx (k + i) x hi
    rw [Nat.add_mul, ← Nat.add_assoc] at h3
    exact h3
theorem drop_run {w : World} {ao : Option Addr} {n cap : Nat} {L : List Rw} (h : Rd.SliceOf rwE w (.slice ao n cap) L) (hn : n = L.length) {k : Nat} (hk : k ≤ n) (i : Int) (hi : i = (k : Int)) {n2 : Nat} (hn2 : n2 = n - k) :
    ∃ ao' cap', (∀ w, (Instr.sliceAt 22 (.slice ao n cap) (some (.int .i64 i)) none none).run Try.prog w = .ok (.slice ao' n2 cap') w) ∧ (∀ w, (Instr.slice 22 (.slice ao n cap) (some (.int .i64 i)) none none).run Try.prog w = .ok (.slice ao' n2 cap') w) ∧ Rd.SliceOf rwE w (.slice ao' n2 cap') (L.drop k) := by
  have hc : L.length ≤ cap := slice_cap h
  have hlen := h.1
  subst hn; subst hn2
  have hl : (L.drop k).length = L.length - k := by simp
  have e : Try.prog.underlying 22 = some (.slice (Try.prog.elem 22)) := by kernel_rfl
  have run2 : ∀ w, (Instr.slice 22 (.slice ao L.length cap) (some (.int .i64 i)) none none).run Try.prog w = .ok (sliced ao k L.length cap 8) w := fun w => by
    have z : (sizeOf (Try.prog.elem 22)).run Try.prog w = .ok 8 w := by kernel_rfl
    rw [run_slice_l (ht := e) (h0 := by omega) (h1 := by omega), z]
    rw [show i.toNat = k by omega]
    rfl
  have run : ∀ w, (Instr.sliceAt 22 (.slice ao L.length cap) (some (.int .i64 i)) none none).run Try.prog w = .ok (sliced ao k L.length cap 8) w := fun w => by
    rw [run_sliceAt_slice (h := e)]; exact run2 w
  by_cases hck : cap = k
  · have hs : sliced ao k L.length cap 8 = .slice ao (L.length - k) 0 := by simp [sliced, hck]
    rw [hs] at run2 run
    refine ⟨ao, 0, run, run2, ?_⟩
    have : L.drop k = [] := List.drop_eq_nil_of_le (by omega)
    rw [this, show L.length - k = 0 by omega]
    exact ⟨by simp, _, _, rfl, Nat.le_refl _, .inl rfl⟩
  · have hs : sliced ao k L.length cap 8 = .slice (ao.map (·.add (k * 8))) (L.length - k) (cap - k) := by simp [sliced, hck]
    rw [hs] at run2 run
    refine ⟨_, _, run, run2, ?_⟩
    cases ao with
    | none =>
      have h0 : L = [] := by
        obtain ⟨_, ao', cap', e, _, h2⟩ := h
        cases e
        rcases h2 with h2 | ⟨b, off, e, _⟩
        · exact h2
        · cases e
      subst h0
      exact ⟨by simp, none, cap - k, by simp, by simp, .inl (by simp)⟩
    | some a =>
      by_cases h0 : L.drop k = []
      · rw [h0]
        have hkl : L.length - k = 0 := by rw [← hl, h0]; rfl
        rw [hkl]
        exact ⟨by simp, _, _, rfl, by simp, .inl rfl⟩
      · obtain ⟨_, ao', cap', e, _, h2⟩ := id h
        cases e
        rcases h2 with rfl | ⟨b, off, e, _, _⟩
        · exact absurd (by simp) h0
        · cases e
          have := slice_drop h hk
          have e3 : (⟨b, off, none⟩ : Addr).add (k * 8) = ⟨b, off + k * 8, none⟩ := by unfold Addr.add; split <;> simp_all
          show Rd.SliceOf rwE w (.slice (some ((⟨b, off, none⟩ : Addr).add (k * 8))) (L.length - k) (cap - k)) (L.drop k)
          rw [e3]
          exact this
/-- A list of resources is answered. -/
def LieOut (w : World) (l : List Res) (e : Ending) (w' : World) : Prop := ∃ v' : Value, e = .returned v' ∧ ResS w' v' l ∧ Below w.heap.size w w'
theorem lie_out {w w' : World} {v : Value} {L : List Rw} {n : Nat} {xs : List Value} (hr : w'.ownsRow w.heap.size 52 8 v n xs) (hn : n = L.length) (hx : xs = L.flatMap rwC.enc) (hb : Below w.heap.size w w') (hp : ∀ x ∈ L, Rw.P w x) (hlen : L.length ≤ 140737488351232) : LieOut w (L.map Rw.r) (.returned v) w' := by
  subst hn; subst hx
  exact ⟨v, rfl, lies_reads (Rd.own_slice rwC hr (fun _ _ => trivial) hlen) (fun x hx => RP.below (hp x hx) hb), hb⟩
theorem put72 (l : List Res) (v : Value) (r : Res) (ev tv rv : Value) (w : World) (hl : ResS w v l) (hr : RP w r ev tv rv) (hM : l.length ≤ 4294967296) :
    Calls Try.prog 72 #[v, .agg #[.int .i64 r.kind, .string r.name, ev, tv, .string r.host, rv, .string r.route, .bool r.del]] w (LieOut w (putL l r)) := by
  obtain ⟨eo, ec, rfl⟩ := slice_shape hr.e
  obtain ⟨ta, tc, rfl⟩ := slice_shape hr.t
  obtain ⟨ra, rc, rfl⟩ := slice_shape hr.ru
  obtain ⟨ao, cap, rfl⟩ := slice_shape hl
  have hlen := hl.1
  have hcap := Lib.hid (slice_cap hl)
  obtain ⟨i52, h52, h520, h521, h522⟩ := info_parts info52
  obtain ⟨L, hLm, hLs, hLp⟩ := lies hl
  have hLl : L.length = l.length := by rw [← hLm, List.length_map]
  obtain ⟨w1, hw1⟩ : ∃ w1, w1 = w.alloc (.cells #[.int .i64 r.kind, .string r.name, .slice eo r.eps.length ec, .slice ta r.tgts.length tc, .string r.host, .slice ra r.rules.length rc, .string r.route, .bool r.del] 52) := ⟨_, rfl⟩
  obtain ⟨bk, hbk⟩ : ∃ bk, bk = w.heap.size := ⟨_, rfl⟩
  have hbx : w1.heap[bk]? = some (.cells #[.int .i64 r.kind, .string r.name, .slice eo r.eps.length ec, .slice ta r.tgts.length tc, .string r.host, .slice ra r.rules.length rc, .string r.route, .bool r.del] 52 (0, 0)) := by rw [hw1, hbk]; exact heap_alloc_new w _
  have hb1 : Below w.heap.size w w1 := by rw [hw1]; exact alloc_below _ _
  have hl1 := hl.below hb1
  have hr1 := hr.below hb1
  have hBX : Hid (∀ w', Below w1.heap.size w1 w' → w'.cell? ⟨bk, 0, none⟩ = some (.int .i64 r.kind) ∧ w'.cell? ⟨bk, 1, none⟩ = some (.string r.name) ∧ w'.cell? ⟨bk, 2, none⟩ = some (.slice eo r.eps.length ec) ∧ w'.cell? ⟨bk, 3, none⟩ = some (.slice ta r.tgts.length tc) ∧ w'.cell? ⟨bk, 4, none⟩ = some (.string r.host) ∧ w'.cell? ⟨bk, 5, none⟩ = some (.slice ra r.rules.length rc) ∧ w'.cell? ⟨bk, 6, none⟩ = some (.string r.route) ∧ w'.cell? ⟨bk, 7, none⟩ = some (.bool r.del)) := Lib.hid (fun w' h => by
    have x := (h.block bk (Array.getElem?_eq_some_iff.1 hbx).1).trans hbx
    exact ⟨box_at x rfl, box_at x rfl, box_at x rfl, box_at x rfl, box_at x rfl, box_at x rfl, box_at x rfl, box_at x rfl⟩)
  replace hl := Lib.hid hl
  replace hr := Lib.hid hr
  replace hw1 := Lib.hid hw1
  replace hbk := Lib.hid hbk
  replace hbx := Lib.hid hbx
  replace hb1 := Lib.hid hb1
  replace hl1 := Lib.hid hl1
  replace hr1 := Lib.hid hr1
  replace h52 := Lib.hid h52
  replace h520 := Lib.hid h520
  replace h521 := Lib.hid h521
  replace h522 := Lib.hid h522
  replace hLm := Lib.hid hLm
  replace hLs := Lib.hid hLs
  replace hLp := Lib.hid hLp
  replace hLl := Lib.hid hLl
  replace hM := Lib.hid hM
  go_enter Try.func72, Try.ntmps72
  go_upto_region 1 with fail
  rw [← hw1.out, ← hbk.out]
  go_upto_block 0 with fail
  go_cut [5] (fun iv wx => iv = .int .i64 (putN l r : Nat) ∧ Hid (Below w1.heap.size w1 wx))
  case first =>
    go_wp2
    go_loopg [5] (l.length + 1) (fun gg ic wx => ∃ i : Nat, gg = l.length - i + 1 ∧ i ≤ l.length ∧ ic = .int .i64 i ∧ Hid (∀ (j : Nat) x, j < i → l[j]? = some x → less x r = true) ∧ Hid (Below w1.heap.size w1 wx))
    case atStart => exact ⟨0, rfl, Nat.zero_le _, rfl, Lib.hid (fun j x hj => absurd hj (Nat.not_lt_zero j)), Lib.hid (Below.refl _ _)⟩
    case round =>
      obtain ⟨i, rfl, hi, rfl, hal, hbw⟩ := hrel
      by_cases hlt : i < l.length
      · obtain ⟨x, hx⟩ : ∃ x, l[i]? = some x := ⟨_, List.getElem?_eq_getElem hlt⟩
        obtain ⟨b, off, eo1, ec1, ta1, tc1, ra1, rc1, rfl, hbl, c, hp⟩ := res_at2 hl1.out hx
        have hk0 : (i : Int) < (l.length : Int) := nn_lt hlt
        have hwk := Lib.hid (nn_succ2 hlt hlen)
        obtain ⟨bb, hbb⟩ : ∃ s, less x r = s := ⟨_, rfl⟩
        have hK : Hid (∀ w', Below wr.heap.size wr w' → Calls Try.prog 32 #[.agg #[.int .i64 x.kind, .string x.name, .slice eo1 x.eps.length ec1, .slice ta1 x.tgts.length tc1, .string x.host, .slice ra1 x.rules.length rc1, .string x.route, .bool x.del], .agg #[.int .i64 r.kind, .string r.name, .slice eo r.eps.length ec, .slice ta r.tgts.length tc, .string r.host, .slice ra r.rules.length rc, .string r.route, .bool r.del]] w' fun e w2 => e = .returned (.bool bb) ∧ Below wr.heap.size wr w2) := Lib.hid (fun w' h => by
          rw [← hbb]
          exact (less32 x r _ _ _ _ _ _ w').mono fun _ _ ⟨he, hb⟩ => ⟨he, seq_below h hb⟩)
        have hS : Hid (∀ w', Below wr.heap.size wr w' → Below wr.heap.size wr w' ∧ w'.cell? ⟨bk, 0, none⟩ = some (.int .i64 r.kind) ∧ w'.cell? ⟨bk, 1, none⟩ = some (.string r.name) ∧ w'.cell? ⟨bk, 2, none⟩ = some (.slice eo r.eps.length ec) ∧ w'.cell? ⟨bk, 3, none⟩ = some (.slice ta r.tgts.length tc) ∧ w'.cell? ⟨bk, 4, none⟩ = some (.string r.host) ∧ w'.cell? ⟨bk, 5, none⟩ = some (.slice ra r.rules.length rc) ∧ w'.cell? ⟨bk, 6, none⟩ = some (.string r.route) ∧ w'.cell? ⟨bk, 7, none⟩ = some (.bool r.del) ∧ w'.cell? ⟨b, off + i * 8, none⟩ = some (.int .i64 x.kind) ∧ w'.cell? ⟨b, off + i * 8 + 1, none⟩ = some (.string x.name) ∧ w'.cell? ⟨b, off + i * 8 + 2, none⟩ = some (.slice eo1 x.eps.length ec1) ∧ w'.cell? ⟨b, off + i * 8 + 3, none⟩ = some (.slice ta1 x.tgts.length tc1) ∧ w'.cell? ⟨b, off + i * 8 + 4, none⟩ = some (.string x.host) ∧ w'.cell? ⟨b, off + i * 8 + 5, none⟩ = some (.slice ra1 x.rules.length rc1) ∧ w'.cell? ⟨b, off + i * 8 + 6, none⟩ = some (.string x.route) ∧ w'.cell? ⟨b, off + i * 8 + 7, none⟩ = some (.bool x.del)) := Lib.hid (fun w' h => by
          obtain ⟨d0, d1, d2, d3, d4, d5, d6, d7⟩ := c.below hbl (seq_below hbw.out h)
          obtain ⟨e0, e1, e2, e3, e4, e5, e6, e7⟩ := hBX.out w' (seq_below hbw.out h)
          exact ⟨h, e0, e1, e2, e3, e4, e5, e6, e7, d0, d1, d2, d3, d4, d5, d6, d7⟩)
        have hcur : Hid (Below wr.heap.size wr wr.drew) := Lib.hid ⟨rfl, rfl, rfl, Nat.le_refl _, fun _ _ => rfl⟩
        obtain ⟨_, e0, e1, e2, e3, e4, e5, e6, e7, d0, d1, d2, d3, d4, d5, d6, d7⟩ := hS.out wr (Below.refl _ _)
        replace hx := Lib.hid hx
        replace c := Lib.hid c
        replace hp := Lib.hid hp
        replace hbl := Lib.hid hbl
        cases bb with
        | true =>
          have hal2 : Hid (∀ (j : Nat) y, j < i + 1 → l[j]? = some y → less y r = true) := Lib.hid (fun j y hj hy => by
            rcases Nat.lt_succ_iff_lt_or_eq.1 hj with h | h
            · exact hal.out j y h hy
            · subst h
              rw [hx.out] at hy
              cases hy
              exact hbb)
          go_upto_region 2 with fail
          go_region_held3 (fun w' => Below wr.heap.size wr w' ∧ w'.cell? ⟨bk, 0, none⟩ = some (.int .i64 r.kind) ∧ w'.cell? ⟨bk, 1, none⟩ = some (.string r.name) ∧ w'.cell? ⟨bk, 2, none⟩ = some (.slice eo r.eps.length ec) ∧ w'.cell? ⟨bk, 3, none⟩ = some (.slice ta r.tgts.length tc) ∧ w'.cell? ⟨bk, 4, none⟩ = some (.string r.host) ∧ w'.cell? ⟨bk, 5, none⟩ = some (.slice ra r.rules.length rc) ∧ w'.cell? ⟨bk, 6, none⟩ = some (.string r.route) ∧ w'.cell? ⟨bk, 7, none⟩ = some (.bool r.del) ∧ w'.cell? ⟨b, off + i * 8, none⟩ = some (.int .i64 x.kind) ∧ w'.cell? ⟨b, off + i * 8 + 1, none⟩ = some (.string x.name) ∧ w'.cell? ⟨b, off + i * 8 + 2, none⟩ = some (.slice eo1 x.eps.length ec1) ∧ w'.cell? ⟨b, off + i * 8 + 3, none⟩ = some (.slice ta1 x.tgts.length tc1) ∧ w'.cell? ⟨b, off + i * 8 + 4, none⟩ = some (.string x.host) ∧ w'.cell? ⟨b, off + i * 8 + 5, none⟩ = some (.slice ra1 x.rules.length rc1) ∧ w'.cell? ⟨b, off + i * 8 + 6, none⟩ = some (.string x.route) ∧ w'.cell? ⟨b, off + i * 8 + 7, none⟩ = some (.bool x.del))
            (first | exact hS.out _ hcur.out | fail)
            (first
              | (go_at_call 32; (with_reducible refine (hK.out _ hcur.out).mono ?_); rintro e wC ⟨rfl, hbC⟩; replace hcur := Lib.hid hbC; clear hbC)
              | fail)
          all_goals
            go_wp2
            go_roundg (l.length - (i + 1) + 1)
            case rel => exact ⟨i + 1, rfl, hlt, by first | rw [hwk.out] | go_num, hal2, Lib.hid (seq_below hbw.out hcur.out)⟩
            case measure => exact nn_downS hlt
        | false =>
          have hN := Lib.hid (putN_at (l := l) (r := r) (i := i) hal.out (.inr ⟨x, hx.out, hbb⟩) hi)
          go_upto_region 2 with fail
          go_region_held3 (fun w' => Below wr.heap.size wr w' ∧ w'.cell? ⟨bk, 0, none⟩ = some (.int .i64 r.kind) ∧ w'.cell? ⟨bk, 1, none⟩ = some (.string r.name) ∧ w'.cell? ⟨bk, 2, none⟩ = some (.slice eo r.eps.length ec) ∧ w'.cell? ⟨bk, 3, none⟩ = some (.slice ta r.tgts.length tc) ∧ w'.cell? ⟨bk, 4, none⟩ = some (.string r.host) ∧ w'.cell? ⟨bk, 5, none⟩ = some (.slice ra r.rules.length rc) ∧ w'.cell? ⟨bk, 6, none⟩ = some (.string r.route) ∧ w'.cell? ⟨bk, 7, none⟩ = some (.bool r.del) ∧ w'.cell? ⟨b, off + i * 8, none⟩ = some (.int .i64 x.kind) ∧ w'.cell? ⟨b, off + i * 8 + 1, none⟩ = some (.string x.name) ∧ w'.cell? ⟨b, off + i * 8 + 2, none⟩ = some (.slice eo1 x.eps.length ec1) ∧ w'.cell? ⟨b, off + i * 8 + 3, none⟩ = some (.slice ta1 x.tgts.length tc1) ∧ w'.cell? ⟨b, off + i * 8 + 4, none⟩ = some (.string x.host) ∧ w'.cell? ⟨b, off + i * 8 + 5, none⟩ = some (.slice ra1 x.rules.length rc1) ∧ w'.cell? ⟨b, off + i * 8 + 6, none⟩ = some (.string x.route) ∧ w'.cell? ⟨b, off + i * 8 + 7, none⟩ = some (.bool x.del))
            (first | exact hS.out _ hcur.out | fail)
            (first
              | (go_at_call 32; (with_reducible refine (hK.out _ hcur.out).mono ?_); rintro e wC ⟨rfl, hbC⟩; replace hcur := Lib.hid hbC; clear hbC)
              | fail)
          all_goals
            go_wp2
            go_meet
            exact ⟨by rw [hN.out], Lib.hid (seq_below hbw.out hcur.out)⟩
      · have hk0 : decide ((i : Int) < (l.length : Int)) = false := decide_eq_false (by omega)
        have hN := Lib.hid (putN_at (l := l) (r := r) (i := i) hal.out (.inl (by omega)) hi)
        go_upto_region 2 with fail
        go_quiet (fail)
        go_wp2
        go_meet
        exact ⟨by rw [hN.out], Lib.hid (seq_below hbw.out (drew_below _ _))⟩
  case rest =>
    obtain ⟨rfl, hbz⟩ := hcut
    obtain ⟨i, hi0⟩ : ∃ i, i = putN l r := ⟨_, rfl⟩
    rw [← hi0]
    have hil := putN_le l r
    rw [← hi0] at hil
    have hi' := Lib.hid hil
    have hBw := Lib.hid (seq_below hb1.out hbz.out)
    have hLT := Lib.hid (slice_take (hLs.out.below hBw.out) (k := i) (by rw [hLl.out]; exact hi'.out))
    have hrow0 := Lib.hid (World.ownsRow_nil wc w.heap.size 52 8)
    have hlT : (L.take i).length = i := by rw [List.length_take, hLl.out]; have := hi'.out; omega
    have lim1 : 0 + (L.take i).length ≤ maxLen ∧ (0 + (L.take i).length) * 136 ≤ 140737488355328 := by have := hM.out; have := hi'.out; rw [hlT]; unfold maxLen; omega
    have hic : i ≤ cap := Nat.le_trans hi'.out hcap.out
    have hic2 : (i : Int) ≤ (cap : Int) := by omega
    obtain ⟨ao2, cap2, hr1, hr2, hLD⟩ := drop_run hLs.out hLl.out.symm (k := i) hi'.out (i : Int) rfl (n2 := l.length - i) rfl
    replace hLD := Lib.hid hLD
    have lim3 : i + 1 + (L.drop i).length ≤ maxLen ∧ (i + 1 + (L.drop i).length) * 136 ≤ 140737488355328 := by have := hM.out; have := hi'.out; rw [List.length_drop, hLl.out]; unfold maxLen; omega
    have lim2 : i + 1 ≤ maxLen ∧ (i + 1) * 136 ≤ 140737488355328 := by have := hM.out; have := hi'.out; unfold maxLen; omega
    replace hlT := Lib.hid hlT
    replace lim1 := Lib.hid lim1
    replace lim2 := Lib.hid lim2
    replace lim3 := Lib.hid lim3
    replace hil := Lib.hid hil
    replace hi0 := Lib.hid hi0
    go_upto_region 6 with (first
      | (at_builtin; refine Rd.wp_append_src rwC (by rfl) _ _ 22 (by rfl) w.heap.size 52 i52 _ 136 Try.underlying22 h52.out h520.out h521.out h522.out rfl _ 0 [] (by rfl) hrow0.out _ (L.take i) (by rfl) hLT.out lim1.out.1 lim1.out.2 hBw.out.size ?_; intro v3 w3 hr3 hg3 hl3; obtain ⟨po, pc, rfl⟩ := ownsRow_shape hr3; rw [Nat.zero_add, List.nil_append, hlT.out] at hr3; rw [Nat.zero_add, hlT.out]; have hb3 := Lib.hid (hbz.out.grown hg3 hbz.out.size (fun q hq => by cases hq)); (obtain ⟨e0, e1, e2, e3, e4, e5, e6, e7⟩ := hBX.out _ hb3.out); replace hr3 := Lib.hid hr3; clear hg3 hl3)
      | fail)
    have hB3 := Lib.hid (seq_below hb1.out hb3.out)
    go_upto_region 7 with (first
      | (at_builtin; refine wp_append_us (us := (Rw.mk r eo ec ta tc ra rc).cells) (by rfl) _ _ 22 (by rfl) w.heap.size 52 i52 _ 8 136 Try.underlying22 h52.out h520.out h521.out h522.out rfl (by decide) _ i _ (by rfl) hr3.out 1 (by rfl) rfl (rwC.one _) lim2.out.1 lim2.out.2 hB3.out.size ?_; intro v5 w5 hr5 hg5 hl5; obtain ⟨qo, qc, rfl⟩ := ownsRow_shape hr5; have hB5 := Lib.hid (hB3.out.grown hg5 hB3.out.size (fun q hq => (ownsRow_ge hr3.out hq).1)); replace hr5 := Lib.hid hr5; clear hg5 hl5)
      | fail)
    have hLD5 := Lib.hid (hLD.out.below hB5.out)
    go_wp2_with (first
      | (at_builtin; refine Rd.wp_append_src rwC (by rfl) _ _ 22 (by rfl) w.heap.size 52 i52 _ 136 Try.underlying22 h52.out h520.out h521.out h522.out rfl _ (i + 1) _ (by rfl) hr5.out _ (L.drop i) (by rfl) hLD5.out lim3.out.1 lim3.out.2 hB5.out.size ?_; intro v7 w7 hr7 hg7 hl7; obtain ⟨so, sc, rfl⟩ := ownsRow_shape hr7; have hB7 := Lib.hid (hB5.out.grown hg7 hB5.out.size (fun q hq => (ownsRow_ge hr5.out hq).1)); replace hr7 := Lib.hid hr7; clear hg7 hl7)
      | fail)
    go_ret
    have e := lie_out (w := w) (L := L.take i ++ Rw.mk r eo ec ta tc ra rc :: L.drop i) hr7.out (by rw [List.length_append, List.length_cons, hlT.out, List.length_drop]; omega) (by rw [List.flatMap_append, List.flatMap_cons, List.append_assoc]; rfl) hB7.out (fun x hx => by
      rcases List.mem_append.1 hx with h | h
      · exact hLp.out x (List.mem_of_mem_take h)
      · rcases List.mem_cons.1 h with rfl | h
        · exact hr.out
        · exact hLp.out x (List.mem_of_mem_drop h)) (by rw [List.length_append, List.length_cons, hlT.out, List.length_drop, hLl.out]; have := hM.out; have := hi'.out; omega)
    rw [List.map_append, List.map_cons, List.map_take, List.map_drop, hLm.out] at e
    simp only [List.length_drop] at e
    unfold putL
    rw [← hi0.out]
    exact e
theorem drop71 (l : List Res) (v : Value) (i : Nat) (w : World) (hl : ResS w v l) (hi : i < l.length) (hM : l.length ≤ 4294967296) : Calls Try.prog 71 #[v, .int .i64 i] w (LieOut w (dropL l i)) := by
  obtain ⟨ao, cap, rfl⟩ := slice_shape hl
  have hlen := hl.1
  have hcap := Lib.hid (slice_cap hl)
  obtain ⟨i52, h52, h520, h521, h522⟩ := info_parts info52
  obtain ⟨L, hLm, hLs, hLp⟩ := lies hl
  have hLl : L.length = l.length := by rw [← hLm, List.length_map]
  have hLT := slice_take hLs (k := i) (by rw [hLl]; omega)
  have hi1 : ((i : Int) + 1 : Int) = ((i + 1 : Nat) : Int) := by omega
  obtain ⟨ao2, cap2, hr1, hr2, hLD⟩ := drop_run hLs hLl.symm (k := i + 1) hi ((i : Int) + 1) hi1 (n2 := l.length - (i + 1)) rfl
  clear hi1
  have hlT : (L.take i).length = i := by rw [List.length_take, hLl]; omega
  have lim1 : 0 + (L.take i).length ≤ maxLen ∧ (0 + (L.take i).length) * 136 ≤ 140737488355328 := by rw [hlT]; unfold maxLen; omega
  have lim2 : i + (L.drop (i + 1)).length ≤ maxLen ∧ (i + (L.drop (i + 1)).length) * 136 ≤ 140737488355328 := by rw [List.length_drop, hLl]; unfold maxLen; omega
  have hrow0 := Lib.hid (World.ownsRow_nil w w.heap.size 52 8)
  have hic : i ≤ cap := Nat.le_trans (Nat.le_of_lt hi) (by have := hcap.out; omega)
  have hic2 : (i : Int) ≤ (cap : Int) := by omega
  have hwi : IntKind.i64.wrap ((i : Int) + 1) = (i : Int) + 1 := by have := hM; rw [IntKind.wrap_i64]; omega
  replace hLT := Lib.hid hLT
  replace hLD := Lib.hid hLD
  replace hlT := Lib.hid hlT
  replace lim1 := Lib.hid lim1
  replace lim2 := Lib.hid lim2
  replace hLs := Lib.hid hLs
  replace hLp := Lib.hid hLp
  replace hLm := Lib.hid hLm
  replace hLl := Lib.hid hLl
  replace hl := Lib.hid hl
  replace hM := Lib.hid hM
  replace hlen := Lib.hid hlen
  replace hi := Lib.hid hi
  replace h52 := Lib.hid h52
  replace h520 := Lib.hid h520
  replace h521 := Lib.hid h521
  replace h522 := Lib.hid h522
  go_enter Try.func71, Try.ntmps71
  go_wp2_with (first
    | (at_builtin; refine Rd.wp_append_src rwC (by rfl) _ _ 22 (by rfl) w.heap.size 52 i52 _ 136 Try.underlying22 h52.out h520.out h521.out h522.out rfl _ 0 [] (by rfl) hrow0.out _ (L.take i) (by rfl) hLT.out lim1.out.1 lim1.out.2 (Nat.le_refl _) ?_; intro v3 w3 hr3 hg3 hl3; obtain ⟨po, pc, rfl⟩ := ownsRow_shape hr3; rw [Nat.zero_add, List.nil_append, hlT.out] at hr3; rw [Nat.zero_add, hlT.out]; have hB3 := Lib.hid ((Below.refl w.heap.size w).grown hg3 (Nat.le_refl _) (fun q hq => by cases hq)); have hLD3 := Lib.hid (hLD.out.below hB3.out); replace hr3 := Lib.hid hr3; clear hg3 hl3)
    | (at_builtin; refine Rd.wp_append_src rwC (by rfl) _ _ 22 (by rfl) w.heap.size 52 i52 _ 136 Try.underlying22 h52.out h520.out h521.out h522.out rfl _ i _ (by rfl) hr3.out _ (L.drop (i + 1)) (by rfl) hLD3.out lim2.out.1 lim2.out.2 hB3.out.size ?_; intro v7 w7 hr7 hg7 hl7; obtain ⟨so, sc, rfl⟩ := ownsRow_shape hr7; have hB7 := Lib.hid (hB3.out.grown hg7 hB3.out.size (fun q hq => (ownsRow_ge hr3.out hq).1)); replace hr7 := Lib.hid hr7; clear hg7 hl7)
    | fail)
  go_ret
  have e := lie_out (w := w) (L := L.take i ++ L.drop (i + 1)) hr7.out (by rw [List.length_append, hlT.out]) (by rw [List.flatMap_append]) hB7.out (fun x hx => by
    rcases List.mem_append.1 hx with h | h
    · exact hLp.out x (List.mem_of_mem_take h)
    · exact hLp.out x (List.mem_of_mem_drop h)) (by rw [List.length_append, hlT.out, List.length_drop, hLl.out]; have := hM.out; have := hi.out; omega)
  rw [List.map_append, List.map_take, List.map_drop, hLm.out] at e
  simp only [List.length_drop] at e
  exact e
end Go.Proofs.Ytjepgpocmnijiaa
