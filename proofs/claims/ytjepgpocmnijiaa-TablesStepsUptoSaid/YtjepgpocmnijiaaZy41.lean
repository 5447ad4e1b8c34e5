/- The walk of the laws' awake. -/
import Derived.Test.YtjepgpocmnijiaaZy38
import Derived.Test.YtjepgpocmnijiaaZy40
section

namespace Go.Proofs.Ytjepgpocmnijiaa
open Go.RowKit Go.Mp Go.Ck Go.Stab
set_option linter.unusedVariables false
set_option maxRecDepth 100000
set_option maxHeartbeats 8000000
/-- The cells of awake's tables. -/
theorem aw_cells {w : World} {B hc : Nat} {ho : Option Addr} {v : Value} {S : List ByteArray} (q : TabM w B (.slice ho 1 hc) v [awH] S) : ∃ hg eg ec po pc sg sc, ho = some ⟨hg, 0, none⟩ ∧ w.cell? ⟨hg, 2, none⟩ = some (.slice (some ⟨eg, 0, none⟩) 1 ec) ∧ w.cell? ⟨hg, 3, none⟩ = some (.slice po 1 pc) ∧ w.cell? ⟨eg, 2, none⟩ = some (.slice (some ⟨sg, 0, none⟩) 2 sc) ∧
    w.cell? ⟨sg, 0, none⟩ = some (.string ⟨#[97]⟩) ∧ w.cell? ⟨sg, 1, none⟩ = some (.float .f64 4603804719079489536) ∧ w.cell? ⟨sg, 2, none⟩ = some (.string ⟨#[98]⟩) ∧ w.cell? ⟨sg, 3, none⟩ = some (.float .f64 4607182418800017408) := by
  obtain ⟨T, h1, h2⟩ := q.h
  match T, h1 with
  | [(⟨xh, xr, xeo, xen, xec, xpo, xpn, xpc⟩, h)], h1 =>
    simp only [List.map_cons, List.map_nil, List.cons.injEq, and_true] at h1
    subst h1
    have hm := h2.el _ (List.mem_singleton.2 rfl)
    obtain ⟨hg, e1, _, _, c2, _⟩ := ownsRow_cell h2.row (j := 2) (u := .slice xeo xen xec) rfl
    obtain ⟨hg', e1', _, _, c3, _⟩ := ownsRow_cell h2.row (j := 3) (u := .slice xpo xpn xpc) rfl
    rw [e1] at e1'
    simp only [Option.some.injEq, Addr.mk.injEq, and_true] at e1'
    subst e1'
    obtain ⟨_, _, ep⟩ := ownsRow_shape hm.ps.1
    simp only [Value.slice.injEq] at ep
    obtain ⟨E, f1, f2⟩ := hm.es
    have f1' : E.map (·.2) = [⟨⟨#[47, 112, 42]⟩, ⟨#[71, 69, 84]⟩, [⟨⟨#[97]⟩, 4603804719079489536⟩, ⟨⟨#[98]⟩, 4607182418800017408⟩]⟩] := f1
    match E, f1' with
    | [(⟨yp, ym, yso, ysn, ysc⟩, en)], f1' =>
      simp only [List.map_cons, List.map_nil, List.cons.injEq, and_true] at f1'
      subst f1'
      have em := f2.el _ (List.mem_singleton.2 rfl)
      obtain ⟨_, _, ee⟩ := ownsRow_shape f2.row
      simp only [Value.slice.injEq] at ee
      obtain ⟨eg, e2, _, _, d2, _⟩ := ownsRow_cell f2.row (j := 2) (u := .slice yso ysn ysc) rfl
      obtain ⟨_, _, es⟩ := ownsRow_shape em.sh.row
      simp only [Value.slice.injEq] at es
      obtain ⟨sg, e3, _, _, s0, _⟩ := ownsRow_cell em.sh.row (j := 0) (u := .string ⟨#[97]⟩) rfl
      subst e3
      have nx : ∀ j u, (flat [⟨⟨#[97]⟩, 4603804719079489536⟩, ⟨⟨#[98]⟩, 4607182418800017408⟩])[j]? = some u → w.cell? ⟨sg, j, none⟩ = some u := fun j u hu => by
        obtain ⟨g', e, _, _, s, _⟩ := ownsRow_cell em.sh.row hu
        simp only [Option.some.injEq, Addr.mk.injEq, and_true] at e
        subst e
        exact s
      have n1 : xpn = 1 := ep.2.1
      have n2 : xen = 1 := ee.2.1
      have n3 : ysn = 2 := es.2.1
      subst n1 n2 n3
      have e2' : xeo = some ⟨eg, 0, none⟩ := e2
      rw [e2'] at c2
      exact ⟨hg, eg, xec, xpo, xpc, sg, ysc, e1, c2, c3, d2, s0, nx 1 _ rfl, nx 2 _ rfl, nx 3 _ rfl⟩
theorem aw_alloc (w : World) : ∃ wa, wa = ((((w.alloc (.cells awC1 57)).alloc (.cells awC2 57)).alloc (.cells awC3 101)).alloc (.cells awC4 101)).alloc (.cells (awC5 w.heap.size (w.heap.size + 1) (w.heap.size + 1 + 1) (w.heap.size + 1 + 1 + 1)) 52) ∧ ResS wa (.slice (some ⟨w.heap.size + 1 + 1 + 1 + 1, 0, none⟩) 6 6) awL ∧ Below w.heap.size w wa := by
  obtain ⟨w1, h1⟩ : ∃ w1, w1 = w.alloc (.cells awC1 57) := ⟨_, rfl⟩
  obtain ⟨w2, h2⟩ : ∃ w2, w2 = w1.alloc (.cells awC2 57) := ⟨_, rfl⟩
  obtain ⟨w3, h3⟩ : ∃ w3, w3 = w2.alloc (.cells awC3 101) := ⟨_, rfl⟩
  obtain ⟨w4, h4⟩ : ∃ w4, w4 = w3.alloc (.cells awC4 101) := ⟨_, rfl⟩
  obtain ⟨w5, h5⟩ : ∃ w5, w5 = w4.alloc (.cells (awC5 w.heap.size (w.heap.size + 1) (w.heap.size + 1 + 1) (w.heap.size + 1 + 1 + 1)) 52) := ⟨_, rfl⟩
  have b1 : Below w.heap.size w w1 := by rw [h1]; exact alloc_below _ _
  have b2 : Below w1.heap.size w1 w2 := by rw [h2]; exact alloc_below _ _
  have b3 : Below w2.heap.size w2 w3 := by rw [h3]; exact alloc_below _ _
  have b4 : Below w3.heap.size w3 w4 := by rw [h4]; exact alloc_below _ _
  have b5 : Below w4.heap.size w4 w5 := by rw [h5]; exact alloc_below _ _
  have z1 : w1.heap.size = w.heap.size + 1 := by rw [h1]; simp
  have z2 : w2.heap.size = w.heap.size + 1 + 1 := by rw [h2]; simp [z1]
  have z3 : w3.heap.size = w.heap.size + 1 + 1 + 1 := by rw [h3]; simp [z2]
  have z4 : w4.heap.size = w.heap.size + 1 + 1 + 1 + 1 := by rw [h4]; simp [z3]
  have x1 : w1.heap[w.heap.size]? = some (.cells awC1 57 (0, 0)) := by rw [h1]; exact heap_alloc_new _ _
  have x2 : w2.heap[w.heap.size + 1]? = some (.cells awC2 57 (0, 0)) := by rw [h2, ← z1]; exact heap_alloc_new _ _
  have x3 : w3.heap[w.heap.size + 1 + 1]? = some (.cells awC3 101 (0, 0)) := by rw [h3, ← z2]; exact heap_alloc_new _ _
  have x4 : w4.heap[w.heap.size + 1 + 1 + 1]? = some (.cells awC4 101 (0, 0)) := by rw [h4, ← z3]; exact heap_alloc_new _ _
  have x5 : w5.heap[w.heap.size + 1 + 1 + 1 + 1]? = some (.cells (awC5 w.heap.size (w.heap.size + 1) (w.heap.size + 1 + 1) (w.heap.size + 1 + 1 + 1)) 52 (0, 0)) := by rw [h5, ← z4]; exact heap_alloc_new _ _
  have up : ∀ {a b : World} {k : Nat} {o : Obj}, Below a.heap.size a b → a.heap[k]? = some o → b.heap[k]? = some o := fun hb h => (hb.block _ (Array.getElem?_eq_some_iff.1 h).1).trans h
  refine ⟨w5, by rw [h5, h4, h3, h2, h1], aw_mem (up b5 (up b4 (up b3 (up b2 x1)))) (up b5 (up b4 (up b3 x2))) (up b5 (up b4 x3)) (up b5 x4) x5, seq_below b1 (seq_below b2 (seq_below b3 (seq_below b4 b5)))⟩
theorem run_equalIn_float {P : Program} (w : World) (d : Nat) (t : TypeId) (k k' : FloatKind) (a b : Nat) (h : P.underlying t = some (.float k')) : (Op.equalIn (d + 1) t (.float k a) (.float k b)).run P w = .ok (k.format.order a b == some .eq) w := by
  simp [Op.equalIn, Op.floatEq, run_underlying h]
theorem ord1 : (FloatKind.f64.format.order 4603804719079489536 4603804719079489536 == some .eq) = true := by decide +kernel
theorem ord2 : (FloatKind.f64.format.order 4607182418800017408 4607182418800017408 == some .eq) = true := by decide +kernel
theorem eqF1 (w : World) : (Op.equalIn 9999 55 (.float .f64 4603804719079489536) (.float .f64 4603804719079489536)).run Try.prog w = .ok true w := (run_equalIn_float w 9998 55 .f64 _ _ _ Try.underlying55).trans (by rw [ord1])
theorem eqF2 (w : World) : (Op.equalIn 9999 55 (.float .f64 4607182418800017408) (.float .f64 4607182418800017408)).run Try.prog w = .ok true w := (run_equalIn_float w 9998 55 .f64 _ _ _ Try.underlying55).trans (by rw [ord2])
attribute [local go_sem] eqF1 eqF2
theorem awake45 (w : World) : Calls Try.prog 45 #[] w fun e w' => e = .returned (.bool true) ∧ Below w.heap.size w w' := by
  obtain ⟨wa, hwa, hR, hb0⟩ := aw_alloc w
  obtain ⟨g4, hg4⟩ : ∃ g, g = w.heap.size + 1 + 1 + 1 + 1 := ⟨_, rfl⟩
  rw [← hg4] at hR
  have k3 : Hid (Calls Try.prog 47 #[.int .i64 3, .slice (some ⟨g4, 0, none⟩) 6 6] wa (TabO wa 3 [awH] [⟨#[97]⟩, ⟨#[98]⟩] (fun t => .tuple #[t, .int .i64 0]))) := Lib.hid ((comp47 awL 3 _ wa hR aw_list).mono (fun e w2 q => by
    have := compT aw_list q
    rw [aw_hostsV, aw_svcsV, aw_verV, aw_code3] at this
    exact this))
  have k0 : Hid (∀ w', Below wa.heap.size wa w' → Calls Try.prog 47 #[.int .i64 0, .slice (some ⟨g4, 0, none⟩) 6 6] w' fun e w2 => ∃ ho hn hc so sn sc, e = .returned (.tuple #[.agg #[.int .i64 0, .slice ho hn hc, .slice so sn sc], .int .i64 2]) ∧ Below w'.heap.size w' w2) := Lib.hid (fun w' hb => (comp47 awL 0 _ w' (hR.below hb) aw_list).mono (fun e w2 q => by
    obtain ⟨ho, hc, so, sc, rfl, _, hb⟩ := compT aw_list q
    rw [aw_code0]
    have : verV 0 awL = 0 := by unfold verV; rw [aw_code0]; rfl
    rw [this]
    exact ⟨_, _, _, _, _, _, rfl, hb⟩))
  unfold awC1 awC2 awC3 awC4 awC5 at hwa
  replace hwa := Lib.hid hwa
  replace hR := Lib.hid hR
  replace hb0 := Lib.hid hb0
  replace hg4 := Lib.hid hg4
  go_enter Try.func45, Try.ntmps45
  go_upto_region 2 with fail
  rw [← hg4.out, ← hwa.out]
  go_upto_region 3 with (first
    | (go_at_call 47; (with_reducible refine k3.out.mono ?_); rintro e w2 ⟨ho, hc, so, sc, rfl, hT, hb2⟩; replace hT := Lib.hid hT; replace hb2 := Lib.hid hb2)
    | fail)
  obtain ⟨wA, hwA⟩ : ∃ wA, wA = w2.alloc (.cells #[.int .i64 3, .slice ho 1 hc, .slice so 2 sc] 62) := ⟨_, rfl⟩
  obtain ⟨tb, htb⟩ : ∃ b, b = w2.heap.size := ⟨_, rfl⟩
  have bA : Below w2.heap.size w2 wA := by rw [hwA]; exact alloc_below _ _
  have hXA : Hid (Bx 0 wA tb #[.int .i64 3, .slice ho 1 hc, .slice so 2 sc] 62) := Lib.hid ⟨Nat.zero_le _, by rw [hwA, htb]; exact heap_alloc_new _ _⟩
  have hTA := Lib.hid (hT.out.below bA)
  have hbA := Lib.hid (seq_below hb2.out bA)
  have e1 : ([awH] : List Hst).length = 1 := rfl
  have e2 : ([⟨#[97]⟩, ⟨#[98]⟩] : List ByteArray).length = 2 := rfl
  try rw [e1]
  try rw [e2]
  rw [← hwA, ← htb]
  replace hwA := Lib.hid hwA
  replace htb := Lib.hid htb
  replace bA := Lib.hid bA
  replace e1 := Lib.hid e1
  replace e2 := Lib.hid e2
  go_upto_region 4 with (first
    | (go_at_call 47; (with_reducible refine (k0.out _ hbA.out).mono ?_); rintro e w3 ⟨ho', hn', hc', so', sn', sc', rfl, hb3⟩; replace hb3 := Lib.hid hb3)
    | fail)
  obtain ⟨wB, hwB⟩ : ∃ wA, wA = w3.alloc (.cells #[.int .i64 0, .slice ho' hn' hc', .slice so' sn' sc'] 62) := ⟨_, rfl⟩
  obtain ⟨ub, hub⟩ : ∃ b, b = w3.heap.size := ⟨_, rfl⟩
  have bB : Below w3.heap.size w3 wB := by rw [hwB]; exact alloc_below _ _
  have hAB := Lib.hid (seq_below hb3.out bB)
  have hbB := Lib.hid (seq_below hbA.out hAB.out)
  have hXB := Lib.hid (hXA.out.below hAB.out)
  have hTB := Lib.hid (hTA.out.below hAB.out)
  have x0 := hXB.out.cell (j := 0) (u := .int .i64 3) rfl
  have x1 := hXB.out.cell (j := 1) (u := .slice ho 1 hc) rfl
  have x2 := hXB.out.cell (j := 2) (u := .slice so 2 sc) rfl
  have k34 : Hid (Calls Try.prog 34 #[.agg #[.int .i64 3, .slice ho 1 hc, .slice so 2 sc], .string ⟨#[89, 46, 88]⟩] wB fun e w' => e = .returned (.tuple #[.int .i64 0, .bool true]) ∧ Below wB.heap.size wB w') := Lib.hid (by
    have hf : fndH [awH] ⟨#[89, 46, 88]⟩ = 0 := firstN_at (i := 0) (n := 1) (fun j hj => absurd hj (Nat.not_lt_zero j)) (by decide) (by rw [tkS_at (x := awH) rfl]; exact aw_takes)
    have := find34 3 [awH] _ (.slice so 2 sc) ⟨#[89, 46, 88]⟩ wB (HsM.reads hTB.out.h hTB.out.nh hTB.out.sm) (fun h hh => hosts_size hTB.out.h h hh) (by decide) ⟨_, _, _, rfl⟩
    rw [hf] at this
    exact this)
  rw [← hwB, ← hub]
  replace hwB := Lib.hid hwB
  replace hub := Lib.hid hub
  replace bB := Lib.hid bB
  go_upto_region 5 with (first
    | (go_at_call 34; (with_reducible refine k34.out.mono ?_); rintro e w4 ⟨rfl, hb4⟩; replace hb4 := Lib.hid hb4)
    | fail)
  clear x0 x1 x2
  have hX4 := Lib.hid (hXB.out.below hb4.out)
  have hT4 := Lib.hid (hTB.out.below hb4.out)
  have x0 := hX4.out.cell (j := 0) (u := .int .i64 3) rfl
  have x1 := hX4.out.cell (j := 1) (u := .slice ho 1 hc) rfl
  have x2 := hX4.out.cell (j := 2) (u := .slice so 2 sc) rfl
  obtain ⟨hg, eg, ec, po, pc, sg, sc2, rfl, h2, h3, d2, s0, s1, s2, s3⟩ := aw_cells hT4.out
  go_wp2
  go_ret
  exact ⟨rfl, seq_below hb0.out (seq_below hbB.out hb4.out)⟩
end Go.Proofs.Ytjepgpocmnijiaa
end
