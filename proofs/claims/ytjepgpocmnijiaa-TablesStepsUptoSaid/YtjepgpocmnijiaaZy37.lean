/- The program's Compile, where nothing is wrong. -/
import Derived.Test.YtjepgpocmnijiaaZy36
section

namespace Go.Proofs.Ytjepgpocmnijiaa
open Go.RowKit Go.Mp Go.Ck Go.Stab
set_option linter.unusedVariables false
set_option maxRecDepth 100000
set_option maxHeartbeats 8000000
theorem rules4 {l : List Res} (hl : listM l ≤ 1048576) : ∀ r ∈ l, r.rules.length ≤ 4194304 := fun r h => by
  have h1 := mem_le h
  have h4 := rules_le r
  omega
theorem route_split {l : List Res} (hC : Cfg l) {r : Res} (hr : r ∈ l) (hk : r.kind = 3) : ∀ q ∈ r.rules, has l 2 q.split = true := by
  intro q hq
  obtain ⟨j, hjl, hj⟩ := at_mem hr
  have h2 := (dangIx_at hj).symm.trans (hC.dang j hjl)
  obtain ⟨k, hkk⟩ := List.mem_iff_getElem?.1 hq
  cases hh : has l 2 q.split with
  | true => rfl
  | false =>
    have hb : badRx l r k = true := by rw [badRx_at hkk, hh]; rfl
    rcases firstN_cases r.rules.length (badRx l r) with ⟨_, h3⟩ | ⟨i, hi, e, _, _⟩
    · have := h3 k (List.getElem?_eq_some_iff.1 hkk).1
      rw [hb] at this; cases this
    · unfold dangI at h2
      rw [if_neg (by omega), if_pos hk, e] at h2
      unfold upI at h2
      rw [if_neg (by omega), decide_eq_false_iff_not] at h2
      omega
theorem box8 {w : World} {bk yec ytc yrc : Nat} {y : Res} {ye yt yr : Option Addr} (h : w.heap[bk]? = some (.cells #[.int .i64 y.kind, .string y.name, .slice ye y.eps.length yec, .slice yt y.tgts.length ytc, .string y.host, .slice yr y.rules.length yrc, .string y.route, .bool y.del] 52)) :
    w.cell? ⟨bk, 0, none⟩ = some (.int .i64 y.kind) ∧ w.cell? ⟨bk, 1, none⟩ = some (.string y.name) ∧ w.cell? ⟨bk, 2, none⟩ = some (.slice ye y.eps.length yec) ∧ w.cell? ⟨bk, 3, none⟩ = some (.slice yt y.tgts.length ytc) ∧ w.cell? ⟨bk, 4, none⟩ = some (.string y.host) ∧ w.cell? ⟨bk, 5, none⟩ = some (.slice yr y.rules.length yrc) ∧ w.cell? ⟨bk, 6, none⟩ = some (.string y.route) ∧ w.cell? ⟨bk, 7, none⟩ = some (.bool y.del) :=
  ⟨box_at h (j := 0) rfl, box_at h (j := 1) rfl, box_at h (j := 2) rfl, box_at h (j := 3) rfl, box_at h (j := 4) rfl, box_at h (j := 5) rfl, box_at h (j := 6) rfl, box_at h (j := 7) rfl⟩
theorem TB.turn {w w5 w7 : World} {zb tb e size n : Nat} {ver : Int} {hv sv v : Value} {xs : List Value} (h : TB w w5 zb tb ver hv sv) (hr : w5.ownsRow w.heap.size e size v n xs) (h1 : e ≠ 62) (t : Tch (fun k => v.ownBlock = some k) w5 w7) : TB w w7 zb tb ver hv sv :=
  ⟨Tch.below h.bel t h.bel.size (fun k hk => (hr.lt k hk).1), h.gz, h.ge, h.d, (t.block zb (Array.getElem?_eq_some_iff.1 h.z).1 (fun q => row_block_ne hr h.z h1 zb q rfl)).trans h.z, (t.block tb (Array.getElem?_eq_some_iff.1 h.t).1 (fun q => row_block_ne hr h.t h1 tb q rfl)).trans h.t⟩
/-- The hosts of a table, sorted. -/
theorem sortH {w : World} {B hc : Nat} {ho : Option Addr} {T : List (HV × Hst)} (h : HsT w B (.slice ho T.length hc) T) (hn : T.length ≤ 4194304) :
    Calls Try.prog 101 #[.slice ho T.length hc, cmpF] w fun e w' => e = .returned (.tuple #[]) ∧ ∃ T' : List (HV × Hst), T'.map (·.2) = (T.map (·.2)).mergeSort leH ∧ T'.length = T.length ∧ HsT w' B (.slice ho T.length hc) T' ∧ Tch (fun k => (Value.slice ho T.length hc).ownBlock = some k) w w' := by
  obtain ⟨T', hp, hf, hs⟩ := sorted_T T (fun p hp => (h.el p hp).nm)
  have hT' := hp.length_eq
  rcases h.row.2 with ⟨e, e0⟩ | ⟨g, cap, cur, e, _⟩
  · simp only [Value.slice.injEq] at e
    obtain ⟨rfl, e1, rfl⟩ := e
    have hT0 : T = [] := List.eq_nil_of_length_eq_zero e1
    subst hT0
    refine (sort101n w).mono ?_
    rintro e w' ⟨rfl, rfl⟩
    exact ⟨rfl, [], by simp, rfl, h, Tch.refl _ _⟩
  · simp only [Value.slice.injEq] at e
    obtain ⟨rfl, _, rfl⟩ := e
    have hL : (T.map (·.1)).length = T.length := List.length_map ..
    have hrow : HR w B g hc (T.map (·.1)) := by
      unfold HR
      rw [hL]
      exact h.row
    refine (sort101 cmpK_cH (N := T.length) hL.symm hn (fun x hx => by
      obtain ⟨p, hp, rfl⟩ := List.mem_map.1 hx
      have := h.el p hp
      unfold okH
      rw [this.nm]; exact this.hs) hrow).mono ?_
    rintro e w' ⟨rfl, hR, hT⟩
    rw [← hf] at hR
    have t : Tch (fun k => (Value.slice (some ⟨g, 0, none⟩) T.length hc).ownBlock = some k) w w' := hT.mono (fun k q => by rw [q]; rfl)
    refine ⟨rfl, T', hs, hT', ⟨?_, fun p hp' => (h.el p (hp.mem_iff.1 hp')).apart h.row (by decide) (by decide) (by decide) t⟩, t⟩
    unfold HR at hR
    rw [List.length_map, hT'] at hR
    rw [hT']
    exact hR
/-- What a compile answers. -/
def codeV (ver : Int) (l : List Res) : Int := if ver < 1 ∨ 1048576 < ver then 2 else faultC l
def hostsV (ver : Int) (l : List Res) : List Hst := if codeV ver l = 0 then hostsOf l else []
def svcsV (ver : Int) (l : List Res) : List ByteArray := if codeV ver l = 0 then svcsOf l else []
def verV (ver : Int) (l : List Res) : Int := if codeV ver l = 0 then ver else 0
def CompO (w : World) (ver : Int) (l : List Res) (e : Ending) (w' : World) : Prop := ∃ hv sv, e = .returned (.tuple #[.agg #[.int .i64 (verV ver l), hv, sv], .int .i64 (codeV ver l)]) ∧ HsM w' w.heap.size hv (hostsV ver l) ∧ SvM w' w.heap.size sv (svcsV ver l) ∧ Below w.heap.size w w' ∧ (codeV ver l = 0 → Cfg l)
theorem comp_zero {w w' : World} {ver c : Int} {l : List Res} (hc : codeV ver l = c) (h0 : c ≠ 0) (hb : Below w.heap.size w w') : CompO w ver l (.returned (.tuple #[.agg #[.int .i64 0, .slice none 0 0, .slice none 0 0], .int .i64 c])) w' := by
  unfold CompO verV hostsV svcsV
  rw [hc, if_neg h0, if_neg h0, if_neg h0]
  exact ⟨_, _, rfl, ⟨[], rfl, World.ownsRow_nil _ _ _ _, fun p hp => by cases hp⟩, ⟨World.ownsRow_nil _ _ _ _, fun s hs => by cases hs⟩, hb, fun q => absurd q h0⟩
theorem tch_put3 (w : World) (g a b c : Nat) (x y z : Value) : Tch (fun k => k = g) w (((w.setCell ⟨g, a, none⟩ x).setCell ⟨g, b, none⟩ y).setCell ⟨g, c, none⟩ z) :=
  ((Tch.setCell (S := fun k => k = g) w (p := ⟨g, a, none⟩) rfl x).trans (Tch.setCell (S := fun k => k = g) _ (p := ⟨g, b, none⟩) rfl y) (fun k h => .inl h)).trans (Tch.setCell (S := fun k => k = g) _ (p := ⟨g, c, none⟩) rfl z) (fun k h => .inl h)
theorem comp47d (l : List Res) (ver : Int) (v : Value) (w : World) (hl : ResS w v l) (hM : listM l ≤ 1048576) (h1 : 1 ≤ ver) (h2 : ver ≤ 1048576) (h0 : faultC l = 0) : Calls Try.prog 47 #[.int .i64 ver, v] w (CompO w ver l) := by
  obtain ⟨ao, cap, rfl⟩ := slice_shape hl
  have hlen := hl.1
  have hsz := sz_of hM
  have hR := rules4 hM
  have hcode : codeV ver l = 0 := by unfold codeV; rw [if_neg (by omega), h0]
  obtain ⟨i83, h83, h830, h831, h832⟩ := info_parts info83
  obtain ⟨i9, h9, h90, h91, h92⟩ := info_parts info9
  obtain ⟨wa, hwa⟩ : ∃ wa, wa = w.alloc (.cells #[.int .i64 0, .slice none 0 0, .slice none 0 0] 62) := ⟨_, rfl⟩
  obtain ⟨zb, hzb⟩ : ∃ zb, zb = w.heap.size := ⟨_, rfl⟩
  have hba : Below w.heap.size w wa := by rw [hwa]; exact alloc_below _ _
  have hza : wa.heap[zb]? = some (.cells #[.int .i64 0, .slice none 0 0, .slice none 0 0] 62) := by rw [hwa, hzb]; exact heap_alloc_new w _
  have hC19 := Lib.hid (check19w l _ wa (hl.below hba) hM)
  have g1 : ¬ ver < 1 := by omega
  have g2 : ¬ 1048576 < ver := by omega
  have g3 : decide (ver < 1) = false := decide_eq_false g1
  have g4 : decide (1048576 < ver) = false := decide_eq_false g2
  rw [h0] at hC19
  replace hl := Lib.hid hl
  replace hM := Lib.hid hM
  replace hlen := Lib.hid hlen
  replace hsz := Lib.hid hsz
  replace hR := Lib.hid hR
  replace hcode := Lib.hid hcode
  replace h83 := Lib.hid h83
  replace h830 := Lib.hid h830
  replace h831 := Lib.hid h831
  replace h832 := Lib.hid h832
  replace h9 := Lib.hid h9
  replace h90 := Lib.hid h90
  replace h91 := Lib.hid h91
  replace h92 := Lib.hid h92
  replace hba := Lib.hid hba
  replace h1 := Lib.hid h1
  replace h2 := Lib.hid h2
  replace h0 := Lib.hid h0
  go_enter Try.func47, Try.ntmps47
  go_upto_region 3 with fail
  rw [← hwa, ← hzb]
  replace hwa := Lib.hid hwa
  replace hzb := Lib.hid hzb
  go_upto_region 4 with (first
    | (go_at_call 19; (with_reducible refine hC19.out.mono ?_); rintro e w2 ⟨wv, d, n, rfl, hCf, hb2⟩; have hC := Lib.hid (hCf rfl); have hz2 := (hb2.block zb (Array.getElem?_eq_some_iff.1 hza).1).trans hza; have hb3 := Lib.hid (seq_below hba.out hb2); clear hb2 hCf)
    | fail)
  obtain ⟨wT, hwT⟩ : ∃ wT, wT = (w2.alloc (.cells #[.int .i64 d, .int .i64 n, .int .i64 0] 27)).alloc (.cells #[.int .i64 ver, .slice none 0 0, .slice none 0 0] 62) := ⟨_, rfl⟩
  obtain ⟨tb, htb⟩ : ∃ tb, tb = w2.heap.size + 1 := ⟨_, rfl⟩
  have hTB0 : Hid (TB w wT zb tb ver (.slice none 0 0) (.slice none 0 0)) := Lib.hid (by
    have b1 := alloc_below w2 (.cells #[.int .i64 d, .int .i64 n, .int .i64 0] 27)
    have b2 := alloc_below (w2.alloc (.cells #[.int .i64 d, .int .i64 n, .int .i64 0] 27)) (.cells #[.int .i64 ver, .slice none 0 0, .slice none 0 0] 62)
    have s1 : (w2.alloc (.cells #[.int .i64 d, .int .i64 n, .int .i64 0] 27)).heap.size = w2.heap.size + 1 := by simp
    have n2 := heap_alloc_new (w2.alloc (.cells #[.int .i64 d, .int .i64 n, .int .i64 0] 27)) (.cells #[.int .i64 ver, .slice none 0 0, .slice none 0 0] 62)
    rw [s1, ← htb, ← hwT] at n2
    rw [← hwT] at b2
    have hzl := (Array.getElem?_eq_some_iff.1 hz2).1
    have := hb3.out.size
    exact ⟨seq_below hb3.out (seq_below b1 b2), by rw [hzb.out]; exact Nat.le_refl _, by omega, by omega, (b2.block zb (by omega)).trans ((b1.block zb hzl).trans hz2), n2⟩)
  have hl3 : Hid (ResS wT (.slice ao l.length cap) l) := Lib.hid (hl.out.below hTB0.out.bel)
  have h95 : Hid (Calls Try.prog 95 #[.slice ao l.length cap] wT (All95 wT l)) := Lib.hid (all95 l _ wT hl3.out hsz.out hC.out)
  clear hz2 hza
  go_upto_region 7 with fail
  rw [← hwT, ← htb]
  replace hwT := Lib.hid hwT
  replace htb := Lib.hid htb
  have hn64 := hC.out.n
  have hK92 : Hid (∀ (k : Int) w', Below w.heap.size w w' → Calls Try.prog 92 #[.slice ao l.length cap, .int .i64 k] w' (NamedO w w' l k)) := Lib.hid (fun k w' hb => named92 l k _ w w' hl.out hsz.out hb)
  replace hn64 := Lib.hid hn64
  go_upto_region 8 with (first
    | (go_at_call 95; (with_reducible refine h95.out.mono ?_); rintro e w5 ⟨kb, M, rfl, hm5, hM5, hO5, hb5⟩; have hS5 : Hid (ShM w5 wT.heap.size kb l M) := Lib.hid ⟨hm5, hM5, hO5⟩; have hTB5 := Lib.hid (hTB0.out.below hb5); clear hm5 hM5 hO5 hb5)
    | fail)
  clear hTB0
  go_wp2_with (first
    | (go_at_call 92; (with_reducible refine (hK92.out _ _ hTB5.out.bel).mono ?_); rintro e wN ⟨No, Nc, L, rfl, hLr, hLrow, hLP, hbN⟩; have hTN := Lib.hid (hTB5.out.below hbN); have hSN := Lib.hid (hS5.out.below hbN); replace hLr := Lib.hid hLr; replace hLrow := Lib.hid hLrow; replace hLP := Lib.hid hLP; clear hbN)
    | fail)
  have hLn : Hid (L.length ≤ 64) := Lib.hid (by
    have := congrArg List.length hLr.out
    rw [List.length_map] at this
    have h2 := List.length_filter_le (kindP 3) l
    have := hn64.out
    omega)
  have hLk : Hid (∀ y ∈ L, y.r ∈ l ∧ y.r.kind = 3) := Lib.hid (fun y hy => by
    have : y.r ∈ l.filter (kindP 3) := by rw [← hLr.out]; exact List.mem_map_of_mem hy
    have h2 := List.mem_filter.1 this
    exact ⟨h2.1, by have := h2.2; unfold kindP at this; simpa using this⟩)
  have hTn : Hid (HsT wN w.heap.size (.slice none ([] : List (HV × Hst)).length 0) []) := Lib.hid ⟨World.ownsRow_nil _ _ _ _, fun p hp => by cases hp⟩
  go_loopg [39] (L.length + 1) (fun gg ic wx => ∃ (i : Nat) (T : List (HV × Hst)) (ho : Option Addr) (hc : Nat), gg = L.length - i + 1 ∧ i ≤ L.length ∧ ic = .int .i64 i ∧ Hid (T.map (·.2) = ((L.map Rw.r).take i).map (hostOf l)) ∧ Hid (TB w wx zb tb ver (.slice ho T.length hc) (.slice none 0 0)) ∧ Hid (HsT wx w.heap.size (.slice ho T.length hc) T) ∧ Hid (ShM wx wT.heap.size kb l M) ∧ Hid (wx.ownsRow w5.heap.size 52 8 (.slice No L.length Nc) L.length (L.flatMap Rw.cells)))
  case atStart => exact ⟨0, [], none, 0, rfl, Nat.zero_le _, rfl, Lib.hid rfl, hTN, hTn, hSN, hLrow⟩
  case round =>
    clear hTN hTn hSN hLrow hTB5 hS5
    obtain ⟨i, T, ho, hc, rfl, hi, rfl, hTm, hTB, hT, hS, hLw⟩ := hrel
    by_cases hlt : i < L.length
    · obtain ⟨x, hx1⟩ : ∃ x, L[i]? = some x := ⟨_, List.getElem?_eq_getElem hlt⟩
      have hxP := hLP.out x (List.mem_of_getElem? hx1)
      obtain ⟨hxl, hxk⟩ := hLk.out x (List.mem_of_getElem? hx1)
      have hLx : (L.map Rw.r)[i]? = some x.r := by rw [List.getElem?_map, hx1]; rfl
      have hTl : T.length = i := by have := congrArg List.length hTm.out; rw [List.length_map, List.length_map, List.length_take, List.length_map] at this; omega
      obtain ⟨y, ye, yec, yt, ytc, yr, yrc⟩ := x
      have hq : ∀ (q : Nat) u, q < 8 → (Rw.mk y ye yec yt ytc yr yrc).cells[q]? = some u → ∃ g, No = some ⟨g, 0, none⟩ ∧ wr.cell? ⟨g, i * 8 + q, none⟩ = some u := fun q u hq hu => by
        obtain ⟨g, e1, _, _, e2, _⟩ := ownsRow_cell hLw.out (j := i * 8 + q) (u := u) ((Rd.flat_at rwC.len hx1 q hq).trans hu)
        exact ⟨g, e1, e2⟩
      obtain ⟨ng, hng, _⟩ := hq 0 _ (by decide) rfl
      subst hng
      have hr : ∀ (q : Nat) u, q < 8 → (Rw.mk y ye yec yt ytc yr yrc).cells[q]? = some u → wr.cell? ⟨ng, i * 8 + q, none⟩ = some u := fun q u h1 h2 => by
        obtain ⟨g, e1, e2⟩ := hq q u h1 h2
        simp only [Option.some.injEq, Addr.mk.injEq, and_true] at e1
        rw [e1]; exact e2
      have c0 : wr.cell? ⟨ng, i * 8, none⟩ = some (.int .i64 y.kind) := hr 0 _ (by decide) rfl
      have c1 : wr.cell? ⟨ng, i * 8 + 1, none⟩ = some (.string y.name) := hr 1 _ (by decide) rfl
      have c2 : wr.cell? ⟨ng, i * 8 + 2, none⟩ = some (.slice ye y.eps.length yec) := hr 2 _ (by decide) rfl
      have c3 : wr.cell? ⟨ng, i * 8 + 3, none⟩ = some (.slice yt y.tgts.length ytc) := hr 3 _ (by decide) rfl
      have c4 : wr.cell? ⟨ng, i * 8 + 4, none⟩ = some (.string y.host) := hr 4 _ (by decide) rfl
      have c5 : wr.cell? ⟨ng, i * 8 + 5, none⟩ = some (.slice yr y.rules.length yrc) := hr 5 _ (by decide) rfl
      have c6 : wr.cell? ⟨ng, i * 8 + 6, none⟩ = some (.string y.route) := hr 6 _ (by decide) rfl
      have c7 : wr.cell? ⟨ng, i * 8 + 7, none⟩ = some (.bool y.del) := hr 7 _ (by decide) rfl
      have hk0 : (i : Int) < (L.length : Int) := nn_lt hlt
      have hwk := Lib.hid (nn_succ2 hlt (by have := hLn.out; omega))
      obtain ⟨wb, hwb⟩ : ∃ wb, wb = wr.alloc (.cells #[.int .i64 y.kind, .string y.name, .slice ye y.eps.length yec, .slice yt y.tgts.length ytc, .string y.host, .slice yr y.rules.length yrc, .string y.route, .bool y.del] 52) := ⟨_, rfl⟩
      obtain ⟨bk, hbk⟩ : ∃ bk, bk = wr.heap.size := ⟨_, rfl⟩
      have hbx : wb.heap[bk]? = some (.cells #[.int .i64 y.kind, .string y.name, .slice ye y.eps.length yec, .slice yt y.tgts.length ytc, .string y.host, .slice yr y.rules.length yrc, .string y.route, .bool y.del] 52) := by rw [hwb, hbk]; exact heap_alloc_new wr _
      have hba2 : Below wr.heap.size wr wb := by rw [hwb]; exact alloc_below _ _
      have hTBb := Lib.hid (hTB.out.below hba2)
      have hTb := Lib.hid (hT.out.below hba2)
      have hSb := Lib.hid (hS.out.below hba2)
      have hLb := Lib.hid (ownsRow_tch hLw.out (Tch.of_below (S := fun _ => False) hba2) (fun _ _ q => q))
      have hcells : Hid (∀ w', Below wb.heap.size wb w' → w'.cell? ⟨tb, 1, none⟩ = some (.slice ho T.length hc) ∧ w'.cell? ⟨bk, 0, none⟩ = some (.int .i64 y.kind) ∧ w'.cell? ⟨bk, 1, none⟩ = some (.string y.name) ∧ w'.cell? ⟨bk, 2, none⟩ = some (.slice ye y.eps.length yec) ∧ w'.cell? ⟨bk, 3, none⟩ = some (.slice yt y.tgts.length ytc) ∧ w'.cell? ⟨bk, 4, none⟩ = some (.string y.host) ∧ w'.cell? ⟨bk, 5, none⟩ = some (.slice yr y.rules.length yrc) ∧ w'.cell? ⟨bk, 6, none⟩ = some (.string y.route) ∧ w'.cell? ⟨bk, 7, none⟩ = some (.bool y.del)) := Lib.hid (fun w' h =>
        ⟨box_at (hTBb.out.below h).t (j := 1) rfl, box8 ((h.block bk (Array.getElem?_eq_some_iff.1 hbx).1).trans hbx)⟩)
      have hs7 : Hid (∀ w5 w7, Below wb.heap.size wb w5 → HsT w5 w.heap.size (.slice ho T.length hc) T → Tch (fun k => (Value.slice ho T.length hc).ownBlock = some k) w5 w7 → w7.heap[bk]? = some (.cells #[.int .i64 y.kind, .string y.name, .slice ye y.eps.length yec, .slice yt y.tgts.length ytc, .string y.host, .slice yr y.rules.length yrc, .string y.route, .bool y.del] 52)) := Lib.hid (fun w5 w7 h hE t => by
        have hb' := (h.block bk (Array.getElem?_eq_some_iff.1 hbx).1).trans hbx
        exact (t.block bk (Array.getElem?_eq_some_iff.1 hb').1 (fun q => row_block_ne hE.row hb' (by decide) bk q rfl)).trans hb')
      have hs8 : Hid (∀ w7 v7, TB w w7 zb tb ver (.slice ho T.length hc) (.slice none 0 0) → w7.heap[bk]? = some (.cells #[.int .i64 y.kind, .string y.name, .slice ye y.eps.length yec, .slice yt y.tgts.length ytc, .string y.host, .slice yr y.rules.length yrc, .string y.route, .bool y.del] 52) → (w7.setCell ⟨tb, 1, none⟩ v7).heap[bk]? = some (.cells #[.int .i64 y.kind, .string y.name, .slice ye y.eps.length yec, .slice yt y.tgts.length ytc, .string y.host, .slice yr y.rules.length yrc, .string y.route, .bool y.del] 52)) := Lib.hid (fun w7 v7 h7 hb7 =>
        ((h7.tset 1 v7).block bk (Array.getElem?_eq_some_iff.1 hb7).1 (fun q => by rw [q, h7.t] at hb7; have h9 := congrArg (fun o => match o with | some (Obj.cells _ t _) => t | _ => 0) hb7; simp at h9)).trans hb7)
      have hcall : Hid (∀ w', Below wb.heap.size wb w' → Calls Try.prog 100 #[.slice ao l.length cap, .map (some kb), .agg #[.int .i64 y.kind, .string y.name, .slice ye y.eps.length yec, .slice yt y.tgts.length ytc, .string y.host, .slice yr y.rules.length yrc, .string y.route, .bool y.del]] w' (HostO w' l y)) := Lib.hid (fun w' h => by
        have hbw := seq_below hTBb.out.bel h
        exact host100 l y ye yec yt ytc yr yrc _ kb wT.heap.size M w w' hl.out hbw hsz.out hR.out hC.out (hR.out y hxl) (RP.below hxP hbw) (hSb.out.below h) (route_split hC.out hxl hxk))
      have hcur : Hid (Below wb.heap.size wb wb.drew) := Lib.hid (drew_below wb 1)
      replace hx1 := Lib.hid hx1
      replace hq := Lib.hid hq
      replace hr := Lib.hid hr
      replace hba2 := Lib.hid hba2
      replace hTl := Lib.hid hTl
      replace hLx := Lib.hid hLx
      replace hxP := Lib.hid hxP
      replace hxl := Lib.hid hxl
      replace hxk := Lib.hid hxk
      replace hbx := Lib.hid hbx
      go_upto_region 11 with fail
      rw [← hwb, ← hbk]
      replace hwb := Lib.hid hwb
      replace hbk := Lib.hid hbk
      clear c0 c1 c2 c3 c4 c5 c6 c7
      have htk : Hid (((L.map Rw.r).take (i + 1)).map (hostOf l) = ((L.map Rw.r).take i).map (hostOf l) ++ [hostOf l y]) := Lib.hid (by rw [List.take_add_one, hLx.out, List.map_append]; rfl)
      obtain ⟨p0, _⟩ := hcells.out wb.drew hcur.out
      refine wp_region_noPanic ?_
      refine wp_region_held_drew (S := fun w' => w'.cell? ⟨bk, 0, none⟩ = some (.int .i64 y.kind) ∧ w'.cell? ⟨bk, 1, none⟩ = some (.string y.name) ∧ w'.cell? ⟨bk, 2, none⟩ = some (.slice ye y.eps.length yec) ∧ w'.cell? ⟨bk, 3, none⟩ = some (.slice yt y.tgts.length ytc) ∧ w'.cell? ⟨bk, 4, none⟩ = some (.string y.host) ∧ w'.cell? ⟨bk, 5, none⟩ = some (.slice yr y.rules.length yrc) ∧ w'.cell? ⟨bk, 6, none⟩ = some (.string y.route) ∧ w'.cell? ⟨bk, 7, none⟩ = some (.bool y.del)) (by kernel_rfl) ?_ (fun hHeld => ?_)
      · (try dsimp only)
        all_goals (first | exact (hcells.out _ hcur.out).2 | exact (hcells.out _ (seq_below hcur.out (alloc_below _ _))).2 | exact box8 s7.out | exact box8 s8.out | fail)
      refine wpAnyH_take (i := 0) (v := ?v0) rfl (by kernel_rfl) (by kernel_rfl) (by kernel_rfl) (fun _ _ _ h => h) (Or.inl ⟨by rfl, ?hy0⟩) (by assumption) ?_
      case hy0 =>
        intro w hSw
        (try dsimp only at hSw)
        go_simp
        all_goals with_reducible rfl
      try simp only [Act.put, List.setIfInBounds_toArray]
      refine wpAnyH_take (i := 2) (v := ?v1) rfl (by kernel_rfl) (by kernel_rfl) (by kernel_rfl) (fun _ _ _ h => h) (Or.inl ⟨by rfl, ?hy1⟩) (by assumption) ?_
      case hy1 =>
        intro w hSw
        (try dsimp only at hSw)
        go_simp
        all_goals with_reducible rfl
      try simp only [Act.put]
      refine wpAnyH_take (i := 3) (v := ?v2) rfl (by kernel_rfl) (by kernel_rfl) (by kernel_rfl) (fun _ _ _ h => h) (Or.inl ⟨by rfl, ?hy2⟩) (by assumption) ?_
      case hy2 =>
        intro w hSw
        (try dsimp only at hSw)
        go_simp
        all_goals with_reducible rfl
      try simp only [Act.put]
      refine wpAnyH_take (i := 4) (v := ?v3) rfl (by kernel_rfl) (by kernel_rfl) (by kernel_rfl) (fun _ _ _ h => h) (Or.inl ⟨by rfl, ?hy3⟩) (by assumption) ?_
      case hy3 =>
        intro w hSw
        (try dsimp only at hSw)
        go_simp
        all_goals with_reducible rfl
      try simp only [Act.put]
      refine wpAnyH_ready (rs := [1, 5]) (by kernel_rfl) (by simp) ?_
      refine AllReadyH.cons rfl (fun K hK => ?_) ?_
      go_simp
      refine hK.out _ _ ?_ (fun hHeld => ?_)
      · (try dsimp only)
        all_goals (first | exact (hcells.out _ hcur.out).2 | exact (hcells.out _ (seq_below hcur.out (alloc_below _ _))).2 | exact box8 s7.out | exact box8 s8.out | fail)
      clear hK K
      try simp only [Act.put, List.setIfInBounds_toArray, List.set_cons_zero, List.set_cons_succ]
      refine wpAnyH_ready (rs := [5]) (by kernel_rfl) (by simp) ?_
      refine AllReadyH.cons rfl (fun K hK => ?_) ?_
      go_simp
      (first | (go_at_call 100; (with_reducible refine (hcall.out _ hcur.out).mono ?_); rintro e w6 ⟨xh, rfl, hM6, hb6⟩; have hX6 := Lib.hid (hM6.base (Nat.le_trans hTBb.out.bel.size hcur.out.size)); replace hcur := Lib.hid (seq_below hcur.out hb6); have hT6 := Lib.hid (hTb.out.below hcur.out); have hTB6 := Lib.hid (hTBb.out.below hcur.out); have hS6 := Lib.hid (hSb.out.below hcur.out); have hL6 := Lib.hid (ownsRow_tch hLb.out (Tch.of_below (S := fun _ => False) hcur.out) (fun _ _ q => q)); obtain ⟨e0, _⟩ := hcells.out w6 hcur.out; obtain ⟨g0, _⟩ := hcells.out (w6.alloc (.cells #[.string xh.host, .string xh.route, .slice xh.eo xh.en xh.ec, .slice xh.po xh.pn xh.pc] 83)) (seq_below hcur.out (alloc_below _ _)); clear hM6 hb6) | (refine step_append_us (by rfl) _ _ 60 (by rfl) w.heap.size 83 i83 _ 4 80 Try.underlying60 h83.out h830.out h831.out h832.out rfl (by decide) _ T.length (hflat (T.map (·.1))) (by rfl) hT6.out.row 1 (by rfl) rfl (by simp [Value.oneCell']) (by have := hTl.out; have := hLn.out; unfold maxLen; omega) (by have := hTl.out; have := hLn.out; omega) hTB6.out.bel.size ?_; intro v7 w7 hr7 hg7 hl7; obtain ⟨o7, c7, rfl⟩ := ownsRow_shape hr7; obtain ⟨hB7, hBf, hTf, hSf, hLf⟩ := hstS hTB6.out hT6.out hX6.out hS6.out hL6.out hr7 hg7; have t7 : Tch (fun k => (Value.slice ho T.length hc).ownBlock = some k) w6 w7 := Tch.grown hg7 (fun k q => .inl q); have s7 := Lib.hid (hs7.out w6 w7 hcur.out hT6.out t7); have s8 := Lib.hid (hs8.out w7 (.slice o7 (T.length + 1) c7) hB7 s7.out); clear t7; have q7 : w7.cell? ⟨tb, 1, none⟩ = some (.slice ho T.length hc) := box_at hB7.t (j := 1) rfl; have f7 : w7.frozen? ⟨tb, 1, none⟩ = false := frozen_of_row _ tb 1 _ _ hB7.t; replace hBf := Lib.hid hBf; replace hTf := Lib.hid hTf; replace hSf := Lib.hid hSf; replace hLf := Lib.hid hLf; clear hr7 hg7 hl7 hB7) | fail)
      refine hK.out _ _ ?_ (fun hHeld => ?_)
      · (try dsimp only)
        all_goals (first | exact (hcells.out _ hcur.out).2 | exact (hcells.out _ (seq_below hcur.out (alloc_below _ _))).2 | exact box8 s7.out | exact box8 s8.out | fail)
      clear hK K
      try simp only [Act.put, List.setIfInBounds_toArray, List.set_cons_zero, List.set_cons_succ]
      refine wpAnyH_ready (rs := [6]) (by kernel_rfl) (by simp) ?_
      refine AllReadyH.cons rfl (fun K hK => ?_) ?_
      go_simp
      refine hK.out _ _ ?_ (fun hHeld => ?_)
      · (try dsimp only)
        all_goals (first | exact (hcells.out _ hcur.out).2 | exact (hcells.out _ (seq_below hcur.out (alloc_below _ _))).2 | exact box8 s7.out | exact box8 s8.out | fail)
      clear hK K
      try simp only [Act.put, List.setIfInBounds_toArray, List.set_cons_zero, List.set_cons_succ]
      refine wpAnyH_ready (rs := [7]) (by kernel_rfl) (by simp) ?_
      refine AllReadyH.cons rfl (fun K hK => ?_) ?_
      (first | (go_at_call 100; (with_reducible refine (hcall.out _ hcur.out).mono ?_); rintro e w6 ⟨xh, rfl, hM6, hb6⟩; have hX6 := Lib.hid (hM6.base (Nat.le_trans hTBb.out.bel.size hcur.out.size)); replace hcur := Lib.hid (seq_below hcur.out hb6); have hT6 := Lib.hid (hTb.out.below hcur.out); have hTB6 := Lib.hid (hTBb.out.below hcur.out); have hS6 := Lib.hid (hSb.out.below hcur.out); have hL6 := Lib.hid (ownsRow_tch hLb.out (Tch.of_below (S := fun _ => False) hcur.out) (fun _ _ q => q)); obtain ⟨e0, _⟩ := hcells.out w6 hcur.out; obtain ⟨g0, _⟩ := hcells.out (w6.alloc (.cells #[.string xh.host, .string xh.route, .slice xh.eo xh.en xh.ec, .slice xh.po xh.pn xh.pc] 83)) (seq_below hcur.out (alloc_below _ _)); clear hM6 hb6) | (refine step_append_us (by rfl) _ _ 60 (by rfl) w.heap.size 83 i83 _ 4 80 Try.underlying60 h83.out h830.out h831.out h832.out rfl (by decide) _ T.length (hflat (T.map (·.1))) (by rfl) hT6.out.row 1 (by rfl) rfl (by simp [Value.oneCell']) (by have := hTl.out; have := hLn.out; unfold maxLen; omega) (by have := hTl.out; have := hLn.out; omega) hTB6.out.bel.size ?_; intro v7 w7 hr7 hg7 hl7; obtain ⟨o7, c7, rfl⟩ := ownsRow_shape hr7; obtain ⟨hB7, hBf, hTf, hSf, hLf⟩ := hstS hTB6.out hT6.out hX6.out hS6.out hL6.out hr7 hg7; have t7 : Tch (fun k => (Value.slice ho T.length hc).ownBlock = some k) w6 w7 := Tch.grown hg7 (fun k q => .inl q); have s7 := Lib.hid (hs7.out w6 w7 hcur.out hT6.out t7); have s8 := Lib.hid (hs8.out w7 (.slice o7 (T.length + 1) c7) hB7 s7.out); clear t7; have q7 : w7.cell? ⟨tb, 1, none⟩ = some (.slice ho T.length hc) := box_at hB7.t (j := 1) rfl; have f7 : w7.frozen? ⟨tb, 1, none⟩ = false := frozen_of_row _ tb 1 _ _ hB7.t; replace hBf := Lib.hid hBf; replace hTf := Lib.hid hTf; replace hSf := Lib.hid hSf; replace hLf := Lib.hid hLf; clear hr7 hg7 hl7 hB7) | fail)
      refine hK.out _ _ ?_ (fun hHeld => ?_)
      · (try dsimp only)
        all_goals (first | exact (hcells.out _ hcur.out).2 | exact (hcells.out _ (seq_below hcur.out (alloc_below _ _))).2 | exact box8 s7.out | exact box8 s8.out | fail)
      clear hK K
      try simp only [Act.put, List.setIfInBounds_toArray]
      refine wpAnyH_take (i := 8) (v := ?v4) rfl (by kernel_rfl) (by kernel_rfl) (by kernel_rfl) (fun _ _ _ h => h) (Or.inl ⟨by rfl, ?hy4⟩) (by assumption) ?_
      case hy4 =>
        intro w hSw
        (try dsimp only at hSw)
        go_simp
        all_goals with_reducible rfl
      try simp only [Act.put]
      refine wpAnyH_ready (rs := [9]) (by kernel_rfl) (by simp) ?_
      refine AllReadyH.cons rfl (fun K hK => ?_) ?_
      go_simp
      refine hK.out _ _ ?_ (fun hHeld => ?_)
      · (try dsimp only)
        all_goals (first | exact (hcells.out _ hcur.out).2 | exact (hcells.out _ (seq_below hcur.out (alloc_below _ _))).2 | exact box8 s7.out | exact box8 s8.out | fail)
      clear hK K
      try simp only [Act.put, List.setIfInBounds_toArray, List.set_cons_zero, List.set_cons_succ]
      refine wpAnyH_done (by kernel_rfl) ?_ _
      refine NoPanic.normal ?_
      rotate_left 1
      exact AllReadyH.nil
      exact AllReadyH.nil
      exact AllReadyH.nil
      exact AllReadyH.nil
      refine AllReadyH.cons rfl (fun K hK => ?_) ?_
      go_simp
      (first | (go_at_call 100; (with_reducible refine (hcall.out _ hcur.out).mono ?_); rintro e w6 ⟨xh, rfl, hM6, hb6⟩; have hX6 := Lib.hid (hM6.base (Nat.le_trans hTBb.out.bel.size hcur.out.size)); replace hcur := Lib.hid (seq_below hcur.out hb6); have hT6 := Lib.hid (hTb.out.below hcur.out); have hTB6 := Lib.hid (hTBb.out.below hcur.out); have hS6 := Lib.hid (hSb.out.below hcur.out); have hL6 := Lib.hid (ownsRow_tch hLb.out (Tch.of_below (S := fun _ => False) hcur.out) (fun _ _ q => q)); obtain ⟨e0, _⟩ := hcells.out w6 hcur.out; obtain ⟨g0, _⟩ := hcells.out (w6.alloc (.cells #[.string xh.host, .string xh.route, .slice xh.eo xh.en xh.ec, .slice xh.po xh.pn xh.pc] 83)) (seq_below hcur.out (alloc_below _ _)); clear hM6 hb6) | (refine step_append_us (by rfl) _ _ 60 (by rfl) w.heap.size 83 i83 _ 4 80 Try.underlying60 h83.out h830.out h831.out h832.out rfl (by decide) _ T.length (hflat (T.map (·.1))) (by rfl) hT6.out.row 1 (by rfl) rfl (by simp [Value.oneCell']) (by have := hTl.out; have := hLn.out; unfold maxLen; omega) (by have := hTl.out; have := hLn.out; omega) hTB6.out.bel.size ?_; intro v7 w7 hr7 hg7 hl7; obtain ⟨o7, c7, rfl⟩ := ownsRow_shape hr7; obtain ⟨hB7, hBf, hTf, hSf, hLf⟩ := hstS hTB6.out hT6.out hX6.out hS6.out hL6.out hr7 hg7; have t7 : Tch (fun k => (Value.slice ho T.length hc).ownBlock = some k) w6 w7 := Tch.grown hg7 (fun k q => .inl q); have s7 := Lib.hid (hs7.out w6 w7 hcur.out hT6.out t7); have s8 := Lib.hid (hs8.out w7 (.slice o7 (T.length + 1) c7) hB7 s7.out); clear t7; have q7 : w7.cell? ⟨tb, 1, none⟩ = some (.slice ho T.length hc) := box_at hB7.t (j := 1) rfl; have f7 : w7.frozen? ⟨tb, 1, none⟩ = false := frozen_of_row _ tb 1 _ _ hB7.t; replace hBf := Lib.hid hBf; replace hTf := Lib.hid hTf; replace hSf := Lib.hid hSf; replace hLf := Lib.hid hLf; clear hr7 hg7 hl7 hB7) | fail)
      refine hK.out _ _ ?_ (fun hHeld => ?_)
      · (try dsimp only)
        all_goals (first | exact (hcells.out _ hcur.out).2 | exact (hcells.out _ (seq_below hcur.out (alloc_below _ _))).2 | exact box8 s7.out | exact box8 s8.out | fail)
      clear hK K
      try simp only [Act.put, List.setIfInBounds_toArray, List.set_cons_zero, List.set_cons_succ]
      refine wpAnyH_ready (rs := [1, 6]) (by kernel_rfl) (by simp) ?_
      refine AllReadyH.cons rfl (fun K hK => ?_) ?_
      go_simp
      refine hK.out _ _ ?_ (fun hHeld => ?_)
      · (try dsimp only)
        all_goals (first | exact (hcells.out _ hcur.out).2 | exact (hcells.out _ (seq_below hcur.out (alloc_below _ _))).2 | exact box8 s7.out | exact box8 s8.out | fail)
      clear hK K
      try simp only [Act.put, List.setIfInBounds_toArray, List.set_cons_zero, List.set_cons_succ]
      refine wpAnyH_ready (rs := [6]) (by kernel_rfl) (by simp) ?_
      refine AllReadyH.cons rfl (fun K hK => ?_) ?_
      go_simp
      refine hK.out _ _ ?_ (fun hHeld => ?_)
      · (try dsimp only)
        all_goals (first | exact (hcells.out _ hcur.out).2 | exact (hcells.out _ (seq_below hcur.out (alloc_below _ _))).2 | exact box8 s7.out | exact box8 s8.out | fail)
      clear hK K
      try simp only [Act.put, List.setIfInBounds_toArray, List.set_cons_zero, List.set_cons_succ]
      refine wpAnyH_ready (rs := [7]) (by kernel_rfl) (by simp) ?_
      refine AllReadyH.cons rfl (fun K hK => ?_) ?_
      (first | (go_at_call 100; (with_reducible refine (hcall.out _ hcur.out).mono ?_); rintro e w6 ⟨xh, rfl, hM6, hb6⟩; have hX6 := Lib.hid (hM6.base (Nat.le_trans hTBb.out.bel.size hcur.out.size)); replace hcur := Lib.hid (seq_below hcur.out hb6); have hT6 := Lib.hid (hTb.out.below hcur.out); have hTB6 := Lib.hid (hTBb.out.below hcur.out); have hS6 := Lib.hid (hSb.out.below hcur.out); have hL6 := Lib.hid (ownsRow_tch hLb.out (Tch.of_below (S := fun _ => False) hcur.out) (fun _ _ q => q)); obtain ⟨e0, _⟩ := hcells.out w6 hcur.out; obtain ⟨g0, _⟩ := hcells.out (w6.alloc (.cells #[.string xh.host, .string xh.route, .slice xh.eo xh.en xh.ec, .slice xh.po xh.pn xh.pc] 83)) (seq_below hcur.out (alloc_below _ _)); clear hM6 hb6) | (refine step_append_us (by rfl) _ _ 60 (by rfl) w.heap.size 83 i83 _ 4 80 Try.underlying60 h83.out h830.out h831.out h832.out rfl (by decide) _ T.length (hflat (T.map (·.1))) (by rfl) hT6.out.row 1 (by rfl) rfl (by simp [Value.oneCell']) (by have := hTl.out; have := hLn.out; unfold maxLen; omega) (by have := hTl.out; have := hLn.out; omega) hTB6.out.bel.size ?_; intro v7 w7 hr7 hg7 hl7; obtain ⟨o7, c7, rfl⟩ := ownsRow_shape hr7; obtain ⟨hB7, hBf, hTf, hSf, hLf⟩ := hstS hTB6.out hT6.out hX6.out hS6.out hL6.out hr7 hg7; have t7 : Tch (fun k => (Value.slice ho T.length hc).ownBlock = some k) w6 w7 := Tch.grown hg7 (fun k q => .inl q); have s7 := Lib.hid (hs7.out w6 w7 hcur.out hT6.out t7); have s8 := Lib.hid (hs8.out w7 (.slice o7 (T.length + 1) c7) hB7 s7.out); clear t7; have q7 : w7.cell? ⟨tb, 1, none⟩ = some (.slice ho T.length hc) := box_at hB7.t (j := 1) rfl; have f7 : w7.frozen? ⟨tb, 1, none⟩ = false := frozen_of_row _ tb 1 _ _ hB7.t; replace hBf := Lib.hid hBf; replace hTf := Lib.hid hTf; replace hSf := Lib.hid hSf; replace hLf := Lib.hid hLf; clear hr7 hg7 hl7 hB7) | fail)
      refine hK.out _ _ ?_ (fun hHeld => ?_)
      · (try dsimp only)
        all_goals (first | exact (hcells.out _ hcur.out).2 | exact (hcells.out _ (seq_below hcur.out (alloc_below _ _))).2 | exact box8 s7.out | exact box8 s8.out | fail)
      clear hK K
      try simp only [Act.put, List.setIfInBounds_toArray]
      refine wpAnyH_take (i := 8) (v := ?v5) rfl (by kernel_rfl) (by kernel_rfl) (by kernel_rfl) (fun _ _ _ h => h) (Or.inl ⟨by rfl, ?hy5⟩) (by assumption) ?_
      case hy5 =>
        intro w hSw
        (try dsimp only at hSw)
        go_simp
        all_goals with_reducible rfl
      try simp only [Act.put]
      refine wpAnyH_ready (rs := [9]) (by kernel_rfl) (by simp) ?_
      refine AllReadyH.cons rfl (fun K hK => ?_) ?_
      go_simp
      refine hK.out _ _ ?_ (fun hHeld => ?_)
      · (try dsimp only)
        all_goals (first | exact (hcells.out _ hcur.out).2 | exact (hcells.out _ (seq_below hcur.out (alloc_below _ _))).2 | exact box8 s7.out | exact box8 s8.out | fail)
      clear hK K
      try simp only [Act.put, List.setIfInBounds_toArray, List.set_cons_zero, List.set_cons_succ]
      refine wpAnyH_done (by kernel_rfl) ?_ _
      refine NoPanic.normal ?_
      rotate_left 1
      exact AllReadyH.nil
      exact AllReadyH.nil
      exact AllReadyH.nil
      refine AllReadyH.cons rfl (fun K hK => ?_) ?_
      go_simp
      refine hK.out _ _ ?_ (fun hHeld => ?_)
      · (try dsimp only)
        all_goals (first | exact (hcells.out _ hcur.out).2 | exact (hcells.out _ (seq_below hcur.out (alloc_below _ _))).2 | exact box8 s7.out | exact box8 s8.out | fail)
      clear hK K
      try simp only [Act.put, List.setIfInBounds_toArray, List.set_cons_zero, List.set_cons_succ]
      refine wpAnyH_ready (rs := [1]) (by kernel_rfl) (by simp) ?_
      refine AllReadyH.cons rfl (fun K hK => ?_) ?_
      go_simp
      refine hK.out _ _ ?_ (fun hHeld => ?_)
      · (try dsimp only)
        all_goals (first | exact (hcells.out _ hcur.out).2 | exact (hcells.out _ (seq_below hcur.out (alloc_below _ _))).2 | exact box8 s7.out | exact box8 s8.out | fail)
      clear hK K
      try simp only [Act.put, List.setIfInBounds_toArray, List.set_cons_zero, List.set_cons_succ]
      refine wpAnyH_ready (rs := [7]) (by kernel_rfl) (by simp) ?_
      refine AllReadyH.cons rfl (fun K hK => ?_) ?_
      (first | (go_at_call 100; (with_reducible refine (hcall.out _ hcur.out).mono ?_); rintro e w6 ⟨xh, rfl, hM6, hb6⟩; have hX6 := Lib.hid (hM6.base (Nat.le_trans hTBb.out.bel.size hcur.out.size)); replace hcur := Lib.hid (seq_below hcur.out hb6); have hT6 := Lib.hid (hTb.out.below hcur.out); have hTB6 := Lib.hid (hTBb.out.below hcur.out); have hS6 := Lib.hid (hSb.out.below hcur.out); have hL6 := Lib.hid (ownsRow_tch hLb.out (Tch.of_below (S := fun _ => False) hcur.out) (fun _ _ q => q)); obtain ⟨e0, _⟩ := hcells.out w6 hcur.out; obtain ⟨g0, _⟩ := hcells.out (w6.alloc (.cells #[.string xh.host, .string xh.route, .slice xh.eo xh.en xh.ec, .slice xh.po xh.pn xh.pc] 83)) (seq_below hcur.out (alloc_below _ _)); clear hM6 hb6) | (refine step_append_us (by rfl) _ _ 60 (by rfl) w.heap.size 83 i83 _ 4 80 Try.underlying60 h83.out h830.out h831.out h832.out rfl (by decide) _ T.length (hflat (T.map (·.1))) (by rfl) hT6.out.row 1 (by rfl) rfl (by simp [Value.oneCell']) (by have := hTl.out; have := hLn.out; unfold maxLen; omega) (by have := hTl.out; have := hLn.out; omega) hTB6.out.bel.size ?_; intro v7 w7 hr7 hg7 hl7; obtain ⟨o7, c7, rfl⟩ := ownsRow_shape hr7; obtain ⟨hB7, hBf, hTf, hSf, hLf⟩ := hstS hTB6.out hT6.out hX6.out hS6.out hL6.out hr7 hg7; have t7 : Tch (fun k => (Value.slice ho T.length hc).ownBlock = some k) w6 w7 := Tch.grown hg7 (fun k q => .inl q); have s7 := Lib.hid (hs7.out w6 w7 hcur.out hT6.out t7); have s8 := Lib.hid (hs8.out w7 (.slice o7 (T.length + 1) c7) hB7 s7.out); clear t7; have q7 : w7.cell? ⟨tb, 1, none⟩ = some (.slice ho T.length hc) := box_at hB7.t (j := 1) rfl; have f7 : w7.frozen? ⟨tb, 1, none⟩ = false := frozen_of_row _ tb 1 _ _ hB7.t; replace hBf := Lib.hid hBf; replace hTf := Lib.hid hTf; replace hSf := Lib.hid hSf; replace hLf := Lib.hid hLf; clear hr7 hg7 hl7 hB7) | fail)
      refine hK.out _ _ ?_ (fun hHeld => ?_)
      · (try dsimp only)
        all_goals (first | exact (hcells.out _ hcur.out).2 | exact (hcells.out _ (seq_below hcur.out (alloc_below _ _))).2 | exact box8 s7.out | exact box8 s8.out | fail)
      clear hK K
      try simp only [Act.put, List.setIfInBounds_toArray]
      refine wpAnyH_take (i := 8) (v := ?v6) rfl (by kernel_rfl) (by kernel_rfl) (by kernel_rfl) (fun _ _ _ h => h) (Or.inl ⟨by rfl, ?hy6⟩) (by assumption) ?_
      case hy6 =>
        intro w hSw
        (try dsimp only at hSw)
        go_simp
        all_goals with_reducible rfl
      try simp only [Act.put]
      refine wpAnyH_ready (rs := [9]) (by kernel_rfl) (by simp) ?_
      refine AllReadyH.cons rfl (fun K hK => ?_) ?_
      go_simp
      refine hK.out _ _ ?_ (fun hHeld => ?_)
      · (try dsimp only)
        all_goals (first | exact (hcells.out _ hcur.out).2 | exact (hcells.out _ (seq_below hcur.out (alloc_below _ _))).2 | exact box8 s7.out | exact box8 s8.out | fail)
      clear hK K
      try simp only [Act.put, List.setIfInBounds_toArray, List.set_cons_zero, List.set_cons_succ]
      refine wpAnyH_done (by kernel_rfl) ?_ _
      refine NoPanic.normal ?_
      rotate_left 1
      exact AllReadyH.nil
      exact AllReadyH.nil
      exact AllReadyH.nil
      exact AllReadyH.nil
      exact AllReadyH.nil
      all_goals
        go_wp2
        go_roundg (L.length - (i + 1) + 1)
        case rel => exact ⟨i + 1, T ++ [(xh, hostOf l y)], o7, c7, rfl, hlt, by first | rw [hwk.out] | go_num, Lib.hid (by rw [List.map_append, hTm.out, htk.out]; rfl), by rw [List.length_append]; exact hBf, by rw [List.length_append]; exact hTf, hSf, hLf⟩
        case measure => exact nn_downS hlt
    · have hk0 : decide ((i : Int) < (L.length : Int)) = false := decide_eq_false (by omega)
      have hk1 : ¬ (i : Int) < (L.length : Int) := by omega
      have hie : i = L.length := by omega
      have hTm2 : Hid (T.map (·.2) = (l.filter (kindP 3)).map (hostOf l)) := Lib.hid (by rw [hTm.out, List.take_of_length_le (by rw [List.length_map]; omega), hLr.out])
      have hTl : T.length ≤ 64 := by
        have := congrArg List.length hTm.out
        rw [List.length_map, List.length_map, List.length_take, List.length_map] at this
        have := hLn.out
        omega
      have hsort := Lib.hid (sortH hT.out (by omega))
      have q1 : wr.cell? ⟨tb, 1, none⟩ = some (.slice ho T.length hc) := box_at hTB.out.t (j := 1) rfl
      replace hie := Lib.hid hie
      replace hTl := Lib.hid hTl
      clear hTm
      go_wp2_with (first
        | (go_at_call 101; (with_reducible refine hsort.out.mono ?_); rintro e w7 ⟨rfl, T2, hT2m, hT2l, hT2, t2⟩; have hTB7 := Lib.hid (hTB.out.turn hT.out.row (by decide) t2); replace hT2m := Lib.hid hT2m; replace hT2l := Lib.hid hT2l; replace hT2 := Lib.hid hT2; clear t2 q1)
        | (go_at_call 92; (with_reducible refine (hK92.out _ _ hTB7.out.bel).mono ?_); rintro e wM ⟨So', Sc', L2, rfl, hL2r, hL2row, hL2P, hbM⟩; have hTBM := Lib.hid (hTB7.out.below hbM); have hTM := Lib.hid (hT2.out.below hbM); replace hL2r := Lib.hid hL2r; replace hL2row := Lib.hid hL2row; replace hL2P := Lib.hid hL2P; clear hbM)
        | fail)
      have hL2n : Hid (L2.length ≤ 64) := Lib.hid (by
        have := congrArg List.length hL2r.out
        rw [List.length_map] at this
        have h2 := List.length_filter_le (kindP 1) l
        have := hn64.out
        omega)
      have hSv0 : Hid (SvM wM w.heap.size (.slice none ([] : List ByteArray).length 0) []) := Lib.hid ⟨World.ownsRow_nil _ _ _ _, fun s hs => by cases hs⟩
      obtain ⟨T, rfl⟩ : ∃ T, T = T2 := ⟨_, rfl⟩
      rw [← hT2l.out] at hTBM hTM
      go_loopg [59] (L2.length + 1) (fun gg jc wx => ∃ (j : Nat) (ss : List ByteArray) (so : Option Addr) (sc : Nat), gg = L2.length - j + 1 ∧ j ≤ L2.length ∧ jc = .int .i64 j ∧ Hid (ss = ((L2.map Rw.r).take j).map (·.name)) ∧ Hid (TB w wx zb tb ver (.slice ho T.length hc) (.slice so ss.length sc)) ∧ Hid (HsT wx w.heap.size (.slice ho T.length hc) T) ∧ Hid (SvM wx w.heap.size (.slice so ss.length sc) ss) ∧ Hid (wx.ownsRow w7.heap.size 52 8 (.slice So' L2.length Sc') L2.length (L2.flatMap Rw.cells)))
      case atStart => exact ⟨0, [], none, 0, rfl, Nat.zero_le _, rfl, Lib.hid rfl, hTBM, hTM, hSv0, hL2row⟩
      case round =>
        clear hTBM hTM hSv0 hL2row hTB7 hT2 hTB hT hS hLw
        obtain ⟨j, ss, so, sc, rfl, hj, rfl, hss, hTB, hT, hSv, hLw⟩ := hrel
        by_cases hlt2 : j < L2.length
        · obtain ⟨x, hx1⟩ : ∃ x, L2[j]? = some x := ⟨_, List.getElem?_eq_getElem hlt2⟩
          have hxP := hL2P.out x (List.mem_of_getElem? hx1)
          have hLx : (L2.map Rw.r)[j]? = some x.r := by rw [List.getElem?_map, hx1]; rfl
          have hssl : ss.length = j := by have := congrArg List.length hss.out; rw [List.length_map, List.length_take, List.length_map] at this; omega
          obtain ⟨y, ye, yec, yt, ytc, yr, yrc⟩ := x
          have hq : ∀ (q : Nat) u, q < 8 → (Rw.mk y ye yec yt ytc yr yrc).cells[q]? = some u → ∃ g, So' = some ⟨g, 0, none⟩ ∧ wr.cell? ⟨g, j * 8 + q, none⟩ = some u := fun q u hq hu => by
            obtain ⟨g, e1, _, _, e2, _⟩ := ownsRow_cell hLw.out (j := j * 8 + q) (u := u) ((Rd.flat_at rwC.len hx1 q hq).trans hu)
            exact ⟨g, e1, e2⟩
          obtain ⟨ng, hng, _⟩ := hq 0 _ (by decide) rfl
          subst hng
          have hr : ∀ (q : Nat) u, q < 8 → (Rw.mk y ye yec yt ytc yr yrc).cells[q]? = some u → wr.cell? ⟨ng, j * 8 + q, none⟩ = some u := fun q u h1 h2 => by
            obtain ⟨g, e1, e2⟩ := hq q u h1 h2
            simp only [Option.some.injEq, Addr.mk.injEq, and_true] at e1
            rw [e1]; exact e2
          have c0 : wr.cell? ⟨ng, j * 8, none⟩ = some (.int .i64 y.kind) := hr 0 _ (by decide) rfl
          have c1 : wr.cell? ⟨ng, j * 8 + 1, none⟩ = some (.string y.name) := hr 1 _ (by decide) rfl
          have c2 : wr.cell? ⟨ng, j * 8 + 2, none⟩ = some (.slice ye y.eps.length yec) := hr 2 _ (by decide) rfl
          have c3 : wr.cell? ⟨ng, j * 8 + 3, none⟩ = some (.slice yt y.tgts.length ytc) := hr 3 _ (by decide) rfl
          have c4 : wr.cell? ⟨ng, j * 8 + 4, none⟩ = some (.string y.host) := hr 4 _ (by decide) rfl
          have c5 : wr.cell? ⟨ng, j * 8 + 5, none⟩ = some (.slice yr y.rules.length yrc) := hr 5 _ (by decide) rfl
          have c6 : wr.cell? ⟨ng, j * 8 + 6, none⟩ = some (.string y.route) := hr 6 _ (by decide) rfl
          have c7 : wr.cell? ⟨ng, j * 8 + 7, none⟩ = some (.bool y.del) := hr 7 _ (by decide) rfl
          have hk0 : (j : Int) < (L2.length : Int) := nn_lt hlt2
          have hwk := Lib.hid (nn_succ2 hlt2 (by have := hL2n.out; omega))
          obtain ⟨wb, hwb⟩ : ∃ wb, wb = wr.alloc (.cells #[.int .i64 y.kind, .string y.name, .slice ye y.eps.length yec, .slice yt y.tgts.length ytc, .string y.host, .slice yr y.rules.length yrc, .string y.route, .bool y.del] 52) := ⟨_, rfl⟩
          obtain ⟨bk, hbk⟩ : ∃ bk, bk = wr.heap.size := ⟨_, rfl⟩
          have hbx : wb.heap[bk]? = some (.cells #[.int .i64 y.kind, .string y.name, .slice ye y.eps.length yec, .slice yt y.tgts.length ytc, .string y.host, .slice yr y.rules.length yrc, .string y.route, .bool y.del] 52) := by rw [hwb, hbk]; exact heap_alloc_new wr _
          have hba2 : Below wr.heap.size wr wb := by rw [hwb]; exact alloc_below _ _
          have hTBb := Lib.hid (hTB.out.below hba2)
          have hTb := Lib.hid (hT.out.below hba2)
          have hSvb : Hid (SvM wb w.heap.size (.slice so ss.length sc) ss) := Lib.hid (hSv.out.all (Tch.of_below (S := fun _ => False) hba2) (fun _ _ q => q))
          have hLb := Lib.hid (ownsRow_tch hLw.out (Tch.of_below (S := fun _ => False) hba2) (fun _ _ q => q))
          have b1 : wb.cell? ⟨bk, 1, none⟩ = some (.string y.name) := box_at hbx (j := 1) rfl
          have q2 : wb.cell? ⟨tb, 2, none⟩ = some (.slice so ss.length sc) := box_at hTBb.out.t (j := 2) rfl
          have hnm := Lib.hid hxP.nm
          have htk : Hid (ss ++ [y.name] = ((L2.map Rw.r).take (j + 1)).map (·.name)) := Lib.hid (by rw [List.take_add_one, hLx, List.map_append, ← hss.out]; rfl)
          replace hx1 := Lib.hid hx1
          replace hq := Lib.hid hq
          replace hr := Lib.hid hr
          replace hba2 := Lib.hid hba2
          replace hssl := Lib.hid hssl
          replace hLx := Lib.hid hLx
          replace hxP := Lib.hid hxP
          replace hbx := Lib.hid hbx
          go_upto_region 17 with fail
          rw [← hwb, ← hbk]
          replace hwb := Lib.hid hwb
          replace hbk := Lib.hid hbk
          clear c0 c1 c2 c3 c4 c5 c6 c7
          go_wp2_with (first
            | (at_builtin; refine wp_append_us (us := [.string y.name]) (by rfl) _ _ 48 (by rfl) w.heap.size 9 i9 (.string ⟨#[]⟩) 1 16 Try.underlying48 h9.out h90.out h91.out h92.out rfl (by decide) _ ss.length (ss.map .string) (by rfl) hSvb.out.1 1 (by rfl) rfl (by simp [Value.oneCell']) (by have := hssl.out; have := hL2n.out; unfold maxLen; omega) (by have := hssl.out; have := hL2n.out; omega) hTBb.out.bel.size ?_; intro v8 w8 hr8 hg8 hl8; obtain ⟨o8, c8, rfl⟩ := ownsRow_shape hr8; obtain ⟨hB8, hBf, hTf, hSf, hLf⟩ := svcS hTBb.out hTb.out hSvb.out hnm.out hLb.out hr8 hg8; have q8 : w8.cell? ⟨tb, 2, none⟩ = some (.slice so ss.length sc) := box_at hB8.t (j := 2) rfl; have f8 : w8.frozen? ⟨tb, 2, none⟩ = false := frozen_of_row _ tb 2 _ _ hB8.t; replace hBf := Lib.hid hBf; replace hTf := Lib.hid hTf; replace hSf := Lib.hid hSf; replace hLf := Lib.hid hLf; clear hr8 hg8 hl8 hB8)
            | fail)
          go_roundg (L2.length - (j + 1) + 1)
          case rel => exact ⟨j + 1, ss ++ [y.name], o8, c8, rfl, hlt2, by first | rw [hwk.out] | go_num, htk, by rw [List.length_append]; exact hBf, hTf, by rw [List.length_append]; exact hSf, hLf⟩
          case measure => exact nn_downS hlt2
        · have hk0 : decide ((j : Int) < (L2.length : Int)) = false := decide_eq_false (by omega)
          have hk1 : ¬ (j : Int) < (L2.length : Int) := by omega
          have hsf : ss = svcsOf l := by unfold svcsOf; rw [hss.out, List.take_of_length_le (by rw [List.length_map]; omega), hL2r.out]
          have hhf : T.map (·.2) = hostsOf l := by unfold hostsOf; rw [hT2m.out, hTm2.out]
          have g0 : wr.cell? ⟨tb, 0, none⟩ = some (.int .i64 ver) := box_at hTB.out.t (j := 0) rfl
          have g1' : wr.cell? ⟨tb, 1, none⟩ = some (.slice ho T.length hc) := box_at hTB.out.t (j := 1) rfl
          have g2' : wr.cell? ⟨tb, 2, none⟩ = some (.slice so ss.length sc) := box_at hTB.out.t (j := 2) rfl
          have f0 : ∀ j, wr.frozen? ⟨zb, j, none⟩ = false := fun j => frozen_of_row _ zb j _ _ hTB.out.z
          have e0 : wr.cell? ⟨zb, 0, none⟩ = some (.int .i64 0) := box_at hTB.out.z (j := 0) rfl
          have e1 : wr.cell? ⟨zb, 1, none⟩ = some (.slice none 0 0) := box_at hTB.out.z (j := 1) rfl
          have e2 : wr.cell? ⟨zb, 2, none⟩ = some (.slice none 0 0) := box_at hTB.out.z (j := 2) rfl
          replace hsf := Lib.hid hsf
          replace hhf := Lib.hid hhf
          go_wp2
          obtain ⟨wf, hwf⟩ : ∃ wf, wf = ((wr.setCell ⟨zb, 0, none⟩ (.int .i64 ver)).setCell ⟨zb, 1, none⟩ (.slice ho T.length hc)).setCell ⟨zb, 2, none⟩ (.slice so ss.length sc) := ⟨_, rfl⟩
          have hx3 : wf.heap[zb]? = some (.cells #[.int .i64 ver, .slice ho T.length hc, .slice so ss.length sc] 62) := by rw [hwf]; exact box_set (box_set (box_set hTB.out.z))
          have ht3 : Tch (fun k => k = zb) wr wf := by rw [hwf]; exact tch_put3 wr zb _ _ _ _ _ _
          rw [← hwf]
          have z0 : wf.cell? ⟨zb, 0, none⟩ = some (.int .i64 ver) := box_at hx3 (j := 0) rfl
          have z1 : wf.cell? ⟨zb, 1, none⟩ = some (.slice ho T.length hc) := box_at hx3 (j := 1) rfl
          have z2 : wf.cell? ⟨zb, 2, none⟩ = some (.slice so ss.length sc) := box_at hx3 (j := 2) rfl
          refine bodyPost_ret (v := .tuple #[.agg #[.int .i64 ver, .slice ho T.length hc, .slice so ss.length sc], .int .i64 0]) (by simp [results, Try.results47, go_sem, z0, z1, z2]) rfl ?_
          unfold CompO verV hostsV svcsV
          rw [hcode.out, if_pos rfl, if_pos rfl, if_pos rfl, ← hsf.out]
          exact ⟨_, _, rfl, ⟨T, hhf.out, hT.out.box hTB.out.z (by decide) (by decide) (by decide) (by decide) ht3⟩, ⟨ownsRow_tch hSv.out.1 ht3 (fun k q q2 => row_block_ne hSv.out.1 hTB.out.z (by decide) k q q2), hSv.out.2⟩, Tch.below hTB.out.bel ht3 hTB.out.bel.size (fun q e => by rw [e]; exact hTB.out.gz), fun _ => hC.out⟩
end Go.Proofs.Ytjepgpocmnijiaa
end
