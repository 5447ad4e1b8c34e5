/- Tables in memory of one's own, compiled. -/
import Derived.Test.YtjepgpocmnijiaaZy39
import Derived.Test.YtjepgpocmnijiaaZy34
import Derived.Test.YtjepgpocmnijiaaZy38
import Derived.Test.YtjepgpocmnijiaaZy36
section
/- The walk of tables' Find. -/
namespace Go.Proofs.Ytjepgpocmnijiaa
open Go.RowKit Go.Mp Go.Ck Go.Stab
set_option linter.unusedVariables false
set_option maxRecDepth 100000
set_option maxHeartbeats 8000000
def tkH (T : List HV) (n : ByteArray) (j : Nat) : Bool := match T[j]? with
  | some x => Go.Pa.hostTakes x.host.data.toList n.data.toList
  | none => false
theorem tkH_at {T : List HV} {n : ByteArray} {j : Nat} {x : HV} (h : T[j]? = some x) : tkH T n j = Go.Pa.hostTakes x.host.data.toList n.data.toList := by unfold tkH; rw [h]
theorem is81 (x : HV) (s : ByteArray) (xb : Nat) (w : World) (hxb : xb < w.heap.size) (c0 : w.cell? ⟨xb, 0, none⟩ = some (.string s)) (hx : x.host.size ≤ maxLen) (hs : s.size ≤ maxLen) :
    Calls Try.prog 81 #[.agg #[.string x.host, .string x.route, .slice x.eo x.en x.ec, .slice x.po x.pn x.pc], .pointer (some ⟨xb, 0, none⟩)] w fun e w' => e = .returned (.bool (Go.Pa.hostTakes x.host.data.toList s.data.toList)) ∧ Below w.heap.size w w' := by
  have hb1 := alloc_below w (.cells #[.string x.host, .string x.route, .slice x.eo x.en x.ec, .slice x.po x.pn x.pc] 83)
  have hc2 := (hb1.cell (p := ⟨xb, 0, none⟩) hxb).trans c0
  have hcall := Lib.hid (host82 x.host s (w.alloc (.cells #[.string x.host, .string x.route, .slice x.eo x.en x.ec, .slice x.po x.pn x.pc] 83)) hx hs)
  generalize Go.Pa.hostTakes x.host.data.toList s.data.toList = t at *
  replace hb1 := Lib.hid hb1
  replace hxb := Lib.hid hxb
  replace hx := Lib.hid hx
  replace hs := Lib.hid hs
  clear c0
  go_enter Try.func81, Try.ntmps81
  go_wp2_with (first | (go_at_call 82; (with_reducible refine hcall.out.mono ?_); rintro e w2 ⟨rfl, hb2⟩; replace hb2 := Lib.hid hb2) | fail)
  go_ret
  exact ⟨rfl, seq_below hb1.out hb2.out⟩
theorem idx80 (T : List HV) (s : ByteArray) (xb : Nat) (v : Value) (w : World) (hl : Rd.SliceOf hvE w v T) (hT : ∀ x ∈ T, x.host.size ≤ maxLen) (hs : s.size ≤ maxLen) (hxb : xb < w.heap.size) (c0 : w.cell? ⟨xb, 0, none⟩ = some (.string s)) :
    Calls Try.prog 80 #[v, .func (.func 81) #[] #[.pointer (some ⟨xb, 0, none⟩)]] w fun e w' => e = .returned (.int .i64 (firstN T.length (tkH T s))) ∧ Below w.heap.size w w' := by
  obtain ⟨ao, cap, rfl⟩ := slice_shape hl
  have hlen := hl.1
  replace hl := Lib.hid hl
  replace hT := Lib.hid hT
  replace hs := Lib.hid hs
  replace hxb := Lib.hid hxb
  replace c0 := Lib.hid c0
  go_enter Try.func80, Try.ntmps80
  go_wp2
  go_loopg [8] (T.length + 1) (fun gg ic wr => ∃ i : Nat, gg = T.length - i + 1 ∧ i ≤ T.length ∧ ic = .int .i64 i ∧ Hid (∀ j, j < i → tkH T s j = false) ∧ Hid (Below w.heap.size w wr))
  case atStart => exact ⟨0, rfl, Nat.zero_le _, rfl, Lib.hid (fun j hj => absurd hj (Nat.not_lt_zero j)), Lib.hid (Below.refl _ _)⟩
  case round =>
    obtain ⟨i, rfl, hi, rfl, hno, hbw⟩ := hrel
    by_cases hlt : i < T.length
    · obtain ⟨y, hy⟩ : ∃ y, T[i]? = some y := ⟨_, List.getElem?_eq_getElem hlt⟩
      obtain ⟨b, off, rfl, c1, c2, c3, c4⟩ := hv_at hl.out hbw.out hy
      have hk0 : (i : Int) < (T.length : Int) := nn_lt hlt
      have hwk := Lib.hid (nn_succ2 hlt (by omega))
      have hix := tkH_at (n := s) hy
      have hC := is81 y s xb wr (Nat.lt_of_lt_of_le hxb.out hbw.out.size) ((hbw.out.cell (p := ⟨xb, 0, none⟩) hxb.out).trans c0.out) (hT.out y (List.mem_of_getElem? hy)) hs.out
      obtain ⟨yh, yr, yeo, yen, yec, ypo, ypn, ypc⟩ := y
      generalize Go.Pa.hostTakes _ s.data.toList = cv at *
      replace hC := Lib.hid hC
      replace hy := Lib.hid hy
      cases cv with
      | true =>
        have hf := firstN_at hno.out hlt hix
        replace hix := Lib.hid hix
        replace hf := Lib.hid hf
        replace hno := Lib.hid hno
        go_wp2_with (first | (go_at_call 81; (with_reducible refine hC.out.mono ?_); rintro e w2 ⟨rfl, hb2⟩; replace hb2 := Lib.hid hb2) | fail)
        go_ret
        exact ⟨ret_i hf.out.symm, seq_below hbw.out hb2.out⟩
      | false =>
        have hno2 := no_upto hno.out hix
        replace hix := Lib.hid hix
        replace hno := Lib.hid hno
        replace hno2 := Lib.hid hno2
        go_wp2_with (first | (go_at_call 81; (with_reducible refine hC.out.mono ?_); rintro e w2 ⟨rfl, hb2⟩; replace hb2 := Lib.hid hb2) | fail)
        go_roundg (T.length - (i + 1) + 1)
        case rel => exact ⟨i + 1, rfl, hlt, by first | rw [hwk.out] | go_num, hno2, Lib.hid (seq_below hbw.out hb2.out)⟩
        case measure => exact nn_downS hlt
    · have hk0 : decide ((i : Int) < (T.length : Int)) = false := decide_eq_false (by omega)
      have hf := firstN_none (n := T.length) (fun j hj => hno.out j (by omega))
      replace hf := Lib.hid hf
      replace hno := Lib.hid hno
      go_wp2
      go_ret
      exact ⟨ret_i hf.out.symm, hbw.out⟩
/-- The place of the first host that takes a name. -/
def tkS (hs : List Hst) (n : ByteArray) (j : Nat) : Bool := match hs[j]? with
  | some x => Go.Pa.hostTakes x.host.data.toList n.data.toList
  | none => false
theorem tkS_at {hs : List Hst} {n : ByteArray} {j : Nat} {x : Hst} (h : hs[j]? = some x) : tkS hs n j = Go.Pa.hostTakes x.host.data.toList n.data.toList := by unfold tkS; rw [h]
def fndH (hs : List Hst) (n : ByteArray) : Int := firstN hs.length (tkS hs n)
def findV (n : Int) : Value := .tuple #[.int .i64 (if 0 ≤ n then n else 0), .bool (decide (0 ≤ n))]
theorem find34 (ver : Int) (hs : List Hst) (u v : Value) (s : ByteArray) (w : World) (hl : HsR w u hs) (hh : ∀ h ∈ hs, h.host.size ≤ maxLen) (hsz : s.size ≤ maxLen) (hv : ∃ o n c, v = .slice o n c) :
    Calls Try.prog 34 #[.agg #[.int .i64 ver, u, v], .string s] w fun e w' => e = .returned (findV (fndH hs s)) ∧ Below w.heap.size w w' := by
  obtain ⟨T, hm, hT, hq⟩ := hl
  obtain ⟨so, sn, sc, rfl⟩ := hv
  obtain ⟨ao, cap, rfl⟩ := slice_shape hT
  have hlT : (T.map (·.1)).length = hs.length := by rw [List.length_map, ← hm, List.length_map]
  have hfe : firstN (T.map (·.1)).length (tkH (T.map (·.1)) s) = fndH hs s := by
    unfold fndH
    rw [hlT]
    refine firstN_congr (fun j hj => ?_)
    have hjT : j < T.length := by rw [← hm, List.length_map] at hj; exact hj
    have h1 : (T.map (·.1))[j]? = some (T[j]).1 := by rw [List.getElem?_map, List.getElem?_eq_getElem hjT]; rfl
    have h2 : hs[j]? = some (T[j]).2 := by rw [← hm, List.getElem?_map, List.getElem?_eq_getElem hjT]; rfl
    rw [tkH_at h1, tkS_at h2, (hq _ (List.getElem_mem hjT)).nm]
  have hsz2 : ∀ x ∈ T.map (·.1), x.host.size ≤ maxLen := fun x hx => by
    obtain ⟨p, hp, rfl⟩ := List.mem_map.1 hx
    rw [(hq p hp).nm]
    exact hh p.2 (by rw [← hm]; exact List.mem_map_of_mem hp)
  rw [hlT] at hT ⊢
  obtain ⟨wa, hwa⟩ : ∃ wa, wa = w.alloc (.cells #[.int .i64 ver, .slice ao hs.length cap, .slice so sn sc] 62) := ⟨_, rfl⟩
  obtain ⟨wb, hwb⟩ : ∃ wb, wb = wa.alloc (.cells #[.string s] 9) := ⟨_, rfl⟩
  obtain ⟨tb, htb⟩ : ∃ b, b = w.heap.size := ⟨_, rfl⟩
  obtain ⟨nb, hnb⟩ : ∃ b, b = w.heap.size + 1 := ⟨_, rfl⟩
  have b1 : Below w.heap.size w wa := by rw [hwa]; exact alloc_below _ _
  have b2 : Below wa.heap.size wa wb := by rw [hwb]; exact alloc_below _ _
  have hb : Below w.heap.size w wb := seq_below b1 b2
  have z1 : wa.heap.size = w.heap.size + 1 := by rw [hwa]; simp
  have x1 : wa.heap[tb]? = some (.cells #[.int .i64 ver, .slice ao hs.length cap, .slice so sn sc] 62) := by rw [hwa, htb]; exact heap_alloc_new _ _
  have x1' : wb.heap[tb]? = some (.cells #[.int .i64 ver, .slice ao hs.length cap, .slice so sn sc] 62) := (b2.block tb (by omega)).trans x1
  have x2 : wb.heap[nb]? = some (.cells #[.string s] 9) := by rw [hwb, hnb, ← z1]; exact heap_alloc_new _ _
  have c1 : wb.cell? ⟨tb, 1, none⟩ = some (.slice ao hs.length cap) := box_at x1' (j := 1) rfl
  have hx := idx80 (T.map (·.1)) s nb _ wb (hT.below hb) hsz2 hsz (Array.getElem?_eq_some_iff.1 x2).1 (box_at x2 (j := 0) rfl)
  rw [hlT] at hx
  rw [hlT] at hfe
  rw [hfe] at hx
  have hlt := firstN_lt hs.length (tkS hs s)
  generalize hN : fndH hs s = N at *
  have hN1 : -1 ≤ N := by rw [← hN]; exact hlt.1
  replace hx := Lib.hid hx
  replace hb := Lib.hid hb
  replace hwa := Lib.hid hwa
  replace hwb := Lib.hid hwb
  replace htb := Lib.hid htb
  replace hnb := Lib.hid hnb
  replace b1 := Lib.hid b1
  replace b2 := Lib.hid b2
  replace z1 := Lib.hid z1
  replace x1 := Lib.hid x1
  replace x1' := Lib.hid x1'
  replace x2 := Lib.hid x2
  replace hT := Lib.hid hT
  replace hq := Lib.hid hq
  replace hh := Lib.hid hh
  replace hsz := Lib.hid hsz
  replace hsz2 := Lib.hid hsz2
  replace hm := Lib.hid hm
  replace hlT := Lib.hid hlT
  replace hfe := Lib.hid hfe
  replace hN := Lib.hid hN
  replace hlt := Lib.hid hlt
  go_enter Try.func34, Try.ntmps34
  go_upto_region 1 with fail
  rw [← hwa.out, ← hwb.out, ← hnb.out, ← htb.out]
  by_cases h0 : 0 ≤ N
  · have h1 : decide (0 ≤ N) = true := decide_eq_true h0
    have hfv := Lib.hid (show findV N = .tuple #[.int .i64 N, .bool true] by unfold findV; rw [if_pos h0, h1])
    go_wp2_with (first | (go_at_call 80; (with_reducible refine hx.out.mono ?_); rintro e w2 ⟨rfl, hb2⟩; replace hb2 := Lib.hid hb2) | fail)
    go_ret2
    exact ⟨by
      rw [hfv.out]
      show Ending.returned (.tuple #[.int .i64 (max N 0), .bool true]) = _
      rw [Int.max_eq_left h0], seq_below hb.out hb2.out⟩
  · have h1 : decide (0 ≤ N) = false := decide_eq_false h0
    have h2 : N = -1 := by omega
    subst h2
    go_wp2_with (first | (go_at_call 80; (with_reducible refine hx.out.mono ?_); rintro e w2 ⟨rfl, hb2⟩; replace hb2 := Lib.hid hb2) | fail)
    go_ret2
    exact ⟨rfl, seq_below hb.out hb2.out⟩
end Go.Proofs.Ytjepgpocmnijiaa
end

section

namespace Go.Ck
open Go.RowKit Go.Mp Go.Stab
open Go.Proofs.Ytjepgpocmnijiaa
set_option linter.unusedVariables false
theorem permits_len {l : List Res} (n : ByteArray) (hn : l.length ≤ 64) (hR : ∀ r ∈ l, r.rules.length ≤ 4194304) : (permitsOf l n).length ≤ 268435456 := by
  rw [permits_eq]
  have h1 := permsL_len (n := n) (L := l.filter (kindP 4)) (fun r hr => hR r (List.mem_filter.1 hr).1)
  have h2 := List.length_filter_le (kindP 4) l
  have h3 : (l.filter (kindP 4)).length * 4194304 ≤ 64 * 4194304 := Nat.mul_le_mul_right _ (by omega)
  omega
theorem hosts_small {l : List Res} (hM : listM l ≤ 1048576) (hC : Cfg l) : (hostsOf l).length ≤ 64 ∧ (svcsOf l).length ≤ 64 ∧ ∀ h ∈ hostsOf l, Sml h := by
  have hn := hC.n
  refine ⟨?_, ?_, fun h hh => ?_⟩
  · unfold hostsOf
    rw [List.length_mergeSort, List.length_map]
    exact Nat.le_trans (List.length_filter_le _ _) hn
  · unfold svcsOf
    rw [List.length_map]
    exact Nat.le_trans (List.length_filter_le _ _) hn
  · unfold hostsOf at hh
    obtain ⟨r, hr, rfl⟩ := List.mem_map.1 (List.mem_mergeSort.1 hh)
    have hr' := (List.mem_filter.1 hr).1
    refine ⟨by show (r.rules.map _).length ≤ _; rw [List.length_map]; exact rules4 hM r hr', permits_len _ hn (rules4 hM), fun e he => ?_⟩
    obtain ⟨q, hq, rfl⟩ := List.mem_map.1 he
    exact Nat.le_trans (steps_lenw _) (shOf_len hC q.split)
theorem tabs_small {l : List Res} {ver : Int} (hM : listM l ≤ 1048576) (hC : codeV ver l = 0 → Cfg l) : (hostsV ver l).length ≤ 64 ∧ (svcsV ver l).length ≤ 64 ∧ ∀ h ∈ hostsV ver l, Sml h := by
  unfold hostsV svcsV
  by_cases h0 : codeV ver l = 0
  · rw [if_pos h0, if_pos h0]
    exact hosts_small hM (hC h0)
  · rw [if_neg h0, if_neg h0]
    exact ⟨Nat.zero_le _, Nat.zero_le _, fun h hh => by cases hh⟩
end Go.Ck
namespace Go.Proofs.Ytjepgpocmnijiaa
open Go.RowKit Go.Mp Go.Ck Go.Stab
set_option linter.unusedVariables false
set_option maxRecDepth 100000
set_option maxHeartbeats 8000000
/-- Tables in memory of one's own. -/
structure TabM (w : World) (B : Nat) (u v : Value) (H : List Hst) (S : List ByteArray) : Prop where
  h : HsM w B u H
  s : SvM w B v S
  nh : H.length ≤ 64
  ns : S.length ≤ 64
  sm : ∀ x ∈ H, Sml x
theorem TabM.shape {w : World} {B : Nat} {u v : Value} {H : List Hst} {S : List ByteArray} (q : TabM w B u v H S) : ∃ ho hc so sc, u = .slice ho H.length hc ∧ v = .slice so S.length sc := by
  obtain ⟨T, h1, h2⟩ := q.h
  obtain ⟨ho, hc, rfl⟩ := ownsRow_shape h2.row
  obtain ⟨so, sc, rfl⟩ := ownsRow_shape q.s.1
  refine ⟨ho, hc, so, sc, ?_, rfl⟩
  rw [← h1, List.length_map]
theorem TabM.tch {w w' : World} {B : Nat} {u v : Value} {H : List Hst} {S : List ByteArray} {P : Nat → Prop} (q : TabM w B u v H S) (t : Tch P w w') (hn : ∀ k, B ≤ k → ¬ P k) : TabM w' B u v H S := ⟨q.h.all t hn, q.s.all t hn, q.nh, q.ns, q.sm⟩
theorem TabM.below {w w' : World} {B : Nat} {u v : Value} {H : List Hst} {S : List ByteArray} (q : TabM w B u v H S) (hb : Below w.heap.size w w') : TabM w' B u v H S := q.tch (Tch.of_below (S := No) hb) (fun _ _ h => h)
/-- What a compile or a copy answers. -/
def TabO (w : World) (V : Int) (H : List Hst) (S : List ByteArray) (f : Value → Value) (e : Ending) (w' : World) : Prop := ∃ ho hc so sc, e = .returned (f (.agg #[.int .i64 V, .slice ho H.length hc, .slice so S.length sc])) ∧ TabM w' w.heap.size (.slice ho H.length hc) (.slice so S.length sc) H S ∧ Below w.heap.size w w'
theorem compT {w w' : World} {ver : Int} {l : List Res} {e : Ending} (hM : listM l ≤ 1048576) (h : CompO w ver l e w') : TabO w (verV ver l) (hostsV ver l) (svcsV ver l) (fun t => .tuple #[t, .int .i64 (codeV ver l)]) e w' := by
  obtain ⟨hv, sv, rfl, h1, h2, h3, h4⟩ := h
  obtain ⟨n1, n2, n3⟩ := tabs_small hM h4
  have q : TabM w' w.heap.size hv sv _ _ := ⟨h1, h2, n1, n2, n3⟩
  obtain ⟨ho, hc, so, sc, rfl, rfl⟩ := q.shape
  exact ⟨ho, hc, so, sc, rfl, q, h3⟩
theorem hosts_size {w : World} {B : Nat} {v : Value} {hs : List Hst} (h : HsM w B v hs) : ∀ x ∈ hs, x.host.size ≤ maxLen := fun x hx => by
  obtain ⟨T, h1, h2⟩ := h
  rw [← h1] at hx
  obtain ⟨p, hp, rfl⟩ := List.mem_map.1 hx
  exact (h2.el p hp).hs
end Go.Proofs.Ytjepgpocmnijiaa
end
