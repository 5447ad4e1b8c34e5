/- The law TablesFirst: its walk. -/
import Derived.Test.YtjepgpocmnijiaaZy40
import Derived.Test.YtjepgpocmnijiaaZy39
import Derived.Test.YtjepgpocmnijiaaZy41
import Derived.Deep.QuietTactic
import Derived.BigQuiet
section
/- The law TablesFirst: the first host of sorted ones is the best. -/
namespace Go.Ck
open Go.RowKit Go.Mp Go.Stab Go.Pa
open Go.Proofs.Ytjepgpocmnijiaa
set_option linter.unusedVariables false
theorem hosts_sorted (l : List Res) : (hostsOf l).Pairwise fun a b => leH a b = true := List.pairwise_mergeSort tot_leH.trans tot_leH.total _
theorem hosts_le {l : List Res} {i j : Nat} {x y : Hst} (hi : (hostsOf l)[i]? = some x) (hj : (hostsOf l)[j]? = some y) (h : i < j) : orderH x.host.data.toList y.host.data.toList ≤ 0 := by
  obtain ⟨h1, rfl⟩ := List.getElem?_eq_some_iff.1 hi
  obtain ⟨h2, rfl⟩ := List.getElem?_eq_some_iff.1 hj
  have := List.pairwise_iff_getElem.1 (hosts_sorted l) i j h1 h2 h
  unfold leH at this
  exact of_decide_eq_true this
theorem names_at {hs : List Hst} {k : Nat} {x : Hst} (h : hs[k]? = some x) : (bl (hs.map (·.host))).getD k [] = x.host.data.toList := by
  unfold bl
  rw [List.getD, List.getElem?_map, List.getElem?_map, h]; rfl
/-- What Find answers of compiled tables is what Best answers of their names. -/
theorem first_best (l : List Res) (n : ByteArray) : ∃ (i : Nat) (f : Bool), findV (fndH (hostsOf l) n) = .tuple #[.int .i64 i, .bool f] ∧ BestIs (bl ((hostsOf l).map (·.host))) n.data.toList (hostsOf l).length i f := by
  unfold fndH
  rcases firstN_cases (hostsOf l).length (tkS (hostsOf l) n) with ⟨e, h⟩ | ⟨i, hi, e, ht, hno⟩
  · rw [e]
    refine ⟨0, false, rfl, .inl ⟨rfl, rfl, fun k hk => ?_⟩⟩
    have hx : (hostsOf l)[k]? = some (hostsOf l)[k] := List.getElem?_eq_getElem hk
    rw [names_at hx, ← tkS_at hx]
    exact h k hk
  · rw [e]
    refine ⟨i, true, ?_, ?_⟩
    · unfold findV
      rw [if_pos (by omega), decide_eq_true (by omega)]
    · have hx : (hostsOf l)[i]? = some (hostsOf l)[i] := List.getElem?_eq_getElem hi
      refine best_first hi (by rw [names_at hx, ← tkS_at hx]; exact ht) (fun k hk => ?_)
      rintro ⟨h1, h2⟩
      have hy : (hostsOf l)[k]? = some (hostsOf l)[k] := List.getElem?_eq_getElem hk
      rw [names_at hx, names_at hy] at h2
      rw [names_at hy, ← tkS_at hy] at h1
      rcases Nat.lt_trichotomy k i with q | q | q
      · have := hno k q
        rw [h1] at this; cases this
      · subst q
        rw [order_self] at h2
        omega
      · have h3 := hosts_le hx hy q
        have h4 := order_anti (hostsOf l)[k].host.data.toList (hostsOf l)[i].host.data.toList
        omega
end Go.Ck
namespace Go.Proofs.Ytjepgpocmnijiaa
open Go.RowKit Go.Mp Go.Ck Go.Stab
set_option linter.unusedVariables false
theorem own_rds {w : World} {B : Nat} {v : Value} {ss : List ByteArray} (h : w.ownsRow B 9 1 v ss.length (ss.map .string)) : RdS w v ss := by
  obtain ⟨o, c, rfl⟩ := ownsRow_shape h
  refine ⟨o, c, rfl, ?_⟩
  cases ss with
  | nil => exact .inl rfl
  | cons s ss =>
    right
    obtain ⟨g, e, _, _, _, _⟩ := ownsRow_cell h (j := 0) (u := .string s) rfl
    subst e
    refine ⟨g, 0, rfl, (h.lt g rfl).2, fun i hi => ?_⟩
    have hx : ((s :: ss).map Value.string)[i]? = some (.string ((s :: ss).getD i ByteArray.empty)) := by
      rw [List.getElem?_map, List.getD, List.getElem?_eq_getElem hi]; rfl
    obtain ⟨g', e, _, _, hc, _⟩ := ownsRow_cell h hx
    simp only [Option.some.injEq, Addr.mk.injEq, and_true] at e
    subst e
    rw [Nat.zero_add]
    exact hc
end Go.Proofs.Ytjepgpocmnijiaa
end

section

namespace Go.Proofs.Ytjepgpocmnijiaa
open Go.RowKit Go.Mp Go.Ck Go.Stab
set_option linter.unusedVariables false
set_option maxRecDepth 100000
set_option maxHeartbeats 8000000
theorem cell_lt {w : World} {b o : Nat} {u : Value} (h : w.cell? ⟨b, o, none⟩ = some u) : b < w.heap.size := World.block_lt_of_cell? w ⟨b, o, none⟩ h
theorem first14 (C : List Res) (s : ByteArray) (v1 : Value) (w : World) (h1 : ResS w v1 C) (hC : listM C ≤ 1048576) (hs : s.size ≤ maxLen) : Calls Try.prog 14 #[v1, .string s] w fun e w' => e = .returned (.bool true) ∧ Below w.heap.size w w' := by
  obtain ⟨ao, cap, rfl⟩ := slice_shape h1
  obtain ⟨i9, h9, h90, h91, h92⟩ := info_parts info9
  have k38 : Hid (∀ w', Below w.heap.size w w' → Calls Try.prog 38 #[.slice ao C.length cap] w' fun e w2 => ∃ g c, e = .returned (.slice (some ⟨g, 0, none⟩) C.length c) ∧ ResS w2 (.slice (some ⟨g, 0, none⟩) C.length c) C ∧ Below w'.heap.size w' w2) := Lib.hid (fun w' hb => (twin38w (h1.below hb) hC).mono (fun e w2 q => by
    obtain ⟨g, c, rfl, _, h, _, _, hb⟩ := q
    exact ⟨g, c, rfl, h, hb⟩))
  by_cases hc0 : codeV 1 C = 0
  · obtain ⟨H, hH⟩ : ∃ H, H = hostsOf C := ⟨_, rfl⟩
    obtain ⟨S, hS⟩ : ∃ S, S = svcsV 1 C := ⟨_, rfl⟩
    have k47 : Hid (∀ v' w', ResS w' v' C → Calls Try.prog 47 #[.int .i64 1, v'] w' (TabO w' (verV 1 C) H S (fun t => .tuple #[t, .int .i64 0]))) := Lib.hid (fun v' w' h => (comp47 C 1 v' w' h hC).mono (fun e w2 q => by
      have := compT hC q
      rw [hc0] at this
      have e1 : hostsV 1 C = hostsOf C := by unfold hostsV; rw [if_pos hc0]
      rw [e1] at this
      rw [hH, hS]
      exact this))
    obtain ⟨V, hV⟩ : ∃ V, V = verV 1 C := ⟨_, rfl⟩
    rw [← hV] at k47
    obtain ⟨bi, bf, hfe, hbe⟩ := first_best C s
    rw [← hH] at hfe hbe
    have hle : Hid (∀ (i j : Nat) (x y : Hst), H[i]? = some x → H[j]? = some y → i < j → Go.Pa.orderH x.host.data.toList y.host.data.toList ≤ 0) := Lib.hid (fun i j x y hi hj h => hosts_le (l := C) (by rw [← hH]; exact hi) (by rw [← hH]; exact hj) h)
    replace h1 := Lib.hid h1
    replace hC := Lib.hid hC
    replace hs := Lib.hid hs
    replace hc0 := Lib.hid hc0
    replace hH := Lib.hid hH
    replace hS := Lib.hid hS
    replace hV := Lib.hid hV
    replace hfe := Lib.hid hfe
    replace hbe := Lib.hid hbe
    replace h9 := Lib.hid h9
    replace h90 := Lib.hid h90
    replace h91 := Lib.hid h91
    replace h92 := Lib.hid h92
    go_enter Try.func14, Try.ntmps14
    go_upto_region 3 with (first
      | (go_at_call 45; (with_reducible refine (awake45 w).mono ?_); rintro e w0 ⟨rfl, hb0⟩; replace hb0 := Lib.hid hb0)
      | fail)
    go_upto_region 4 with (first
      | (go_at_call 38; (with_reducible refine (k38.out _ hb0.out).mono ?_); rintro e w1 ⟨g, gc, rfl, hG, hb1⟩; replace hG := Lib.hid hG; replace hb1 := Lib.hid hb1)
      | (go_at_call 47; (with_reducible refine (k47.out _ _ hG.out).mono ?_); rintro e w2 ⟨ho, hc, so, sc, rfl, hT, hb2⟩; replace hT := Lib.hid hT; replace hb2 := Lib.hid hb2)
      | fail)
    obtain ⟨wA, hwA⟩ : ∃ wA, wA = w2.alloc (.cells #[.int .i64 V, .slice ho H.length hc, .slice so S.length sc] 62) := ⟨_, rfl⟩
    obtain ⟨tb, htb⟩ : ∃ b, b = w2.heap.size := ⟨_, rfl⟩
    have bA : Below w2.heap.size w2 wA := by rw [hwA]; exact alloc_below _ _
    have hXA : Hid (Bx 0 wA tb #[.int .i64 V, .slice ho H.length hc, .slice so S.length sc] 62) := Lib.hid ⟨Nat.zero_le _, by rw [hwA, htb]; exact heap_alloc_new _ _⟩
    have hTA := Lib.hid (hT.out.below bA)
    have hbA := Lib.hid (seq_below hb0.out (seq_below hb1.out (seq_below hb2.out bA)))
    rw [← hwA, ← htb]
    replace hwA := Lib.hid hwA
    replace htb := Lib.hid htb
    replace bA := Lib.hid bA
    have hTr := HsM.reads hTA.out.h hTA.out.nh hTA.out.sm
    obtain ⟨T, hTm, hTs, hTq⟩ := hTr
    have hTl : T.length = H.length := by rw [← hTm, List.length_map]
    have hnm : Hid (∀ (k : Nat) (x : HV), (T.map (·.1))[k]? = some x → ∃ h, H[k]? = some h ∧ x.host = h.host ∧ x.host.size ≤ maxLen) := Lib.hid (fun k x hx => by
      rw [List.getElem?_map] at hx
      cases hp : T[k]? with
      | none => rw [hp] at hx; cases hx
      | some p =>
        rw [hp] at hx
        simp only [Option.map_some, Option.some.injEq] at hx
        subst hx
        have hk : H[k]? = some p.2 := by rw [← hTm, List.getElem?_map, hp]; rfl
        have hn := (hTq p (List.mem_of_getElem? hp)).nm
        exact ⟨p.2, hk, hn, by rw [hn]; exact hosts_size hTA.out.h p.2 (List.mem_of_getElem? hk)⟩)
    have hH64 : H.length ≤ 64 := hTA.out.nh
    have hTlm : (T.map (·.1)).length = H.length := by rw [List.length_map, hTl]
    have hrow0 : Hid (wA.ownsRow wA.heap.size 9 1 (.slice none 0 0) 0 (((H.map (·.host)).take 0).map .string)) := Lib.hid (World.ownsRow_nil _ _ _ _)
    have hl0 : Hid (Below wA.heap.size wA wA) := Lib.hid (Below.refl _ _)
    obtain ⟨n, hn⟩ : ∃ n, n = H.length := ⟨_, rfl⟩
    rw [← hn] at hXA hTA
    try rw [← hn]
    have hn64 : n ≤ 64 := by omega
    rw [← hn] at hTlm
    obtain ⟨L, hL⟩ : ∃ L, L = T.map (·.1) := ⟨_, rfl⟩
    rw [← hL] at hnm hTlm hTs
    rw [← hn] at hTs
    replace hTm := Lib.hid hTm
    replace hTs := Lib.hid hTs
    replace hTq := Lib.hid hTq
    replace hTl := Lib.hid hTl
    replace hH64 := Lib.hid hH64
    replace hTlm := Lib.hid hTlm
    replace hn := Lib.hid hn
    replace hn64 := Lib.hid hn64
    replace hL := Lib.hid hL
    go_wp2
    go_loopg [8, 7] (n + 1) (fun gg ic lv wx => ∃ (i : Nat) (lo : Option Addr) (lc : Nat), gg = n - i + 1 ∧ i ≤ n ∧ ic = .int .i64 i ∧ lv = .slice lo i lc ∧ Hid (wx.ownsRow wA.heap.size 9 1 (.slice lo i lc) i (((H.map (·.host)).take i).map .string)) ∧ Hid (Below wA.heap.size wA wx))
    case atStart => exact ⟨0, none, 0, rfl, Nat.zero_le _, rfl, rfl, hrow0, hl0⟩
    case round =>
      clear hrow0 hl0
      obtain ⟨i, lo, lc, rfl, hi, rfl, rfl, hrow, hbw⟩ := hrel
      have hX := Lib.hid (hXA.out.below hbw.out)
      have x1 := hX.out.cell (j := 1) (u := .slice ho n hc) rfl
      by_cases hlt : i < n
      · have hk0 : (i : Int) < (n : Int) := nn_lt hlt
        have hwk := Lib.hid (nn_succ2 hlt (by have := hn64.out; omega))
        obtain ⟨y, hy⟩ : ∃ y, L[i]? = some y := ⟨_, List.getElem?_eq_getElem (by have := hTlm.out; omega)⟩
        obtain ⟨b, off, hho, c1, _, _, _⟩ := hv_at hTs.out hbw.out hy
        subst hho
        obtain ⟨h, hHi, hhe, hhs⟩ := hnm.out i y hy
        obtain ⟨yh, yr, yeo, yen, yec, ypo, ypn, ypc⟩ := y
        have hbb : b < wr.heap.size := cell_lt c1
        have hrN : Hid (((H.map (·.host)).take (i + 1)).map Value.string = ((H.map (·.host)).take i).map Value.string ++ [.string yh]) := Lib.hid (by
          have : (H.map (·.host))[i]? = some h.host := by rw [List.getElem?_map, hHi]; rfl
          rw [List.take_add_one, this, List.map_append]
          have e : yh = h.host := hhe
          rw [e]; rfl)
        have hcur0 : Hid (Below wr.heap.size wr wr.drew) := Lib.hid (drew_below wr 1)
        have hx1 : Hid (∀ w', Below wr.heap.size wr w' → w'.cell? ⟨tb, 1, none⟩ = some (.slice (some ⟨b, off, none⟩) n hc) ∧ w'.cell? ⟨b, off + i * 4, none⟩ = some (.string yh)) := Lib.hid (fun w' q => ⟨(hX.out.below q).cell (j := 1) (u := .slice (some ⟨b, off, none⟩) n hc) rfl, (q.cell (p := ⟨b, off + i * 4, none⟩) hbb).trans c1⟩)
        have hhs' : yh.size ≤ maxLen := hhs
        replace hHi := Lib.hid hHi
        replace hhe := Lib.hid hhe
        replace hhs := Lib.hid hhs
        replace hhs' := Lib.hid hhs'
        replace hbb := Lib.hid hbb
        go_upto_region 10 with fail
        go_cut [48] (fun bv wx => bv = .bool false ∧ Hid (Below wr.heap.size wr wx))
        case first =>
          rcases Nat.eq_zero_or_pos i with hi0 | hi0
          · have hp0 : decide ((0 : Int) < (i : Int)) = false := decide_eq_false (by omega)
            have hp1 : ¬ (0 : Int) < (i : Int) := by omega
            have hp2 : decide (0 < i) = false := decide_eq_false (by omega)
            have hp3 : ¬ 0 < i := by omega
            have hcur := hcur0
            replace hi0 := Lib.hid hi0
            go_quiet (fail)
            go_wp2
            go_meet
            exact ⟨rfl, Lib.hid (drew_below wr _)⟩
          · obtain ⟨k, hki⟩ : ∃ k, i = k + 1 := ⟨i - 1, by omega⟩
            obtain ⟨z, hz⟩ : ∃ z, L[k]? = some z := ⟨_, List.getElem?_eq_getElem (by have := hTlm.out; omega)⟩
            obtain ⟨b2, off2, hho2, d1, _, _, _⟩ := hv_at hTs.out hbw.out hz
            simp only [Option.some.injEq, Addr.mk.injEq, and_true] at hho2
            obtain ⟨rfl, rfl⟩ := hho2
            obtain ⟨h', hHk, hhe', hhs2⟩ := hnm.out k z hz
            obtain ⟨zh, zr, zeo, zen, zec, zpo, zpn, zpc⟩ := z
            have hle' : Go.Pa.orderH zh.data.toList yh.data.toList ≤ 0 := by
              have := hle.out k i h' h hHk hHi.out (by omega)
              have e1 : zh = h'.host := hhe'
              have e2 : yh = h.host := hhe.out
              rw [e1, e2]; exact this
            have h53 := Lib.hid (fun w' => order33 zh yh w' hhs2 hhs'.out)
            generalize Go.Pa.orderH zh.data.toList yh.data.toList = N at *
            have hN : decide ((0 : Int) < N) = false := decide_eq_false (by omega)
            have hN2 : ¬ (0 : Int) < N := by omega
            have hp0 : (0 : Int) < (i : Int) := by omega
            have hkn : (k : Int) < (n : Int) := by omega
            have hk00 : (0 : Int) ≤ (k : Int) := by omega
            have hwm : IntKind.i64.wrap ((i : Int) - 1) = (k : Int) := by
              have := hn64.out
              rw [IntKind.wrap_i64]; omega
            have hcells : Hid (∀ w', Below wr.heap.size wr w' → w'.cell? ⟨tb, 1, none⟩ = some (.slice (some ⟨b, off, none⟩) n hc) ∧ w'.cell? ⟨b, off + i * 4, none⟩ = some (.string yh) ∧ w'.cell? ⟨b, off + k * 4, none⟩ = some (.string zh)) := Lib.hid (fun w' q => ⟨(hx1.out w' q).1, (hx1.out w' q).2, (q.cell (p := ⟨b, off + k * 4, none⟩) hbb.out).trans d1⟩)
            have hcur := hcur0
            replace hki := Lib.hid hki
            replace hz := Lib.hid hz
            replace hHk := Lib.hid hHk
            replace hhe' := Lib.hid hhe'
            replace hhs2 := Lib.hid hhs2
            replace hle' := Lib.hid hle'
            clear d1
            go_region_held3 (fun w' => w'.cell? ⟨tb, 1, none⟩ = some (.slice (some ⟨b, off, none⟩) n hc) ∧ w'.cell? ⟨b, off + i * 4, none⟩ = some (.string yh) ∧ w'.cell? ⟨b, off + k * 4, none⟩ = some (.string zh))
              (first | exact hcells.out _ hcur.out | fail)
              (first
                | (go_at_call 53; (with_reducible refine (h53.out _).mono ?_); rintro e w2 ⟨rfl, hb2⟩; replace hcur := Lib.hid (seq_below hcur.out hb2); clear hb2)
                | fail)
            all_goals (first | (go_wp2; go_meet; exact ⟨rfl, hcur⟩) | (go_meet; exact ⟨rfl, hcur⟩))
        case rest =>
          obtain ⟨rfl, hbz⟩ := hcut
          obtain ⟨e1, e2⟩ := hx1.out wc hbz.out
          have hrow2 := Lib.hid (ownsRow_tch hrow.out (Tch.of_below (S := No) hbz.out) (fun _ _ q => q))
          have hbw2 := Lib.hid (seq_below hbw.out hbz.out)
          clear c1 x1
          go_wp2_with (first
            | (at_builtin; refine wp_append_us (us := [.string yh]) (by rfl) _ _ 48 (by rfl) wA.heap.size 9 i9 (.string ⟨#[]⟩) 1 16 Try.underlying48 h9.out h90.out h91.out h92.out rfl (by decide) _ i (((H.map (·.host)).take i).map .string) (by rfl) hrow2.out 1 (by rfl) rfl (by simp [Value.oneCell']) (by have := hn64.out; unfold maxLen; omega) (by have := hn64.out; omega) hbw2.out.size ?_; intro v8 w8 hr8 hg8 hl8; obtain ⟨o8, c8, rfl⟩ := ownsRow_shape hr8; rw [← hrN.out] at hr8; have hb8 := Lib.hid (hbw2.out.grown hg8 hbw2.out.size (fun k hk => (hrow2.out.lt k hk).1)); replace hr8 := Lib.hid hr8; clear hg8 hl8)
            | fail)
          go_roundg (n - (i + 1) + 1)
          case rel => exact ⟨i + 1, o8, c8, rfl, hlt, by first | rw [hwk.out] | go_num, rfl, hr8, hb8⟩
          case measure => exact nn_downS hlt
      · have hk0 : decide ((i : Int) < (n : Int)) = false := decide_eq_false (by omega)
        have hk1 : ¬ (i : Int) < (n : Int) := by omega
        have hin : i = n := by omega
        subst hin
        have hT2 := Lib.hid (hTA.out.below hbw.out)
        have hnH : i = H.length := hn.out
        have x0 := hX.out.cell (j := 0) (u := .int .i64 V) rfl
        have x2 := hX.out.cell (j := 2) (u := .slice so S.length sc) rfl
        have k34 : Hid (Calls Try.prog 34 #[.agg #[.int .i64 V, .slice ho i hc, .slice so S.length sc], .string s] wr fun e w' => e = .returned (.tuple #[.int .i64 bi, .bool bf]) ∧ Below wr.heap.size wr w') := Lib.hid (by
          have := find34 V H (.slice ho i hc) (.slice so S.length sc) s wr (HsM.reads hT2.out.h hT2.out.nh hT2.out.sm) (fun h hh => hosts_size hT2.out.h h hh) hs.out ⟨_, _, _, rfl⟩
          rw [hfe.out] at this
          exact this)
        have hall : (H.map (·.host)).take i = H.map (·.host) := List.take_of_length_le (by rw [List.length_map]; omega)
        have hrs : Hid (RdS wr (.slice lo i lc) (H.map (·.host))) := Lib.hid (by
          have h := hrow.out
          rw [hall] at h
          have e : i = (H.map (·.host)).length := by rw [List.length_map]; exact hnH
          rw [e] at h ⊢
          exact own_rds h)
        have hss : Hid (∀ q ∈ H.map (·.host), q.size ≤ maxLen) := Lib.hid (fun q hq => by
          obtain ⟨h, hh, rfl⟩ := List.mem_map.1 hq
          exact hosts_size hT2.out.h h hh)
        replace hnH := Lib.hid hnH
        replace hall := Lib.hid hall
        go_upto_region 14 with (first
          | (go_at_call 34; (with_reducible refine k34.out.mono ?_); rintro e w4 ⟨rfl, hb4⟩; replace hb4 := Lib.hid hb4)
          | fail)
        have k54 : Hid (Calls Try.prog 54 #[.slice lo i lc, .string s] w4 fun e w' => e = .returned (.tuple #[.int .i64 bi, .bool bf]) ∧ Below w4.heap.size w4 w') := Lib.hid ((best54 (H.map (·.host)) hss.out s hs.out _ w4 (hrs.out.below hb4.out) (by rw [List.length_map]; have := hn64.out; have := hnH.out; omega)).mono (fun e w' q => by
          obtain ⟨i2, f2, rfl, h2, hb⟩ := q
          rw [List.length_map] at h2
          obtain ⟨rfl, rfl⟩ := Go.Pa.best_unique h2 hbe.out
          exact ⟨rfl, hb⟩))
        cases bf with
        | true =>
          go_wp2_with (first
            | (go_at_call 54; (with_reducible refine k54.out.mono ?_); rintro e w5 ⟨rfl, hb5⟩; replace hb5 := Lib.hid hb5)
            | fail)
          go_ret
          exact ⟨rfl, seq_below hbA.out (seq_below hbw.out (seq_below hb4.out hb5.out))⟩
        | false =>
          go_wp2_with (first
            | (go_at_call 54; (with_reducible refine k54.out.mono ?_); rintro e w5 ⟨rfl, hb5⟩; replace hb5 := Lib.hid hb5)
            | fail)
          go_ret
          exact ⟨rfl, seq_below hbA.out (seq_below hbw.out (seq_below hb4.out hb5.out))⟩
  · obtain ⟨cc, hcc⟩ : ∃ c, c = codeV 1 C := ⟨_, rfl⟩
    rw [← hcc] at hc0
    have k47 : Hid (∀ v' w', ResS w' v' C → Calls Try.prog 47 #[.int .i64 1, v'] w' (TabO w' (verV 1 C) (hostsV 1 C) (svcsV 1 C) (fun t => .tuple #[t, .int .i64 cc]))) := Lib.hid (fun v' w' h => (comp47 C 1 v' w' h hC).mono (fun e w2 q => by rw [hcc]; exact compT hC q))
    generalize verV 1 C = V at *
    generalize hostsV 1 C = H at *
    generalize svcsV 1 C = S at *
    have hd : decide (cc = 0) = false := decide_eq_false hc0
    replace h1 := Lib.hid h1
    replace hC := Lib.hid hC
    replace hs := Lib.hid hs
    replace hcc := Lib.hid hcc
    replace h9 := Lib.hid h9
    replace h90 := Lib.hid h90
    replace h91 := Lib.hid h91
    replace h92 := Lib.hid h92
    go_enter Try.func14, Try.ntmps14
    go_upto_region 3 with (first
      | (go_at_call 45; (with_reducible refine (awake45 w).mono ?_); rintro e w0 ⟨rfl, hb0⟩; replace hb0 := Lib.hid hb0)
      | fail)
    go_wp2_with (first
      | (go_at_call 38; (with_reducible refine (k38.out _ hb0.out).mono ?_); rintro e w1 ⟨g, gc, rfl, hG, hb1⟩; replace hG := Lib.hid hG; replace hb1 := Lib.hid hb1)
      | (go_at_call 47; (with_reducible refine (k47.out _ _ hG.out).mono ?_); rintro e w2 ⟨ho, hc, so, sc, rfl, hT, hb2⟩; replace hT := Lib.hid hT; replace hb2 := Lib.hid hb2)
      | fail)
    go_ret
    exact ⟨rfl, seq_below hb0.out (seq_below hb1.out (seq_below hb2.out (alloc_below _ _)))⟩
end Go.Proofs.Ytjepgpocmnijiaa
end
