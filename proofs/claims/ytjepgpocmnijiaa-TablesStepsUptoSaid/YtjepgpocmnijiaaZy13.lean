/- The walk of shadows. -/
import Derived.Test.YtjepgpocmnijiaaZy12
section

namespace Go.Ck
theorem by_take {rs : List Rul} {x : Rul} {k : Nat} (hk : k ≤ rs.length) : byI (rs.take k) x (rs.take k).length = byI rs x k := by
  unfold byI
  rw [List.length_take, Nat.min_eq_left hk]
  refine firstN_congr (fun j hj => ?_)
  unfold covIx
  rw [List.getElem?_take_of_lt hj]
theorem ofS_skip {l : List Res} {i : Nat} {r : Res} (h : l[i]? = some r) (hk : ¬ 3 ≤ r.kind) : shadowL l (i + 1) = shadowL l i := by
  simp only [shadowL]
  unfold ofS
  rw [h]
  simp only
  rw [if_neg hk, List.append_nil]
theorem ofS_take {l : List Res} {i : Nat} {r : Res} (h : l[i]? = some r) (hk : 3 ≤ r.kind) : shadowL l (i + 1) = shadowL l i ++ rowS i r.rules r.rules.length := by
  simp only [shadowL]
  unfold ofS
  rw [h]
  simp only
  rw [if_pos hk]
theorem oneS_no {i : Nat} {rs : List Rul} {k : Nat} {x : Rul} (h : rs[k]? = some x) (hb : byI rs x k < 0) : rowS i rs (k + 1) = rowS i rs k := by
  simp only [rowS]
  unfold oneS
  rw [h]
  simp only
  rw [if_pos hb, List.append_nil]
theorem oneS_yes {i : Nat} {rs : List Rul} {k : Nat} {x : Rul} (h : rs[k]? = some x) (hb : ¬ byI rs x k < 0) : rowS i rs (k + 1) = rowS i rs k ++ [((i : Int), (k : Int), byI rs x k)] := by
  simp only [rowS]
  unfold oneS
  rw [h]
  simp only
  rw [if_neg hb]
end Go.Ck
namespace Go.Proofs.Ytjepgpocmnijiaa
open Go.RowKit Go.Mp Go.Ck
set_option linter.unusedVariables false
set_option maxRecDepth 100000
set_option maxHeartbeats 4000000
theorem res_at2 {w : World} {ao : Option Addr} {n cap : Nat} {xs : List Res} (h : ResS w (.slice ao n cap) xs) {i : Nat} {x : Res} (hx : xs[i]? = some x) :
    ∃ b off eo ec ta tc ra rc, ao = some ⟨b, off, none⟩ ∧ b < w.heap.size ∧ RC w b (off + i * 8) x (.slice eo x.eps.length ec) (.slice ta x.tgts.length tc) (.slice ra x.rules.length rc) ∧ RP w x (.slice eo x.eps.length ec) (.slice ta x.tgts.length tc) (.slice ra x.rules.length rc) := res_at h (Below.refl _ _) hx
theorem box_at {w : World} {b : Nat} {cs : Array Value} {T : TypeId} (h : w.heap[b]? = some (.cells cs T)) {j : Nat} {u : Value} (hu : cs[j]? = some u) : w.cell? ⟨b, j, none⟩ = some u := by
  have hl := (Array.getElem?_eq_some_iff.1 hu)
  simp [World.cell?, h, hu]
theorem warn_snoc {w : World} {B e : Nat} {v : Value} {L : List Warn} {x : Warn} (h : w.ownsRow B e 3 v (L.length + 1) (wcs L ++ [.int .i64 x.1, .int .i64 x.2.1, .int .i64 x.2.2])) : w.ownsRow B e 3 v (L ++ [x]).length (wcs (L ++ [x])) := by
  rw [wcs_append, List.length_append]
  exact h
theorem info40 : (Try.prog.info? 40).map (fun i => (i.zero, i.size, i.bytes)) = some (some (.agg #[.int .i64 0, .int .i64 0, .int .i64 0]), 3, 24) := by kernel_rfl
def WarnOut (w : World) (e40 : TypeId) (L : List Warn) (e : Ending) (w' : World) : Prop := ∃ oo oc, e = .returned (.slice oo L.length oc) ∧ w'.ownsRow w.heap.size e40 3 (.slice oo L.length oc) L.length (wcs L) ∧ Below w.heap.size w w'
theorem shadows65 (l : List Res) (v : Value) (w : World) (hl : ResS w v l) (hM : listM l ≤ 1048576) (hk4 : ∀ r ∈ l, r.kind ≤ 4) : Calls Try.prog 65 #[v] w (WarnOut w 40 (shadowL l l.length)) := by
  obtain ⟨ao, cap, rfl⟩ := slice_shape hl
  have hlen := hl.1
  obtain ⟨i0, hi40, hz0, hz1, hz2⟩ := info_parts info40
  have hr0 := Lib.hid (World.ownsRow_nil w w.heap.size 40 3)
  replace hl := Lib.hid hl
  replace hM := Lib.hid hM
  replace hk4 := Lib.hid hk4
  replace hi40 := Lib.hid hi40
  replace hz0 := Lib.hid hz0
  replace hz1 := Lib.hid hz1
  replace hz2 := Lib.hid hz2
  go_enter Try.func65, Try.ntmps65
  go_wp2
  go_loopg [2, 10] (l.length + 1) (fun gg ov ic wr => ∃ i : Nat, gg = l.length - i + 1 ∧ i ≤ l.length ∧ ic = .int .i64 i ∧ Hid (wr.ownsRow w.heap.size 40 3 ov (shadowL l i).length (wcs (shadowL l i))) ∧ Hid (Below w.heap.size w wr))
  case atStart => exact ⟨0, rfl, Nat.zero_le _, rfl, hr0, Lib.hid (Below.refl _ _)⟩
  case round =>
    obtain ⟨i, rfl, hi, rfl, hrow, hbw⟩ := hrel
    obtain ⟨oo, oc, rfl⟩ := ownsRow_shape hrow.out
    by_cases hlt : i < l.length
    · obtain ⟨r, hr⟩ : ∃ r, l[i]? = some r := ⟨_, List.getElem?_eq_getElem hlt⟩
      obtain ⟨b, off, eo, ec, ta, tc, ra, rc, rfl, hbl, c, hp⟩ := res_at2 hl.out hr
      obtain ⟨c0, c1, c2, c3, c4, c5, c6, c7⟩ := c.below hbl hbw.out
      clear c
      have hk0 : (i : Int) < (l.length : Int) := nn_lt hlt
      have hwk := Lib.hid (nn_succ2 hlt hlen)
      have hkd4 := hk4.out r (List.mem_of_getElem? hr)
      have hbox := box_cells8 wr (.int .i64 r.kind) (.string r.name) (.slice eo r.eps.length ec) (.slice ta r.tgts.length tc) (.string r.host) (.slice ra r.rules.length rc) (.string r.route) (.bool r.del) 52
      have hba := alloc_below wr (.cells #[.int .i64 r.kind, .string r.name, .slice eo r.eps.length ec, .slice ta r.tgts.length tc, .string r.host, .slice ra r.rules.length rc, .string r.route, .bool r.del] 52)
      have hskip : ¬ 3 ≤ r.kind → shadowL l (i + 1) = shadowL l i := fun h => ofS_skip hr h
      have htake : 3 ≤ r.kind → shadowL l (i + 1) = shadowL l i ++ rowS i r.rules r.rules.length := fun h => ofS_take hr h
      have hsz : ∀ k, k ≤ r.rules.length → (shadowL l i ++ rowS i r.rules k).length ≤ 1048576 := fun k hk => Nat.le_trans (shadow_row hr hk) hM.out
      obtain ⟨kd, hkd⟩ : ∃ kd, kd = r.kind := ⟨_, rfl⟩
      rw [← hkd] at c0 hbox hba hskip htake hkd4
      by_cases k3 : 3 ≤ kd
      · have htk := htake k3
        clear hskip htake
        by_cases k33 : kd = 3
        · subst k33
          obtain ⟨wb, hwb⟩ : ∃ wb, wb = wr.alloc (.cells #[.int .i64 3, .string r.name, .slice eo r.eps.length ec, .slice ta r.tgts.length tc, .string r.host, .slice ra r.rules.length rc, .string r.route, .bool r.del] 52) := ⟨_, rfl⟩
          obtain ⟨bk, hbk⟩ : ∃ bk, bk = wr.heap.size := ⟨_, rfl⟩
          rw [← hwb] at hbox hba
          have hbx0 : Hid (wb.heap[bk]? = some (.cells #[.int .i64 3, .string r.name, .slice eo r.eps.length ec, .slice ta r.tgts.length tc, .string r.host, .slice ra r.rules.length rc, .string r.route, .bool r.del] 52)) := Lib.hid (by rw [hwb, hbk]; exact heap_alloc_new wr _)
          clear hbox
          have b5 : wb.cell? ⟨bk, 5, none⟩ = some (.slice ra r.rules.length rc) := box_at hbx0.out rfl
          have hrl := hp.ru.1
          have hcp := (slice_cap hp.ru).2
          have hrow0 := Lib.hid (ownsRow_tch hrow.out (Tch.of_below (S := No) hba) (fun _ _ q => q))
          have hbwb := Lib.hid (seq_below hbw.out hba)
          replace hkd := Lib.hid hkd
          replace htk := Lib.hid htk
          replace hsz := Lib.hid hsz
          replace hr := Lib.hid hr
          replace hba := Lib.hid hba
          replace hp := Lib.hid hp
          replace hrow := Lib.hid hrow
          replace hbw := Lib.hid hbw
          replace k3 := Lib.hid k3
          replace hkd4 := Lib.hid hkd4
          go_upto_region 5 with fail
          rw [← hwb, ← hbk]
          replace hwb := Lib.hid hwb
          replace hbk := Lib.hid hbk
          clear c0 c1 c2 c3 c4 c5 c6 c7
          go_wp2
          go_loopg [2, 26] (r.rules.length + 1) (fun gg ov ic wx => ∃ (k : Nat) (Lk : List Warn), gg = r.rules.length - k + 1 ∧ k ≤ r.rules.length ∧ ic = .int .i64 k ∧ Hid (Lk = shadowL l i ++ rowS i r.rules k) ∧ Hid (wx.ownsRow w.heap.size 40 3 ov Lk.length (wcs Lk)) ∧ Hid (Below w.heap.size w wx) ∧ Hid (wx.heap[bk]? = some (.cells #[.int .i64 3, .string r.name, .slice eo r.eps.length ec, .slice ta r.tgts.length tc, .string r.host, .slice ra r.rules.length rc, .string r.route, .bool r.del] 52)))
          case atStart => exact ⟨0, shadowL l i, rfl, Nat.zero_le _, rfl, Lib.hid (by simp only [rowS, List.append_nil]), hrow0, hbwb, hbx0⟩
          case round =>
            obtain ⟨k, Lk, rfl, hk, rfl, hLk, hrowk, hbk2, hbx⟩ := hrel
            obtain ⟨ook, ock, rfl⟩ := ownsRow_shape hrowk.out
            have d5 : wr.cell? ⟨bk, 5, none⟩ = some (.slice ra r.rules.length rc) := box_at hbx.out rfl
            have hbkl := (Array.getElem?_eq_some_iff.1 hbx.out).1
            by_cases hlk : k < r.rules.length
            · obtain ⟨x, hx⟩ : ∃ x, r.rules[k]? = some x := ⟨_, List.getElem?_eq_getElem hlk⟩
              obtain ⟨rb, roff, era, _, e0, e1, e2, e3, s0, _⟩ := rul_at hp.out.ru hbk2.out hx
              have j0 : (k : Int) < (r.rules.length : Int) := nn_lt hlk
              have j1 : (k : Int) ≤ (rc : Int) := by omega
              have hwk2 := Lib.hid (nn_succ2 hlk hrl)
              have hxb := box_cells4 wr (.string x.path) (.string x.method) (.string x.split) (.bool x.allow) 101
              have hba2 := alloc_below wr (.cells #[.string x.path, .string x.method, .string x.split, .bool x.allow] 101)
              have hC := idx115 (r.rules.take k) x wr.heap.size (.slice ra k rc) (wr.alloc (.cells #[.string x.path, .string x.method, .string x.split, .bool x.allow] 101)) ((slice_take hp.out.ru hk).below (seq_below hbk2.out hba2)) (by simp) s0 (hxb 0 _ rfl) (hxb 1 _ rfl)
              rw [by_take hk] at hC
              have hno := oneS_no (i := i) hx
              have hyes := oneS_yes (i := i) hx
              have hs1 := hsz.out (k + 1) hlk
              obtain ⟨bi, hbi⟩ : ∃ bi, bi = byI r.rules x k := ⟨_, rfl⟩
              rw [← hbi] at hC hno hyes
              have hrowb := Lib.hid (ownsRow_tch hrowk.out (Tch.of_below (S := No) hba2) (fun _ _ q => q))
              have hbb2 := Lib.hid (seq_below hbk2.out hba2)
              have hbxb := Lib.hid ((hba2.block bk hbkl).trans hbx.out)
              have hbkl2 := Lib.hid (Nat.lt_of_lt_of_le hbkl hba2.size)
              have hmf := mkf
              subst era
              by_cases hneg : bi < 0
              · have hneg2 : decide (0 ≤ bi) = false := decide_eq_false (by omega)
                have he := hno hneg
                clear hno hyes
                replace hC := Lib.hid hC
                replace hxb := Lib.hid hxb
                replace hba2 := Lib.hid hba2
                replace hx := Lib.hid hx
                replace hbi := Lib.hid hbi
                replace he := Lib.hid he
                replace hs1 := Lib.hid hs1
                replace hrowk := Lib.hid hrowk
                go_wp2_with (first | (go_at_call 115; (with_reducible refine hC.out.mono ?_); rintro e w2 ⟨rfl, hb2⟩; have hrow2 := Lib.hid (ownsRow_tch hrowb.out (Tch.of_below (S := No) hb2) (fun _ _ q => q)); have hbx2 := Lib.hid ((hb2.block bk hbkl2.out).trans hbxb.out); replace hb2 := Lib.hid (seq_below hbb2.out hb2)) | fail)
                go_roundg (r.rules.length - (k + 1) + 1)
                case rel => exact ⟨k + 1, Lk, rfl, hlk, by first | rw [hwk2.out] | go_num, Lib.hid (by rw [he.out]; exact hLk.out), hrow2, hb2, hbx2⟩
                case measure => exact nn_downS hlk
              · have hpos : 0 ≤ bi := by omega
                have he := hyes hneg
                clear hno hyes
                have hlim : Lk.length + 1 ≤ maxLen ∧ (Lk.length + 1) * 24 ≤ 140737488355328 := by
                  have h1 := hsz.out k hk
                  rw [← hLk.out] at h1
                  unfold maxLen; omega
                replace hC := Lib.hid hC
                replace hxb := Lib.hid hxb
                replace hba2 := Lib.hid hba2
                replace hx := Lib.hid hx
                replace hbi := Lib.hid hbi
                replace he := Lib.hid he
                replace hs1 := Lib.hid hs1
                replace hlim := Lib.hid hlim
                replace hrowk := Lib.hid hrowk
                go_wp2_with (first
                  | (go_at_call 115; (with_reducible refine hC.out.mono ?_); rintro e w2 ⟨rfl, hb2⟩; have hrow2 := Lib.hid (ownsRow_tch hrowb.out (Tch.of_below (S := No) hb2) (fun _ _ q => q)); have hbx2 := Lib.hid ((hb2.block bk hbkl2.out).trans hbxb.out); replace hb2 := Lib.hid (seq_below hbb2.out hb2); have hB2 := Lib.hid hb2.out.size)
                  | (at_builtin; refine wp_append_us (us := [.int .i64 i, .int .i64 k, .int .i64 bi]) (by rfl) _ _ 24 (by rfl) w.heap.size 40 i0 _ 3 24 Try.underlying24 hi40.out hz0.out hz1.out hz2.out rfl (by decide) _ Lk.length (wcs Lk) (by rfl) hrow2.out 1 (by rfl) rfl (by intro u hu; simp only [List.mem_cons, List.not_mem_nil, or_false] at hu; rcases hu with rfl | rfl | rfl <;> rfl) hlim.out.1 hlim.out.2 hB2.out ?_; intro v3 w3 hr3 hg3 hl3; obtain ⟨oo3, oc3, rfl⟩ := ownsRow_shape hr3; have hb3 := Lib.hid (hb2.out.grown hg3 hb2.out.size (fun q hq => (ownsRow_ge hrow2.out hq).1)); have hbx3 := Lib.hid ((hg3.block bk (Array.getElem?_eq_some_iff.1 hbx2.out).1 (fun q => row_not hrow2.out hbx2.out (by decide) q.symm)).trans hbx2.out); replace hr3 := Lib.hid hr3; replace hg3 := Lib.hid hg3; replace hl3 := Lib.hid hl3)
                  | fail)
                have hL4 : Hid (Lk ++ [((i : Int), (k : Int), bi)] = shadowL l i ++ rowS i r.rules (k + 1)) := Lib.hid (by rw [he.out, ← List.append_assoc, ← hLk.out])
                have hr4 := Lib.hid (warn_snoc (x := ((i : Int), (k : Int), bi)) hr3.out)
                go_wp2
                go_roundg (r.rules.length - (k + 1) + 1)
                case rel => exact ⟨k + 1, _, rfl, hlk, by first | rw [hwk2.out] | go_num, hL4, hr4, hb3, hbx3⟩
                case measure => exact nn_downS hlk
            · have j0 : decide ((k : Int) < (r.rules.length : Int)) = false := decide_eq_false (by omega)
              have hkl : k = r.rules.length := by omega
              replace hkl := Lib.hid hkl
              replace hrowk := Lib.hid hrowk
              go_wp2
              go_roundg (l.length - (i + 1) + 1)
              case rel => exact ⟨i + 1, rfl, hlt, by first | rw [hwk.out] | go_num, by rw [htk.out, ← hkl.out, ← hLk.out]; exact hrowk, hbk2⟩
              case measure => exact nn_downS hlt
        · have k44 : kd = 4 := by omega
          subst k44
          clear k33
          obtain ⟨wb, hwb⟩ : ∃ wb, wb = wr.alloc (.cells #[.int .i64 4, .string r.name, .slice eo r.eps.length ec, .slice ta r.tgts.length tc, .string r.host, .slice ra r.rules.length rc, .string r.route, .bool r.del] 52) := ⟨_, rfl⟩
          obtain ⟨bk, hbk⟩ : ∃ bk, bk = wr.heap.size := ⟨_, rfl⟩
          rw [← hwb] at hbox hba
          have hbx0 : Hid (wb.heap[bk]? = some (.cells #[.int .i64 4, .string r.name, .slice eo r.eps.length ec, .slice ta r.tgts.length tc, .string r.host, .slice ra r.rules.length rc, .string r.route, .bool r.del] 52)) := Lib.hid (by rw [hwb, hbk]; exact heap_alloc_new wr _)
          clear hbox
          have b5 : wb.cell? ⟨bk, 5, none⟩ = some (.slice ra r.rules.length rc) := box_at hbx0.out rfl
          have hrl := hp.ru.1
          have hcp := (slice_cap hp.ru).2
          have hrow0 := Lib.hid (ownsRow_tch hrow.out (Tch.of_below (S := No) hba) (fun _ _ q => q))
          have hbwb := Lib.hid (seq_below hbw.out hba)
          replace hkd := Lib.hid hkd
          replace htk := Lib.hid htk
          replace hsz := Lib.hid hsz
          replace hr := Lib.hid hr
          replace hba := Lib.hid hba
          replace hp := Lib.hid hp
          replace hrow := Lib.hid hrow
          replace hbw := Lib.hid hbw
          replace k3 := Lib.hid k3
          replace hkd4 := Lib.hid hkd4
          go_upto_region 5 with fail
          rw [← hwb, ← hbk]
          replace hwb := Lib.hid hwb
          replace hbk := Lib.hid hbk
          clear c0 c1 c2 c3 c4 c5 c6 c7
          go_wp2
          go_loopg [2, 26] (r.rules.length + 1) (fun gg ov ic wx => ∃ (k : Nat) (Lk : List Warn), gg = r.rules.length - k + 1 ∧ k ≤ r.rules.length ∧ ic = .int .i64 k ∧ Hid (Lk = shadowL l i ++ rowS i r.rules k) ∧ Hid (wx.ownsRow w.heap.size 40 3 ov Lk.length (wcs Lk)) ∧ Hid (Below w.heap.size w wx) ∧ Hid (wx.heap[bk]? = some (.cells #[.int .i64 4, .string r.name, .slice eo r.eps.length ec, .slice ta r.tgts.length tc, .string r.host, .slice ra r.rules.length rc, .string r.route, .bool r.del] 52)))
          case atStart => exact ⟨0, shadowL l i, rfl, Nat.zero_le _, rfl, Lib.hid (by simp only [rowS, List.append_nil]), hrow0, hbwb, hbx0⟩
          case round =>
            obtain ⟨k, Lk, rfl, hk, rfl, hLk, hrowk, hbk2, hbx⟩ := hrel
            obtain ⟨ook, ock, rfl⟩ := ownsRow_shape hrowk.out
            have d5 : wr.cell? ⟨bk, 5, none⟩ = some (.slice ra r.rules.length rc) := box_at hbx.out rfl
            have hbkl := (Array.getElem?_eq_some_iff.1 hbx.out).1
            by_cases hlk : k < r.rules.length
            · obtain ⟨x, hx⟩ : ∃ x, r.rules[k]? = some x := ⟨_, List.getElem?_eq_getElem hlk⟩
              obtain ⟨rb, roff, era, _, e0, e1, e2, e3, s0, _⟩ := rul_at hp.out.ru hbk2.out hx
              have j0 : (k : Int) < (r.rules.length : Int) := nn_lt hlk
              have j1 : (k : Int) ≤ (rc : Int) := by omega
              have hwk2 := Lib.hid (nn_succ2 hlk hrl)
              have hxb := box_cells4 wr (.string x.path) (.string x.method) (.string x.split) (.bool x.allow) 101
              have hba2 := alloc_below wr (.cells #[.string x.path, .string x.method, .string x.split, .bool x.allow] 101)
              have hC := idx115 (r.rules.take k) x wr.heap.size (.slice ra k rc) (wr.alloc (.cells #[.string x.path, .string x.method, .string x.split, .bool x.allow] 101)) ((slice_take hp.out.ru hk).below (seq_below hbk2.out hba2)) (by simp) s0 (hxb 0 _ rfl) (hxb 1 _ rfl)
              rw [by_take hk] at hC
              have hno := oneS_no (i := i) hx
              have hyes := oneS_yes (i := i) hx
              have hs1 := hsz.out (k + 1) hlk
              obtain ⟨bi, hbi⟩ : ∃ bi, bi = byI r.rules x k := ⟨_, rfl⟩
              rw [← hbi] at hC hno hyes
              have hrowb := Lib.hid (ownsRow_tch hrowk.out (Tch.of_below (S := No) hba2) (fun _ _ q => q))
              have hbb2 := Lib.hid (seq_below hbk2.out hba2)
              have hbxb := Lib.hid ((hba2.block bk hbkl).trans hbx.out)
              have hbkl2 := Lib.hid (Nat.lt_of_lt_of_le hbkl hba2.size)
              have hmf := mkf
              subst era
              by_cases hneg : bi < 0
              · have hneg2 : decide (0 ≤ bi) = false := decide_eq_false (by omega)
                have he := hno hneg
                clear hno hyes
                replace hC := Lib.hid hC
                replace hxb := Lib.hid hxb
                replace hba2 := Lib.hid hba2
                replace hx := Lib.hid hx
                replace hbi := Lib.hid hbi
                replace he := Lib.hid he
                replace hs1 := Lib.hid hs1
                replace hrowk := Lib.hid hrowk
                go_wp2_with (first | (go_at_call 115; (with_reducible refine hC.out.mono ?_); rintro e w2 ⟨rfl, hb2⟩; have hrow2 := Lib.hid (ownsRow_tch hrowb.out (Tch.of_below (S := No) hb2) (fun _ _ q => q)); have hbx2 := Lib.hid ((hb2.block bk hbkl2.out).trans hbxb.out); replace hb2 := Lib.hid (seq_below hbb2.out hb2)) | fail)
                go_roundg (r.rules.length - (k + 1) + 1)
                case rel => exact ⟨k + 1, Lk, rfl, hlk, by first | rw [hwk2.out] | go_num, Lib.hid (by rw [he.out]; exact hLk.out), hrow2, hb2, hbx2⟩
                case measure => exact nn_downS hlk
              · have hpos : 0 ≤ bi := by omega
                have he := hyes hneg
                clear hno hyes
                have hlim : Lk.length + 1 ≤ maxLen ∧ (Lk.length + 1) * 24 ≤ 140737488355328 := by
                  have h1 := hsz.out k hk
                  rw [← hLk.out] at h1
                  unfold maxLen; omega
                replace hC := Lib.hid hC
                replace hxb := Lib.hid hxb
                replace hba2 := Lib.hid hba2
                replace hx := Lib.hid hx
                replace hbi := Lib.hid hbi
                replace he := Lib.hid he
                replace hs1 := Lib.hid hs1
                replace hlim := Lib.hid hlim
                replace hrowk := Lib.hid hrowk
                go_wp2_with (first
                  | (go_at_call 115; (with_reducible refine hC.out.mono ?_); rintro e w2 ⟨rfl, hb2⟩; have hrow2 := Lib.hid (ownsRow_tch hrowb.out (Tch.of_below (S := No) hb2) (fun _ _ q => q)); have hbx2 := Lib.hid ((hb2.block bk hbkl2.out).trans hbxb.out); replace hb2 := Lib.hid (seq_below hbb2.out hb2); have hB2 := Lib.hid hb2.out.size)
                  | (at_builtin; refine wp_append_us (us := [.int .i64 i, .int .i64 k, .int .i64 bi]) (by rfl) _ _ 24 (by rfl) w.heap.size 40 i0 _ 3 24 Try.underlying24 hi40.out hz0.out hz1.out hz2.out rfl (by decide) _ Lk.length (wcs Lk) (by rfl) hrow2.out 1 (by rfl) rfl (by intro u hu; simp only [List.mem_cons, List.not_mem_nil, or_false] at hu; rcases hu with rfl | rfl | rfl <;> rfl) hlim.out.1 hlim.out.2 hB2.out ?_; intro v3 w3 hr3 hg3 hl3; obtain ⟨oo3, oc3, rfl⟩ := ownsRow_shape hr3; have hb3 := Lib.hid (hb2.out.grown hg3 hb2.out.size (fun q hq => (ownsRow_ge hrow2.out hq).1)); have hbx3 := Lib.hid ((hg3.block bk (Array.getElem?_eq_some_iff.1 hbx2.out).1 (fun q => row_not hrow2.out hbx2.out (by decide) q.symm)).trans hbx2.out); replace hr3 := Lib.hid hr3; replace hg3 := Lib.hid hg3; replace hl3 := Lib.hid hl3)
                  | fail)
                have hL4 : Hid (Lk ++ [((i : Int), (k : Int), bi)] = shadowL l i ++ rowS i r.rules (k + 1)) := Lib.hid (by rw [he.out, ← List.append_assoc, ← hLk.out])
                have hr4 := Lib.hid (warn_snoc (x := ((i : Int), (k : Int), bi)) hr3.out)
                go_wp2
                go_roundg (r.rules.length - (k + 1) + 1)
                case rel => exact ⟨k + 1, _, rfl, hlk, by first | rw [hwk2.out] | go_num, hL4, hr4, hb3, hbx3⟩
                case measure => exact nn_downS hlk
            · have j0 : decide ((k : Int) < (r.rules.length : Int)) = false := decide_eq_false (by omega)
              have hkl : k = r.rules.length := by omega
              replace hkl := Lib.hid hkl
              replace hrowk := Lib.hid hrowk
              go_wp2
              go_roundg (l.length - (i + 1) + 1)
              case rel => exact ⟨i + 1, rfl, hlt, by first | rw [hwk.out] | go_num, by rw [htk.out, ← hkl.out, ← hLk.out]; exact hrowk, hbk2⟩
              case measure => exact nn_downS hlt
      · have he := hskip k3
        have g3 : (kd != 3) = true := bne_iff_ne.2 (by omega)
        have g4 : (kd != 4) = true := bne_iff_ne.2 (by omega)
        have hrow1 := Lib.hid (ownsRow_tch hrow.out (Tch.of_below (S := No) hba) (fun _ _ q => q))
        have hbw1 := Lib.hid (seq_below hbw.out hba)
        clear hskip htake
        replace he := Lib.hid he
        replace hbox := Lib.hid hbox
        replace hba := Lib.hid hba
        replace hsz := Lib.hid hsz
        replace hr := Lib.hid hr
        replace hkd := Lib.hid hkd
        replace hkd4 := Lib.hid hkd4
        replace k3 := Lib.hid k3
        go_wp2
        go_roundg (l.length - (i + 1) + 1)
        case rel => exact ⟨i + 1, rfl, hlt, by first | rw [hwk.out] | go_num, by rw [he.out]; exact hrow1, hbw1⟩
        case measure => exact nn_downS hlt
    · have hk0 : decide ((i : Int) < (l.length : Int)) = false := decide_eq_false (by omega)
      have hil : i = l.length := by omega
      replace hil := Lib.hid hil
      go_wp2
      go_ret
      rw [← hil.out]
      exact ⟨_, _, rfl, hrow.out, hbw.out⟩
end Go.Proofs.Ytjepgpocmnijiaa
end
