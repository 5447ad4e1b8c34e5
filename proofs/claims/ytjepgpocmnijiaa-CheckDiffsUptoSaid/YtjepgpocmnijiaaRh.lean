/- The walk of a split's depth, looked for with a memory of what was found. -/
import Derived.Test.YtjepgpocmnijiaaRg
import Derived.Test.YtjepgpocmnijiaaDp
namespace Go.Proofs.Ytjepgpocmnijiaa
open Go.RowKit Go.Mp Go.Ck
set_option linter.unusedVariables false
set_option maxRecDepth 100000
set_option maxHeartbeats 4000000
def kmap (K : Fnd) : ByteArray → Option Value := fun n => (K n).map (Value.int .i64)
theorem kmap_put (K : Fnd) (n : ByteArray) (v : Int) : upd (kmap K) n (.int .i64 v) = kmap (putK K n v) := by
  funext x
  unfold upd kmap putK
  by_cases h : x = n
  · rw [if_pos h, if_pos h]; rfl
  · rw [if_neg h, if_neg h]
/-- A split's resource as the map of splits has it. -/
def SplV (W0 : World) (l : List Res) (F : ByteArray → Option Value) : Prop := ∀ n, has l 2 n = true → ∃ (r : Res) (eo : Option Addr) (ec : Nat) (ta : Option Addr) (tc : Nat) (ra : Option Addr) (rc : Nat),
  F n = some (.agg #[.int .i64 r.kind, .string r.name, .slice eo r.eps.length ec, .slice ta r.tgts.length tc, .string r.host, .slice ra r.rules.length rc, .string r.route, .bool r.del]) ∧ RP W0 r (.slice eo r.eps.length ec) (.slice ta r.tgts.length tc) (.slice ra r.rules.length rc) ∧ r.tgts = tgtsOf l n
structure DS (W0 w : World) (db sb kb : Nat) (F : ByteArray → Option Value) (K : Fnd) : Prop where
  bel : Below W0.heap.size W0 w
  le : W0.heap.size ≤ kb
  c0 : w.cell? ⟨db, 0, none⟩ = some (.map (some sb))
  c1 : w.cell? ⟨db, 1, none⟩ = some (.map (some kb))
  sp : MapS nameKey w sb F
  kn : MapS nameKey w kb (kmap K)
  ne : sb ≠ kb
  nd : db ≠ kb
theorem DS.tch {W0 w w' : World} {db sb kb : Nat} {F : ByteArray → Option Value} {K : Fnd} (h : DS W0 w db sb kb F K) (t : Tch No w w') : DS W0 w' db sb kb F K :=
  ⟨Tch.below h.bel t h.bel.size (fun _ q => q.elim), h.le, t.cell_some h.c0 id, t.cell_some h.c1 id, h.sp.tch t id, h.kn.tch t id, h.ne, h.nd⟩
theorem DS.put {W0 w w' : World} {db sb kb : Nat} {F : ByteArray → Option Value} {K : Fnd} (h : DS W0 w db sb kb F K) {n : ByteArray} {v : Int} (hm : MapS nameKey w' kb (upd (kmap K) n (.int .i64 v))) (t : w.mapTurned w' kb) : DS W0 w' db sb kb F (putK K n v) := by
  have tt : Tch (fun k => k = kb) w w' := Tch.turned t rfl
  exact ⟨Tch.below h.bel tt h.bel.size (fun _ q => by rw [q]; exact h.le), h.le, tt.cell_some h.c0 h.nd, tt.cell_some h.c1 h.nd, h.sp.tch tt h.ne, by rw [← kmap_put]; exact hm, h.ne, h.nd⟩
def DepOut (W0 w : World) (db sb kb : Nat) (l : List Res) (F : ByteArray → Option Value) (K : Fnd) (n : ByteArray) (e : Ending) (w' : World) : Prop :=
  ∃ K', e = .returned (.int .i64 (depthG l n)) ∧ DS W0 w' db sb kb F K' ∧ GoodK l K' ∧ ExtK K K' ∧ Tch (fun k => k = kb) w w'
theorem spl_look {W0 w : World} {db sb kb : Nat} {F : ByteArray → Option Value} {K : Fnd} (h : DS W0 w db sb kb F K) {n : ByteArray} {v : Value} (hv : F n = some v) : (Instr.lookup 106 (.map (some sb)) (.string n) false).run Try.prog w = .ok v w := by
  have hz : (zeroValue 52).run Try.prog w = .ok (.agg #[.int .i64 0, .string ⟨#[]⟩, .slice none 0 0, .slice none 0 0, .string ⟨#[]⟩, .slice none 0 0, .string ⟨#[]⟩, .bool false]) w := by kernel_rfl
  have := h.sp.look (t := 106) (e := 52) Try.underlying106 hz false n
  rw [hv] at this
  exact this
theorem field3 (w : World) (k : Int) (n h o : ByteArray) (eo ta ra : Option Addr) (e1 e2 t1 t2 r1 r2 : Nat) (d : Bool) : (Instr.field 52 (.agg #[.int .i64 k, .string n, .slice eo e1 e2, .slice ta t1 t2, .string h, .slice ra r1 r2, .string o, .bool d]) 3).run Try.prog w = .ok (.slice ta t1 t2) w := by kernel_rfl
theorem acc_take (l : List Res) (ts : List Tgt) : accL l (ts.take 0) = 0 := rfl
theorem of64_known {W0 : World} {db sb kb : Nat} {l : List Res} {F : ByteArray → Option Value} {K : Fnd} {n : ByteArray} {w : World} {v : Int} (hD : DS W0 w db sb kb F K) (hn : has l 2 n = true) (hg : GoodK l K) (hu : UnderK l K n) (hK : K n = some v) :
    Calls Try.prog 64 #[.pointer (some ⟨db, 0, none⟩), .string n] w (DepOut W0 w db sb kb l F K n) := by
  have hlk := hD.kn.look (t := 107) (e := 3) Try.underlying107 (z := .int .i64 0) (by kernel_rfl) true n
  have c0 := hD.c0
  have c1 := hD.c1
  have hv := hg n v hK
  replace hlk : (Instr.lookup 107 (.map (some kb)) (.string n) true).run Try.prog w = .ok (.tuple #[.int .i64 v, .bool true]) w := by
    have : kmap K n = some (.int .i64 v) := by unfold kmap; rw [hK]; rfl
    rw [this] at hlk; exact hlk
  by_cases hneg : v < 0
  · have hv1 : v = -1 := by have := (depth_bd l n).1; rcases hv with h | h <;> omega
    have h9 : depthG l n = 9 := ring_nine (hu n (by rw [hK, hv1]))
    have hout : DepOut W0 w db sb kb l F K n (.returned (.int .i64 9)) w := ⟨K, by rw [h9], hD, hg, ExtK.refl _, Tch.refl _ _⟩
    replace hK := Lib.hid hK
    replace hv1 := Lib.hid hv1
    replace h9 := Lib.hid h9
    replace hD := Lib.hid hD
    replace hn := Lib.hid hn
    replace hg := Lib.hid hg
    replace hu := Lib.hid hu
    replace hv := Lib.hid hv
    replace hout := Lib.hid hout
    go_enter Try.func64, Try.ntmps64
    go_wp2
    go_ret
    exact hout.out
  · have hv1 : v = depthG l n := by rcases hv with h | h <;> omega
    have hneg2 : decide (v < 0) = false := decide_eq_false hneg
    have hout : DepOut W0 w db sb kb l F K n (.returned (.int .i64 v)) w := ⟨K, by rw [hv1], hD, hg, ExtK.refl _, Tch.refl _ _⟩
    replace hK := Lib.hid hK
    replace hv1 := Lib.hid hv1
    replace hD := Lib.hid hD
    replace hn := Lib.hid hn
    replace hg := Lib.hid hg
    replace hu := Lib.hid hu
    replace hv := Lib.hid hv
    replace hout := Lib.hid hout
    clear hneg
    go_enter Try.func64, Try.ntmps64
    go_wp2
    go_ret
    exact hout.out
theorem of64_any {W0 : World} {db sb kb : Nat} {l : List Res} {F : ByteArray → Option Value} (hF : SplV W0 l F) (hND : ∀ n, has l 2 n = true → ∀ t ∈ tgtsOf l n, noS t.service = true → has l 2 t.split = true) {U : List ByteArray} (hU : ∀ n, has l 2 n = true → n ∈ U) :
    ∀ (m : Nat) (K : Fnd) (n : ByteArray) (w : World), cnt U K ≤ m → DS W0 w db sb kb F K → has l 2 n = true → GoodK l K → UnderK l K n → Calls Try.prog 64 #[.pointer (some ⟨db, 0, none⟩), .string n] w (DepOut W0 w db sb kb l F K n) := by
  intro m
  induction m with
  | zero =>
    intro K n w hm hD hn hg hu
    cases hK : K n with
    | none => exact absurd (cnt_put (hU n hn) hK 0) (by omega)
    | some v => exact of64_known hD hn hg hu hK
  | succ m ih =>
    intro K n w hm hD hn hg hu
    have hlk := hD.kn.look (t := 107) (e := 3) Try.underlying107 (z := .int .i64 0) (by kernel_rfl) true n
    have c0 := hD.c0
    have c1 := hD.c1
    cases hK : K n with
    | some v => exact of64_known hD hn hg hu hK
    | none =>
      replace hlk : (Instr.lookup 107 (.map (some kb)) (.string n) true).run Try.prog w = .ok (.tuple #[.int .i64 0, .bool false]) w := by
        have : kmap K n = none := by unfold kmap; rw [hK]; rfl
        rw [this] at hlk; exact hlk
      obtain ⟨r, eo, ec, ta, tc, ra, rc, hFn, hRP, hrt⟩ := hF n hn
      have hkn := hD.kn
      have hcnt : cnt U (putK K n (-1)) ≤ m := by have := cnt_put (hU n hn) hK (-1); omega
      have hfd := fun w => field3 w r.kind r.name r.host r.route eo ta ra r.eps.length ec r.tgts.length tc r.rules.length rc r.del
      replace hK := Lib.hid hK
      replace hD := Lib.hid hD
      replace hn := Lib.hid hn
      replace hg := Lib.hid hg
      replace hu := Lib.hid hu
      replace hFn := Lib.hid hFn
      replace hRP := Lib.hid hRP
      replace hrt := Lib.hid hrt
      replace hkn := Lib.hid hkn
      replace hcnt := Lib.hid hcnt
      clear hm
      go_enter Try.func64, Try.ntmps64
      go_wp2_with (first
        | (at_mapUpdate; refine wp_store rfl _ _ _ 107 rfl nameKey 3 Try.underlying107 kb (kmap K) n (.int .i64 (-1)) rfl hkn.out rfl rfl ?_; intro w1 hm1 ht1; have hD1 := DS.put hD.out hm1 ht1; have tt1 := Lib.hid (Tch.turned (S := fun k => k = kb) ht1 rfl); have d0 := hD1.c0; have d1 := hD1.c1; have hl2 := spl_look hD1 hFn.out; replace hm1 := Lib.hid hm1; replace ht1 := Lib.hid ht1; replace hD1 := Lib.hid hD1)
        | fail)
      have hG1 : Hid (GoodK l (putK K n (-1))) := Lib.hid (good_put hg.out (.inl rfl))
      have htl := hRP.out.t.1
      clear d0 d1 hl2 c0 c1 hlk
      go_loopg [7, 36] (r.tgts.length + 1) (fun gg av ic wr => ∃ (i : Nat) (K2 : Fnd), gg = r.tgts.length - i + 1 ∧ i ≤ r.tgts.length ∧ ic = .int .i64 i ∧ av = .int .i64 (accL l (r.tgts.take i)) ∧ Hid (DS W0 wr db sb kb F K2) ∧ Hid (GoodK l K2) ∧ Hid (ExtK (putK K n (-1)) K2) ∧ Hid (Tch (fun k => k = kb) w wr))
      case atStart => exact ⟨0, _, rfl, Nat.zero_le _, rfl, rfl, hD1, hG1, Lib.hid (ExtK.refl _), tt1⟩
      case round =>
        obtain ⟨i, K2, rfl, hi, rfl, rfl, hD2, hg2, hE2, tr⟩ := hrel
        obtain ⟨ha1, ha2⟩ := accL_bd l (r.tgts.take i)
        have d0 := hD2.out.c0
        have d1 := hD2.out.c1
        by_cases hlt : i < r.tgts.length
        · obtain ⟨t, ht⟩ : ∃ t, r.tgts[i]? = some t := ⟨_, List.getElem?_eq_getElem hlt⟩
          obtain ⟨tb, toff, rfl, _, e0, e1, e2, _⟩ := tgt_at hRP.out.t hD2.out.bel ht
          have hk0 : (i : Int) < (r.tgts.length : Int) := nn_lt hlt
          have hwk := Lib.hid (nn_succ2 hlt htl)
          have hsn := accL_snoc l ht
          unfold accF at hsn
          generalize accL l (r.tgts.take i) = a1 at *
          have tA := Lib.hid (Tch.alloc No wr (.cells #[.string t.service, .string t.split, .float .f64 t.weight] 57))
          have hDA := Lib.hid (hD2.out.tch tA.out)
          have trA := Lib.hid (tr.out.trans tA.out (fun _ q => q.elim))
          cases hs : t.service.toList.isEmpty with
          | true =>
            rw [if_pos (show noS t.service = true from hs)] at hsn
            have hmem : t ∈ tgtsOf l n := by rw [← hrt.out]; exact List.mem_of_getElem? ht
            have hIH := Lib.hid (ih K2 t.split _ (Nat.le_trans (cnt_le hE2.out.1) hcnt.out) hDA.out (hND n hn.out t hmem hs) hg2.out ((under_put hu.out ⟨hn.out, t, hmem, hs, rfl⟩).ext hE2.out))
            generalize hdg : depthG l t.split = dg at *
            replace hsn := Lib.hid hsn
            replace hmem := Lib.hid hmem
            replace ht := Lib.hid ht
            replace hdg := Lib.hid hdg
            go_wp2_with (first
              | (go_at_call 64; (with_reducible refine hIH.out.mono ?_); rintro e w3 ⟨K3, rfl, hD3, hg3, hE3, t3⟩; rw [hdg.out]; have tr3 := Lib.hid (trA.out.trans t3 (fun k q => .inl q)); replace hD3 := Lib.hid hD3; replace hg3 := Lib.hid hg3; replace hE3 := Lib.hid (hE2.out.trans hE3); replace t3 := Lib.hid t3)
              | fail)
            go_roundg (r.tgts.length - (i + 1) + 1)
            case rel => exact ⟨i + 1, K3, rfl, hlt, by first | rw [hwk.out] | go_num, by rw [hsn.out], hD3, hg3, hE3, tr3⟩
            case measure => exact nn_downS hlt
          | false =>
            rw [if_neg (by unfold noS; rw [hs]; simp)] at hsn
            replace hsn := Lib.hid hsn
            replace ht := Lib.hid ht
            go_wp2
            go_roundg (r.tgts.length - (i + 1) + 1)
            case rel => exact ⟨i + 1, K2, rfl, hlt, by first | rw [hwk.out] | go_num, by rw [hsn.out], hDA, hg2, hE2, trA⟩
            case measure => exact nn_downS hlt
        · have hk0 : decide ((i : Int) < (r.tgts.length : Int)) = false := decide_eq_false (by omega)
          have hfix := depth_fix hn.out
          rw [← hrt.out, ← List.take_of_length_le (show r.tgts.length ≤ i by omega)] at hfix
          have hkn2 := Lib.hid hD2.out.kn
          have hEd : Hid (ExtK K (putK K2 n (depthG l n))) := Lib.hid (ext_done hK.out hE2.out)
          have hGd : Hid (GoodK l (putK K2 n (depthG l n))) := Lib.hid (good_put hg2.out (.inr rfl))
          generalize hdg : depthG l n = dg at *
          generalize accL l (r.tgts.take i) = a1 at *
          replace hfix := Lib.hid hfix
          replace hdg := Lib.hid hdg
          go_wp2_with (first
            | (at_mapUpdate; refine wp_store rfl _ _ _ 107 rfl nameKey 3 Try.underlying107 kb (kmap K2) n (.int .i64 (min (a1 + 1) 9)) rfl hkn2.out rfl rfl ?_; intro w4 hm4 ht4; rw [hfix.out] at hm4; have hD4 := DS.put hD2.out hm4 ht4; have t4 := Lib.hid (tr.out.trans (Tch.turned (S := fun k => k = kb) ht4 rfl) (fun k q => .inl q)); replace hm4 := Lib.hid hm4; replace ht4 := Lib.hid ht4; replace hD4 := Lib.hid hD4)
            | fail)
          go_ret
          exact ⟨putK K2 n dg, ret_i (by rw [hfix.out, hdg.out]), hD4.out, hGd.out, hEd.out, t4.out⟩
end Go.Proofs.Ytjepgpocmnijiaa
