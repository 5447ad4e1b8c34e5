/- The walk of the program's Check. -/
import Derived.Test.YtjepgpocmnijiaaZy34
section

namespace Go.Ck
open Go.RowKit Go.Mp Go.Proofs.Ytjepgpocmnijiaa
/-- What the map of all that is there holds. -/
def thereF (l : List Res) : Key → Option Value := fun k => if has l k.1 k.2 = true then some (.bool true) else none
theorem thereF_nil (l : List Res) : thereF (l.take 0) = fun _ => none := by
  funext k
  unfold thereF
  rw [if_neg]
  intro h
  obtain ⟨r, hr, _⟩ := has_iff.1 h
  cases hr
theorem take_snoc {α : Type} {l : List α} {i : Nat} {r : α} (hr : l[i]? = some r) : l.take (i + 1) = l.take i ++ [r] := by
  obtain ⟨h1, h2⟩ := List.getElem?_eq_some_iff.1 hr
  rw [List.take_succ_eq_append_getElem h1, h2]
theorem thereF_snoc {l : List Res} {i : Nat} {r : Res} (hr : l[i]? = some r) : upd (thereF (l.take i)) (r.kind, r.name) (.bool true) = thereF (l.take (i + 1)) := by
  funext k
  unfold upd thereF
  rw [take_snoc hr]
  by_cases h : k = (r.kind, r.name)
  · rw [if_pos h, if_pos]
    exact has_iff.2 ⟨r, by simp, by rw [h], by rw [h]⟩
  · rw [if_neg h]
    have : has (l.take i ++ [r]) k.1 k.2 = has (l.take i) k.1 k.2 := by
      rw [Bool.eq_iff_iff, has_iff, has_iff]
      constructor
      · rintro ⟨x, hx, e1, e2⟩
        rcases List.mem_append.1 hx with hx | hx
        · exact ⟨x, hx, e1, e2⟩
        · cases List.mem_singleton.1 hx
          exact absurd (Prod.ext e1.symm e2.symm) h
      · rintro ⟨x, hx, e1, e2⟩
        exact ⟨x, List.mem_append_left _ hx, e1, e2⟩
    rw [this]
def hostB (l : List Res) (i : Nat) (n : ByteArray) : Bool := (l.take i).any fun p => p.kind == 3 && seq n p.host
theorem hostB_zero (l : List Res) (n : ByteArray) : hostB l 0 n = false := rfl
theorem hostB_snoc {l : List Res} {i : Nat} {r : Res} (hr : l[i]? = some r) (n : ByteArray) : hostB l (i + 1) n = (hostB l i n || (r.kind == 3 && seq n r.host)) := by
  unfold hostB
  rw [take_snoc hr, List.any_append]
  simp
theorem twice_host {l : List Res} {i : Nat} {r : Res} (hr : l[i]? = some r) : twiceIx l i = (r.kind == 3 && hostB l i r.host) := by
  unfold twiceIx hostB
  rw [hr]
/-- The map of hosts: to be read as false where nothing is. -/
def HostF (l : List Res) (i : Nat) (F : ByteArray → Option Value) : Prop := ∀ n, (F n).getD (.bool false) = .bool (hostB l i n)
theorem HostF.zero (l : List Res) : HostF l 0 (fun _ => none) := fun n => by rw [hostB_zero]; rfl
theorem HostF.put {l : List Res} {i : Nat} {F : ByteArray → Option Value} (h : HostF l i F) {r : Res} (hr : l[i]? = some r) : HostF l (i + 1) (upd F r.host (.bool (hostB l i r.host || r.kind == 3))) := fun n => by
  rw [hostB_snoc hr]
  by_cases e : n = r.host
  · rw [e, upd_same, seq_iff.2 rfl, Bool.and_true]; rfl
  · rw [upd_other _ _ e, h n, seq_not.2 e, Bool.and_false, Bool.or_false]
end Go.Ck
namespace Go.Proofs.Ytjepgpocmnijiaa
open Go.RowKit Go.Mp Go.Ck
set_option linter.unusedVariables false
set_option maxRecDepth 100000
set_option maxHeartbeats 8000000
def SplUp (W0 : World) (l : List Res) (i : Nat) (F : ByteArray → Option Value) : Prop := ∀ (j : Nat) (r : Res), j < i → l[j]? = some r → r.kind = 2 → ∃ (eo : Option Addr) (ec : Nat) (ta : Option Addr) (tc : Nat) (ra : Option Addr) (rc : Nat),
  F r.name = some (.agg #[.int .i64 r.kind, .string r.name, .slice eo r.eps.length ec, .slice ta r.tgts.length tc, .string r.host, .slice ra r.rules.length rc, .string r.route, .bool r.del]) ∧ RP W0 r (.slice eo r.eps.length ec) (.slice ta r.tgts.length tc) (.slice ra r.rules.length rc)
theorem SplUp.zero (W0 : World) (l : List Res) (F : ByteArray → Option Value) : SplUp W0 l 0 F := fun j r h => absurd h (Nat.not_lt_zero j)
theorem SplUp.skip {W0 : World} {l : List Res} {i : Nat} {F : ByteArray → Option Value} (h : SplUp W0 l i F) {r : Res} (hr : l[i]? = some r) (hk : r.kind ≠ 2) : SplUp W0 l (i + 1) F := fun j x hj hx hk2 => by
  rcases Nat.lt_succ_iff_lt_or_eq.1 hj with h1 | h1
  · exact h j x h1 hx hk2
  · rw [h1, hr] at hx; cases hx; exact absurd hk2 hk
theorem SplUp.put {W0 : World} {l : List Res} {i : Nat} {F : ByteArray → Option Value} (h : SplUp W0 l i F) (hO : Ck.Ord l) {r : Res} (hr : l[i]? = some r) (hk : r.kind = 2) {eo ta ra : Option Addr} {ec tc rc : Nat} (hp : RP W0 r (.slice eo r.eps.length ec) (.slice ta r.tgts.length tc) (.slice ra r.rules.length rc)) :
    SplUp W0 l (i + 1) (upd F r.name (.agg #[.int .i64 r.kind, .string r.name, .slice eo r.eps.length ec, .slice ta r.tgts.length tc, .string r.host, .slice ra r.rules.length rc, .string r.route, .bool r.del])) := fun j x hj hx hk2 => by
  rcases Nat.lt_succ_iff_lt_or_eq.1 hj with h1 | h1
  · have hne : x.name ≠ r.name := fun e => by have := hO.inj hx hr (hk2.trans hk.symm) e; omega
    rw [upd_other _ _ hne]
    exact h j x h1 hx hk2
  · rw [h1, hr] at hx; cases hx
    exact ⟨eo, ec, ta, tc, ra, rc, upd_same _ _ _, hp⟩
theorem SplUp.fin {W0 : World} {l : List Res} {F : ByteArray → Option Value} (h : SplUp W0 l l.length F) (hO : Ck.Ord l) : SplV W0 l F := fun n hn => by
  obtain ⟨r, hr, e1, e2⟩ := has_iff.1 hn
  obtain ⟨j, hj⟩ := List.mem_iff_getElem?.1 hr
  obtain ⟨eo, ec, ta, tc, ra, rc, h1, h2⟩ := h j r (List.getElem?_eq_some_iff.1 hj).1 hj e1
  refine ⟨r, eo, ec, ta, tc, ra, rc, by rw [← e2]; exact h1, h2, ?_⟩
  have := hO.find hr
  rw [e1, e2] at this
  unfold tgtsOf
  rw [this]
/-- The blocks of the call's maps stand apart. -/
structure Laid (W : World) (mb sb kb db : Nat) : Prop where
  m : W.heap.size ≤ mb
  s : W.heap.size ≤ sb
  k : W.heap.size ≤ kb
  ms : mb ≠ sb
  mkb : mb ≠ kb
  sk : sb ≠ kb
  dm : db ≠ mb
  ds : db ≠ sb
  dk : db ≠ kb
structure CM (W : World) (l : List Res) (mb sb kb db : Nat) (i j : Nat) (w : World) (F : ByteArray → Option Value) : Prop where
  bel : Below W.heap.size W w
  th : MapS keyKey w mb (thereF (l.take i))
  sp : MapS nameKey w sb F
  up : SplUp W l j F
  kn : MapS nameKey w kb (fun _ => none)
  c0 : w.cell? ⟨db, 0, none⟩ = some (.map (some sb))
  c1 : w.cell? ⟨db, 1, none⟩ = some (.map (some kb))
theorem CM.tch {W : World} {l : List Res} {mb sb kb db i j : Nat} {w w' : World} {F : ByteArray → Option Value} (h : CM W l mb sb kb db i j w F) (t : Tch No w w') : CM W l mb sb kb db i j w' F :=
  ⟨Tch.below h.bel t h.bel.size (fun _ q => q.elim), h.th.tch t id, h.sp.tch t id, h.up, h.kn.tch t id, t.cell_some h.c0 id, t.cell_some h.c1 id⟩
theorem CM.there {W : World} {l : List Res} {mb sb kb db i j : Nat} {w w' : World} {F : ByteArray → Option Value} (h : CM W l mb sb kb db i j w F) (hL : Laid W mb sb kb db) {r : Res} (hr : l[i]? = some r)
    (hm : MapS keyKey w' mb (upd (thereF (l.take i)) (r.kind, r.name) (.bool true))) (ht : w.mapTurned w' mb) : CM W l mb sb kb db (i + 1) j w' F := by
  have t : Tch (fun k => k = mb) w w' := Tch.turned ht rfl
  exact ⟨Tch.below h.bel t h.bel.size (fun _ q => by rw [q]; exact hL.m), by rw [← thereF_snoc hr]; exact hm, h.sp.tch t (fun q => hL.ms q.symm), h.up, h.kn.tch t (fun q => hL.mkb q.symm), t.cell_some h.c0 hL.dm, t.cell_some h.c1 hL.dm⟩
theorem CM.skip {W : World} {l : List Res} {mb sb kb db i j : Nat} {w : World} {F : ByteArray → Option Value} (h : CM W l mb sb kb db i j w F) {r : Res} (hr : l[j]? = some r) (hk : r.kind ≠ 2) : CM W l mb sb kb db i (j + 1) w F :=
  ⟨h.bel, h.th, h.sp, h.up.skip hr hk, h.kn, h.c0, h.c1⟩
theorem CM.split {W : World} {l : List Res} {mb sb kb db i j : Nat} {w w' : World} {F : ByteArray → Option Value} (h : CM W l mb sb kb db i j w F) (hL : Laid W mb sb kb db) (hO : Ck.Ord l) {r : Res} (hr : l[j]? = some r) (hk : r.kind = 2)
    {eo ta ra : Option Addr} {ec tc rc : Nat} (hp : RP W r (.slice eo r.eps.length ec) (.slice ta r.tgts.length tc) (.slice ra r.rules.length rc))
    (hm : MapS nameKey w' sb (upd F r.name (.agg #[.int .i64 r.kind, .string r.name, .slice eo r.eps.length ec, .slice ta r.tgts.length tc, .string r.host, .slice ra r.rules.length rc, .string r.route, .bool r.del]))) (ht : w.mapTurned w' sb) :
    CM W l mb sb kb db i (j + 1) w' (upd F r.name (.agg #[.int .i64 r.kind, .string r.name, .slice eo r.eps.length ec, .slice ta r.tgts.length tc, .string r.host, .slice ra r.rules.length rc, .string r.route, .bool r.del])) := by
  have t : Tch (fun k => k = sb) w w' := Tch.turned ht rfl
  exact ⟨Tch.below h.bel t h.bel.size (fun _ q => by rw [q]; exact hL.s), h.th.tch t hL.ms, hm, h.up.put hO hr hk hp, h.kn.tch t (fun q => hL.sk q.symm), t.cell_some h.c0 hL.ds, t.cell_some h.c1 hL.ds⟩
theorem maps_laid (W w2 : World) (l : List Res) (hb : Below W.heap.size W w2) : ∃ wm mb sb kb db, wm = (((w2.alloc (.map #[] 0)).alloc (.map #[] 0)).alloc (.map #[] 0)).alloc (.cells #[.map (some (w2.heap.size + 1)), .map (some (w2.heap.size + 1 + 1))] 109)
    ∧ mb = w2.heap.size ∧ sb = w2.heap.size + 1 ∧ kb = w2.heap.size + 1 + 1 ∧ db = w2.heap.size + 1 + 1 + 1 ∧ Laid W mb sb kb db ∧ CM W l mb sb kb db 0 0 wm (fun _ => none) := by
  refine ⟨_, _, _, _, _, rfl, rfl, rfl, rfl, rfl, ⟨hb.size, by have := hb.size; omega, by have := hb.size; omega, by omega, by omega, by omega, by omega, by omega, by omega⟩, ?_⟩
  have e1 : (w2.alloc (.map #[] 0)).heap.size = w2.heap.size + 1 := by simp
  have e2 : ((w2.alloc (.map #[] 0)).alloc (.map #[] 0)).heap.size = w2.heap.size + 1 + 1 := by simp
  have e3 : (((w2.alloc (.map #[] 0)).alloc (.map #[] 0)).alloc (.map #[] 0)).heap.size = w2.heap.size + 1 + 1 + 1 := by simp
  have t1 := Tch.alloc No w2 (.map #[] 0)
  have t2 := Tch.alloc No (w2.alloc (.map #[] 0)) (.map #[] 0)
  have t3 := Tch.alloc No ((w2.alloc (.map #[] 0)).alloc (.map #[] 0)) (.map #[] 0)
  have t4 := Tch.alloc No (((w2.alloc (.map #[] 0)).alloc (.map #[] 0)).alloc (.map #[] 0)) (.cells #[.map (some (w2.heap.size + 1)), .map (some (w2.heap.size + 1 + 1))] 109)
  have tt := ((t1.trans t2 (fun _ q => q.elim)).trans t3 (fun _ q => q.elim)).trans t4 (fun _ q => q.elim)
  have m1 := MapS.made keyKey w2
  have m2 := MapS.made nameKey (w2.alloc (.map #[] 0))
  have m3 := MapS.made nameKey ((w2.alloc (.map #[] 0)).alloc (.map #[] 0))
  rw [e1] at m2
  rw [e2] at m3
  have hx := heap_alloc_new (((w2.alloc (.map #[] 0)).alloc (.map #[] 0)).alloc (.map #[] 0)) (.cells #[.map (some (w2.heap.size + 1)), .map (some (w2.heap.size + 1 + 1))] 109)
  rw [e3] at hx
  exact ⟨Tch.below hb tt hb.size (fun _ q => q.elim), by rw [thereF_nil]; exact ((m1.tch t2 id).tch t3 id).tch t4 id, (m2.tch t3 id).tch t4 id, SplUp.zero _ _ _, m3.tch t4 id, box_at hx rfl, box_at hx rfl⟩
theorem CM.ds {W : World} {l : List Res} {mb sb kb db i j : Nat} {w : World} {F : ByteArray → Option Value} (h : CM W l mb sb kb db i j w F) (hL : Laid W mb sb kb db) : DS W w db sb kb F (fun _ => none) :=
  ⟨h.bel, hL.k, h.c0, h.c1, h.sp, h.kn, hL.sk, hL.dk⟩
theorem CM.looks {W : World} {l : List Res} {mb sb kb db j : Nat} {w : World} {F : ByteArray → Option Value} (h : CM W l mb sb kb db l.length j w F) : Looks w mb l := looks_of h.th (fun k => by rw [List.take_length]; rfl)
theorem no_dang {l : List Res} (hO : Ck.Ord l) (hD : ∀ j, j < l.length → dangIx l j = false) : ∀ n, has l 2 n = true → ∀ t ∈ tgtsOf l n, noS t.service = true → has l 2 t.split = true := by
  intro n hn t ht hs
  obtain ⟨r, hr, e1, e2⟩ := has_iff.1 hn
  obtain ⟨j, hj⟩ := List.mem_iff_getElem?.1 hr
  have h1 := hO.uniq j r hj e1
  rw [e2] at h1
  rw [h1] at ht
  have h2 := (dangIx_at hj).symm.trans (hD j (List.getElem?_eq_some_iff.1 hj).1)
  obtain ⟨k, hk⟩ := List.mem_iff_getElem?.1 ht
  cases hh : has l 2 t.split with
  | true => rfl
  | false =>
    have hb : badTx l r k = true := by rw [badTx_at hk]; unfold badT; rw [if_pos hs, hh]; rfl
    rcases firstN_cases r.tgts.length (badTx l r) with ⟨_, h3⟩ | ⟨i, hi, e, _, _⟩
    · have := h3 k (List.getElem?_eq_some_iff.1 hk).1
      rw [hb] at this; cases this
    · unfold dangI at h2
      rw [if_pos e1, e] at h2
      unfold upI at h2
      rw [if_neg (by omega), decide_eq_false_iff_not] at h2
      omega
theorem Looks.below {w w1 : World} {mb : Nat} {l : List Res} (h : Looks w mb l) (hb : Below w.heap.size w w1) : Looks w1 mb l := fun w' hb' => h w' (seq_below hb hb')
theorem host_look {w : World} {hb : Nat} {l : List Res} {i : Nat} {G : ByteArray → Option Value} (h : MapS nameKey w hb G) (hG : HostF l i G) (n : ByteArray) : (Instr.lookup 113 (.map (some hb)) (.string n) false).run Try.prog w = .ok (.bool (hostB l i n)) w := by
  have := h.look (t := 113) (e := 4) Try.underlying113 (z := .bool false) (by kernel_rfl) false n
  rw [hG n] at this
  exact this
/-- The program's Check. -/
theorem check19 (l : List Res) (v : Value) (w : World) (hl : ResS w v l) (hM : listM l ≤ 1048576) : Calls Try.prog 19 #[v] w (CheckOut w 40 l) := by
  obtain ⟨ao, cap, rfl⟩ := slice_shape hl
  have hlen := hl.1
  obtain ⟨w1, hw1⟩ : ∃ w1, w1 = w.alloc (.cells #[.int .i64 0, .int .i64 0, .int .i64 0] 27) := ⟨_, rfl⟩
  obtain ⟨g3, hg3⟩ : ∃ g3, g3 = w.heap.size := ⟨_, rfl⟩
  have hb1 : Below w.heap.size w w1 := by rw [hw1]; exact alloc_below _ _
  have hbx1 : w1.heap[g3]? = some (.cells #[.int .i64 0, .int .i64 0, .int .i64 0] 27 (0, 0)) := by rw [hw1, hg3]; exact heap_alloc_new w _
  have hB3 : w.heap.size ≤ g3 := by omega
  have hg3l := (Array.getElem?_eq_some_iff.1 hbx1).1
  have hl1 := hl.below hb1
  have hO := out60 l _ w1 hl1
  have hchkO := fun h => Chk.out (l := l) h
  have hchkC := fun h => Chk.count (l := l) h
  have hord := fun h => ord_of (l := l) h
  obtain ⟨oi, hoi⟩ : ∃ oi, oi = outI l := ⟨_, rfl⟩
  rw [← hoi] at hO hchkO hchkC hord
  replace hl := Lib.hid hl
  replace hM := Lib.hid hM
  replace hw1 := Lib.hid hw1
  replace hg3 := Lib.hid hg3
  replace hb1 := Lib.hid hb1
  replace hbx1 := Lib.hid hbx1
  replace hB3 := Lib.hid hB3
  replace hg3l := Lib.hid hg3l
  replace hl1 := Lib.hid hl1
  replace hO := Lib.hid hO
  replace hoi := Lib.hid hoi
  by_cases h0 : 0 ≤ oi
  · have hchk := Lib.hid (hchkO h0)
    clear hchkO hchkC hord
    go_enter Try.func19, Try.ntmps19
    go_upto_region 1 with fail
    rw [← hw1.out, ← hg3.out]
    go_wp2_with (first
      | (go_at_call 60; (with_reducible refine hO.out.mono ?_); rintro e w2 ⟨rfl, hb2⟩; obtain ⟨⟨z0, z1, z2⟩, f0, f1, f2⟩ := three_cells ((hb2.block g3 hg3l.out).trans hbx1.out); replace hb2 := Lib.hid hb2)
      | fail)
    refine bodyPost_ret (v := .tuple #[.slice none 0 0, .agg #[.int .i64 oi, .int .i64 0, .int .i64 2]]) (by simp [results, Try.results19, go_sem, z0, z1, z2]) rfl ⟨_, _, _, hchk.out, rfl, World.ownsRow_nil _ _ _ _, ?_⟩
    exact set_three (seq_below hb1.out hb2.out) hB3.out _ _ _
  · have h0' : decide (0 ≤ oi) = false := decide_eq_false h0
    have h0n : oi < 0 := by omega
    by_cases h64 : 64 < l.length
    · have hchk := Lib.hid (hchkC h0n h64)
      have k64 : (64 : Int) < (l.length : Int) := by omega
      clear hchkO hchkC hord
      go_enter Try.func19, Try.ntmps19
      go_upto_region 1 with fail
      rw [← hw1.out, ← hg3.out]
      go_wp2_with (first
        | (go_at_call 60; (with_reducible refine hO.out.mono ?_); rintro e w2 ⟨rfl, hb2⟩; obtain ⟨⟨z0, z1, z2⟩, f0, f1, f2⟩ := three_cells ((hb2.block g3 hg3l.out).trans hbx1.out); replace hb2 := Lib.hid hb2)
        | fail)
      refine bodyPost_ret (v := .tuple #[.slice none 0 0, .agg #[.int .i64 0, .int .i64 0, .int .i64 124]]) (by simp [results, Try.results19, go_sem, z0, z1, z2]) rfl ⟨_, _, _, hchk.out, rfl, World.ownsRow_nil _ _ _ _, ?_⟩
      exact set_three (seq_below hb1.out hb2.out) hB3.out _ _ _
    · have k64 : decide ((64 : Int) < (l.length : Int)) = false := decide_eq_false (by omega)
      have hcD := fun i r => Chk.dang (l := l) (i := i) (r := r) (hoi.out ▸ h0n) (by omega)
      have hcT := fun i => Chk.twice (l := l) (i := i) (hoi.out ▸ h0n) (by omega)
      have hcH := fun i => Chk.heavy (l := l) (i := i) (hoi.out ▸ h0n) (by omega)
      have hcR := fun i => Chk.ring (l := l) (i := i) (hoi.out ▸ h0n) (by omega)
      have hcF := Chk.fine (l := l) (hoi.out ▸ h0n) (by omega)
      have hOrd := hord h0n
      have h64' : l.length ≤ 64 := by omega
      clear hchkO hchkC hord
      replace hcD := Lib.hid hcD
      replace hcT := Lib.hid hcT
      replace hcH := Lib.hid hcH
      replace hcR := Lib.hid hcR
      replace hcF := Lib.hid hcF
      replace hOrd := Lib.hid hOrd
      replace h0 := Lib.hid h0
      replace h64 := Lib.hid h64
      replace h64' := Lib.hid h64'
      go_enter Try.func19, Try.ntmps19
      go_upto_region 1 with fail
      rw [← hw1.out, ← hg3.out]
      have hmm := @run_makeMap Try.prog
      go_upto_region 8 with (first
        | (go_at_call 60; (with_reducible refine hO.out.mono ?_); rintro e w2 ⟨rfl, hb2⟩; replace hb2 := Lib.hid hb2)
        | fail)
      obtain ⟨wm, mb, sb, kb, db, hwm, hmb, hsb, hkb, hdb, hLd, hCM⟩ := maps_laid w1 w2 l hb2.out
      rw [← hwm, ← hdb, ← hkb, ← hsb, ← hmb]
      replace hwm := Lib.hid hwm
      replace hmb := Lib.hid hmb
      replace hsb := Lib.hid hsb
      replace hkb := Lib.hid hkb
      replace hdb := Lib.hid hdb
      replace hLd := Lib.hid hLd
      replace hCM := Lib.hid hCM
      clear hb2
      go_wp2
      go_loopg [36] (l.length + 1) (fun gg ic wr => ∃ (i : Nat) (F : ByteArray → Option Value), gg = l.length - i + 1 ∧ i ≤ l.length ∧ ic = .int .i64 i ∧ Hid (CM w1 l mb sb kb db i i wr F))
      case atStart => exact ⟨0, _, rfl, Nat.zero_le _, rfl, hCM⟩
      case round =>
        obtain ⟨i, F, rfl, hi, rfl, hC⟩ := hrel
        by_cases hlt : i < l.length
        · obtain ⟨r, hr⟩ : ∃ r, l[i]? = some r := ⟨_, List.getElem?_eq_getElem hlt⟩
          obtain ⟨b, off, eo, ec, ta, tc, ra, rc, rfl, hbl, c, hp⟩ := res_at2 hl1.out hr
          obtain ⟨c0, c1, c2, c3, c4, c5, c6, c7⟩ := c.below hbl hC.out.bel
          have hk0 : (i : Int) < (l.length : Int) := nn_lt hlt
          have hwk := Lib.hid (nn_succ2 hlt hlen)
          obtain ⟨wB, hwB⟩ : ∃ wB, wB = wr.alloc (.cells #[.int .i64 r.kind, .string r.name, .slice eo r.eps.length ec, .slice ta r.tgts.length tc, .string r.host, .slice ra r.rules.length rc, .string r.route, .bool r.del] 52) := ⟨_, rfl⟩
          obtain ⟨bk, hbk⟩ : ∃ bk, bk = wr.heap.size := ⟨_, rfl⟩
          have hbx : wB.heap[bk]? = some (.cells #[.int .i64 r.kind, .string r.name, .slice eo r.eps.length ec, .slice ta r.tgts.length tc, .string r.host, .slice ra r.rules.length rc, .string r.route, .bool r.del] 52 (0, 0)) := by rw [hwB, hbk]; exact heap_alloc_new wr _
          have hbkl := (Array.getElem?_eq_some_iff.1 hbx).1
          have tB : Tch No wr wB := by rw [hwB]; exact Tch.alloc No _ _
          have hCB := hC.out.tch tB
          have b0 : wB.cell? ⟨bk, 0, none⟩ = some (.int .i64 r.kind) := box_at hbx rfl
          have b1 : wB.cell? ⟨bk, 1, none⟩ = some (.string r.name) := box_at hbx rfl
          have b2 : wB.cell? ⟨bk, 2, none⟩ = some (.slice eo r.eps.length ec) := box_at hbx rfl
          have b3 : wB.cell? ⟨bk, 3, none⟩ = some (.slice ta r.tgts.length tc) := box_at hbx rfl
          have b4 : wB.cell? ⟨bk, 4, none⟩ = some (.string r.host) := box_at hbx rfl
          have b5 : wB.cell? ⟨bk, 5, none⟩ = some (.slice ra r.rules.length rc) := box_at hbx rfl
          have b6 : wB.cell? ⟨bk, 6, none⟩ = some (.string r.route) := box_at hbx rfl
          have b7 : wB.cell? ⟨bk, 7, none⟩ = some (.bool r.del) := box_at hbx rfl
          have h61 := of61 r (.slice eo r.eps.length ec) (.slice ta r.tgts.length tc) (.slice ra r.rules.length rc) wB
          have hmbk : mb ≠ bk := by rw [hbk]; exact Nat.ne_of_lt hC.out.th.lt
          replace hr := Lib.hid hr
          replace c := Lib.hid c
          replace hp := Lib.hid hp
          replace hbl := Lib.hid hbl
          replace hbx := Lib.hid hbx
          replace hbkl := Lib.hid hbkl
          replace tB := Lib.hid tB
          replace hCB := Lib.hid hCB
          replace h61 := Lib.hid h61
          replace hmbk := Lib.hid hmbk
          go_upto_region 11 with fail
          rw [← hwB, ← hbk]
          replace hwB := Lib.hid hwB
          replace hbk := Lib.hid hbk
          clear c0 c1 c2 c3 c4 c5 c6 c7
          go_upto_region 12 with (first
            | (go_at_call 61; (with_reducible refine h61.out.mono ?_); rintro e w3 ⟨rfl, hb3⟩; have hC3 := hCB.out.tch (Tch.of_below hb3); have hbx3 := (hb3.block bk hbkl.out).trans hbx.out; have hth3 := Lib.hid hC3.th; replace hC3 := Lib.hid hC3; replace hbx3 := Lib.hid hbx3; replace hb3 := Lib.hid hb3)
            | (at_mapUpdate; refine wp_store rfl _ _ _ 104 rfl keyKey 4 Try.underlying104 mb (thereF (l.take i)) (r.kind, r.name) (.bool true) rfl hth3.out rfl rfl ?_; intro w4 hm4 ht4; have hC4 := hC3.out.there hLd.out hr.out hm4 ht4; have hbx4 := ((Tch.turned (S := fun k => k = mb) ht4 rfl).block bk (Array.getElem?_eq_some_iff.1 hbx3.out).1 (fun q => hmbk.out q.symm)).trans hbx3.out; have d0 := box_at (j := 0) hbx4 rfl; have d1 := box_at (j := 1) hbx4 rfl; have d2 := box_at (j := 2) hbx4 rfl; have d3 := box_at (j := 3) hbx4 rfl; have d4 := box_at (j := 4) hbx4 rfl; have d5 := box_at (j := 5) hbx4 rfl; have d6 := box_at (j := 6) hbx4 rfl; have d7 := box_at (j := 7) hbx4 rfl; replace hC4 := Lib.hid hC4; replace hbx4 := Lib.hid hbx4; replace hm4 := Lib.hid hm4; replace ht4 := Lib.hid ht4)
            | fail)
          clear b0 b1 b2 b3 b4 b5 b6 b7
          by_cases k2 : r.kind = 2
          · have kk2 : (r.kind == 2) = true := beq_iff_eq.2 k2
            have k2' := Lib.hid k2
            clear k2
            have hC4d := hC4.out.tch (Tch.drew No w4)
            have e0 := hC4.out.c0
            obtain ⟨w5, hrun, hm5, ht5⟩ := hC4d.sp.store (t := 106) (e := 52) Try.underlying106 r.name (.agg #[.int .i64 r.kind, .string r.name, .slice eo r.eps.length ec, .slice ta r.tgts.length tc, .string r.host, .slice ra r.rules.length rc, .string r.route, .bool r.del])
            replace hrun : (Instr.mapUpdate 106 (.map (some sb)) (.string r.name) (.agg #[.int .i64 r.kind, .string r.name, .slice eo r.eps.length ec, .slice ta r.tgts.length tc, .string r.host, .slice ra r.rules.length rc, .string r.route, .bool r.del])).run Try.prog w4.drew = .ok () w5 := hrun
            have hbx4d : w4.drew.heap[bk]? = some (.cells #[.int .i64 r.kind, .string r.name, .slice eo r.eps.length ec, .slice ta r.tgts.length tc, .string r.host, .slice ra r.rules.length rc, .string r.route, .bool r.del] 52 (0, 0)) := hbx4.out
            have hsbk : sb ≠ bk := fun q => by have h1 := hCB.out.sp.lt; have h2 := hC.out.sp.lt; rw [q, hbk.out] at h2; exact Nat.lt_irrefl _ h2
            have hC5 := hC4d.split hLd.out hOrd.out hr.out k2'.out hp.out hm5 ht5
            have hbx5 := ((Tch.turned (S := fun k => k = sb) ht5 rfl).block bk (Array.getElem?_eq_some_iff.1 hbx4d).1 (fun q => hsbk q.symm)).trans hbx4d
            have hS5 := Lib.hid (And.intro (box_at (j := 0) hbx5 rfl) (And.intro (box_at (j := 1) hbx5 rfl) (And.intro (box_at (j := 2) hbx5 rfl) (And.intro (box_at (j := 3) hbx5 rfl) (And.intro (box_at (j := 4) hbx5 rfl) (And.intro (box_at (j := 5) hbx5 rfl) (And.intro (box_at (j := 6) hbx5 rfl) (And.intro (box_at (j := 7) hbx5 rfl) hC5.c0))))))))
            replace hC4d := Lib.hid hC4d
            replace hbx4d := Lib.hid hbx4d
            replace hsbk := Lib.hid hsbk
            replace hm5 := Lib.hid hm5
            replace ht5 := Lib.hid ht5
            replace hC5 := Lib.hid hC5
            replace hbx5 := Lib.hid hbx5
            go_upto_region 13 with fail
            go_region_held3 (fun w' => w'.cell? ⟨bk, 0, none⟩ = some (.int .i64 r.kind) ∧ w'.cell? ⟨bk, 1, none⟩ = some (.string r.name) ∧ w'.cell? ⟨bk, 2, none⟩ = some (.slice eo r.eps.length ec) ∧ w'.cell? ⟨bk, 3, none⟩ = some (.slice ta r.tgts.length tc) ∧ w'.cell? ⟨bk, 4, none⟩ = some (.string r.host) ∧ w'.cell? ⟨bk, 5, none⟩ = some (.slice ra r.rules.length rc) ∧ w'.cell? ⟨bk, 6, none⟩ = some (.string r.route) ∧ w'.cell? ⟨bk, 7, none⟩ = some (.bool r.del) ∧ w'.cell? ⟨db, 0, none⟩ = some (.map (some sb)))
              (first | exact hS5.out | go_keep | fail)
              (fail)
            go_wp2
            go_roundg (l.length - (i + 1) + 1)
            case rel => exact ⟨i + 1, _, rfl, hlt, by first | rw [hwk.out] | go_num, hC5⟩
            case measure => exact nn_downS hlt
          · have kk2 : (r.kind == 2) = false := beq_eq_false_iff_ne.2 k2
            have hC5 := Lib.hid (hC4.out.skip hr.out k2)
            clear k2
            go_wp2
            go_roundg (l.length - (i + 1) + 1)
            case rel => exact ⟨i + 1, F, rfl, hlt, by first | rw [hwk.out] | go_num, hC5⟩
            case measure => exact nn_downS hlt
        · have hk0 : decide ((i : Int) < (l.length : Int)) = false := decide_eq_false (by omega)
          have hil : i = l.length := by omega
          rw [hil] at hC
          have hSp := Lib.hid (hC.out.up.fin hOrd.out)
          obtain ⟨wf, hwf⟩ : ∃ wf, wf = wr := ⟨_, rfl⟩
          have hCf := hC.out
          rw [← hwf] at hCf
          have hLk := hCf.looks
          have bf := hCf.bel
          obtain ⟨wh, hwh⟩ : ∃ wh, wh = wr.alloc (.map #[] 0) := ⟨_, rfl⟩
          obtain ⟨hb, hhb⟩ : ∃ hb, hb = wr.heap.size := ⟨_, rfl⟩
          have hmh : MapS nameKey wh hb (fun _ => none) := by rw [hwh, hhb]; exact MapS.made nameKey wr
          have hbh : Below wf.heap.size wf wh := by rw [hwf, hwh]; exact alloc_below _ _
          have hbf : wf.heap.size ≤ hb := by rw [hwf, hhb]; exact Nat.le_refl _
          replace hil := Lib.hid hil
          replace hwf := Lib.hid hwf
          replace hCf := Lib.hid hCf
          replace hLk := Lib.hid hLk
          replace bf := Lib.hid bf
          replace hmh := Lib.hid hmh
          replace hbh := Lib.hid hbh
          replace hbf := Lib.hid hbf
          go_upto_region 16 with fail
          rw [← hwh, ← hhb]
          replace hwh := Lib.hid hwh
          replace hhb := Lib.hid hhb
          clear hC hi hlt
          go_wp2
          go_loopg [57] (l.length + 1) (fun gg ic wx => ∃ i : Nat, gg = l.length - i + 1 ∧ i ≤ l.length ∧ ic = .int .i64 i ∧ Hid (∀ j, j < i → dangIx l j = false) ∧ Hid (MapS nameKey wx hb (fun _ => none)) ∧ Hid (Below wf.heap.size wf wx))
          case atStart => exact ⟨0, rfl, Nat.zero_le _, rfl, Lib.hid (fun j hj => absurd hj (Nat.not_lt_zero j)), hmh, hbh⟩
          case round =>
            clear hk0
            obtain ⟨i, rfl, hi, rfl, hno, hmx, hbw⟩ := hrel
            by_cases hlt : i < l.length
            · obtain ⟨r, hr⟩ : ∃ r, l[i]? = some r := ⟨_, List.getElem?_eq_getElem hlt⟩
              obtain ⟨b, off, eo, ec, ta, tc, ra, rc, rfl, hbl, c, hp⟩ := res_at2 hl1.out hr
              obtain ⟨c0, c1, c2, c3, c4, c5, c6, c7⟩ := c.below hbl (seq_below bf.out hbw.out)
              have hk0 : (i : Int) < (l.length : Int) := nn_lt hlt
              have hwk := Lib.hid (nn_succ2 hlt hlen)
              have hix := dangIx_at hr
              obtain ⟨wB, hwB⟩ : ∃ wB, wB = wr.alloc (.cells #[.int .i64 r.kind, .string r.name, .slice eo r.eps.length ec, .slice ta r.tgts.length tc, .string r.host, .slice ra r.rules.length rc, .string r.route, .bool r.del] 52) := ⟨_, rfl⟩
              obtain ⟨bk, hbk⟩ : ∃ bk, bk = wr.heap.size := ⟨_, rfl⟩
              have hbx : wB.heap[bk]? = some (.cells #[.int .i64 r.kind, .string r.name, .slice eo r.eps.length ec, .slice ta r.tgts.length tc, .string r.host, .slice ra r.rules.length rc, .string r.route, .bool r.del] 52 (0, 0)) := by rw [hwB, hbk]; exact heap_alloc_new wr _
              have hbkl := (Array.getElem?_eq_some_iff.1 hbx).1
              have tB : Tch No wr wB := by rw [hwB]; exact Tch.alloc No _ _
              have bB : Below wr.heap.size wr wB := by rw [hwB]; exact alloc_below _ _
              have b0 : wB.cell? ⟨bk, 0, none⟩ = some (.int .i64 r.kind) := box_at hbx rfl
              have b1 : wB.cell? ⟨bk, 1, none⟩ = some (.string r.name) := box_at hbx rfl
              have b2 : wB.cell? ⟨bk, 2, none⟩ = some (.slice eo r.eps.length ec) := box_at hbx rfl
              have b3 : wB.cell? ⟨bk, 3, none⟩ = some (.slice ta r.tgts.length tc) := box_at hbx rfl
              have b4 : wB.cell? ⟨bk, 4, none⟩ = some (.string r.host) := box_at hbx rfl
              have b5 : wB.cell? ⟨bk, 5, none⟩ = some (.slice ra r.rules.length rc) := box_at hbx rfl
              have b6 : wB.cell? ⟨bk, 6, none⟩ = some (.string r.route) := box_at hbx rfl
              have b7 : wB.cell? ⟨bk, 7, none⟩ = some (.bool r.del) := box_at hbx rfl
              have bw1 := seq_below bf.out hbw.out
              have hC := dang62 l mb r (.slice eo r.eps.length ec) (.slice ta r.tgts.length tc) (.slice ra r.rules.length rc) wB (hLk.out.below (seq_below hbw.out bB)) (hp.below (seq_below bw1 bB))
              have hmB := hmx.out.tch tB id
              have hbB := seq_below hbw.out bB
              have hcd := hcD.out i r hno.out hr
              obtain ⟨dn, hdn⟩ : ∃ dn, dn = dangI l r := ⟨_, rfl⟩
              rw [← hdn] at hC hix hcd
              replace hC := Lib.hid hC
              replace hr := Lib.hid hr
              replace hp := Lib.hid hp
              replace c := Lib.hid c
              replace hbl := Lib.hid hbl
              replace hbx := Lib.hid hbx
              replace hbkl := Lib.hid hbkl
              replace tB := Lib.hid tB
              replace bB := Lib.hid bB
              replace bw1 := Lib.hid bw1
              replace hmB := Lib.hid hmB
              replace hbB := Lib.hid hbB
              replace hdn := Lib.hid hdn
              go_upto_region 19 with fail
              rw [← hwB, ← hbk]
              replace hwB := Lib.hid hwB
              replace hbk := Lib.hid hbk
              clear c0 c1 c2 c3 c4 c5 c6 c7
              by_cases hd : 0 ≤ dn
              · have hchk := hcd hd
                clear hcd
                replace hix := Lib.hid hix
                replace hno := Lib.hid hno
                replace hchk := Lib.hid hchk
                go_wp2_with (first
                  | (go_at_call 62; (with_reducible refine hC.out.mono ?_); rintro e w3 ⟨rfl, hb3⟩; have hb4 := seq_below bf.out (seq_below hbB.out hb3); obtain ⟨⟨z0, z1, z2⟩, f0, f1, f2⟩ := three_cells ((hb4.block g3 hg3l.out).trans hbx1.out); replace hb3 := Lib.hid hb3; replace hb4 := Lib.hid hb4)
                  | fail)
                refine bodyPost_ret (v := .tuple #[.slice none 0 0, .agg #[.int .i64 i, .int .i64 dn, .int .i64 140]]) (by simp [results, Try.results19, go_sem, z0, z1, z2]) rfl ⟨_, _, _, hchk.out, rfl, World.ownsRow_nil _ _ _ _, ?_⟩
                exact set_three (seq_below hb1.out hb4.out) hB3.out _ _ _
              · have hd' : decide (0 ≤ dn) = false := decide_eq_false hd
                rw [hd'] at hix
                have hno2 := no_upto hno.out hix
                clear hcd
                replace hix := Lib.hid hix
                replace hno := Lib.hid hno
                replace hno2 := Lib.hid hno2
                go_wp2_with (first
                  | (go_at_call 62; (with_reducible refine hC.out.mono ?_); rintro e w3 ⟨rfl, hb3⟩; have hm3 := Lib.hid (hmB.out.tch (Tch.of_below (S := No) hb3) id); replace hb3 := Lib.hid (seq_below hbB.out hb3))
                  | fail)
                go_roundg (l.length - (i + 1) + 1)
                case rel => exact ⟨i + 1, rfl, hlt, by first | rw [hwk.out] | go_num, hno2, hm3, hb3⟩
                case measure => exact nn_downS hlt
            · have hk0 : decide ((i : Int) < (l.length : Int)) = false := decide_eq_false (by omega)
              have hD : Hid (∀ j, j < l.length → dangIx l j = false) := Lib.hid (fun j hj => hno.out j (by omega))
              clear hno
              go_wp2
              go_loopg [73] (l.length + 1) (fun gg ic wx => ∃ (i : Nat) (G : ByteArray → Option Value), gg = l.length - i + 1 ∧ i ≤ l.length ∧ ic = .int .i64 i ∧ Hid (∀ j, j < i → twiceIx l j = false) ∧ Hid (HostF l i G) ∧ Hid (MapS nameKey wx hb G) ∧ Hid (Below wf.heap.size wf wx))
              case atStart => exact ⟨0, _, rfl, Nat.zero_le _, rfl, Lib.hid (fun j hj => absurd hj (Nat.not_lt_zero j)), Lib.hid (HostF.zero l), hmx, hbw⟩
              case round =>
                clear hk0 hi hlt
                obtain ⟨i, G, rfl, hi, rfl, hno, hG, hmx, hbw⟩ := hrel
                by_cases hlt : i < l.length
                · obtain ⟨r, hr⟩ : ∃ r, l[i]? = some r := ⟨_, List.getElem?_eq_getElem hlt⟩
                  obtain ⟨b, off, eo, ec, ta, tc, ra, rc, rfl, hbl, c, hp⟩ := res_at2 hl1.out hr
                  obtain ⟨c0, c1, c2, c3, c4, c5, c6, c7⟩ := c.below hbl (seq_below bf.out hbw.out)
                  have hk0 : (i : Int) < (l.length : Int) := nn_lt hlt
                  have hwk := Lib.hid (nn_succ2 hlt hlen)
                  have hix := twice_host hr
                  obtain ⟨wB, hwB⟩ : ∃ wB, wB = wr.alloc (.cells #[.int .i64 r.kind, .string r.name, .slice eo r.eps.length ec, .slice ta r.tgts.length tc, .string r.host, .slice ra r.rules.length rc, .string r.route, .bool r.del] 52) := ⟨_, rfl⟩
                  obtain ⟨bk, hbk⟩ : ∃ bk, bk = wr.heap.size := ⟨_, rfl⟩
                  have hbx : wB.heap[bk]? = some (.cells #[.int .i64 r.kind, .string r.name, .slice eo r.eps.length ec, .slice ta r.tgts.length tc, .string r.host, .slice ra r.rules.length rc, .string r.route, .bool r.del] 52 (0, 0)) := by rw [hwB, hbk]; exact heap_alloc_new wr _
                  have hbkl := (Array.getElem?_eq_some_iff.1 hbx).1
                  have tB : Tch No wr wB := by rw [hwB]; exact Tch.alloc No _ _
                  have bB : Below wr.heap.size wr wB := by rw [hwB]; exact alloc_below _ _
                  have b0 : wB.cell? ⟨bk, 0, none⟩ = some (.int .i64 r.kind) := box_at hbx rfl
                  have b1 : wB.cell? ⟨bk, 1, none⟩ = some (.string r.name) := box_at hbx rfl
                  have b2 : wB.cell? ⟨bk, 2, none⟩ = some (.slice eo r.eps.length ec) := box_at hbx rfl
                  have b3 : wB.cell? ⟨bk, 3, none⟩ = some (.slice ta r.tgts.length tc) := box_at hbx rfl
                  have b4 : wB.cell? ⟨bk, 4, none⟩ = some (.string r.host) := box_at hbx rfl
                  have b5 : wB.cell? ⟨bk, 5, none⟩ = some (.slice ra r.rules.length rc) := box_at hbx rfl
                  have b6 : wB.cell? ⟨bk, 6, none⟩ = some (.string r.route) := box_at hbx rfl
                  have b7 : wB.cell? ⟨bk, 7, none⟩ = some (.bool r.del) := box_at hbx rfl
                  have bw1 := seq_below bf.out hbw.out
                  have hmB := hmx.out.tch tB id
                  have hbB := seq_below hbw.out bB
                  have hlk := host_look hmB hG.out r.host
                  have hput := hG.out.put hr
                  have hcy := fun h => hcT.out i hD.out hno.out hlt h
                  have hcn := fun h => no_upto hno.out (i := i) h
                  generalize hostB l i r.host = hB at *
                  replace hr := Lib.hid hr
                  replace hp := Lib.hid hp
                  replace c := Lib.hid c
                  replace hbl := Lib.hid hbl
                  replace hbx := Lib.hid hbx
                  replace hbkl := Lib.hid hbkl
                  replace tB := Lib.hid tB
                  replace bB := Lib.hid bB
                  replace bw1 := Lib.hid bw1
                  replace hmB := Lib.hid hmB
                  replace hbB := Lib.hid hbB
                  go_upto_region 26 with fail
                  rw [← hwB, ← hbk]
                  replace hwB := Lib.hid hwB
                  replace hbk := Lib.hid hbk
                  clear c0 c1 c2 c3 c4 c5 c6 c7
                  obtain ⟨q3, hq3⟩ : ∃ q, (r.kind == 3) = q := ⟨_, rfl⟩
                  rw [hq3] at hix hput
                  cases q3 with
                  | false =>
                    cases hB with
                    | false =>
                      have hno2 := hcn (hix.trans rfl)
                      clear hcy hcn
                      have hput2 : HostF l (i + 1) (upd G r.host (.bool false)) := hput
                      clear hput
                      replace hix := Lib.hid hix
                      replace hno := Lib.hid hno
                      replace hno2 := Lib.hid hno2
                      replace hput2 := Lib.hid hput2
                      replace hG := Lib.hid hG
                      go_wp2_with (first
                        | (at_mapUpdate; refine wp_store rfl _ _ _ 113 rfl nameKey 4 Try.underlying113 hb G r.host (.bool false) rfl hmB.out rfl rfl ?_; intro w4 hm4 ht4; have hb4 := Lib.hid (Tch.below hbB.out (Tch.turned (S := fun k => k = hb) ht4 rfl) hbB.out.size (fun _ q => by rw [q]; exact hbf.out)); replace hm4 := Lib.hid hm4; replace ht4 := Lib.hid ht4)
                        | fail)
                      go_roundg (l.length - (i + 1) + 1)
                      case rel => exact ⟨i + 1, _, rfl, hlt, by first | rw [hwk.out] | go_num, hno2, hput2, hm4, hb4⟩
                      case measure => exact nn_downS hlt
                    | true =>
                      have hno2 := hcn (hix.trans rfl)
                      clear hcy hcn
                      have hput2 : HostF l (i + 1) (upd G r.host (.bool true)) := hput
                      clear hput
                      replace hix := Lib.hid hix
                      replace hno := Lib.hid hno
                      replace hno2 := Lib.hid hno2
                      replace hput2 := Lib.hid hput2
                      replace hG := Lib.hid hG
                      go_wp2_with (first
                        | (at_mapUpdate; refine wp_store rfl _ _ _ 113 rfl nameKey 4 Try.underlying113 hb G r.host (.bool true) rfl hmB.out rfl rfl ?_; intro w4 hm4 ht4; have hb4 := Lib.hid (Tch.below hbB.out (Tch.turned (S := fun k => k = hb) ht4 rfl) hbB.out.size (fun _ q => by rw [q]; exact hbf.out)); replace hm4 := Lib.hid hm4; replace ht4 := Lib.hid ht4)
                        | fail)
                      go_roundg (l.length - (i + 1) + 1)
                      case rel => exact ⟨i + 1, _, rfl, hlt, by first | rw [hwk.out] | go_num, hno2, hput2, hm4, hb4⟩
                      case measure => exact nn_downS hlt
                  | true =>
                    cases hB with
                    | false =>
                      have hno2 := hcn (hix.trans rfl)
                      clear hcy hcn
                      have hput2 : HostF l (i + 1) (upd G r.host (.bool true)) := hput
                      clear hput
                      replace hix := Lib.hid hix
                      replace hno := Lib.hid hno
                      replace hno2 := Lib.hid hno2
                      replace hput2 := Lib.hid hput2
                      replace hG := Lib.hid hG
                      go_wp2_with (first
                        | (at_mapUpdate; refine wp_store rfl _ _ _ 113 rfl nameKey 4 Try.underlying113 hb G r.host (.bool true) rfl hmB.out rfl rfl ?_; intro w4 hm4 ht4; have hb4 := Lib.hid (Tch.below hbB.out (Tch.turned (S := fun k => k = hb) ht4 rfl) hbB.out.size (fun _ q => by rw [q]; exact hbf.out)); replace hm4 := Lib.hid hm4; replace ht4 := Lib.hid ht4)
                        | fail)
                      go_roundg (l.length - (i + 1) + 1)
                      case rel => exact ⟨i + 1, _, rfl, hlt, by first | rw [hwk.out] | go_num, hno2, hput2, hm4, hb4⟩
                      case measure => exact nn_downS hlt
                    | true =>
                      have hchk := hcy (hix.trans rfl)
                      clear hcy hcn hput
                      have hb4 := seq_below bf.out hbB.out
                      obtain ⟨⟨z0, z1, z2⟩, f0, f1, f2⟩ := three_cells ((hb4.block g3 hg3l.out).trans hbx1.out)
                      replace hix := Lib.hid hix
                      replace hno := Lib.hid hno
                      replace hchk := Lib.hid hchk
                      replace hb4 := Lib.hid hb4
                      go_wp2
                      refine bodyPost_ret (v := .tuple #[.slice none 0 0, .agg #[.int .i64 i, .int .i64 0, .int .i64 141]]) (by simp [results, Try.results19, go_sem, z0, z1, z2]) rfl ⟨_, _, _, hchk.out, rfl, World.ownsRow_nil _ _ _ _, ?_⟩
                      exact set_three (seq_below hb1.out hb4.out) hB3.out _ _ _
                · have hk0 : decide ((i : Int) < (l.length : Int)) = false := decide_eq_false (by omega)
                  have hT : Hid (∀ j, j < l.length → twiceIx l j = false) := Lib.hid (fun j hj => hno.out j (by omega))
                  clear hno
                  go_wp2
                  go_loopg [104] (l.length + 1) (fun gg ic wx => ∃ i : Nat, gg = l.length - i + 1 ∧ i ≤ l.length ∧ ic = .int .i64 i ∧ Hid (∀ j, j < i → heavyIx l j = false) ∧ Hid (Below wf.heap.size wf wx))
                  case atStart => exact ⟨0, rfl, Nat.zero_le _, rfl, Lib.hid (fun j hj => absurd hj (Nat.not_lt_zero j)), hbw⟩
                  case round =>
                    clear hk0 hi hlt
                    obtain ⟨i, rfl, hi, rfl, hno, hbw⟩ := hrel
                    by_cases hlt : i < l.length
                    · obtain ⟨r, hr⟩ : ∃ r, l[i]? = some r := ⟨_, List.getElem?_eq_getElem hlt⟩
                      obtain ⟨b, off, eo, ec, ta, tc, ra, rc, rfl, hbl, c, hp⟩ := res_at2 hl1.out hr
                      obtain ⟨c0, c1, c2, c3, c4, c5, c6, c7⟩ := c.below hbl (seq_below bf.out hbw.out)
                      have hk0 : (i : Int) < (l.length : Int) := nn_lt hlt
                      have hwk := Lib.hid (nn_succ2 hlt hlen)
                      have hix := heavyIx_at hr
                      obtain ⟨wB, hwB⟩ : ∃ wB, wB = wr.alloc (.cells #[.int .i64 r.kind, .string r.name, .slice eo r.eps.length ec, .slice ta r.tgts.length tc, .string r.host, .slice ra r.rules.length rc, .string r.route, .bool r.del] 52) := ⟨_, rfl⟩
                      obtain ⟨bk, hbk⟩ : ∃ bk, bk = wr.heap.size := ⟨_, rfl⟩
                      have hbx : wB.heap[bk]? = some (.cells #[.int .i64 r.kind, .string r.name, .slice eo r.eps.length ec, .slice ta r.tgts.length tc, .string r.host, .slice ra r.rules.length rc, .string r.route, .bool r.del] 52 (0, 0)) := by rw [hwB, hbk]; exact heap_alloc_new wr _
                      have hbkl := (Array.getElem?_eq_some_iff.1 hbx).1
                      have tB : Tch No wr wB := by rw [hwB]; exact Tch.alloc No _ _
                      have bB : Below wr.heap.size wr wB := by rw [hwB]; exact alloc_below _ _
                      have b0 : wB.cell? ⟨bk, 0, none⟩ = some (.int .i64 r.kind) := box_at hbx rfl
                      have b1 : wB.cell? ⟨bk, 1, none⟩ = some (.string r.name) := box_at hbx rfl
                      have b2 : wB.cell? ⟨bk, 2, none⟩ = some (.slice eo r.eps.length ec) := box_at hbx rfl
                      have b3 : wB.cell? ⟨bk, 3, none⟩ = some (.slice ta r.tgts.length tc) := box_at hbx rfl
                      have b4 : wB.cell? ⟨bk, 4, none⟩ = some (.string r.host) := box_at hbx rfl
                      have b5 : wB.cell? ⟨bk, 5, none⟩ = some (.slice ra r.rules.length rc) := box_at hbx rfl
                      have b6 : wB.cell? ⟨bk, 6, none⟩ = some (.string r.route) := box_at hbx rfl
                      have b7 : wB.cell? ⟨bk, 7, none⟩ = some (.bool r.del) := box_at hbx rfl
                      have bw1 := seq_below bf.out hbw.out
                      have hbB := seq_below hbw.out bB
                      have hC := heavy63 r (.slice eo r.eps.length ec) (.slice ta r.tgts.length tc) (.slice ra r.rules.length rc) wB (hp.below (seq_below bw1 bB))
                      have hcy := fun h => hcH.out i hD.out hT.out hno.out hlt h
                      have hcn := fun h => no_upto hno.out (i := i) h
                      generalize heavy r = hv at *
                      obtain ⟨q2, hq2⟩ : ∃ q, (r.kind == 2) = q := ⟨_, rfl⟩
                      rw [hq2] at hix
                      replace hC := Lib.hid hC
                      replace hr := Lib.hid hr
                      replace hp := Lib.hid hp
                      replace c := Lib.hid c
                      replace hbl := Lib.hid hbl
                      replace hbx := Lib.hid hbx
                      replace hbkl := Lib.hid hbkl
                      replace tB := Lib.hid tB
                      replace bB := Lib.hid bB
                      replace bw1 := Lib.hid bw1
                      replace hbB := Lib.hid hbB
                      go_upto_region 33 with fail
                      rw [← hwB, ← hbk]
                      replace hwB := Lib.hid hwB
                      replace hbk := Lib.hid hbk
                      clear c0 c1 c2 c3 c4 c5 c6 c7
                      cases q2 with
                      | false =>
                        have hno2 := hcn (hix.trans rfl)
                        clear hcy hcn
                        replace hix := Lib.hid hix
                        replace hno := Lib.hid hno
                        replace hno2 := Lib.hid hno2
                        go_wp2
                        go_roundg (l.length - (i + 1) + 1)
                        case rel => exact ⟨i + 1, rfl, hlt, by first | rw [hwk.out] | go_num, hno2, hbB⟩
                        case measure => exact nn_downS hlt
                      | true =>
                        cases hv with
                        | false =>
                          have hno2 := hcn (hix.trans rfl)
                          clear hcy hcn
                          replace hix := Lib.hid hix
                          replace hno := Lib.hid hno
                          replace hno2 := Lib.hid hno2
                          go_wp2_with (first
                            | (go_at_call 63; (with_reducible refine hC.out.mono ?_); rintro e w3 ⟨rfl, hb3⟩; replace hb3 := Lib.hid (seq_below hbB.out hb3))
                            | fail)
                          go_roundg (l.length - (i + 1) + 1)
                          case rel => exact ⟨i + 1, rfl, hlt, by first | rw [hwk.out] | go_num, hno2, hb3⟩
                          case measure => exact nn_downS hlt
                        | true =>
                          have hchk := hcy (hix.trans rfl)
                          clear hcy hcn
                          replace hix := Lib.hid hix
                          replace hno := Lib.hid hno
                          replace hchk := Lib.hid hchk
                          go_wp2_with (first
                            | (go_at_call 63; (with_reducible refine hC.out.mono ?_); rintro e w3 ⟨rfl, hb3⟩; have hb4 := seq_below bf.out (seq_below hbB.out hb3); obtain ⟨⟨z0, z1, z2⟩, f0, f1, f2⟩ := three_cells ((hb4.block g3 hg3l.out).trans hbx1.out); replace hb3 := Lib.hid hb3; replace hb4 := Lib.hid hb4)
                            | fail)
                          refine bodyPost_ret (v := .tuple #[.slice none 0 0, .agg #[.int .i64 i, .int .i64 0, .int .i64 142]]) (by simp [results, Try.results19, go_sem, z0, z1, z2]) rfl ⟨_, _, _, hchk.out, rfl, World.ownsRow_nil _ _ _ _, ?_⟩
                          exact set_three (seq_below hb1.out hb4.out) hB3.out _ _ _
                    · have hk0 : decide ((i : Int) < (l.length : Int)) = false := decide_eq_false (by omega)
                      have hH : Hid (∀ j, j < l.length → heavyIx l j = false) := Lib.hid (fun j hj => hno.out j (by omega))
                      have hDS0 := Lib.hid ((CM.ds hCf.out hLd.out).tch (Tch.of_below (S := No) hbw.out))
                      have hND := Lib.hid (no_dang hOrd.out hD.out)
                      have hUn : Hid (∀ n, has l 2 n = true → n ∈ l.map Res.name) := Lib.hid (fun n hn => by obtain ⟨r, hr, _, e⟩ := has_iff.1 hn; exact List.mem_map.2 ⟨r, hr, e⟩)
                      clear hno
                      go_wp2
                      go_loopg [121] (l.length + 1) (fun gg ic wx => ∃ (i : Nat) (K : Fnd), gg = l.length - i + 1 ∧ i ≤ l.length ∧ ic = .int .i64 i ∧ Hid (∀ j, j < i → ringIx l j = false) ∧ Hid (DS w1 wx db sb kb F K) ∧ Hid (GoodK l K) ∧ Hid (∀ x, K x ≠ some (-1)))
                      case atStart => exact ⟨0, _, rfl, Nat.zero_le _, rfl, Lib.hid (fun j hj => absurd hj (Nat.not_lt_zero j)), hDS0, Lib.hid (fun x v h => by cases h), Lib.hid (fun x h => by cases h)⟩
                      case round =>
                        clear hk0 hi hlt
                        obtain ⟨i, K, rfl, hi, rfl, hno, hDS, hGd, hNo⟩ := hrel
                        by_cases hlt : i < l.length
                        · obtain ⟨r, hr⟩ : ∃ r, l[i]? = some r := ⟨_, List.getElem?_eq_getElem hlt⟩
                          obtain ⟨b, off, eo, ec, ta, tc, ra, rc, rfl, hbl, c, hp⟩ := res_at2 hl1.out hr
                          obtain ⟨c0, c1, c2, c3, c4, c5, c6, c7⟩ := c.below hbl hDS.out.bel
                          have hk0 : (i : Int) < (l.length : Int) := nn_lt hlt
                          have hwk := Lib.hid (nn_succ2 hlt hlen)
                          have hix := ringIx_at hr
                          obtain ⟨wB, hwB⟩ : ∃ wB, wB = wr.alloc (.cells #[.int .i64 r.kind, .string r.name, .slice eo r.eps.length ec, .slice ta r.tgts.length tc, .string r.host, .slice ra r.rules.length rc, .string r.route, .bool r.del] 52) := ⟨_, rfl⟩
                          obtain ⟨bk, hbk⟩ : ∃ bk, bk = wr.heap.size := ⟨_, rfl⟩
                          have hbx : wB.heap[bk]? = some (.cells #[.int .i64 r.kind, .string r.name, .slice eo r.eps.length ec, .slice ta r.tgts.length tc, .string r.host, .slice ra r.rules.length rc, .string r.route, .bool r.del] 52 (0, 0)) := by rw [hwB, hbk]; exact heap_alloc_new wr _
                          have hbkl := (Array.getElem?_eq_some_iff.1 hbx).1
                          have tB : Tch No wr wB := by rw [hwB]; exact Tch.alloc No _ _
                          have bB : Below wr.heap.size wr wB := by rw [hwB]; exact alloc_below _ _
                          have b0 : wB.cell? ⟨bk, 0, none⟩ = some (.int .i64 r.kind) := box_at hbx rfl
                          have b1 : wB.cell? ⟨bk, 1, none⟩ = some (.string r.name) := box_at hbx rfl
                          have b2 : wB.cell? ⟨bk, 2, none⟩ = some (.slice eo r.eps.length ec) := box_at hbx rfl
                          have b3 : wB.cell? ⟨bk, 3, none⟩ = some (.slice ta r.tgts.length tc) := box_at hbx rfl
                          have b4 : wB.cell? ⟨bk, 4, none⟩ = some (.string r.host) := box_at hbx rfl
                          have b5 : wB.cell? ⟨bk, 5, none⟩ = some (.slice ra r.rules.length rc) := box_at hbx rfl
                          have b6 : wB.cell? ⟨bk, 6, none⟩ = some (.string r.route) := box_at hbx rfl
                          have b7 : wB.cell? ⟨bk, 7, none⟩ = some (.bool r.del) := box_at hbx rfl
                          have bw1 := hDS.out.bel
                          have hDB := hDS.out.tch tB
                          have hcy := fun h => hcR.out i hD.out hT.out hH.out hno.out hlt h
                          have hcn := fun h => no_upto hno.out (i := i) h
                          have e6 := hDB.c0
                          replace hr := Lib.hid hr
                          replace hp := Lib.hid hp
                          replace c := Lib.hid c
                          replace hbl := Lib.hid hbl
                          replace hbx := Lib.hid hbx
                          replace hbkl := Lib.hid hbkl
                          replace tB := Lib.hid tB
                          replace bB := Lib.hid bB
                          replace bw1 := Lib.hid bw1
                          replace hDB := Lib.hid hDB
                          go_upto_region 39 with fail
                          rw [← hwB, ← hbk]
                          replace hwB := Lib.hid hwB
                          replace hbk := Lib.hid hbk
                          clear c0 c1 c2 c3 c4 c5 c6 c7
                          by_cases k2 : r.kind = 2
                          · have kk2 : (r.kind == 2) = true := beq_iff_eq.2 k2
                            have hn : has l 2 r.name = true := has_iff.2 ⟨r, List.mem_of_getElem? hr.out, k2, rfl⟩
                            have hC := of64_any hSp.out hND.out hUn.out _ K r.name wB (Nat.le_refl _) hDB.out hn hGd.out (fun x hx => absurd hx (hNo.out x))
                            have hri := ring_iff (l := l) (n := r.name)
                            rw [kk2, Bool.true_and] at hix
                            unfold DepOut at hC
                            obtain ⟨dg, hdg⟩ : ∃ d, d = depthG l r.name := ⟨_, rfl⟩
                            rw [← hdg] at hC hri
                            by_cases h8 : 8 < dg
                            · have hchk := hcy (hix.trans (decide_eq_true (hri.1 h8)))
                              clear hcy hcn k2
                              replace hix := Lib.hid hix
                              replace hno := Lib.hid hno
                              replace hchk := Lib.hid hchk
                              replace hC := Lib.hid hC
                              replace hri := Lib.hid hri
                              replace hn := Lib.hid hn
                              replace hdg := Lib.hid hdg
                              go_wp2_with (first
                                | (go_at_call 64; (with_reducible refine hC.out.mono ?_); rintro e w3 ⟨K3, rfl, hD3, hg3', hE3, t3⟩; have hb4 := hD3.bel; obtain ⟨⟨z0, z1, z2⟩, f0, f1, f2⟩ := three_cells ((hb4.block g3 hg3l.out).trans hbx1.out); replace hD3 := Lib.hid hD3; replace hg3' := Lib.hid hg3'; replace hE3 := Lib.hid hE3; replace t3 := Lib.hid t3; replace hb4 := Lib.hid hb4)
                                | fail)
                              refine bodyPost_ret (v := .tuple #[.slice none 0 0, .agg #[.int .i64 i, .int .i64 0, .int .i64 143]]) (by simp [results, Try.results19, go_sem, z0, z1, z2]) rfl ⟨_, _, _, hchk.out, rfl, World.ownsRow_nil _ _ _ _, ?_⟩
                              exact set_three (seq_below hb1.out hb4.out) hB3.out _ _ _
                            · have h8' : decide (8 < dg) = false := decide_eq_false h8
                              have hno2 := hcn (hix.trans (decide_eq_false (fun h => h8 (hri.2 h))))
                              clear hcy hcn k2
                              replace hix := Lib.hid hix
                              replace hno := Lib.hid hno
                              replace hno2 := Lib.hid hno2
                              replace hC := Lib.hid hC
                              replace hri := Lib.hid hri
                              replace hn := Lib.hid hn
                              replace hdg := Lib.hid hdg
                              replace h8 := Lib.hid h8
                              go_wp2_with (first
                                | (go_at_call 64; (with_reducible refine hC.out.mono ?_); rintro e w3 ⟨K3, rfl, hD3, hg3', hE3, t3⟩; have hNo3 : Hid (∀ x, K3 x ≠ some (-1)) := Lib.hid (fun x hx => hNo.out x (hE3.2 x hx)); replace hD3 := Lib.hid hD3; replace hg3' := Lib.hid hg3'; replace hE3 := Lib.hid hE3; replace t3 := Lib.hid t3)
                                | fail)
                              go_roundg (l.length - (i + 1) + 1)
                              case rel => exact ⟨i + 1, K3, rfl, hlt, by first | rw [hwk.out] | go_num, hno2, hD3, hg3', hNo3⟩
                              case measure => exact nn_downS hlt
                          · have kk2 : (r.kind == 2) = false := beq_eq_false_iff_ne.2 k2
                            rw [kk2] at hix
                            have hno2 := hcn (hix.trans rfl)
                            clear hcy hcn k2
                            replace hix := Lib.hid hix
                            replace hno := Lib.hid hno
                            replace hno2 := Lib.hid hno2
                            go_wp2
                            go_roundg (l.length - (i + 1) + 1)
                            case rel => exact ⟨i + 1, K, rfl, hlt, by first | rw [hwk.out] | go_num, hno2, hDB, hGd, hNo⟩
                            case measure => exact nn_downS hlt
                        · have hk0 : decide ((i : Int) < (l.length : Int)) = false := decide_eq_false (by omega)
                          have hR : Hid (∀ j, j < l.length → ringIx l j = false) := Lib.hid (fun j hj => hno.out j (by omega))
                          have hchk := Lib.hid (hcF.out hD.out hT.out hH.out hR.out)
                          have hW := Lib.hid (shadows65 l _ wr (hl1.out.below hDS.out.bel) hM.out (fun r hr => (hOrd.out.kind r hr).2.1))
                          have bwr := Lib.hid hDS.out.bel
                          go_wp2_with (first
                            | (go_at_call 65; (with_reducible refine hW.out.mono ?_); rintro e w3 ⟨oo, oc, rfl, hrow, hb3⟩; have hb4 := seq_below bwr.out hb3; have hgx := (hb4.block g3 hg3l.out).trans hbx1.out; obtain ⟨⟨z0, z1, z2⟩, f0, f1, f2⟩ := three_cells hgx; replace hb3 := Lib.hid hb3; replace hb4 := Lib.hid hb4; replace hrow := Lib.hid hrow; replace hgx := Lib.hid hgx)
                            | fail)
                          refine bodyPost_ret (v := .tuple #[.slice oo (shadowL l l.length).length oc, .agg #[.int .i64 0, .int .i64 0, .int .i64 0]]) (by simp [results, Try.results19, go_sem, z0, z1, z2]) rfl ⟨_, _, _, hchk.out, rfl, ?_, ?_⟩
                          · exact ownsRow_base (ownsRow_tch hrow.out (tch_three _ _ _) (fun g hg e => row_block_ne hrow.out hgx.out (by decide) g hg e)) (Nat.le_trans hb1.out.size bwr.out.size)
                          · exact set_three (seq_below hb1.out hb4.out) hB3.out _ _ _
end Go.Proofs.Ytjepgpocmnijiaa
end
