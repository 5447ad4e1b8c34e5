/- A route, compiled: the program's host. -/
import Derived.Test.YtjepgpocmnijiaaZy32
section

namespace Go.Ck
open Go.Proofs.Ytjepgpocmnijiaa
theorem polP_eq (l : List Res) (n : ByteArray) : l.filter (polP n) = (l.filter (kindP 4)).filter fun r => seq r.route n := by
  rw [List.filter_filter]
  congr 1
  funext r
  unfold polP
  rw [Bool.and_comm]
/-- The permits of the first policies of a list. -/
def permsL (n : ByteArray) (L : List Res) : List Prm := (L.filter fun r => seq r.route n).flatMap fun r => r.rules.map prmOf
theorem permits_eq (l : List Res) (n : ByteArray) : permitsOf l n = permsL n (l.filter (kindP 4)) := by unfold permitsOf permsL; rw [polP_eq]
theorem permsL_yes {n : ByteArray} {L : List Res} {i : Nat} {r : Res} (h : L[i]? = some r) (hr : seq r.route n = true) : permsL n (L.take (i + 1)) = permsL n (L.take i) ++ r.rules.map prmOf := by
  unfold permsL
  rw [filter_take h, if_pos hr, List.flatMap_append]; simp
theorem permsL_no {n : ByteArray} {L : List Res} {i : Nat} {r : Res} (h : L[i]? = some r) (hr : seq r.route n = false) : permsL n (L.take (i + 1)) = permsL n (L.take i) := by
  unfold permsL
  rw [filter_take h, if_neg (by rw [hr]; decide), List.append_nil]
theorem permsL_len {n : ByteArray} : ∀ {L : List Res}, (∀ r ∈ L, r.rules.length ≤ 4194304) → (permsL n L).length ≤ L.length * 4194304
  | [], _ => by simp [permsL]
  | r :: L, h => by
    have ih := permsL_len (n := n) (L := L) (fun x hx => h x (List.mem_cons_of_mem _ hx))
    have h1 := h r List.mem_cons_self
    have e : permsL n (r :: L) = (if seq r.route n = true then r.rules.map prmOf else []) ++ permsL n L := by
      unfold permsL
      rw [List.filter_cons]
      split <;> simp
    rw [e, List.length_append, List.length_cons]
    split
    · rw [List.length_map]; omega
    · simp only [List.length_nil]; omega
end Go.Ck
namespace Go.Proofs.Ytjepgpocmnijiaa
open Go.RowKit Go.Mp Go.Ck Go.Stab
set_option linter.unusedVariables false
set_option maxRecDepth 100000
set_option maxHeartbeats 8000000
/-- The shares that a map holds. -/
structure ShM (w : World) (B kb : Nat) (l : List Res) (M : ByteArray → Option Value) : Prop where
  m : MapS nameKey w kb M
  all : ∀ n, has l 2 n = true → ∃ v, M n = some v
  own : ∀ n v, M n = some v → OwnS w B v (shOf l n)
theorem ShM.below {w w' : World} {B kb : Nat} {l : List Res} {M : ByteArray → Option Value} (h : ShM w B kb l M) (hb : Below w.heap.size w w') : ShM w' B kb l M :=
  ⟨h.m.tch (Tch.of_below (S := No) hb) id, h.all, fun n v q => by
    have := h.own n v q
    exact ⟨ownsRow_tch this.row (Tch.of_below (S := No) hb) (fun _ _ q => q), this.ok⟩⟩
def HostO (w : World) (l : List Res) (r : Res) (e : Ending) (w' : World) : Prop := ∃ x : HV, e = .returned (.agg #[.string x.host, .string x.route, .slice x.eo x.en x.ec, .slice x.po x.pn x.pc]) ∧ HM w' w.heap.size x (hostOf l r) ∧ Below w.heap.size w w'
/-- A host's box while it is filled. -/
structure HB (w wx : World) (rb zb hb : Nat) (cs : Array Value) (r : Res) (ev pv : Value) : Prop where
  bel : Below w.heap.size w wx
  ge : w.heap.size ≤ hb
  d1 : rb ≠ hb
  d2 : zb ≠ hb
  rr : wx.heap[rb]? = some (.cells cs 52)
  z : wx.heap[zb]? = some (.cells #[.string ⟨#[]⟩, .string ⟨#[]⟩, .slice none 0 0, .slice none 0 0] 83)
  h : wx.heap[hb]? = some (.cells #[.string r.host, .string r.name, ev, pv] 83)
theorem HB.below {w wx wy : World} {rb zb hb : Nat} {cs : Array Value} {r : Res} {ev pv : Value} (h : HB w wx rb zb hb cs r ev pv) (hy : Below wx.heap.size wx wy) : HB w wy rb zb hb cs r ev pv :=
  ⟨seq_below h.bel hy, h.ge, h.d1, h.d2, (hy.block rb (Array.getElem?_eq_some_iff.1 h.rr).1).trans h.rr, (hy.block zb (Array.getElem?_eq_some_iff.1 h.z).1).trans h.z, (hy.block hb (Array.getElem?_eq_some_iff.1 h.h).1).trans h.h⟩
/-- What grows a row of another kind, and a store of it. -/
theorem HB.grow {w w5 w7 : World} {rb zb hb e size n : Nat} {cs : Array Value} {r : Res} {ev pv v : Value} {xs : List Value} (h : HB w w5 rb zb hb cs r ev pv) (hr : w5.ownsRow w.heap.size e size v n xs) (h1 : e ≠ 52) (h2 : e ≠ 83) (hg : w5.grownBy w7 v.ownBlock) : HB w w7 rb zb hb cs r ev pv := by
  have t : Tch (fun k => v.ownBlock = some k) w5 w7 := Tch.grown hg (fun k q => .inl q)
  exact ⟨h.bel.grown hg h.bel.size (fun k hk => (hr.lt k hk).1), h.ge, h.d1, h.d2, (t.block rb (Array.getElem?_eq_some_iff.1 h.rr).1 (fun q => row_block_ne hr h.rr h1 rb q rfl)).trans h.rr, (t.block zb (Array.getElem?_eq_some_iff.1 h.z).1 (fun q => row_block_ne hr h.z h2 zb q rfl)).trans h.z, (t.block hb (Array.getElem?_eq_some_iff.1 h.h).1 (fun q => row_block_ne hr h.h h2 hb q rfl)).trans h.h⟩
theorem HB.tset {w wx : World} {rb zb hb : Nat} {cs : Array Value} {r : Res} {ev pv : Value} (h : HB w wx rb zb hb cs r ev pv) (j : Nat) (u : Value) : Tch (fun k => k = hb) wx (wx.setCell ⟨hb, j, none⟩ u) := Tch.setCell (S := fun k => k = hb) wx (p := ⟨hb, j, none⟩) rfl u
theorem HB.set2 {w wx : World} {rb zb hb : Nat} {cs : Array Value} {r : Res} {ev pv : Value} (h : HB w wx rb zb hb cs r ev pv) (u : Value) : HB w (wx.setCell ⟨hb, 2, none⟩ u) rb zb hb cs r u pv :=
  ⟨Tch.below h.bel (h.tset 2 u) h.bel.size (fun k q => by rw [q]; exact h.ge), h.ge, h.d1, h.d2, ((h.tset 2 u).block rb (Array.getElem?_eq_some_iff.1 h.rr).1 h.d1).trans h.rr, ((h.tset 2 u).block zb (Array.getElem?_eq_some_iff.1 h.z).1 h.d2).trans h.z, box_set h.h⟩
theorem HB.set3 {w wx : World} {rb zb hb : Nat} {cs : Array Value} {r : Res} {ev pv : Value} (h : HB w wx rb zb hb cs r ev pv) (u : Value) : HB w (wx.setCell ⟨hb, 3, none⟩ u) rb zb hb cs r ev u :=
  ⟨Tch.below h.bel (h.tset 3 u) h.bel.size (fun k q => by rw [q]; exact h.ge), h.ge, h.d1, h.d2, ((h.tset 3 u).block rb (Array.getElem?_eq_some_iff.1 h.rr).1 h.d1).trans h.rr, ((h.tset 3 u).block zb (Array.getElem?_eq_some_iff.1 h.z).1 h.d2).trans h.z, box_set h.h⟩
theorem entS {w w5 w7 : World} {rb zb hb : Nat} {cs : Array Value} {r : Res} {ev pv v7 : Value} {T : List (EV × Ent)} {xv : EV} {e : Ent} (h : HB w w5 rb zb hb cs r ev pv) (hE : EsT w5 w.heap.size ev T) (hx : EM w5 w.heap.size xv e)
    (hr : w7.ownsRow w.heap.size 85 3 v7 (T.length + 1) ((T.map (·.1)).flatMap evc ++ evc xv)) (hg : w5.grownBy w7 ev.ownBlock) :
    HB w w7 rb zb hb cs r ev pv ∧ HB w (w7.setCell ⟨hb, 2, none⟩ v7) rb zb hb cs r v7 pv ∧ EsT (w7.setCell ⟨hb, 2, none⟩ v7) w.heap.size v7 (T ++ [(xv, e)]) := by
  have h7 := h.grow hE.row (by decide) (by decide) hg
  exact ⟨h7, h7.set2 v7, (hE.push hx hr (Tch.grown hg (fun k q => .inl q))).tch h7.h (by decide) (by decide) (h7.tset 2 v7)⟩
theorem prmS {w w5 w7 : World} {rb zb hb : Nat} {cs : Array Value} {r : Res} {ev pv v7 : Value} {T : List (EV × Ent)} {ps : List Prm} {e : Prm} {Lv : Value} {Ln B : Nat} {Lx : List Value} (h : HB w w5 rb zb hb cs r ev pv) (hE : EsT w5 w.heap.size ev T) (hP : PsM w5 w.heap.size pv ps) (h1 : e.path.size ≤ maxLen) (h2 : e.method.size ≤ maxLen) (hL : w5.ownsRow B 52 8 Lv Ln Lx)
    (hr : w7.ownsRow w.heap.size 99 3 v7 (ps.length + 1) (ps.flatMap pvc ++ pvc e)) (hg : w5.grownBy w7 pv.ownBlock) :
    HB w w7 rb zb hb cs r ev pv ∧ HB w (w7.setCell ⟨hb, 3, none⟩ v7) rb zb hb cs r ev v7 ∧ EsT (w7.setCell ⟨hb, 3, none⟩ v7) w.heap.size ev T ∧ PsM (w7.setCell ⟨hb, 3, none⟩ v7) w.heap.size v7 (ps ++ [e]) ∧ (w7.setCell ⟨hb, 3, none⟩ v7).ownsRow B 52 8 Lv Ln Lx := by
  have h7 := h.grow hP.1 (by decide) (by decide) hg
  have t : Tch (fun k => pv.ownBlock = some k) w5 w7 := Tch.grown hg (fun k q => .inl q)
  have hE7 : EsT w7 w.heap.size ev T := ⟨ownsRow_tch hE.row t (fun k q q2 => rows_apart hE.row hP.1 (by decide) q q2), fun p hp => (hE.el p hp).tch t (fun k q q2 => rows_apart (hE.el p hp).sh.row hP.1 (by decide) q q2)⟩
  exact ⟨h7, h7.set3 v7, hE7.tch h7.h (by decide) (by decide) (h7.tset 3 v7), (hP.push h1 h2 hr).tch h7.h (by decide) (h7.tset 3 v7), ownsRow_tch (ownsRow_tch hL t (fun k q q2 => rows_apart hL hP.1 (by decide) q q2)) (h7.tset 3 v7) (fun k q q2 => row_block_ne (ownsRow_tch hL t (fun k q q2 => rows_apart hL hP.1 (by decide) q q2)) h7.h (by decide) k q q2)⟩
theorem host100 (l : List Res) (r : Res) (xe : Option Addr) (xec : Nat) (xt : Option Addr) (xtc : Nat) (xr : Option Addr) (xrc : Nat) (v : Value) (kb B : Nat) (M : ByteArray → Option Value) (w0 w : World) (hl : ResS w0 v l) (hb0 : Below w0.heap.size w0 w) (hM : SzL l) (hR : ∀ r ∈ l, r.rules.length ≤ 4194304) (hC : Cfg l) (hx : r.rules.length ≤ 4194304) (hP : RP w r (.slice xe r.eps.length xec) (.slice xt r.tgts.length xtc) (.slice xr r.rules.length xrc)) (hS : ShM w B kb l M) (hD : ∀ q ∈ r.rules, has l 2 q.split = true) :
    Calls Try.prog 100 #[v, .map (some kb), .agg #[.int .i64 r.kind, .string r.name, .slice xe r.eps.length xec, .slice xt r.tgts.length xtc, .string r.host, .slice xr r.rules.length xrc, .string r.route, .bool r.del]] w (HostO w l r) := by
  obtain ⟨ao, cap, rfl⟩ := slice_shape hl
  have hlen := hl.1
  have hn64 := hC.n
  obtain ⟨i85, h85, h850, h851, h852⟩ := info_parts info85
  obtain ⟨i99, h99, h990, h991, h992⟩ := info_parts info99
  have hK92 : Hid (∀ w', Below w.heap.size w w' → Calls Try.prog 92 #[.slice ao l.length cap, .int .i64 4] w' (NamedO w0 w' l 4)) := Lib.hid (fun w' hb => named92 l 4 _ w0 w' hl hM (seq_below hb0 hb))
  obtain ⟨W2, hW2⟩ : ∃ W2, W2 = ((w.alloc (.cells #[.int .i64 r.kind, .string r.name, .slice xe r.eps.length xec, .slice xt r.tgts.length xtc, .string r.host, .slice xr r.rules.length xrc, .string r.route, .bool r.del] 52)).alloc (.cells #[.string ⟨#[]⟩, .string ⟨#[]⟩, .slice none 0 0, .slice none 0 0] 83)).alloc (.cells #[.string r.host, .string r.name, .slice none 0 0, .slice none 0 0] 83) := ⟨_, rfl⟩
  obtain ⟨rb, hrb⟩ : ∃ rb, rb = w.heap.size := ⟨_, rfl⟩
  obtain ⟨zb, hzb⟩ : ∃ zb, zb = w.heap.size + 1 := ⟨_, rfl⟩
  obtain ⟨hb, hhb⟩ : ∃ hb, hb = w.heap.size + 1 + 1 := ⟨_, rfl⟩
  obtain ⟨CS, hCS⟩ : ∃ CS : Array Value, CS = #[.int .i64 r.kind, .string r.name, .slice xe r.eps.length xec, .slice xt r.tgts.length xtc, .string r.host, .slice xr r.rules.length xrc, .string r.route, .bool r.del] := ⟨_, rfl⟩
  have hHB0 : Hid (HB w W2 rb zb hb CS r (.slice none 0 0) (.slice none 0 0)) := Lib.hid (by
    have b1 := alloc_below w (.cells #[.int .i64 r.kind, .string r.name, .slice xe r.eps.length xec, .slice xt r.tgts.length xtc, .string r.host, .slice xr r.rules.length xrc, .string r.route, .bool r.del] 52)
    have b2 := alloc_below (w.alloc (.cells #[.int .i64 r.kind, .string r.name, .slice xe r.eps.length xec, .slice xt r.tgts.length xtc, .string r.host, .slice xr r.rules.length xrc, .string r.route, .bool r.del] 52)) (.cells #[.string ⟨#[]⟩, .string ⟨#[]⟩, .slice none 0 0, .slice none 0 0] 83)
    have b3 := alloc_below ((w.alloc (.cells #[.int .i64 r.kind, .string r.name, .slice xe r.eps.length xec, .slice xt r.tgts.length xtc, .string r.host, .slice xr r.rules.length xrc, .string r.route, .bool r.del] 52)).alloc (.cells #[.string ⟨#[]⟩, .string ⟨#[]⟩, .slice none 0 0, .slice none 0 0] 83)) (.cells #[.string r.host, .string r.name, .slice none 0 0, .slice none 0 0] 83)
    have n1 := heap_alloc_new w (.cells #[.int .i64 r.kind, .string r.name, .slice xe r.eps.length xec, .slice xt r.tgts.length xtc, .string r.host, .slice xr r.rules.length xrc, .string r.route, .bool r.del] 52)
    have n2 := heap_alloc_new (w.alloc (.cells #[.int .i64 r.kind, .string r.name, .slice xe r.eps.length xec, .slice xt r.tgts.length xtc, .string r.host, .slice xr r.rules.length xrc, .string r.route, .bool r.del] 52)) (.cells #[.string ⟨#[]⟩, .string ⟨#[]⟩, .slice none 0 0, .slice none 0 0] 83)
    have n3 := heap_alloc_new ((w.alloc (.cells #[.int .i64 r.kind, .string r.name, .slice xe r.eps.length xec, .slice xt r.tgts.length xtc, .string r.host, .slice xr r.rules.length xrc, .string r.route, .bool r.del] 52)).alloc (.cells #[.string ⟨#[]⟩, .string ⟨#[]⟩, .slice none 0 0, .slice none 0 0] 83)) (.cells #[.string r.host, .string r.name, .slice none 0 0, .slice none 0 0] 83)
    have s1 : (w.alloc (.cells #[.int .i64 r.kind, .string r.name, .slice xe r.eps.length xec, .slice xt r.tgts.length xtc, .string r.host, .slice xr r.rules.length xrc, .string r.route, .bool r.del] 52)).heap.size = w.heap.size + 1 := by simp
    have s2 : ((w.alloc (.cells #[.int .i64 r.kind, .string r.name, .slice xe r.eps.length xec, .slice xt r.tgts.length xtc, .string r.host, .slice xr r.rules.length xrc, .string r.route, .bool r.del] 52)).alloc (.cells #[.string ⟨#[]⟩, .string ⟨#[]⟩, .slice none 0 0, .slice none 0 0] 83)).heap.size = w.heap.size + 1 + 1 := by simp
    refine ⟨by rw [hW2]; exact seq_below b1 (seq_below b2 b3), by omega, by omega, by omega, ?_, ?_, ?_⟩
    · rw [hW2, hrb, hCS]
      exact (b3.block _ (by omega)).trans ((b2.block _ (by omega)).trans n1)
    · rw [hW2, hzb]
      exact (b3.block _ (by omega)).trans (by rw [s1] at n2; exact n2)
    · rw [hW2, hhb]
      rw [s2] at n3; exact n3)
  have hE0 : Hid (EsT W2 w.heap.size (.slice none 0 0) []) := Lib.hid ⟨World.ownsRow_nil _ _ _ _, fun p hp => by cases hp⟩
  have r1 : W2.cell? ⟨rb, 5, none⟩ = some (.slice xr r.rules.length xrc) := box_at hHB0.out.rr (j := 5) (by rw [hCS]; rfl)
  replace hCS := Lib.hid hCS
  replace hl := Lib.hid hl
  replace hM := Lib.hid hM
  replace hR := Lib.hid hR
  replace hC := Lib.hid hC
  replace hx := Lib.hid hx
  replace hP := Lib.hid hP
  replace hS := Lib.hid hS
  replace hD := Lib.hid hD
  replace hlen := Lib.hid hlen
  replace hn64 := Lib.hid hn64
  replace h85 := Lib.hid h85
  replace h850 := Lib.hid h850
  replace h851 := Lib.hid h851
  replace h852 := Lib.hid h852
  replace h99 := Lib.hid h99
  replace h990 := Lib.hid h990
  replace h991 := Lib.hid h991
  replace h992 := Lib.hid h992
  replace hW2 := Lib.hid hW2
  replace hrb := Lib.hid hrb
  replace hzb := Lib.hid hzb
  replace hhb := Lib.hid hhb
  replace hb0 := Lib.hid hb0
  go_enter Try.func100, Try.ntmps100
  go_upto_region 2 with fail
  rw [← hW2.out, ← hhb.out, ← hzb.out, ← hrb.out]
  go_wp2
  go_loopg [22] (r.rules.length + 1) (fun gg ic wx => ∃ (i : Nat) (T : List (EV × Ent)) (eo : Option Addr) (ec : Nat), gg = r.rules.length - i + 1 ∧ i ≤ r.rules.length ∧ ic = .int .i64 i ∧ Hid (T.map (·.2) = (r.rules.take i).map (entOf l)) ∧ Hid (HB w wx rb zb hb CS r (.slice eo T.length ec) (.slice none 0 0)) ∧ Hid (EsT wx w.heap.size (.slice eo T.length ec) T))
  case atStart => exact ⟨0, [], none, 0, rfl, Nat.zero_le _, rfl, Lib.hid rfl, hHB0, hE0⟩
  case round =>
    clear hHB0 hE0 r1
    obtain ⟨i, T, eo, ec, rfl, hi, rfl, hTm, hH, hE⟩ := hrel
    by_cases hlt : i < r.rules.length
    · obtain ⟨q, hq⟩ : ∃ q, r.rules[i]? = some q := ⟨_, List.getElem?_eq_getElem hlt⟩
      obtain ⟨b, off, rfl, hbl, c0, c1, c2, c3, z0, z1, z2⟩ := rul_at hP.out.ru hH.out.bel hq
      have hk0 : (i : Int) < (r.rules.length : Int) := nn_lt hlt
      have hwk := Lib.hid (nn_succ2 hlt (by have := hx.out; omega))
      obtain ⟨v0, hv0⟩ := hS.out.all q.split (hD.out q (List.mem_of_getElem? hq))
      obtain ⟨wq, hwq⟩ : ∃ wq, wq = wr.alloc (.cells #[.string q.path, .string q.method, .string q.split, .bool q.allow] 101) := ⟨_, rfl⟩
      obtain ⟨qb, hqb⟩ : ∃ qb, qb = wr.heap.size := ⟨_, rfl⟩
      have hbq : Below wr.heap.size wr wq := by rw [hwq]; exact alloc_below _ _
      have qbx : wq.heap[qb]? = some (.cells #[.string q.path, .string q.method, .string q.split, .bool q.allow] 101) := by rw [hwq, hqb]; exact heap_alloc_new wr _
      have hHq := Lib.hid (hH.out.below hbq)
      have hEq := Lib.hid (hE.out.below hbq)
      have hSq := Lib.hid (hS.out.below hHq.out.bel)
      have hTl : T.length = i := by have := congrArg List.length hTm.out; rw [List.length_map, List.length_map, List.length_take] at this; omega
      have hOv := hSq.out.own _ _ hv0
      have hv0' := hv0
      obtain ⟨so, sc, rfl⟩ := ownsRow_shape hOv.row
      have hsl := shOf_len hC.out q.split
      have hcells : Hid (∀ w', Below wq.heap.size wq w' → w'.cell? ⟨hb, 2, none⟩ = some (.slice eo T.length ec) ∧ w'.cell? ⟨qb, 0, none⟩ = some (.string q.path) ∧ w'.cell? ⟨qb, 1, none⟩ = some (.string q.method) ∧ w'.cell? ⟨qb, 2, none⟩ = some (.string q.split) ∧ (Instr.lookup 143 (.map (some kb)) (.string q.split) false).run Try.prog w' = .ok (.slice so (shOf l q.split).length sc) w') := Lib.hid (fun w' h => by
        have hx' := (hHq.out.below h).h
        have hb' := (h.block qb (Array.getElem?_eq_some_iff.1 qbx).1).trans qbx
        have hm' := (hSq.out.below h).m.look (t := 143) (e := 67) Try.underlying143 (z := .slice none 0 0) (by kernel_rfl) false q.split
        rw [hv0'] at hm'
        exact ⟨box_at hx' (j := 2) rfl, box_at hb' (j := 0) rfl, box_at hb' (j := 1) rfl, box_at hb' (j := 2) rfl, hm'⟩)
      have hkl : kb < w.heap.size := hS.out.m.lt
      have hs7 : Hid (∀ w5 w7, Below wq.heap.size wq w5 → EsT w5 w.heap.size (.slice eo T.length ec) T → Tch (fun k => (Value.slice eo T.length ec).ownBlock = some k) w5 w7 → w7.cell? ⟨qb, 0, none⟩ = some (.string q.path) ∧ w7.cell? ⟨qb, 1, none⟩ = some (.string q.method) ∧ w7.cell? ⟨qb, 2, none⟩ = some (.string q.split) ∧ (Instr.lookup 143 (.map (some kb)) (.string q.split) false).run Try.prog w7 = .ok (.slice so (shOf l q.split).length sc) w7) := Lib.hid (fun w5 w7 h hE t => by
        have hb' := (h.block qb (Array.getElem?_eq_some_iff.1 qbx).1).trans qbx
        have hb7 := (t.block qb (Array.getElem?_eq_some_iff.1 hb').1 (fun q => row_block_ne hE.row hb' (by decide) qb q rfl)).trans hb'
        have hm' := ((hSq.out.below h).m.tch t (fun q => by have := (hE.row.lt kb q).1; omega)).look (t := 143) (e := 67) Try.underlying143 (z := .slice none 0 0) (by kernel_rfl) false q.split
        rw [hv0'] at hm'
        exact ⟨box_at hb7 (j := 0) rfl, box_at hb7 (j := 1) rfl, box_at hb7 (j := 2) rfl, hm'⟩)
      have hs8 : Hid (∀ w5 w7 v7, Below wq.heap.size wq w5 → EsT w5 w.heap.size (.slice eo T.length ec) T → Tch (fun k => (Value.slice eo T.length ec).ownBlock = some k) w5 w7 → HB w w7 rb zb hb CS r (.slice eo T.length ec) (.slice none 0 0) → (w7.setCell ⟨hb, 2, none⟩ v7).cell? ⟨qb, 0, none⟩ = some (.string q.path) ∧ (w7.setCell ⟨hb, 2, none⟩ v7).cell? ⟨qb, 1, none⟩ = some (.string q.method) ∧ (w7.setCell ⟨hb, 2, none⟩ v7).cell? ⟨qb, 2, none⟩ = some (.string q.split) ∧ (Instr.lookup 143 (.map (some kb)) (.string q.split) false).run Try.prog (w7.setCell ⟨hb, 2, none⟩ v7) = .ok (.slice so (shOf l q.split).length sc) (w7.setCell ⟨hb, 2, none⟩ v7)) := Lib.hid (fun w5 w7 v7 h hE t h7 => by
        have hb' := (h.block qb (Array.getElem?_eq_some_iff.1 qbx).1).trans qbx
        have hb7 := (t.block qb (Array.getElem?_eq_some_iff.1 hb').1 (fun q => row_block_ne hE.row hb' (by decide) qb q rfl)).trans hb'
        have hb8 := ((h7.tset 2 v7).block qb (Array.getElem?_eq_some_iff.1 hb7).1 (fun q => by rw [q, h7.h] at hb7; have h9 := congrArg (fun o => match o with | some (Obj.cells _ t _) => t | _ => 0) hb7; simp at h9)).trans hb7
        have hge := h7.ge
        have hm' := (((hSq.out.below h).m.tch t (fun q => by have := (hE.row.lt kb q).1; omega)).tch (h7.tset 2 v7) (fun q => by omega)).look (t := 143) (e := 67) Try.underlying143 (z := .slice none 0 0) (by kernel_rfl) false q.split
        rw [hv0'] at hm'
        exact ⟨box_at hb8 (j := 0) rfl, box_at hb8 (j := 1) rfl, box_at hb8 (j := 2) rfl, hm'⟩)
      have hcall : Hid (∀ w', Below wq.heap.size wq w' → Calls Try.prog 41 #[.slice so (shOf l q.split).length sc] w' (StepsO w' (shOf l q.split))) := Lib.hid (fun w' h => steps41 (shOf l q.split) _ w' (OwnS.reads ((hSq.out.below h).own _ _ hv0) (by omega)) (by omega))
      have hcur : Hid (Below wq.heap.size wq wq.drew) := Lib.hid (drew_below wq 1)
      replace hq := Lib.hid hq
      replace hv0 := Lib.hid hv0
      replace hv0' := Lib.hid hv0'
      replace hOv := Lib.hid hOv
      replace hsl := Lib.hid hsl
      replace hTl := Lib.hid hTl
      replace qbx := Lib.hid qbx
      replace hbq := Lib.hid hbq
      go_upto_region 5 with fail
      rw [← hwq, ← hqb]
      replace hwq := Lib.hid hwq
      replace hqb := Lib.hid hqb
      clear c0 c1 c2 c3
      have hz0 := Lib.hid z0
      have hz1 := Lib.hid z1
      have htk : Hid ((r.rules.take (i + 1)).map (entOf l) = (r.rules.take i).map (entOf l) ++ [entOf l q]) := Lib.hid (by rw [List.take_add_one, hq.out, List.map_append]; rfl)
      clear z0 z1 z2
      obtain ⟨p0, _⟩ := hcells.out wq.drew hcur.out
      refine wp_region_noPanic ?_
      refine wp_region_held_drew (S := fun w' => w'.cell? ⟨qb, 0, none⟩ = some (.string q.path) ∧ w'.cell? ⟨qb, 1, none⟩ = some (.string q.method) ∧ w'.cell? ⟨qb, 2, none⟩ = some (.string q.split) ∧ (Instr.lookup 143 (.map (some kb)) (.string q.split) false).run Try.prog w' = .ok (.slice so (shOf l q.split).length sc) w') (by kernel_rfl) ?_ (fun hHeld => ?_)
      · (try dsimp only)
        all_goals (first | exact (hcells.out _ hcur.out).2 | exact (hcells.out _ (seq_below hcur.out (alloc_below _ _))).2 | exact s7.out | exact s8.out | fail)
      refine wpAnyH_take (i := 0) (v := ?v0) rfl (by kernel_rfl) (by kernel_rfl) (by kernel_rfl) (fun _ _ _ h => h) (Or.inl ⟨by rfl, ?hy0⟩) (by assumption) ?_
      case hy0 =>
        intro w hSw
        (try dsimp only at hSw)
        go_simp
        all_goals with_reducible rfl
      try simp only [Act.put, List.setIfInBounds_toArray]
      refine wpAnyH_take (i := 2) (v := ?v1) rfl (by kernel_rfl) (by kernel_rfl) (by kernel_rfl) (fun _ _ _ h => h) (Or.inl ⟨by rfl, ?hy1⟩) (by assumption) ?_
      case hy1 =>
        intro w hSw
        (try dsimp only at hSw)
        go_simp
        all_goals with_reducible rfl
      try simp only [Act.put]
      refine wpAnyH_take (i := 3) (v := ?v2) rfl (by kernel_rfl) (by kernel_rfl) (by kernel_rfl) (fun _ _ _ h => h) (Or.inl ⟨by rfl, ?hy2⟩) (by assumption) ?_
      case hy2 =>
        intro w hSw
        (try dsimp only at hSw)
        go_simp
        all_goals with_reducible rfl
      try simp only [Act.put]
      refine wpAnyH_take (i := 4) (v := ?v3) rfl (by kernel_rfl) (by kernel_rfl) (by kernel_rfl) (fun _ _ _ h => h) (Or.inl ⟨by rfl, ?hy3⟩) (by assumption) ?_
      case hy3 =>
        intro w hSw
        (try dsimp only at hSw)
        go_simp
        all_goals with_reducible rfl
      try simp only [Act.put]
      refine wpAnyH_take (i := 5) (v := ?v4) rfl (by kernel_rfl) (by kernel_rfl) (by kernel_rfl) (fun _ _ _ h => h) (Or.inl ⟨by rfl, ?hy4⟩) (by assumption) ?_
      case hy4 =>
        intro w hSw
        (try dsimp only at hSw)
        go_simp
        all_goals with_reducible rfl
      try simp only [Act.put]
      refine wpAnyH_take (i := 6) (v := ?v5) rfl (by kernel_rfl) (by kernel_rfl) (by kernel_rfl) (fun _ _ _ h => h) (Or.inl ⟨by rfl, ?hy5⟩) (by assumption) ?_
      case hy5 =>
        intro w hSw
        (try dsimp only at hSw)
        go_simp
        all_goals with_reducible rfl
      try simp only [Act.put]
      refine wpAnyH_take (i := 7) (v := ?v6) rfl (by kernel_rfl) (by kernel_rfl) (by kernel_rfl) (fun _ _ _ h => h) (Or.inl ⟨by rfl, ?hy6⟩) (by assumption) ?_
      case hy6 =>
        intro w hSw
        (try dsimp only at hSw)
        go_simp
        all_goals with_reducible rfl
      try simp only [Act.put]
      refine wpAnyH_take (i := 8) (v := ?v7) rfl (by kernel_rfl) (by kernel_rfl) (by kernel_rfl) (fun _ _ _ h => h) (Or.inl ⟨by rfl, ?hy7⟩) (by assumption) ?_
      case hy7 =>
        intro w hSw
        (try dsimp only at hSw)
        go_simp
        all_goals with_reducible rfl
      try simp only [Act.put]
      refine wpAnyH_ready (rs := [1, 9]) (by kernel_rfl) (by simp) ?_
      refine AllReadyH.cons rfl (fun K hK => ?_) ?_
      go_simp
      refine hK.out _ _ ?_ (fun hHeld => ?_)
      · (try dsimp only)
        all_goals (first | exact (hcells.out _ hcur.out).2 | exact (hcells.out _ (seq_below hcur.out (alloc_below _ _))).2 | exact s7.out | exact s8.out | fail)
      clear hK K
      try simp only [Act.put, List.setIfInBounds_toArray, List.set_cons_zero, List.set_cons_succ]
      refine wpAnyH_ready (rs := [9]) (by kernel_rfl) (by simp) ?_
      refine AllReadyH.cons rfl (fun K hK => ?_) ?_
      go_simp
      refine hK.out _ _ ?_ (fun hHeld => ?_)
      · (try dsimp only)
        all_goals (first | exact (hcells.out _ hcur.out).2 | exact (hcells.out _ (seq_below hcur.out (alloc_below _ _))).2 | exact s7.out | exact s8.out | fail)
      clear hK K
      try simp only [Act.put, List.setIfInBounds_toArray, List.set_cons_zero, List.set_cons_succ]
      refine wpAnyH_ready (rs := [10]) (by kernel_rfl) (by simp) ?_
      refine AllReadyH.cons rfl (fun K hK => ?_) ?_
      go_simp
      (first | (go_at_call 41; (with_reducible refine (hcall.out _ hcur.out).mono ?_); rintro e w5 ⟨v5, rfl, hO5, hb5⟩; obtain ⟨so5, sc5, rfl⟩ := ownsRow_shape hO5.row; have hX5 : Hid (EM w5 w.heap.size ⟨q.path, q.method, so5, (stepsS (shOf l q.split)).length, sc5⟩ (entOf l q)) := Lib.hid ⟨rfl, rfl, hz0.out, hz1.out, ⟨ownsRow_base hO5.row (Nat.le_trans hHq.out.bel.size hcur.out.size), hO5.ok⟩⟩; replace hcur := Lib.hid (seq_below hcur.out hb5); have hE5 := Lib.hid (hEq.out.below hcur.out); have hH5 := Lib.hid (hHq.out.below hcur.out); obtain ⟨e0, _⟩ := hcells.out w5 hcur.out; obtain ⟨g0, _⟩ := hcells.out (w5.alloc (.cells #[.string q.path, .string q.method, .slice so5 (stepsS (shOf l q.split)).length sc5] 85)) (seq_below hcur.out (alloc_below _ _)); clear hO5 hb5) | (refine step_append_us (by rfl) _ _ 80 (by rfl) w.heap.size 85 i85 _ 3 56 Try.underlying80 h85.out h850.out h851.out h852.out rfl (by decide) _ T.length ((T.map (·.1)).flatMap evc) (by rfl) hE5.out.row 1 (by rfl) rfl (by simp [Value.oneCell']) (by have := hTl.out; have := hx.out; unfold maxLen; omega) (by have := hTl.out; have := hx.out; omega) hH5.out.bel.size ?_; intro v7 w7 hr7 hg7 hl7; obtain ⟨o7, c7, rfl⟩ := ownsRow_shape hr7; obtain ⟨hH7, hHf, hEf⟩ := entS hH5.out hE5.out hX5.out hr7 hg7; have t7 : Tch (fun k => (Value.slice eo T.length ec).ownBlock = some k) w5 w7 := Tch.grown hg7 (fun k q => .inl q); have s7 := Lib.hid (hs7.out w5 w7 hcur.out hE5.out t7); have s8 := Lib.hid (hs8.out w5 w7 (.slice o7 (T.length + 1) c7) hcur.out hE5.out t7 hH7); clear t7; have q7 : w7.cell? ⟨hb, 2, none⟩ = some (.slice eo T.length ec) := box_at hH7.h (j := 2) rfl; have f7 : w7.frozen? ⟨hb, 2, none⟩ = false := frozen_of_row _ hb 2 _ _ hH7.h; replace hHf := Lib.hid hHf; replace hEf := Lib.hid hEf; clear hr7 hg7 hl7 hH7) | fail)
      refine hK.out _ _ ?_ (fun hHeld => ?_)
      · (try dsimp only)
        all_goals (first | exact (hcells.out _ hcur.out).2 | exact (hcells.out _ (seq_below hcur.out (alloc_below _ _))).2 | exact s7.out | exact s8.out | fail)
      clear hK K
      try simp only [Act.put, List.setIfInBounds_toArray, List.set_cons_zero, List.set_cons_succ]
      refine wpAnyH_take (i := 11) (v := ?v8) rfl (by kernel_rfl) (by kernel_rfl) (by kernel_rfl) (fun _ _ _ h => h) (Or.inl ⟨by rfl, ?hy8⟩) (by assumption) ?_
      case hy8 =>
        intro w hSw
        (try dsimp only at hSw)
        go_simp
        all_goals with_reducible rfl
      try simp only [Act.put, List.setIfInBounds_toArray]
      refine wpAnyH_ready (rs := [12]) (by kernel_rfl) (by simp) ?_
      refine AllReadyH.cons rfl (fun K hK => ?_) ?_
      go_simp
      refine hK.out _ _ ?_ (fun hHeld => ?_)
      · (try dsimp only)
        all_goals (first | exact (hcells.out _ hcur.out).2 | exact (hcells.out _ (seq_below hcur.out (alloc_below _ _))).2 | exact s7.out | exact s8.out | fail)
      clear hK K
      try simp only [Act.put, List.setIfInBounds_toArray, List.set_cons_zero, List.set_cons_succ]
      refine wpAnyH_ready (rs := [13]) (by kernel_rfl) (by simp) ?_
      refine AllReadyH.cons rfl (fun K hK => ?_) ?_
      (first | (go_at_call 41; (with_reducible refine (hcall.out _ hcur.out).mono ?_); rintro e w5 ⟨v5, rfl, hO5, hb5⟩; obtain ⟨so5, sc5, rfl⟩ := ownsRow_shape hO5.row; have hX5 : Hid (EM w5 w.heap.size ⟨q.path, q.method, so5, (stepsS (shOf l q.split)).length, sc5⟩ (entOf l q)) := Lib.hid ⟨rfl, rfl, hz0.out, hz1.out, ⟨ownsRow_base hO5.row (Nat.le_trans hHq.out.bel.size hcur.out.size), hO5.ok⟩⟩; replace hcur := Lib.hid (seq_below hcur.out hb5); have hE5 := Lib.hid (hEq.out.below hcur.out); have hH5 := Lib.hid (hHq.out.below hcur.out); obtain ⟨e0, _⟩ := hcells.out w5 hcur.out; obtain ⟨g0, _⟩ := hcells.out (w5.alloc (.cells #[.string q.path, .string q.method, .slice so5 (stepsS (shOf l q.split)).length sc5] 85)) (seq_below hcur.out (alloc_below _ _)); clear hO5 hb5) | (refine step_append_us (by rfl) _ _ 80 (by rfl) w.heap.size 85 i85 _ 3 56 Try.underlying80 h85.out h850.out h851.out h852.out rfl (by decide) _ T.length ((T.map (·.1)).flatMap evc) (by rfl) hE5.out.row 1 (by rfl) rfl (by simp [Value.oneCell']) (by have := hTl.out; have := hx.out; unfold maxLen; omega) (by have := hTl.out; have := hx.out; omega) hH5.out.bel.size ?_; intro v7 w7 hr7 hg7 hl7; obtain ⟨o7, c7, rfl⟩ := ownsRow_shape hr7; obtain ⟨hH7, hHf, hEf⟩ := entS hH5.out hE5.out hX5.out hr7 hg7; have t7 : Tch (fun k => (Value.slice eo T.length ec).ownBlock = some k) w5 w7 := Tch.grown hg7 (fun k q => .inl q); have s7 := Lib.hid (hs7.out w5 w7 hcur.out hE5.out t7); have s8 := Lib.hid (hs8.out w5 w7 (.slice o7 (T.length + 1) c7) hcur.out hE5.out t7 hH7); clear t7; have q7 : w7.cell? ⟨hb, 2, none⟩ = some (.slice eo T.length ec) := box_at hH7.h (j := 2) rfl; have f7 : w7.frozen? ⟨hb, 2, none⟩ = false := frozen_of_row _ hb 2 _ _ hH7.h; replace hHf := Lib.hid hHf; replace hEf := Lib.hid hEf; clear hr7 hg7 hl7 hH7) | fail)
      refine hK.out _ _ ?_ (fun hHeld => ?_)
      · (try dsimp only)
        all_goals (first | exact (hcells.out _ hcur.out).2 | exact (hcells.out _ (seq_below hcur.out (alloc_below _ _))).2 | exact s7.out | exact s8.out | fail)
      clear hK K
      try simp only [Act.put, List.setIfInBounds_toArray]
      refine wpAnyH_take (i := 14) (v := ?v9) rfl (by kernel_rfl) (by kernel_rfl) (by kernel_rfl) (fun _ _ _ h => h) (Or.inl ⟨by rfl, ?hy9⟩) (by assumption) ?_
      case hy9 =>
        intro w hSw
        (try dsimp only at hSw)
        go_simp
        all_goals with_reducible rfl
      try simp only [Act.put]
      refine wpAnyH_ready (rs := [15]) (by kernel_rfl) (by simp) ?_
      refine AllReadyH.cons rfl (fun K hK => ?_) ?_
      go_simp
      refine hK.out _ _ ?_ (fun hHeld => ?_)
      · (try dsimp only)
        all_goals (first | exact (hcells.out _ hcur.out).2 | exact (hcells.out _ (seq_below hcur.out (alloc_below _ _))).2 | exact s7.out | exact s8.out | fail)
      clear hK K
      try simp only [Act.put, List.setIfInBounds_toArray, List.set_cons_zero, List.set_cons_succ]
      refine wpAnyH_done (by kernel_rfl) ?_ _
      refine NoPanic.normal ?_
      rotate_left 1
      exact AllReadyH.nil
      exact AllReadyH.nil
      exact AllReadyH.nil
      exact AllReadyH.nil
      exact AllReadyH.nil
      refine AllReadyH.cons rfl (fun K hK => ?_) ?_
      go_simp
      refine hK.out _ _ ?_ (fun hHeld => ?_)
      · (try dsimp only)
        all_goals (first | exact (hcells.out _ hcur.out).2 | exact (hcells.out _ (seq_below hcur.out (alloc_below _ _))).2 | exact s7.out | exact s8.out | fail)
      clear hK K
      try simp only [Act.put, List.setIfInBounds_toArray, List.set_cons_zero, List.set_cons_succ]
      refine wpAnyH_ready (rs := [1, 10]) (by kernel_rfl) (by simp) ?_
      refine AllReadyH.cons rfl (fun K hK => ?_) ?_
      go_simp
      refine hK.out _ _ ?_ (fun hHeld => ?_)
      · (try dsimp only)
        all_goals (first | exact (hcells.out _ hcur.out).2 | exact (hcells.out _ (seq_below hcur.out (alloc_below _ _))).2 | exact s7.out | exact s8.out | fail)
      clear hK K
      try simp only [Act.put, List.setIfInBounds_toArray, List.set_cons_zero, List.set_cons_succ]
      refine wpAnyH_ready (rs := [10]) (by kernel_rfl) (by simp) ?_
      refine AllReadyH.cons rfl (fun K hK => ?_) ?_
      go_simp
      (first | (go_at_call 41; (with_reducible refine (hcall.out _ hcur.out).mono ?_); rintro e w5 ⟨v5, rfl, hO5, hb5⟩; obtain ⟨so5, sc5, rfl⟩ := ownsRow_shape hO5.row; have hX5 : Hid (EM w5 w.heap.size ⟨q.path, q.method, so5, (stepsS (shOf l q.split)).length, sc5⟩ (entOf l q)) := Lib.hid ⟨rfl, rfl, hz0.out, hz1.out, ⟨ownsRow_base hO5.row (Nat.le_trans hHq.out.bel.size hcur.out.size), hO5.ok⟩⟩; replace hcur := Lib.hid (seq_below hcur.out hb5); have hE5 := Lib.hid (hEq.out.below hcur.out); have hH5 := Lib.hid (hHq.out.below hcur.out); obtain ⟨e0, _⟩ := hcells.out w5 hcur.out; obtain ⟨g0, _⟩ := hcells.out (w5.alloc (.cells #[.string q.path, .string q.method, .slice so5 (stepsS (shOf l q.split)).length sc5] 85)) (seq_below hcur.out (alloc_below _ _)); clear hO5 hb5) | (refine step_append_us (by rfl) _ _ 80 (by rfl) w.heap.size 85 i85 _ 3 56 Try.underlying80 h85.out h850.out h851.out h852.out rfl (by decide) _ T.length ((T.map (·.1)).flatMap evc) (by rfl) hE5.out.row 1 (by rfl) rfl (by simp [Value.oneCell']) (by have := hTl.out; have := hx.out; unfold maxLen; omega) (by have := hTl.out; have := hx.out; omega) hH5.out.bel.size ?_; intro v7 w7 hr7 hg7 hl7; obtain ⟨o7, c7, rfl⟩ := ownsRow_shape hr7; obtain ⟨hH7, hHf, hEf⟩ := entS hH5.out hE5.out hX5.out hr7 hg7; have t7 : Tch (fun k => (Value.slice eo T.length ec).ownBlock = some k) w5 w7 := Tch.grown hg7 (fun k q => .inl q); have s7 := Lib.hid (hs7.out w5 w7 hcur.out hE5.out t7); have s8 := Lib.hid (hs8.out w5 w7 (.slice o7 (T.length + 1) c7) hcur.out hE5.out t7 hH7); clear t7; have q7 : w7.cell? ⟨hb, 2, none⟩ = some (.slice eo T.length ec) := box_at hH7.h (j := 2) rfl; have f7 : w7.frozen? ⟨hb, 2, none⟩ = false := frozen_of_row _ hb 2 _ _ hH7.h; replace hHf := Lib.hid hHf; replace hEf := Lib.hid hEf; clear hr7 hg7 hl7 hH7) | fail)
      refine hK.out _ _ ?_ (fun hHeld => ?_)
      · (try dsimp only)
        all_goals (first | exact (hcells.out _ hcur.out).2 | exact (hcells.out _ (seq_below hcur.out (alloc_below _ _))).2 | exact s7.out | exact s8.out | fail)
      clear hK K
      try simp only [Act.put, List.setIfInBounds_toArray, List.set_cons_zero, List.set_cons_succ]
      refine wpAnyH_take (i := 11) (v := ?v10) rfl (by kernel_rfl) (by kernel_rfl) (by kernel_rfl) (fun _ _ _ h => h) (Or.inl ⟨by rfl, ?hy10⟩) (by assumption) ?_
      case hy10 =>
        intro w hSw
        (try dsimp only at hSw)
        go_simp
        all_goals with_reducible rfl
      try simp only [Act.put, List.setIfInBounds_toArray]
      refine wpAnyH_ready (rs := [12]) (by kernel_rfl) (by simp) ?_
      refine AllReadyH.cons rfl (fun K hK => ?_) ?_
      go_simp
      refine hK.out _ _ ?_ (fun hHeld => ?_)
      · (try dsimp only)
        all_goals (first | exact (hcells.out _ hcur.out).2 | exact (hcells.out _ (seq_below hcur.out (alloc_below _ _))).2 | exact s7.out | exact s8.out | fail)
      clear hK K
      try simp only [Act.put, List.setIfInBounds_toArray, List.set_cons_zero, List.set_cons_succ]
      refine wpAnyH_ready (rs := [13]) (by kernel_rfl) (by simp) ?_
      refine AllReadyH.cons rfl (fun K hK => ?_) ?_
      (first | (go_at_call 41; (with_reducible refine (hcall.out _ hcur.out).mono ?_); rintro e w5 ⟨v5, rfl, hO5, hb5⟩; obtain ⟨so5, sc5, rfl⟩ := ownsRow_shape hO5.row; have hX5 : Hid (EM w5 w.heap.size ⟨q.path, q.method, so5, (stepsS (shOf l q.split)).length, sc5⟩ (entOf l q)) := Lib.hid ⟨rfl, rfl, hz0.out, hz1.out, ⟨ownsRow_base hO5.row (Nat.le_trans hHq.out.bel.size hcur.out.size), hO5.ok⟩⟩; replace hcur := Lib.hid (seq_below hcur.out hb5); have hE5 := Lib.hid (hEq.out.below hcur.out); have hH5 := Lib.hid (hHq.out.below hcur.out); obtain ⟨e0, _⟩ := hcells.out w5 hcur.out; obtain ⟨g0, _⟩ := hcells.out (w5.alloc (.cells #[.string q.path, .string q.method, .slice so5 (stepsS (shOf l q.split)).length sc5] 85)) (seq_below hcur.out (alloc_below _ _)); clear hO5 hb5) | (refine step_append_us (by rfl) _ _ 80 (by rfl) w.heap.size 85 i85 _ 3 56 Try.underlying80 h85.out h850.out h851.out h852.out rfl (by decide) _ T.length ((T.map (·.1)).flatMap evc) (by rfl) hE5.out.row 1 (by rfl) rfl (by simp [Value.oneCell']) (by have := hTl.out; have := hx.out; unfold maxLen; omega) (by have := hTl.out; have := hx.out; omega) hH5.out.bel.size ?_; intro v7 w7 hr7 hg7 hl7; obtain ⟨o7, c7, rfl⟩ := ownsRow_shape hr7; obtain ⟨hH7, hHf, hEf⟩ := entS hH5.out hE5.out hX5.out hr7 hg7; have t7 : Tch (fun k => (Value.slice eo T.length ec).ownBlock = some k) w5 w7 := Tch.grown hg7 (fun k q => .inl q); have s7 := Lib.hid (hs7.out w5 w7 hcur.out hE5.out t7); have s8 := Lib.hid (hs8.out w5 w7 (.slice o7 (T.length + 1) c7) hcur.out hE5.out t7 hH7); clear t7; have q7 : w7.cell? ⟨hb, 2, none⟩ = some (.slice eo T.length ec) := box_at hH7.h (j := 2) rfl; have f7 : w7.frozen? ⟨hb, 2, none⟩ = false := frozen_of_row _ hb 2 _ _ hH7.h; replace hHf := Lib.hid hHf; replace hEf := Lib.hid hEf; clear hr7 hg7 hl7 hH7) | fail)
      refine hK.out _ _ ?_ (fun hHeld => ?_)
      · (try dsimp only)
        all_goals (first | exact (hcells.out _ hcur.out).2 | exact (hcells.out _ (seq_below hcur.out (alloc_below _ _))).2 | exact s7.out | exact s8.out | fail)
      clear hK K
      try simp only [Act.put, List.setIfInBounds_toArray]
      refine wpAnyH_take (i := 14) (v := ?v11) rfl (by kernel_rfl) (by kernel_rfl) (by kernel_rfl) (fun _ _ _ h => h) (Or.inl ⟨by rfl, ?hy11⟩) (by assumption) ?_
      case hy11 =>
        intro w hSw
        (try dsimp only at hSw)
        go_simp
        all_goals with_reducible rfl
      try simp only [Act.put]
      refine wpAnyH_ready (rs := [15]) (by kernel_rfl) (by simp) ?_
      refine AllReadyH.cons rfl (fun K hK => ?_) ?_
      go_simp
      refine hK.out _ _ ?_ (fun hHeld => ?_)
      · (try dsimp only)
        all_goals (first | exact (hcells.out _ hcur.out).2 | exact (hcells.out _ (seq_below hcur.out (alloc_below _ _))).2 | exact s7.out | exact s8.out | fail)
      clear hK K
      try simp only [Act.put, List.setIfInBounds_toArray, List.set_cons_zero, List.set_cons_succ]
      refine wpAnyH_done (by kernel_rfl) ?_ _
      refine NoPanic.normal ?_
      rotate_left 1
      exact AllReadyH.nil
      exact AllReadyH.nil
      exact AllReadyH.nil
      exact AllReadyH.nil
      refine AllReadyH.cons rfl (fun K hK => ?_) ?_
      go_simp
      (first | (go_at_call 41; (with_reducible refine (hcall.out _ hcur.out).mono ?_); rintro e w5 ⟨v5, rfl, hO5, hb5⟩; obtain ⟨so5, sc5, rfl⟩ := ownsRow_shape hO5.row; have hX5 : Hid (EM w5 w.heap.size ⟨q.path, q.method, so5, (stepsS (shOf l q.split)).length, sc5⟩ (entOf l q)) := Lib.hid ⟨rfl, rfl, hz0.out, hz1.out, ⟨ownsRow_base hO5.row (Nat.le_trans hHq.out.bel.size hcur.out.size), hO5.ok⟩⟩; replace hcur := Lib.hid (seq_below hcur.out hb5); have hE5 := Lib.hid (hEq.out.below hcur.out); have hH5 := Lib.hid (hHq.out.below hcur.out); obtain ⟨e0, _⟩ := hcells.out w5 hcur.out; obtain ⟨g0, _⟩ := hcells.out (w5.alloc (.cells #[.string q.path, .string q.method, .slice so5 (stepsS (shOf l q.split)).length sc5] 85)) (seq_below hcur.out (alloc_below _ _)); clear hO5 hb5) | (refine step_append_us (by rfl) _ _ 80 (by rfl) w.heap.size 85 i85 _ 3 56 Try.underlying80 h85.out h850.out h851.out h852.out rfl (by decide) _ T.length ((T.map (·.1)).flatMap evc) (by rfl) hE5.out.row 1 (by rfl) rfl (by simp [Value.oneCell']) (by have := hTl.out; have := hx.out; unfold maxLen; omega) (by have := hTl.out; have := hx.out; omega) hH5.out.bel.size ?_; intro v7 w7 hr7 hg7 hl7; obtain ⟨o7, c7, rfl⟩ := ownsRow_shape hr7; obtain ⟨hH7, hHf, hEf⟩ := entS hH5.out hE5.out hX5.out hr7 hg7; have t7 : Tch (fun k => (Value.slice eo T.length ec).ownBlock = some k) w5 w7 := Tch.grown hg7 (fun k q => .inl q); have s7 := Lib.hid (hs7.out w5 w7 hcur.out hE5.out t7); have s8 := Lib.hid (hs8.out w5 w7 (.slice o7 (T.length + 1) c7) hcur.out hE5.out t7 hH7); clear t7; have q7 : w7.cell? ⟨hb, 2, none⟩ = some (.slice eo T.length ec) := box_at hH7.h (j := 2) rfl; have f7 : w7.frozen? ⟨hb, 2, none⟩ = false := frozen_of_row _ hb 2 _ _ hH7.h; replace hHf := Lib.hid hHf; replace hEf := Lib.hid hEf; clear hr7 hg7 hl7 hH7) | fail)
      refine hK.out _ _ ?_ (fun hHeld => ?_)
      · (try dsimp only)
        all_goals (first | exact (hcells.out _ hcur.out).2 | exact (hcells.out _ (seq_below hcur.out (alloc_below _ _))).2 | exact s7.out | exact s8.out | fail)
      clear hK K
      try simp only [Act.put, List.setIfInBounds_toArray, List.set_cons_zero, List.set_cons_succ]
      refine wpAnyH_take (i := 11) (v := ?v12) rfl (by kernel_rfl) (by kernel_rfl) (by kernel_rfl) (fun _ _ _ h => h) (Or.inl ⟨by rfl, ?hy12⟩) (by assumption) ?_
      case hy12 =>
        intro w hSw
        (try dsimp only at hSw)
        go_simp
        all_goals with_reducible rfl
      try simp only [Act.put, List.setIfInBounds_toArray]
      refine wpAnyH_ready (rs := [1, 12]) (by kernel_rfl) (by simp) ?_
      refine AllReadyH.cons rfl (fun K hK => ?_) ?_
      go_simp
      refine hK.out _ _ ?_ (fun hHeld => ?_)
      · (try dsimp only)
        all_goals (first | exact (hcells.out _ hcur.out).2 | exact (hcells.out _ (seq_below hcur.out (alloc_below _ _))).2 | exact s7.out | exact s8.out | fail)
      clear hK K
      try simp only [Act.put, List.setIfInBounds_toArray, List.set_cons_zero, List.set_cons_succ]
      refine wpAnyH_ready (rs := [12]) (by kernel_rfl) (by simp) ?_
      refine AllReadyH.cons rfl (fun K hK => ?_) ?_
      go_simp
      refine hK.out _ _ ?_ (fun hHeld => ?_)
      · (try dsimp only)
        all_goals (first | exact (hcells.out _ hcur.out).2 | exact (hcells.out _ (seq_below hcur.out (alloc_below _ _))).2 | exact s7.out | exact s8.out | fail)
      clear hK K
      try simp only [Act.put, List.setIfInBounds_toArray, List.set_cons_zero, List.set_cons_succ]
      refine wpAnyH_ready (rs := [13]) (by kernel_rfl) (by simp) ?_
      refine AllReadyH.cons rfl (fun K hK => ?_) ?_
      (first | (go_at_call 41; (with_reducible refine (hcall.out _ hcur.out).mono ?_); rintro e w5 ⟨v5, rfl, hO5, hb5⟩; obtain ⟨so5, sc5, rfl⟩ := ownsRow_shape hO5.row; have hX5 : Hid (EM w5 w.heap.size ⟨q.path, q.method, so5, (stepsS (shOf l q.split)).length, sc5⟩ (entOf l q)) := Lib.hid ⟨rfl, rfl, hz0.out, hz1.out, ⟨ownsRow_base hO5.row (Nat.le_trans hHq.out.bel.size hcur.out.size), hO5.ok⟩⟩; replace hcur := Lib.hid (seq_below hcur.out hb5); have hE5 := Lib.hid (hEq.out.below hcur.out); have hH5 := Lib.hid (hHq.out.below hcur.out); obtain ⟨e0, _⟩ := hcells.out w5 hcur.out; obtain ⟨g0, _⟩ := hcells.out (w5.alloc (.cells #[.string q.path, .string q.method, .slice so5 (stepsS (shOf l q.split)).length sc5] 85)) (seq_below hcur.out (alloc_below _ _)); clear hO5 hb5) | (refine step_append_us (by rfl) _ _ 80 (by rfl) w.heap.size 85 i85 _ 3 56 Try.underlying80 h85.out h850.out h851.out h852.out rfl (by decide) _ T.length ((T.map (·.1)).flatMap evc) (by rfl) hE5.out.row 1 (by rfl) rfl (by simp [Value.oneCell']) (by have := hTl.out; have := hx.out; unfold maxLen; omega) (by have := hTl.out; have := hx.out; omega) hH5.out.bel.size ?_; intro v7 w7 hr7 hg7 hl7; obtain ⟨o7, c7, rfl⟩ := ownsRow_shape hr7; obtain ⟨hH7, hHf, hEf⟩ := entS hH5.out hE5.out hX5.out hr7 hg7; have t7 : Tch (fun k => (Value.slice eo T.length ec).ownBlock = some k) w5 w7 := Tch.grown hg7 (fun k q => .inl q); have s7 := Lib.hid (hs7.out w5 w7 hcur.out hE5.out t7); have s8 := Lib.hid (hs8.out w5 w7 (.slice o7 (T.length + 1) c7) hcur.out hE5.out t7 hH7); clear t7; have q7 : w7.cell? ⟨hb, 2, none⟩ = some (.slice eo T.length ec) := box_at hH7.h (j := 2) rfl; have f7 : w7.frozen? ⟨hb, 2, none⟩ = false := frozen_of_row _ hb 2 _ _ hH7.h; replace hHf := Lib.hid hHf; replace hEf := Lib.hid hEf; clear hr7 hg7 hl7 hH7) | fail)
      refine hK.out _ _ ?_ (fun hHeld => ?_)
      · (try dsimp only)
        all_goals (first | exact (hcells.out _ hcur.out).2 | exact (hcells.out _ (seq_below hcur.out (alloc_below _ _))).2 | exact s7.out | exact s8.out | fail)
      clear hK K
      try simp only [Act.put, List.setIfInBounds_toArray]
      refine wpAnyH_take (i := 14) (v := ?v13) rfl (by kernel_rfl) (by kernel_rfl) (by kernel_rfl) (fun _ _ _ h => h) (Or.inl ⟨by rfl, ?hy13⟩) (by assumption) ?_
      case hy13 =>
        intro w hSw
        (try dsimp only at hSw)
        go_simp
        all_goals with_reducible rfl
      try simp only [Act.put]
      refine wpAnyH_ready (rs := [15]) (by kernel_rfl) (by simp) ?_
      refine AllReadyH.cons rfl (fun K hK => ?_) ?_
      go_simp
      refine hK.out _ _ ?_ (fun hHeld => ?_)
      · (try dsimp only)
        all_goals (first | exact (hcells.out _ hcur.out).2 | exact (hcells.out _ (seq_below hcur.out (alloc_below _ _))).2 | exact s7.out | exact s8.out | fail)
      clear hK K
      try simp only [Act.put, List.setIfInBounds_toArray, List.set_cons_zero, List.set_cons_succ]
      refine wpAnyH_done (by kernel_rfl) ?_ _
      refine NoPanic.normal ?_
      rotate_left 1
      exact AllReadyH.nil
      exact AllReadyH.nil
      exact AllReadyH.nil
      refine AllReadyH.cons rfl (fun K hK => ?_) ?_
      go_simp
      refine hK.out _ _ ?_ (fun hHeld => ?_)
      · (try dsimp only)
        all_goals (first | exact (hcells.out _ hcur.out).2 | exact (hcells.out _ (seq_below hcur.out (alloc_below _ _))).2 | exact s7.out | exact s8.out | fail)
      clear hK K
      try simp only [Act.put, List.setIfInBounds_toArray, List.set_cons_zero, List.set_cons_succ]
      refine wpAnyH_ready (rs := [1]) (by kernel_rfl) (by simp) ?_
      refine AllReadyH.cons rfl (fun K hK => ?_) ?_
      go_simp
      refine hK.out _ _ ?_ (fun hHeld => ?_)
      · (try dsimp only)
        all_goals (first | exact (hcells.out _ hcur.out).2 | exact (hcells.out _ (seq_below hcur.out (alloc_below _ _))).2 | exact s7.out | exact s8.out | fail)
      clear hK K
      try simp only [Act.put, List.setIfInBounds_toArray, List.set_cons_zero, List.set_cons_succ]
      refine wpAnyH_ready (rs := [13]) (by kernel_rfl) (by simp) ?_
      refine AllReadyH.cons rfl (fun K hK => ?_) ?_
      (first | (go_at_call 41; (with_reducible refine (hcall.out _ hcur.out).mono ?_); rintro e w5 ⟨v5, rfl, hO5, hb5⟩; obtain ⟨so5, sc5, rfl⟩ := ownsRow_shape hO5.row; have hX5 : Hid (EM w5 w.heap.size ⟨q.path, q.method, so5, (stepsS (shOf l q.split)).length, sc5⟩ (entOf l q)) := Lib.hid ⟨rfl, rfl, hz0.out, hz1.out, ⟨ownsRow_base hO5.row (Nat.le_trans hHq.out.bel.size hcur.out.size), hO5.ok⟩⟩; replace hcur := Lib.hid (seq_below hcur.out hb5); have hE5 := Lib.hid (hEq.out.below hcur.out); have hH5 := Lib.hid (hHq.out.below hcur.out); obtain ⟨e0, _⟩ := hcells.out w5 hcur.out; obtain ⟨g0, _⟩ := hcells.out (w5.alloc (.cells #[.string q.path, .string q.method, .slice so5 (stepsS (shOf l q.split)).length sc5] 85)) (seq_below hcur.out (alloc_below _ _)); clear hO5 hb5) | (refine step_append_us (by rfl) _ _ 80 (by rfl) w.heap.size 85 i85 _ 3 56 Try.underlying80 h85.out h850.out h851.out h852.out rfl (by decide) _ T.length ((T.map (·.1)).flatMap evc) (by rfl) hE5.out.row 1 (by rfl) rfl (by simp [Value.oneCell']) (by have := hTl.out; have := hx.out; unfold maxLen; omega) (by have := hTl.out; have := hx.out; omega) hH5.out.bel.size ?_; intro v7 w7 hr7 hg7 hl7; obtain ⟨o7, c7, rfl⟩ := ownsRow_shape hr7; obtain ⟨hH7, hHf, hEf⟩ := entS hH5.out hE5.out hX5.out hr7 hg7; have t7 : Tch (fun k => (Value.slice eo T.length ec).ownBlock = some k) w5 w7 := Tch.grown hg7 (fun k q => .inl q); have s7 := Lib.hid (hs7.out w5 w7 hcur.out hE5.out t7); have s8 := Lib.hid (hs8.out w5 w7 (.slice o7 (T.length + 1) c7) hcur.out hE5.out t7 hH7); clear t7; have q7 : w7.cell? ⟨hb, 2, none⟩ = some (.slice eo T.length ec) := box_at hH7.h (j := 2) rfl; have f7 : w7.frozen? ⟨hb, 2, none⟩ = false := frozen_of_row _ hb 2 _ _ hH7.h; replace hHf := Lib.hid hHf; replace hEf := Lib.hid hEf; clear hr7 hg7 hl7 hH7) | fail)
      refine hK.out _ _ ?_ (fun hHeld => ?_)
      · (try dsimp only)
        all_goals (first | exact (hcells.out _ hcur.out).2 | exact (hcells.out _ (seq_below hcur.out (alloc_below _ _))).2 | exact s7.out | exact s8.out | fail)
      clear hK K
      try simp only [Act.put, List.setIfInBounds_toArray]
      refine wpAnyH_take (i := 14) (v := ?v14) rfl (by kernel_rfl) (by kernel_rfl) (by kernel_rfl) (fun _ _ _ h => h) (Or.inl ⟨by rfl, ?hy14⟩) (by assumption) ?_
      case hy14 =>
        intro w hSw
        (try dsimp only at hSw)
        go_simp
        all_goals with_reducible rfl
      try simp only [Act.put]
      refine wpAnyH_ready (rs := [15]) (by kernel_rfl) (by simp) ?_
      refine AllReadyH.cons rfl (fun K hK => ?_) ?_
      go_simp
      refine hK.out _ _ ?_ (fun hHeld => ?_)
      · (try dsimp only)
        all_goals (first | exact (hcells.out _ hcur.out).2 | exact (hcells.out _ (seq_below hcur.out (alloc_below _ _))).2 | exact s7.out | exact s8.out | fail)
      clear hK K
      try simp only [Act.put, List.setIfInBounds_toArray, List.set_cons_zero, List.set_cons_succ]
      refine wpAnyH_done (by kernel_rfl) ?_ _
      refine NoPanic.normal ?_
      rotate_left 1
      exact AllReadyH.nil
      exact AllReadyH.nil
      exact AllReadyH.nil
      exact AllReadyH.nil
      exact AllReadyH.nil
      exact AllReadyH.nil
      all_goals
        go_wp2
        go_roundg (r.rules.length - (i + 1) + 1)
        case rel => exact ⟨i + 1, T ++ [(⟨q.path, q.method, so5, (stepsS (shOf l q.split)).length, sc5⟩, entOf l q)], o7, c7, rfl, hlt, by first | rw [hwk.out] | go_num, Lib.hid (by rw [List.map_append, hTm.out, htk.out]; rfl), by rw [List.length_append]; exact hHf, by rw [List.length_append]; exact hEf⟩
        case measure => exact nn_downS hlt
    · have hk0 : decide ((i : Int) < (r.rules.length : Int)) = false := decide_eq_false (by omega)
      have hk1 : ¬ (i : Int) < (r.rules.length : Int) := by omega
      have hie : i = r.rules.length := by omega
      have hTm2 : T.map (·.2) = r.rules.map (entOf l) := by rw [hTm.out, hie, List.take_length]
      have hTm3 := Lib.hid hTm2
      clear hTm2
      obtain ⟨WC, hWC⟩ : ∃ W : World, W = wr := ⟨_, rfl⟩
      replace hie := Lib.hid hie
      go_wp2_with (first
        | (go_at_call 92; (with_reducible refine (hK92.out _ hH.out.bel).mono ?_); rintro e wN ⟨No, Nc, L, rfl, hLr, hLrow, hLP, hbN⟩; have hHN := Lib.hid (hH.out.below hbN); have hEN := Lib.hid (hE.out.below hbN); replace hLr := Lib.hid hLr; rw [← hWC] at hLrow; replace hLrow := Lib.hid hLrow; replace hLP := Lib.hid hLP; clear hbN)
        | fail)
      replace hWC := Lib.hid hWC
      have hLn : Hid (L.length ≤ 64) := Lib.hid (by
        have := congrArg List.length hLr.out
        rw [List.length_map] at this
        have h2 := List.length_filter_le (kindP 4) l
        have := hn64.out
        omega)
      have hLR : Hid (∀ y ∈ L, y.r.rules.length ≤ 4194304) := Lib.hid (fun y hy => hR.out y.r (by
        have : y.r ∈ l.filter (kindP 4) := by rw [← hLr.out]; exact List.mem_map_of_mem hy
        exact (List.mem_filter.1 this).1))
      have hPN : Hid (PsM wN w.heap.size (.slice none ([] : List Prm).length 0) []) := Lib.hid ⟨World.ownsRow_nil _ _ _ _, fun p hp => by cases hp⟩
      go_loopg [45] (L.length + 1) (fun gg jc wx => ∃ (j : Nat) (ps : List Prm) (po : Option Addr) (pc : Nat), gg = L.length - j + 1 ∧ j ≤ L.length ∧ jc = .int .i64 j ∧ Hid (ps = permsL r.name ((L.map Rw.r).take j)) ∧ Hid (HB w wx rb zb hb CS r (.slice eo T.length ec) (.slice po ps.length pc)) ∧ Hid (EsT wx w.heap.size (.slice eo T.length ec) T) ∧ Hid (PsM wx w.heap.size (.slice po ps.length pc) ps) ∧ Hid (wx.ownsRow WC.heap.size 52 8 (.slice No L.length Nc) L.length (L.flatMap Rw.cells)))
      case atStart => exact ⟨0, [], none, 0, rfl, Nat.zero_le _, rfl, Lib.hid rfl, hHN, hEN, hPN, hLrow⟩
      case round =>
        clear hHN hEN hPN hH hE
        obtain ⟨j, ps, po, pc, rfl, hj, rfl, hps, hH, hE, hPs, hLw⟩ := hrel
        by_cases hlt : j < L.length
        · obtain ⟨x, hx1⟩ : ∃ x, L[j]? = some x := ⟨_, List.getElem?_eq_getElem hlt⟩
          have hxP := hLP.out x (List.mem_of_getElem? hx1)
          have hxR := hLR.out x (List.mem_of_getElem? hx1)
          have hpsl : ps.length ≤ j * 4194304 := by
            have := permsL_len (n := r.name) (L := (L.map Rw.r).take j) (fun q hq => by
              obtain ⟨y, hy, rfl⟩ := List.mem_map.1 (List.mem_of_mem_take hq)
              exact hLR.out y hy)
            rw [List.length_take, List.length_map, ← hps.out] at this
            exact Nat.le_trans this (Nat.mul_le_mul_right 4194304 (Nat.min_le_left j L.length))
          have hpl : Hid (ps.length ≤ 268435456) := Lib.hid (by have := hLn.out; omega)
          have hLx : (L.map Rw.r)[j]? = some x.r := by rw [List.getElem?_map, hx1]; rfl
          obtain ⟨y, ye, yec, yt, ytc, yr, yrc⟩ := x
          have hxP2 : Hid (RP w0 y (.slice ye y.eps.length yec) (.slice yt y.tgts.length ytc) (.slice yr y.rules.length yrc)) := Lib.hid hxP
          have hxR2 : Hid (y.rules.length ≤ 4194304) := Lib.hid hxR
          clear hxP hxR
          have hq : ∀ (q : Nat) u, q < 8 → (Rw.mk y ye yec yt ytc yr yrc).cells[q]? = some u → ∃ g, No = some ⟨g, 0, none⟩ ∧ wr.cell? ⟨g, j * 8 + q, none⟩ = some u := fun q u hq hu => by
            obtain ⟨g, e1, _, _, e2, _⟩ := ownsRow_cell hLw.out (j := j * 8 + q) (u := u) ((Rd.flat_at rwC.len hx1 q hq).trans hu)
            exact ⟨g, e1, e2⟩
          obtain ⟨ng, hng, _⟩ := hq 0 _ (by decide) rfl
          subst hng
          have hr : ∀ (q : Nat) u, q < 8 → (Rw.mk y ye yec yt ytc yr yrc).cells[q]? = some u → wr.cell? ⟨ng, j * 8 + q, none⟩ = some u := fun q u h1 h2 => by
            obtain ⟨g, e1, e2⟩ := hq q u h1 h2
            simp only [Option.some.injEq, Addr.mk.injEq, and_true] at e1
            rw [e1]; exact e2
          have c0 : wr.cell? ⟨ng, j * 8, none⟩ = some (.int .i64 y.kind) := hr 0 _ (by decide) rfl
          have c1 : wr.cell? ⟨ng, j * 8 + 1, none⟩ = some (.string y.name) := hr 1 _ (by decide) rfl
          have c2 : wr.cell? ⟨ng, j * 8 + 2, none⟩ = some (.slice ye y.eps.length yec) := hr 2 _ (by decide) rfl
          have c3 : wr.cell? ⟨ng, j * 8 + 3, none⟩ = some (.slice yt y.tgts.length ytc) := hr 3 _ (by decide) rfl
          have c4 : wr.cell? ⟨ng, j * 8 + 4, none⟩ = some (.string y.host) := hr 4 _ (by decide) rfl
          have c5 : wr.cell? ⟨ng, j * 8 + 5, none⟩ = some (.slice yr y.rules.length yrc) := hr 5 _ (by decide) rfl
          have c6 : wr.cell? ⟨ng, j * 8 + 6, none⟩ = some (.string y.route) := hr 6 _ (by decide) rfl
          have c7 : wr.cell? ⟨ng, j * 8 + 7, none⟩ = some (.bool y.del) := hr 7 _ (by decide) rfl
          have hk0 : (j : Int) < (L.length : Int) := nn_lt hlt
          have hwk := Lib.hid (nn_succ2 hlt (by have := hLn.out; omega))
          obtain ⟨wb, hwb⟩ : ∃ wb, wb = wr.alloc (.cells #[.int .i64 y.kind, .string y.name, .slice ye y.eps.length yec, .slice yt y.tgts.length ytc, .string y.host, .slice yr y.rules.length yrc, .string y.route, .bool y.del] 52) := ⟨_, rfl⟩
          obtain ⟨bk, hbk⟩ : ∃ bk, bk = wr.heap.size := ⟨_, rfl⟩
          have hbx : wb.heap[bk]? = some (.cells #[.int .i64 y.kind, .string y.name, .slice ye y.eps.length yec, .slice yt y.tgts.length ytc, .string y.host, .slice yr y.rules.length yrc, .string y.route, .bool y.del] 52) := by rw [hwb, hbk]; exact heap_alloc_new wr _
          have hba : Below wr.heap.size wr wb := by rw [hwb]; exact alloc_below _ _
          have hHb := Lib.hid (hH.out.below hba)
          have hEb := Lib.hid (hE.out.below hba)
          have hPb := Lib.hid (hPs.out.below hba)
          have hLb := Lib.hid (ownsRow_tch hLw.out (Tch.of_below (S := fun _ => False) hba) (fun _ _ q => q))
          have b5 := box_at hbx (j := 5) rfl
          have b6 := box_at hbx (j := 6) rfl
          have q1 : wb.cell? ⟨rb, 1, none⟩ = some (.string r.name) := box_at hHb.out.rr (j := 1) (by rw [hCS.out]; rfl)
          obtain ⟨kv, hkv⟩ : ∃ b, (y.route.toList == r.name.toList) = b := ⟨_, rfl⟩
          have hks : seq y.route r.name = kv := hkv
          replace hx1 := Lib.hid hx1
          replace hq := Lib.hid hq
          replace hr := Lib.hid hr
          replace hba := Lib.hid hba
          replace hpsl := Lib.hid hpsl
          replace hks := Lib.hid hks
          go_upto_region 10 with fail
          rw [← hwb, ← hbk]
          replace hwb := Lib.hid hwb
          replace hbk := Lib.hid hbk
          clear c0 c1 c2 c3 c4 c5 c6 c7
          cases kv with
          | false =>
            have hnx := Lib.hid (permsL_no hLx hks.out)
            replace hLx := Lib.hid hLx
            replace hbx := Lib.hid hbx
            go_wp2
            go_roundg (L.length - (j + 1) + 1)
            case rel => exact ⟨j + 1, ps, po, pc, rfl, hlt, by first | rw [hwk.out] | go_num, Lib.hid (by rw [hnx.out]; exact hps.out), hHb, hEb, hPb, hLb⟩
            case measure => exact nn_downS hlt
          | true =>
            have hnx := Lib.hid (permsL_yes hLx hks.out)
            replace hLx := Lib.hid hLx
            replace hbx := Lib.hid hbx
            go_wp2
            go_loopg [57] (y.rules.length + 1) (fun gg kc wx => ∃ (k : Nat) (ps2 : List Prm) (po2 : Option Addr) (pc2 : Nat), gg = y.rules.length - k + 1 ∧ k ≤ y.rules.length ∧ kc = .int .i64 k ∧ Hid (ps2 = ps ++ (y.rules.take k).map prmOf) ∧ Hid (HB w wx rb zb hb CS r (.slice eo T.length ec) (.slice po2 ps2.length pc2)) ∧ Hid (EsT wx w.heap.size (.slice eo T.length ec) T) ∧ Hid (PsM wx w.heap.size (.slice po2 ps2.length pc2) ps2) ∧ Hid (wx.ownsRow WC.heap.size 52 8 (.slice (some ⟨ng, 0, none⟩) L.length Nc) L.length (L.flatMap Rw.cells)))
            case atStart => exact ⟨0, ps, po, pc, rfl, Nat.zero_le _, rfl, Lib.hid (by simp), hHb, hEb, hPb, hLb⟩
            case round =>
              clear hHb hEb hPb hLb hH hE hPs hLw b5 b6 q1
              obtain ⟨k, ps2, po2, pc2, rfl, hk, rfl, hps2, hH, hE, hPs, hLw⟩ := hrel
              by_cases hlt2 : k < y.rules.length
              · obtain ⟨q, hq5⟩ : ∃ q, y.rules[k]? = some q := ⟨_, List.getElem?_eq_getElem hlt2⟩
                obtain ⟨b, off, rfl, hbl, c0, c1, c2, c3, z0, z1, z2⟩ := rul_at hxP2.out.ru (hb0.out.trans (hH.out.bel.mono hb0.out.size)) hq5
                have hk1 : (k : Int) < (y.rules.length : Int) := nn_lt hlt2
                have hwk2 := Lib.hid (nn_succ2 hlt2 (by have := hxR2.out; omega))
                obtain ⟨wq, hwq⟩ : ∃ wq, wq = wr.alloc (.cells #[.string q.path, .string q.method, .string q.split, .bool q.allow] 101) := ⟨_, rfl⟩
                obtain ⟨qb, hqb⟩ : ∃ qb, qb = wr.heap.size := ⟨_, rfl⟩
                have hbq : Below wr.heap.size wr wq := by rw [hwq]; exact alloc_below _ _
                have qbx : wq.heap[qb]? = some (.cells #[.string q.path, .string q.method, .string q.split, .bool q.allow] 101) := by rw [hwq, hqb]; exact heap_alloc_new wr _
                have hHq := Lib.hid (hH.out.below hbq)
                have hEq := Lib.hid (hE.out.below hbq)
                have hPq := Lib.hid (hPs.out.below hbq)
                have hLq := Lib.hid (ownsRow_tch hLw.out (Tch.of_below (S := fun _ => False) hbq) (fun _ _ q => q))
                have d0 := box_at qbx (j := 0) rfl
                have d1 := box_at qbx (j := 1) rfl
                have d3 := box_at qbx (j := 3) rfl
                have h3 : wq.cell? ⟨hb, 3, none⟩ = some (.slice po2 ps2.length pc2) := box_at hHq.out.h (j := 3) rfl
                have hz0 := Lib.hid z0
                have hz1 := Lib.hid z1
                have hps2l : Hid (ps2.length ≤ 268435456 + 4194304) := Lib.hid (by
                  rw [hps2.out, List.length_append, List.length_map, List.length_take]
                  have := hpl.out
                  have := hxR2.out
                  omega)
                have htk : Hid (ps2 ++ [prmOf q] = ps ++ (y.rules.take (k + 1)).map prmOf) := Lib.hid (by rw [hps2.out, List.take_add_one, hq5, List.map_append, ← List.append_assoc]; rfl)
                clear z0 z1 z2
                replace hq5 := Lib.hid hq5
                replace hbq := Lib.hid hbq
                replace qbx := Lib.hid qbx
                go_upto_region 14 with fail
                rw [← hwq, ← hqb]
                replace hwq := Lib.hid hwq
                replace hqb := Lib.hid hqb
                clear c0 c1 c2 c3
                go_wp2_with (first
                  | (at_builtin; refine wp_append_us (us := pvc (prmOf q)) (by rfl) _ _ 81 (by rfl) w.heap.size 99 i99 _ 3 40 Try.underlying81 h99.out h990.out h991.out h992.out rfl (by decide) _ ps2.length (ps2.flatMap pvc) (by rfl) hPq.out.1 1 (by rfl) rfl (by simp [pvc, prmOf, Value.oneCell']) (by have := hps2l.out; unfold maxLen; omega) (by have := hps2l.out; omega) hHq.out.bel.size ?_; intro v7 w7 hr7 hg7 hl7; obtain ⟨o7, c7, rfl⟩ := ownsRow_shape hr7; obtain ⟨hH7, hHf, hEf, hPf, hLf⟩ := prmS hHq.out hEq.out hPq.out (e := prmOf q) hz0.out hz1.out hLq.out hr7 hg7; have q7 : w7.cell? ⟨hb, 3, none⟩ = some (.slice po2 ps2.length pc2) := box_at hH7.h (j := 3) rfl; have f7 : w7.frozen? ⟨hb, 3, none⟩ = false := frozen_of_row _ hb 3 _ _ hH7.h; replace hHf := Lib.hid hHf; replace hEf := Lib.hid hEf; replace hPf := Lib.hid hPf; replace hLf := Lib.hid hLf; clear hr7 hg7 hl7 hH7)
                  | fail)
                go_roundg (y.rules.length - (k + 1) + 1)
                case rel => exact ⟨k + 1, ps2 ++ [prmOf q], o7, c7, rfl, hlt2, by first | rw [hwk2.out] | go_num, htk, by rw [List.length_append]; exact hHf, hEf, by rw [List.length_append]; exact hPf, hLf⟩
                case measure => exact nn_downS hlt2
              · have hk2 : decide ((k : Int) < (y.rules.length : Int)) = false := decide_eq_false (by omega)
                have hk3 : ¬ (k : Int) < (y.rules.length : Int) := by omega
                have hke : ps2 = permsL r.name ((L.map Rw.r).take (j + 1)) := by rw [hnx.out, hps2.out, show y.rules.take k = y.rules from List.take_of_length_le (by omega), hps.out]
                replace hke := Lib.hid hke
                go_wp2
                go_roundg (L.length - (j + 1) + 1)
                case rel => exact ⟨j + 1, ps2, po2, pc2, rfl, hlt, by first | rw [hwk.out] | go_num, hke, hH, hE, hPs, hLw⟩
                case measure => exact nn_downS hlt
        · have hk0 : decide ((j : Int) < (L.length : Int)) = false := decide_eq_false (by omega)
          have hk1 : ¬ (j : Int) < (L.length : Int) := by omega
          have hpf : ps = permitsOf l r.name := by rw [permits_eq, ← hLr.out, hps.out, List.take_of_length_le (by rw [List.length_map]; omega)]
          have g0 : wr.cell? ⟨hb, 0, none⟩ = some (.string r.host) := box_at hH.out.h (j := 0) rfl
          have g1 : wr.cell? ⟨hb, 1, none⟩ = some (.string r.name) := box_at hH.out.h (j := 1) rfl
          have g2 : wr.cell? ⟨hb, 2, none⟩ = some (.slice eo T.length ec) := box_at hH.out.h (j := 2) rfl
          have g3 : wr.cell? ⟨hb, 3, none⟩ = some (.slice po ps.length pc) := box_at hH.out.h (j := 3) rfl
          have f0 : ∀ j, wr.frozen? ⟨zb, j, none⟩ = false := fun j => frozen_of_row _ zb j _ _ hH.out.z
          have e0 : wr.cell? ⟨zb, 0, none⟩ = some (.string ⟨#[]⟩) := box_at hH.out.z (j := 0) rfl
          have e1 : wr.cell? ⟨zb, 1, none⟩ = some (.string ⟨#[]⟩) := box_at hH.out.z (j := 1) rfl
          have e2 : wr.cell? ⟨zb, 2, none⟩ = some (.slice none 0 0) := box_at hH.out.z (j := 2) rfl
          have e3 : wr.cell? ⟨zb, 3, none⟩ = some (.slice none 0 0) := box_at hH.out.z (j := 3) rfl
          replace hpf := Lib.hid hpf
          go_wp2
          obtain ⟨wf, hwf⟩ : ∃ wf, wf = (((wr.setCell ⟨zb, 0, none⟩ (.string r.host)).setCell ⟨zb, 1, none⟩ (.string r.name)).setCell ⟨zb, 2, none⟩ (.slice eo T.length ec)).setCell ⟨zb, 3, none⟩ (.slice po ps.length pc) := ⟨_, rfl⟩
          have hx4 : wf.heap[zb]? = some (.cells #[.string r.host, .string r.name, .slice eo T.length ec, .slice po ps.length pc] 83) := by rw [hwf]; exact box_set (box_set (box_set (box_set hH.out.z)))
          have ht4 : Tch (fun k => k = zb) wr wf := by rw [hwf]; exact tch_put4 wr zb _ _ _ _ _ _ _ _
          rw [← hwf]
          have z0 : wf.cell? ⟨zb, 0, none⟩ = some (.string r.host) := box_at hx4 (j := 0) rfl
          have z1 : wf.cell? ⟨zb, 1, none⟩ = some (.string r.name) := box_at hx4 (j := 1) rfl
          have z2 : wf.cell? ⟨zb, 2, none⟩ = some (.slice eo T.length ec) := box_at hx4 (j := 2) rfl
          have z3 : wf.cell? ⟨zb, 3, none⟩ = some (.slice po ps.length pc) := box_at hx4 (j := 3) rfl
          refine bodyPost_ret (v := .agg #[.string r.host, .string r.name, .slice eo T.length ec, .slice po ps.length pc]) (by simp [results, Try.results100, go_sem, z0, z1, z2, z3]) rfl ?_
          refine ⟨⟨r.host, r.name, eo, T.length, ec, po, ps.length, pc⟩, rfl, ⟨rfl, rfl, hP.out.hs, hP.out.nm, ⟨T, hTm3.out, hE.out.tch hH.out.z (by decide) (by decide) ht4⟩, ?_⟩, Tch.below hH.out.bel ht4 hH.out.bel.size (fun q e => by rw [e, hzb.out]; exact Nat.le_succ _)⟩
          have := hPs.out.tch hH.out.z (by decide) ht4
          rw [hpf.out] at this
          rw [hpf.out]
          exact this
end Go.Proofs.Ytjepgpocmnijiaa
end
