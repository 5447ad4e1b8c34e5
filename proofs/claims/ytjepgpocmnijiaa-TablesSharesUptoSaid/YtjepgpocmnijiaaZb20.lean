/- The walk of the document's Depths. -/
import Derived.Test.YtjepgpocmnijiaaZb13
section

namespace Go.Ck
set_option linter.unusedVariables false
/-- What a round makes of a row. -/
def dEl (l : List Res) (r : Nat) (i : Nat) : Nat := match l[i]? with
  | some x => if x.kind = 2 then known l r x.name else 0
  | none => 0
def dRow (l : List Res) (r : Nat) : List Nat := (List.range l.length).map (dEl l r)
theorem dRow_len (l : List Res) (r : Nat) : (dRow l r).length = l.length := by unfold dRow; simp
theorem dRow_at {l : List Res} {r i : Nat} (hi : i < l.length) : (dRow l r)[i]? = some (dEl l r i) := by
  unfold dRow
  rw [List.getElem?_map, List.getElem?_range hi]; rfl
theorem dEl_zero (l : List Res) (i : Nat) : dEl l 0 i = 0 := by
  unfold dEl
  split
  · split <;> rfl
  · rfl
/-- Each split is the first of its name. -/
def Uniq (l : List Res) : Prop := ∀ (i : Nat) (r : Res), l[i]? = some r → r.kind = 2 → tgtsOf l r.name = r.tgts
theorem tgtsOf_find {l : List Res} {k : Nat} {n : ByteArray} {r : Res} (h : findI l 2 n = k) (hr : l[k]? = some r) : r.kind = 2 ∧ r.name = n ∧ has l 2 n = true := by
  unfold findI at h
  rcases firstN_cases l.length (findIx l 2 n) with ⟨e, _⟩ | ⟨i, hi, e, h1, _⟩
  · rw [e] at h; omega
  · rw [e] at h
    have : i = k := by omega
    subst this
    rw [findIx_at hr] at h1
    unfold isK at h1
    rw [Bool.and_eq_true, beq_iff_eq, seq_iff] at h1
    refine ⟨h1.1, h1.2, ?_⟩
    unfold has findI
    rw [e]
    simp
theorem known_none {l : List Res} {n : ByteArray} (h : findI l 2 n < 0) (r : Nat) : known l r n = 0 := by
  cases r with
  | zero => rfl
  | succ r =>
    unfold known
    rw [if_neg]
    unfold has
    rw [decide_eq_true_iff]; omega
theorem known_find {l : List Res} {n : ByteArray} {k : Nat} (h : findI l 2 n = k) (hk : k < l.length) (r : Nat) : dEl l r k = known l r n := by
  have hx := List.getElem?_eq_getElem hk
  obtain ⟨h1, h2, _⟩ := tgtsOf_find h hx
  unfold dEl
  rw [hx]
  simp only
  rw [if_pos h1, h2]
theorem stepE_append (e : ByteArray → Nat) (ys : List Tgt) : ∀ (xs : List Tgt) (a : Nat), 0 < a → stepE e (xs ++ ys) a = if stepE e xs a = 0 then 0 else stepE e ys (stepE e xs a)
  | [], a, ha => by
    rw [List.nil_append, show stepE e [] a = a from rfl, if_neg (by omega)]
  | t :: xs, a, ha => by
    have e1 : ∀ zs, stepE e (t :: zs) a = if noS t.service = true then (if e t.split = 0 then 0 else stepE e zs (max a (e t.split + 1))) else stepE e zs a := fun _ => rfl
    rw [List.cons_append, e1, e1]
    by_cases h1 : noS t.service = true
    · rw [if_pos h1, if_pos h1]
      by_cases h2 : e t.split = 0
      · rw [if_pos h2, if_pos h2, if_pos rfl]
      · rw [if_neg h2, if_neg h2]
        exact stepE_append e ys xs _ (by omega)
    · rw [if_neg h1, if_neg h1]
      exact stepE_append e ys xs a ha
theorem stepE_next {e : ByteArray → Nat} {ts : List Tgt} {k : Nat} {t : Tgt} (ht : ts[k]? = some t) (h0 : stepE e (ts.take k) 1 ≠ 0) :
    stepE e (ts.take (k + 1)) 1 = if noS t.service = true then (if e t.split = 0 then 0 else max (stepE e (ts.take k) 1) (e t.split + 1)) else stepE e (ts.take k) 1 := by
  have hk := (List.getElem?_eq_some_iff.1 ht)
  rw [List.take_succ_eq_append_getElem hk.1, hk.2, stepE_append e [t] _ 1 (by decide), if_neg h0]
  rfl
theorem stepE_dead {e : ByteArray → Nat} {ts : List Tgt} {k : Nat} (h0 : stepE e (ts.take k) 1 = 0) : stepE e ts 1 = 0 := by
  rw [← List.take_append_drop k ts, stepE_append e _ _ 1 (by decide), if_pos h0]
theorem dEl_succ {l : List Res} (hU : Uniq l) {i rd : Nat} {r : Res} (h : l[i]? = some r) (hk : r.kind = 2) : dEl l (rd + 1) i = stepE (known l rd) r.tgts 1 := by
  have hh : has l 2 r.name = true := has_iff.2 ⟨r, List.mem_of_getElem? h, hk, rfl⟩
  unfold dEl
  rw [h]
  simp only
  rw [if_pos hk, known_succ hh, hU i r h hk]
theorem dEl_not {l : List Res} {i rd : Nat} {r : Res} (h : l[i]? = some r) (hk : r.kind ≠ 2) : dEl l rd i = 0 := by
  unfold dEl
  rw [h]
  simp only
  rw [if_neg hk]
/-- The next row, as far as it is made. -/
def nRow (l : List Res) (rd i : Nat) : List Value := (List.range l.length).map fun j => .int .i64 (if j < i then dEl l rd j else 0 : Nat)
def dCells (l : List Res) (rd : Nat) : List Value := (List.range l.length).map fun j => .int .i64 (dEl l rd j : Nat)
theorem nRow_len (l : List Res) (rd i : Nat) : (nRow l rd i).length = l.length := by unfold nRow; simp
theorem dCells_at {l : List Res} {rd k : Nat} (hk : k < l.length) : (dCells l rd)[k]? = some (.int .i64 (dEl l rd k : Nat)) := by
  unfold dCells
  rw [List.getElem?_map, List.getElem?_range hk]; rfl
theorem nRow_at {l : List Res} {rd i k : Nat} (hk : k < l.length) : (nRow l rd i)[k]? = some (.int .i64 (if k < i then dEl l rd k else 0 : Nat)) := by
  unfold nRow
  rw [List.getElem?_map, List.getElem?_range hk]; rfl
theorem nRow_zero (l : List Res) (rd : Nat) : nRow l rd 0 = List.replicate l.length (.int .i64 0) := by
  refine List.ext_getElem? (fun j => ?_)
  by_cases hj : j < l.length
  · rw [nRow_at hj, List.getElem?_replicate, if_pos hj]; rfl
  · rw [List.getElem?_eq_none (by rw [nRow_len]; omega), List.getElem?_eq_none (by simp; omega)]
theorem dCells_zero (l : List Res) : dCells l 0 = List.replicate l.length (.int .i64 0) := by
  refine List.ext_getElem? (fun j => ?_)
  by_cases hj : j < l.length
  · rw [dCells_at hj, List.getElem?_replicate, if_pos hj, dEl_zero]; rfl
  · rw [List.getElem?_eq_none (by unfold dCells; simp; omega), List.getElem?_eq_none (by simp; omega)]
theorem nRow_all (l : List Res) (rd : Nat) : nRow l rd l.length = dCells l rd := by
  refine List.ext_getElem? (fun j => ?_)
  by_cases hj : j < l.length
  · rw [nRow_at hj, dCells_at hj, if_pos hj]
  · rw [List.getElem?_eq_none (by rw [nRow_len]; omega), List.getElem?_eq_none (by unfold dCells; simp; omega)]
theorem nRow_set {l : List Res} {rd i v : Nat} (hi : i < l.length) (hv : v = dEl l rd i) : (nRow l rd i).set i (.int .i64 (v : Nat)) = nRow l rd (i + 1) := by
  refine List.ext_getElem? (fun j => ?_)
  by_cases hj : j < l.length
  · by_cases e : i = j
    · subst e
      rw [List.getElem?_set_self (by rw [nRow_len]; exact hi), nRow_at hj, if_pos (by omega), hv]
    · rw [List.getElem?_set_ne e, nRow_at hj, nRow_at hj]
      by_cases h : j < i
      · rw [if_pos h, if_pos (by omega)]
      · rw [if_neg h, if_neg (by omega)]
  · rw [List.getElem?_eq_none (by rw [List.length_set, nRow_len]; omega), List.getElem?_eq_none (by rw [nRow_len]; omega)]
theorem nRow_skip {l : List Res} {rd i : Nat} (hi : i < l.length) (h0 : dEl l rd i = 0) : nRow l rd (i + 1) = nRow l rd i := by
  rw [← nRow_set hi rfl, h0]
  refine List.ext_getElem? (fun j => ?_)
  by_cases e : i = j
  · subst e
    rw [List.getElem?_set_self (by rw [nRow_len]; exact hi), nRow_at hi, if_neg (by omega)]
  · rw [List.getElem?_set_ne e]
end Go.Ck
namespace Go.Proofs.Ytjepgpocmnijiaa
open Go.RowKit Go.Mp Go.Ck
set_option linter.unusedVariables false
set_option maxRecDepth 100000
set_option maxHeartbeats 4000000
theorem info3 : (Try.prog.info? 3).map (fun i => (i.zero, i.size, i.bytes)) = some (some (.int .i64 0), 1, 8) := by kernel_rfl
theorem mk54 (n : Nat) (hn : n ≤ 64) : ∃ cs : Array Value, (∀ w, (Instr.makeSlice 54 (.int .i64 (n : Int)) (.int .i64 (n : Int))).run Try.prog w = .ok (.slice (some ⟨w.heap.size, 0, none⟩) n n) (w.alloc (.cells cs 3))) ∧ ∀ (w : World) (B : Nat), B ≤ w.heap.size → (w.alloc (.cells cs 3)).ownsRow B 3 1 (.slice (some ⟨w.heap.size, 0, none⟩) n n) n (List.replicate n (.int .i64 0)) := by
  obtain ⟨i0, hi, hz0, hz1, hz2⟩ := info_parts info3
  refine ⟨madeCells (Value.int .i64 0).cells (n * i0.size), fun w => ?_, fun w B hB => ?_⟩
  · have := run_makeSlice (P := Try.prog) w 54 3 i0 (.int .i64 0) Try.underlying54 hi hz0 .i64 .i64 n n (by omega) (Int.le_refl _) (by rw [hz1]; simp; omega) (by rw [hz2]; omega) (by omega)
    simpa using this
  · rw [hz1, Nat.mul_one]
    have := World.ownsRow_lit (e := 3) (size := 1) w (madeCells (Value.int .i64 0).cells n) n hB (by unfold maxLen; omega) (by rw [size_madeCells, Nat.mul_one])
    rw [show (Value.int .i64 0).cells = #[.int .i64 0] from rfl, toList_madeCells_one] at this
    exact this
def DepsOut (w : World) (l : List Res) (e : Ending) (w' : World) : Prop := ∃ g, e = .returned (.slice (some ⟨g, 0, none⟩) l.length l.length) ∧ w'.ownsRow w.heap.size 3 1 (.slice (some ⟨g, 0, none⟩) l.length l.length) l.length (dCells l 8) ∧ Below w.heap.size w w'
theorem depths67 (l : List Res) (v : Value) (w : World) (hl : ResS w v l) (h64 : l.length ≤ 64) (hU : Uniq l) : Calls Try.prog 67 #[v] w (DepsOut w l) := by
  obtain ⟨ao, cap, rfl⟩ := slice_shape hl
  obtain ⟨mc, hmk, hmo⟩ := mk54 l.length h64
  have hr0 := hmo w w.heap.size (Nat.le_refl _)
  rw [← dCells_zero] at hr0
  have hb0 := Lib.hid (alloc_below w (.cells mc 3))
  obtain ⟨g0, hg0⟩ : ∃ g0, g0 = w.heap.size := ⟨_, rfl⟩
  rw [← hg0] at hr0
  replace hl := Lib.hid hl
  replace hmo := Lib.hid hmo
  replace hr0 := Lib.hid hr0
  replace hU := Lib.hid hU
  go_enter Try.func67, Try.ntmps67
  go_wp2
  rw [← hg0]
  obtain ⟨w1, hw1⟩ : ∃ w1, w1 = w.alloc (.cells mc 3) := ⟨_, rfl⟩
  rw [← hw1] at hb0 hr0 ⊢
  replace hg0 := Lib.hid hg0
  replace hw1 := Lib.hid hw1
  go_loopg [3, 4] (8 + 1) (fun gg dv rv wr => ∃ (rd gd : Nat), gg = 8 - rd + 1 ∧ rd ≤ 8 ∧ rv = .int .i64 rd ∧ dv = .slice (some ⟨gd, 0, none⟩) l.length l.length ∧ Hid (wr.ownsRow w.heap.size 3 1 (.slice (some ⟨gd, 0, none⟩) l.length l.length) l.length (dCells l rd)) ∧ Hid (Below w.heap.size w wr))
  case atStart => exact ⟨0, g0, rfl, by omega, rfl, rfl, by rw [← hg0.out]; exact hr0, hb0⟩
  case round =>
    obtain ⟨rd, gd, rfl, hrd, rfl, rfl, hrow, hbw⟩ := hrel
    by_cases hlt : rd < 8
    · have hk0 : (rd : Int) < 8 := by omega
      have hwk : Hid (wrap64 ((rd : Int) + 1) = ((rd + 1 : Nat) : Int)) := Lib.hid (by unfold wrap64; omega)
      have hrn := hmo.out wr w.heap.size hbw.out.size
      rw [← nRow_zero l (rd + 1)] at hrn
      obtain ⟨gn, hgn⟩ : ∃ gn, gn = wr.heap.size := ⟨_, rfl⟩
      have hgd : gd < wr.heap.size := (ownsRow_ge hrow.out rfl).2
      have hne : gd ≠ gn := by omega
      have hrow1 := Lib.hid (ownsRow_tch hrow.out (Tch.alloc No wr (.cells mc 3)) (fun _ _ q => q))
      have hbw1 := Lib.hid (seq_below hbw.out (alloc_below wr (.cells mc 3)))
      rw [← hgn] at hrn
      obtain ⟨w2, hw2⟩ : ∃ w2, w2 = wr.alloc (.cells mc 3) := ⟨_, rfl⟩
      rw [← hw2] at hrn hrow1 hbw1
      replace hrn := Lib.hid hrn
      replace hrow := Lib.hid hrow
      replace hbw := Lib.hid hbw
      replace hrd := Lib.hid hrd
      replace hgd := Lib.hid hgd
      replace hne := Lib.hid hne
      go_upto_region 6 with fail
      rw [← hgn, ← hw2]
      replace hgn := Lib.hid hgn
      replace hw2 := Lib.hid hw2
      go_wp2
      go_loopg [6] (l.length + 1) (fun gg iv wx => ∃ i : Nat, gg = l.length - i + 1 ∧ i ≤ l.length ∧ iv = .int .i64 i ∧ Hid (wx.ownsRow w.heap.size 3 1 (.slice (some ⟨gd, 0, none⟩) l.length l.length) l.length (dCells l rd)) ∧ Hid (wx.ownsRow w.heap.size 3 1 (.slice (some ⟨gn, 0, none⟩) l.length l.length) l.length (nRow l (rd + 1) i)) ∧ Hid (Below w.heap.size w wx))
      case atStart => exact ⟨0, rfl, Nat.zero_le _, rfl, hrow1, hrn, hbw1⟩
      case round =>
        obtain ⟨i, rfl, hi, rfl, hrd1, hrn1, hbx⟩ := hrel
        by_cases hli : i < l.length
        · obtain ⟨r, hr⟩ : ∃ r, l[i]? = some r := ⟨_, List.getElem?_eq_getElem hli⟩
          obtain ⟨b, off, eo, ec, ta, tc, ra, rc, rfl, hbl, c, hp⟩ := res_at2 hl.out hr
          obtain ⟨c0, c1, c2, c3, c4, c5, c6, c7⟩ := c.below hbl hbx.out
          have hk1 : (i : Int) < (l.length : Int) := nn_lt hli
          have hwi : Hid (wrap64 ((i : Int) + 1) = ((i + 1 : Nat) : Int)) := Lib.hid (by unfold wrap64; omega)
          have htl := hp.t.1
          by_cases k2 : r.kind = 2
          · rw [k2] at c0
            have hdl := dEl_succ hU.out (rd := rd) hr k2
            replace hp := Lib.hid hp
            replace hr := Lib.hid hr
            replace hdl := Lib.hid hdl
            replace k2 := Lib.hid k2
            replace hi := Lib.hid hi
            replace hbl := Lib.hid hbl
            replace c := Lib.hid c
            go_wp2
            obtain ⟨wo, hwo⟩ : ∃ wo, wo = wr := ⟨_, rfl⟩
            subst hwo
            go_loopg [7, 8] (r.tgts.length + 1) (fun gg nv kv wy => ∃ k : Nat, gg = r.tgts.length - k + 1 ∧ k ≤ r.tgts.length ∧ kv = .int .i64 k ∧ nv = .int .i64 (stepE (known l rd) (r.tgts.take k) 1 : Nat) ∧ Hid (Below wo.heap.size wo wy))
            case atStart => exact ⟨0, rfl, Nat.zero_le _, rfl, rfl, Lib.hid (Below.refl _ _)⟩
            case round =>
              obtain ⟨k, rfl, hk, rfl, rfl, hby⟩ := hrel
              have hgd2 := (ownsRow_ge hrd1.out rfl).2
              have hrd2 := Lib.hid (ownsRow_tch hrd1.out (Tch.of_below (S := No) hby.out) (fun _ _ q => q))
              have hrn2 := Lib.hid (ownsRow_tch hrn1.out (Tch.of_below (S := No) hby.out) (fun _ _ q => q))
              have hbx2 := Lib.hid (seq_below hbx.out hby.out)
              have hle1 := stepE_le (known_le l rd) (r.tgts.take k) 1 (by omega)
              have d0 : wr.cell? ⟨b, off + i * 8, none⟩ = some (.int .i64 2) := (hbx2.out.cell (p := ⟨b, _, none⟩) hbl.out).trans ((hbx.out.cell (p := ⟨b, _, none⟩) hbl.out).symm.trans c0)
              have d3 : wr.cell? ⟨b, off + i * 8 + 3, none⟩ = some (.slice ta r.tgts.length tc) := (hbx2.out.cell (p := ⟨b, _, none⟩) hbl.out).trans ((hbx.out.cell (p := ⟨b, _, none⟩) hbl.out).symm.trans c3)
              have hnx := fun t => stepE_next (e := known l rd) (ts := r.tgts) (k := k) (t := t)
              have hdd := stepE_dead (e := known l rd) (ts := r.tgts) (k := k)
              obtain ⟨sn, hsn⟩ : ∃ sn, sn = stepE (known l rd) (r.tgts.take k) 1 := ⟨_, rfl⟩
              rw [← hsn] at hle1 hnx hdd ⊢
              by_cases hlk : k < r.tgts.length
              · have k0 : (k : Int) < (r.tgts.length : Int) := nn_lt hlk
                by_cases hz : sn = 0
                · subst hz
                  obtain ⟨gx, eg, en, _, cn, fn⟩ := ownsRow_cell hrn2.out (nRow_at hli)
                  clear en
                  simp only [Option.some.injEq, Addr.mk.injEq, and_true] at eg
                  subst eg
                  rw [if_neg (Nat.lt_irrefl i)] at cn
                  have hrn3 := (hrn2.out.stored i (.int .i64 (0 : Nat))).1
                  rw [nRow_set hli (by rw [hdl.out]; exact (hdd rfl).symm)] at hrn3
                  have tS := Tch.setCell (S := fun q => q = gn) wr (p := ⟨gn, i, none⟩) rfl (.int .i64 (0 : Nat))
                  have hrd3 := ownsRow_tch hrd2.out tS (fun q hq e => hne.out (by cases hq; exact e))
                  have hbx3 := Tch.below hbx2.out tS hbx2.out.size (fun q e => by rw [e]; exact (ownsRow_ge hrn2.out rfl).1)
                  replace hrn3 := Lib.hid hrn3
                  replace tS := Lib.hid tS
                  replace hrd3 := Lib.hid hrd3
                  replace hbx3 := Lib.hid hbx3
                  replace hby := Lib.hid hby
                  replace hk := Lib.hid hk
                  replace hle1 := Lib.hid hle1
                  replace hsn := Lib.hid hsn
                  clear hnx hdd
                  go_wp2
                  go_roundg (l.length - (i + 1) + 1)
                  case rel => exact ⟨i + 1, rfl, hli, by first | rw [hwi.out] | go_num, hrd3, hrn3, hbx3⟩
                  case measure => exact nn_downS hli
                · have k1 : (0 : Int) < (sn : Int) := by omega
                  obtain ⟨t, ht⟩ : ∃ t, r.tgts[k]? = some t := ⟨_, List.getElem?_eq_getElem hlk⟩
                  obtain ⟨tb, toff, rfl, _, e0, e1, e2, _⟩ := tgt_at hp.out.t hbx2.out ht
                  have hwk2 := Lib.hid (nn_succ2 hlk htl)
                  have hnx2 := hnx t ht hz
                  clear hnx hdd
                  have hba := alloc_below wr (.cells #[.string t.service, .string t.split, .float .f64 t.weight] 57)
                  have hby3 := Lib.hid (seq_below hby.out hba)
                  have hbx3 := seq_below hbx2.out hba
                  have hF := find70_at hl.out 2 t.split hbx3
                  cases hs : t.service.toList.isEmpty with
                  | false =>
                    have hs2 : (!t.service.toList.isEmpty) = true := by rw [hs]; rfl
                    rw [if_neg (by unfold noS; rw [hs]; simp)] at hnx2
                    replace hnx2 := Lib.hid hnx2
                    replace hsn := Lib.hid hsn
                    replace hF := Lib.hid hF
                    replace hba := Lib.hid hba
                    replace hbx3 := Lib.hid hbx3
                    replace ht := Lib.hid ht
                    replace hle1 := Lib.hid hle1
                    replace hby := Lib.hid hby
                    replace hk := Lib.hid hk
                    replace hz := Lib.hid hz
                    go_wp2
                    go_roundg (r.tgts.length - (k + 1) + 1)
                    case rel => exact ⟨k + 1, rfl, hlk, by first | rw [hwk2.out] | go_num, by rw [hnx2.out], hby3⟩
                    case measure => exact nn_downS hlk
                  | true =>
                    have hs2 : (!t.service.toList.isEmpty) = false := by rw [hs]; rfl
                    rw [if_pos (show noS t.service = true from hs)] at hnx2
                    have hfb := firstN_lt l.length (findIx l 2 t.split)
                    by_cases hf0 : findI l 2 t.split < 0
                    · rw [if_pos (known_none hf0 rd)] at hnx2
                      generalize findI l 2 t.split = f at *
                      clear hfb
                      replace hnx2 := Lib.hid hnx2
                      replace hsn := Lib.hid hsn
                      replace hF := Lib.hid hF
                      replace hba := Lib.hid hba
                      replace hbx3 := Lib.hid hbx3
                      replace ht := Lib.hid ht
                      replace hle1 := Lib.hid hle1
                      replace hby := Lib.hid hby
                      replace hk := Lib.hid hk
                      replace hz := Lib.hid hz
                      go_wp2_with (first | (go_at_call 70; (with_reducible refine hF.out.mono ?_); rintro e w5 ⟨rfl, rfl⟩) | fail)
                      go_roundg (r.tgts.length - (k + 1) + 1)
                      case rel => exact ⟨k + 1, rfl, hlk, by first | rw [hwk2.out] | go_num, by rw [hnx2.out]; rfl, hby3⟩
                      case measure => exact nn_downS hlk
                    · obtain ⟨j, hj⟩ : ∃ j : Nat, findI l 2 t.split = j := ⟨(findI l 2 t.split).toNat, by omega⟩
                      have hjl : j < l.length := by
                        have h2 := hfb.2
                        have h3 : firstN l.length (findIx l 2 t.split) = (j : Int) := hj
                        rw [h3] at h2; omega
                      rw [hj] at hF
                      have hke := known_find hj hjl rd
                      obtain ⟨gx, eg, en, _, cd, _⟩ := ownsRow_cell hrd2.out (dCells_at (rd := rd) hjl)
                      clear en
                      simp only [Option.some.injEq, Addr.mk.injEq, and_true] at eg
                      subst eg
                      rw [hke] at cd
                      have hkle := known_le l rd t.split
                      clear hfb hf0
                      have g1 : (j : Int) < (l.length : Int) := nn_lt hjl
                      have g2 : decide ((j : Int) < 0) = false := decide_eq_false (by omega)
                      have g3 : (0 : Int) ≤ (j : Int) := by omega
                      have hgd3 : gd < wr.heap.size := (ownsRow_ge hrd2.out rfl).2
                      generalize known l rd t.split = ee at *
                      by_cases he : ee = 0
                      · subst he
                        rw [if_pos rfl] at hnx2
                        replace hj := Lib.hid hj
                        replace hjl := Lib.hid hjl
                        replace hke := Lib.hid hke
                        replace hkle := Lib.hid hkle
                        replace hnx2 := Lib.hid hnx2
                        replace hsn := Lib.hid hsn
                        replace hF := Lib.hid hF
                        replace hba := Lib.hid hba
                        replace hbx3 := Lib.hid hbx3
                        replace ht := Lib.hid ht
                        replace hle1 := Lib.hid hle1
                        replace hby := Lib.hid hby
                        replace hk := Lib.hid hk
                        replace hz := Lib.hid hz
                        go_wp2_with (first | (go_at_call 70; (with_reducible refine hF.out.mono ?_); rintro e w5 ⟨rfl, rfl⟩) | fail)
                        go_roundg (r.tgts.length - (k + 1) + 1)
                        case rel => exact ⟨k + 1, rfl, hlk, by first | rw [hwk2.out] | go_num, by rw [hnx2.out]; rfl, hby3⟩
                        case measure => exact nn_downS hlk
                      · rw [if_neg he] at hnx2
                        have g4 : ((ee : Int) == 0) = false := beq_eq_false_iff_ne.2 (by omega)
                        have g5 : (ee : Int) ≤ 8 := by omega
                        have g6 : (0 : Int) ≤ (ee : Int) := by omega
                        by_cases hmx : sn < ee + 1
                        · have g7 : (sn : Int) < (ee : Int) + 1 := by omega
                          rw [Nat.max_eq_right (by omega)] at hnx2
                          replace hj := Lib.hid hj
                          replace hjl := Lib.hid hjl
                          replace hke := Lib.hid hke
                          replace hkle := Lib.hid hkle
                          replace he := Lib.hid he
                          replace hmx := Lib.hid hmx
                          replace hnx2 := Lib.hid hnx2
                          replace hsn := Lib.hid hsn
                          replace hF := Lib.hid hF
                          replace hba := Lib.hid hba
                          replace hbx3 := Lib.hid hbx3
                          replace ht := Lib.hid ht
                          replace hle1 := Lib.hid hle1
                          replace hby := Lib.hid hby
                          replace hk := Lib.hid hk
                          replace hz := Lib.hid hz
                          go_wp2_with (first | (go_at_call 70; (with_reducible refine hF.out.mono ?_); rintro e w5 ⟨rfl, rfl⟩) | fail)
                          go_roundg (r.tgts.length - (k + 1) + 1)
                          case rel => exact ⟨k + 1, rfl, hlk, by first | rw [hwk2.out] | go_num, by rw [hnx2.out]; go_num, hby3⟩
                          case measure => exact nn_downS hlk
                        · have g7 : decide ((sn : Int) < (ee : Int) + 1) = false := decide_eq_false (by omega)
                          rw [Nat.max_eq_left (by omega)] at hnx2
                          replace hj := Lib.hid hj
                          replace hjl := Lib.hid hjl
                          replace hke := Lib.hid hke
                          replace hkle := Lib.hid hkle
                          replace he := Lib.hid he
                          replace hmx := Lib.hid hmx
                          replace hnx2 := Lib.hid hnx2
                          replace hsn := Lib.hid hsn
                          replace hF := Lib.hid hF
                          replace hba := Lib.hid hba
                          replace hbx3 := Lib.hid hbx3
                          replace ht := Lib.hid ht
                          replace hle1 := Lib.hid hle1
                          replace hby := Lib.hid hby
                          replace hk := Lib.hid hk
                          replace hz := Lib.hid hz
                          go_wp2_with (first | (go_at_call 70; (with_reducible refine hF.out.mono ?_); rintro e w5 ⟨rfl, rfl⟩) | fail)
                          go_roundg (r.tgts.length - (k + 1) + 1)
                          case rel => exact ⟨k + 1, rfl, hlk, by first | rw [hwk2.out] | go_num, by rw [hnx2.out], hby3⟩
                          case measure => exact nn_downS hlk
              · have k0 : decide ((k : Int) < (r.tgts.length : Int)) = false := decide_eq_false (by omega)
                rw [List.take_of_length_le (by omega)] at hsn
                obtain ⟨gx, eg, en, _, cn, fn⟩ := ownsRow_cell hrn2.out (nRow_at hli)
                clear en
                simp only [Option.some.injEq, Addr.mk.injEq, and_true] at eg
                subst eg
                rw [if_neg (Nat.lt_irrefl i)] at cn
                have hrn3 := (hrn2.out.stored i (.int .i64 (sn : Nat))).1
                rw [nRow_set hli (by rw [hdl.out]; exact hsn)] at hrn3
                have tS := Tch.setCell (S := fun q => q = gn) wr (p := ⟨gn, i, none⟩) rfl (.int .i64 (sn : Nat))
                have hrd3 := ownsRow_tch hrd2.out tS (fun q hq e => hne.out (by cases hq; exact e))
                have hbx3 := Tch.below hbx2.out tS hbx2.out.size (fun q e => by rw [e]; exact (ownsRow_ge hrn2.out rfl).1)
                replace hrn3 := Lib.hid hrn3
                replace tS := Lib.hid tS
                replace hrd3 := Lib.hid hrd3
                replace hbx3 := Lib.hid hbx3
                replace hby := Lib.hid hby
                replace hk := Lib.hid hk
                replace hle1 := Lib.hid hle1
                replace hsn := Lib.hid hsn
                clear hnx hdd
                go_wp2
                go_roundg (l.length - (i + 1) + 1)
                case rel => exact ⟨i + 1, rfl, hli, by first | rw [hwi.out] | go_num, hrd3, hrn3, hbx3⟩
                case measure => exact nn_downS hli
          · have k2' : (r.kind != 2) = true := bne_iff_ne.2 k2
            have hsk := nRow_skip (rd := rd + 1) hli (dEl_not hr k2)
            replace hp := Lib.hid hp
            replace hr := Lib.hid hr
            replace k2 := Lib.hid k2
            replace hi := Lib.hid hi
            replace hbl := Lib.hid hbl
            replace c := Lib.hid c
            replace hsk := Lib.hid hsk
            go_wp2
            go_roundg (l.length - (i + 1) + 1)
            case rel => exact ⟨i + 1, rfl, hli, by first | rw [hwi.out] | go_num, hrd1, by rw [hsk.out]; exact hrn1, hbx⟩
            case measure => exact nn_downS hli
        · have hk1 : decide ((i : Int) < (l.length : Int)) = false := decide_eq_false (by omega)
          have hil : i = l.length := by omega
          have hall := nRow_all l (rd + 1)
          replace hil := Lib.hid hil
          replace hi := Lib.hid hi
          replace hall := Lib.hid hall
          go_wp2
          go_roundg (8 - (rd + 1) + 1)
          case rel => exact ⟨rd + 1, gn, rfl, hlt, by first | rw [hwk.out] | go_num, rfl, by rw [← hall.out, ← hil.out]; rw [hil.out] at hrn1 ⊢; exact hrn1, hbx⟩
          case measure => exact nn_downS hlt
    · have hk0 : decide ((rd : Int) < 8) = false := decide_eq_false (by omega)
      have hr8 : rd = 8 := by omega
      replace hr8 := Lib.hid hr8
      replace hrd := Lib.hid hrd
      go_wp2
      go_ret
      exact ⟨gd, rfl, by rw [← hr8.out]; exact hrow.out, hbw.out⟩
end Go.Proofs.Ytjepgpocmnijiaa
end
