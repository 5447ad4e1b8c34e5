/- LinesOwn: the law walked. -/
import Derived.Test.YtabgckjokniooaaLaz
import Derived.Test.YtabgckjokniooaaLap
namespace Go.Proofs.Ytabgckjokniooaa
open Go.RowKit Go.Ln Go.Mp Go.Tr Go.Shelf
set_option linter.unusedVariables false
set_option maxRecDepth 100000
set_option maxHeartbeats 4000000
theorem BytS.of_below {w w' : World} {b : Nat} {v : Value} {l : List UInt8} (h : BytS w b v l) (hB : Below w.heap.size w w') (hb : b < w.heap.size ∨ l = []) : BytS w' b v l := by
  rcases hb with hb | rfl
  · exact h.keep (hB.block b hb)
  · obtain ⟨ao, cap, rfl, h1, h2, _⟩ := h
    exact ⟨ao, cap, rfl, h1, h2, fun i c hc => by simp at hc⟩
theorem five_stored {w : World} {B e gb n cap o : Nat} {xs : List Value} (h : w.ownsRow B e 5 (.slice (some ⟨gb, 0, none⟩) n cap) n xs) (y0 y1 y2 y3 y4 : Value) :
    ∃ xs', (((((w.setCell ⟨gb, o, none⟩ y0).setCell ⟨gb, o + 1, none⟩ y1).setCell ⟨gb, o + 2, none⟩ y2).setCell ⟨gb, o + 3, none⟩ y3).setCell ⟨gb, o + 4, none⟩ y4).ownsRow B e 5 (.slice (some ⟨gb, 0, none⟩) n cap) n xs' ∧
      Tch (fun k => k = gb) w (((((w.setCell ⟨gb, o, none⟩ y0).setCell ⟨gb, o + 1, none⟩ y1).setCell ⟨gb, o + 2, none⟩ y2).setCell ⟨gb, o + 3, none⟩ y3).setCell ⟨gb, o + 4, none⟩ y4) ∧ ∀ k, o + 5 ≤ k → xs'[k]? = xs[k]? := by
  have h1 := (h.stored o y0).1
  have h2 := (h1.stored (o + 1) y1).1
  have h3 := (h2.stored (o + 2) y2).1
  have h4 := (h3.stored (o + 3) y3).1
  have h5 := (h4.stored (o + 4) y4).1
  refine ⟨_, h5, ?_, fun k hk => ?_⟩
  · exact ((((Tch.setCell (S := fun k => k = gb) w (p := ⟨gb, o, none⟩) rfl y0).trans (Tch.setCell (S := fun k => k = gb) _ (p := ⟨gb, o + 1, none⟩) rfl y1) (fun _ h => .inl h)).trans (Tch.setCell (S := fun k => k = gb) _ (p := ⟨gb, o + 2, none⟩) rfl y2) (fun _ h => .inl h)).trans (Tch.setCell (S := fun k => k = gb) _ (p := ⟨gb, o + 3, none⟩) rfl y3) (fun _ h => .inl h)).trans (Tch.setCell (S := fun k => k = gb) _ (p := ⟨gb, o + 4, none⟩) rfl y4) (fun _ h => .inl h)
  · rw [List.getElem?_set_ne (by omega), List.getElem?_set_ne (by omega), List.getElem?_set_ne (by omega), List.getElem?_set_ne (by omega), List.getElem?_set_ne (by omega)]
theorem five_at {w : World} {B e gb n cap i : Nat} {xs : List Value} (h : w.ownsRow B e 5 (.slice (some ⟨gb, 0, none⟩) n cap) n xs) (hi : i < n) : w.frozen? ⟨gb, i * 5, none⟩ = false ∧ w.frozen? ⟨gb, i * 5 + 1, none⟩ = false ∧ w.frozen? ⟨gb, i * 5 + 2, none⟩ = false ∧ w.frozen? ⟨gb, i * 5 + 3, none⟩ = false ∧ w.frozen? ⟨gb, i * 5 + 4, none⟩ = false := by
  have hl := h.1
  have at' : ∀ j, j < xs.length → w.frozen? ⟨gb, j, none⟩ = false := fun j hj => by
    obtain ⟨g, e, _, _, c, f⟩ := ownsRow_cell h (List.getElem?_eq_getElem hj)
    cases e
    exact f
  exact ⟨at' _ (by omega), at' _ (by omega), at' _ (by omega), at' _ (by omega), at' _ (by omega)⟩
def sTs (text : List UInt8) : List Tk := match (scan text).2 with
  | none => (scan text).1
  | some _ => []
def sF (text : List UInt8) : Nat × Nat × Int := match (scan text).2 with
  | none => (0, 0, 0)
  | some f => f
theorem scanV {w w' : World} {text : List UInt8} {e : Ending} (h : ScanPost w (scan text) e w') : ∃ O, e = .returned (.tuple #[O, fltA (sF text)]) ∧ tkRow w' w.heap.size O (sTs text) ∧ Below w.heap.size w w' := by
  obtain ⟨O, f, he, h2, hb⟩ := h
  unfold sF sTs
  cases hs : (scan text).2 with
  | none =>
    rw [hs] at h2
    obtain ⟨rfl, hr⟩ := h2
    exact ⟨O, he, hr, hb⟩
  | some g =>
    rw [hs] at h2
    obtain ⟨rfl, rfl⟩ := h2
    exact ⟨_, he, row_nil _ _, hb⟩
theorem sTs_len (text : List UInt8) : (sTs text).length ≤ 200000 := by
  have h := seq_len text
  rw [seq_scan, List.length_append, List.length_map] at h
  unfold sTs
  split
  · omega
  · simp
theorem scanC (b : Nat) (v : Value) (text : List UInt8) (w : World) (m : Int) (hby : BytS w b v text) (hb : b < w.heap.size ∨ text = []) (hm : w.cell? ⟨0, 0, none⟩ = some (.int .i64 m)) :
    Calls Try.prog 7 #[v] w fun e w' => ∃ O, e = .returned (.tuple #[O, fltA (sF text)]) ∧ tkRow w' w.heap.size O (sTs text) ∧ Below w.heap.size w w' := by
  rcases hb with hb | rfl
  · exact (scan_any b v text w m hby hb hm).mono fun e w' h => scanV h
  · obtain ⟨ob, ho, _⟩ := cell_obj hm
    refine (scan_any 0 v [] w m ?_ (heap_lt ho) hm).mono fun e w' h => scanV h
    obtain ⟨ao, cap, rfl, h1, h2, _⟩ := hby
    exact ⟨ao, cap, rfl, h1, h2, fun i c hc => by simp at hc⟩
theorem scanD {text : List UInt8} {Fd Fl : Nat} {Fe : Int} {ts : List Tk} {m : Int} (hF : sF text = (Fd, Fl, Fe)) (hts : sTs text = ts) (b : Nat) (v : Value) (w : World) (hby : BytS w b v text) (hb : b < w.heap.size ∨ text = []) (hm : w.cell? ⟨0, 0, none⟩ = some (.int .i64 m)) :
    Calls Try.prog 7 #[v] w fun e w' => ∃ O, e = .returned (.tuple #[O, .agg #[.int .i64 Fd, .int .i64 Fl, .int .i64 Fe]]) ∧ tkRow w' w.heap.size O ts ∧ Below w.heap.size w w' := by
  refine (scanC b v text w m hby hb hm).mono ?_
  rintro e w' ⟨O, rfl, h2, h3⟩
  rw [hF, hts] at *
  exact ⟨O, rfl, h2, h3⟩
/-- What a copy of the bytes leaves. -/
theorem copied {w0 w1 w2 : World} {v2 : Value} {text : List UInt8} (hB : Below w0.heap.size w0 w1) (hr : w2.ownsRow w1.heap.size 5 1 v2 (([] : List UInt8).length + text.length) (vbs ([] ++ text))) (hg : (w1.alloc (.cells #[] 5)).grownBy w2 (Value.slice (some ⟨w1.heap.size, 0, none⟩) 0 0).ownBlock) :
    w2.ownsRow w1.heap.size 5 1 v2 text.length (vbs text) ∧ Below w0.heap.size w0 w2 ∧ Below w1.heap.size w1 w2 ∧ ∃ b, BytS w2 b v2 text ∧ (b < w2.heap.size ∨ text = []) := by
  have hr' : w2.ownsRow w1.heap.size 5 1 v2 text.length (vbs text) := by simpa using hr
  have hb12 : Below w1.heap.size w1 w2 := ((Below.refl _ w1).alloc (Nat.le_refl _) (.cells #[] 5)).grown hg (by simp) (fun k hk => by cases hk; exact Nat.le_refl _)
  obtain ⟨b, h1, h2, _⟩ := row_byts hr' rfl
  exact ⟨hr', hB.trans (hb12.mono hB.size), hb12, b, h1, h2⟩
theorem add91 {c : UInt8} {x : Int} (hx : x = (c.toNat : Int)) : (x + 91) % 256 = (((c + 91 : UInt8)).toNat : Int) := by
  rw [UInt8.toNat_add, hx]; simp
theorem nn_wrapB {k m : Nat} (hk : k < m) (hm : m ≤ 140737488351232) : wrap64 ((k : Int) + 1) = ((k + 1 : Nat) : Int) := by unfold wrap64; omega
/-- What holds while the text's copy is written over. -/
structure OSt (w : World) (B1 B2 g1 B4 : Nat) (io o1 o2 : Option Addr) (ic c1 c2 q Fd Fl : Nat) (Fe : Int) (ts : List Tk) (wx : World) : Prop where
  inr : ∃ l : List UInt8, l.length = q ∧ wx.ownsRow B1 5 1 (.slice io q ic) q (vbs l)
  r1 : tkRow wx B2 (.slice o1 ts.length c1) ts
  b1 : wx.heap[g1]? = some (.cells #[.int .i64 Fd, .int .i64 Fl, .int .i64 Fe] 27 (0, 0))
  r2 : tkRow wx B4 (.slice o2 ts.length c2) ts
  bel : Below w.heap.size w wx
  ord : w.heap.size ≤ B1
theorem OSt.store {w : World} {B1 B2 g1 B4 : Nat} {g : Nat} {o1 o2 : Option Addr} {ic c1 c2 q Fd Fl : Nat} {Fe : Int} {ts : List Tk} {wx : World} (h : OSt w B1 B2 g1 B4 (some ⟨g, 0, none⟩) o1 o2 ic c1 c2 q Fd Fl Fe ts wx) {i : Nat} (c : UInt8) (hi : i < q) :
    OSt w B1 B2 g1 B4 (some ⟨g, 0, none⟩) o1 o2 ic c1 c2 q Fd Fl Fe ts (wx.setCell ⟨g, i, none⟩ (.int .u8 (c.toNat : Int))) := by
  obtain ⟨l, hl, hr⟩ := h.inr
  have hs := (hr.stored i (.int .u8 (c.toNat : Int))).1
  have t := Tch.setCell (S := fun k => k = g) wx (p := ⟨g, i, none⟩) rfl (.int .u8 (c.toNat : Int))
  refine ⟨⟨l.set i c, by simp [hl], ?_⟩, ownsRow_tch h.r1 t (fun k hk e => ?_), (t.block g1 (heap_lt h.b1) (fun e => ?_)).trans h.b1, ownsRow_tch h.r2 t (fun k hk e => ?_), Tch.below h.bel t h.bel.size (fun k e => ?_), h.ord⟩
  · have e : vbs (l.set i c) = (vbs l).set i (.int .u8 (c.toNat : Int)) := by simp [vbs, vb, List.map_set]
    rw [e]; exact hs
  · subst e; exact rows_apart hr h.r1 (by decide) _ rfl hk
  · subst e; exact row_not hr h.b1 (by decide) rfl
  · subst e; exact rows_apart hr h.r2 (by decide) _ rfl hk
  · subst e; exact Nat.le_trans h.ord (ownsRow_ge hr rfl).1
/-- What holds while tokens are written over. -/
structure OSu (w : World) (B2 B4 B7 : Nat) (o1 o2 o3 : Option Addr) (c1 c2 c3 : Nat) (ts : List Tk) (i : Nat) (wx : World) : Prop where
  r1 : ∃ xs, wx.ownsRow B2 31 5 (.slice o1 ts.length c1) ts.length xs ∧ ∀ k, i * 5 ≤ k → xs[k]? = (tcs (ts.map tokOf))[k]?
  r2 : tkRow wx B4 (.slice o2 ts.length c2) ts
  r3 : tkRow wx B7 (.slice o3 ts.length c3) ts
  bel : Below w.heap.size w wx
  ord : ∀ g, (Value.slice o1 ts.length c1).ownBlock = some g → g < B4 ∧ g < B7 ∧ w.heap.size ≤ g
  sz : B2 ≤ wx.heap.size
theorem OSu.at {w : World} {B2 B4 B7 : Nat} {o1 o2 o3 : Option Addr} {c1 c2 c3 : Nat} {ts : List Tk} {i : Nat} {wx : World} (h : OSu w B2 B4 B7 o1 o2 o3 c1 c2 c3 ts i wx) {t : Tk} (ht : ts[i]? = some t) :
    ∃ g, o1 = some ⟨g, 0, none⟩ ∧ g < wx.heap.size ∧ wx.cell? ⟨g, i * 5, none⟩ = some (.int .i64 t.kind) ∧ wx.cell? ⟨g, i * 5 + 1, none⟩ = some (.int .i64 t.line) ∧ wx.cell? ⟨g, i * 5 + 2, none⟩ = some (.int .i64 t.col) ∧ wx.cell? ⟨g, i * 5 + 3, none⟩ = some (.string ⟨t.text.toArray⟩) ∧ wx.cell? ⟨g, i * 5 + 4, none⟩ = some (.bool t.quoted) ∧
      wx.frozen? ⟨g, i * 5, none⟩ = false ∧ wx.frozen? ⟨g, i * 5 + 1, none⟩ = false ∧ wx.frozen? ⟨g, i * 5 + 2, none⟩ = false ∧ wx.frozen? ⟨g, i * 5 + 3, none⟩ = false ∧ wx.frozen? ⟨g, i * 5 + 4, none⟩ = false := by
  obtain ⟨xs, hr, hx⟩ := h.r1
  have ht' : (ts.map tokOf)[i]? = some (tokOf t) := by rw [List.getElem?_map, ht]; rfl
  have hc : ∀ j u, j < 5 → (tc (tokOf t))[j]? = some u → ∃ g, o1 = some ⟨g, 0, none⟩ ∧ wx.cell? ⟨g, i * 5 + j, none⟩ = some u ∧ wx.frozen? ⟨g, i * 5 + j, none⟩ = false := fun j u hj hu => by
    obtain ⟨g, e, _, _, c, f⟩ := ownsRow_cell hr (j := i * 5 + j) (u := u) (by rw [hx _ (by omega), tcs_at ht' j hj, hu])
    exact ⟨g, e, c, f⟩
  obtain ⟨g, rfl, c0, f0⟩ := hc 0 _ (by omega) rfl
  obtain ⟨g1, e1, c1, f1⟩ := hc 1 _ (by omega) rfl
  obtain ⟨g2, e2, c2, f2⟩ := hc 2 _ (by omega) rfl
  obtain ⟨g3, e3, c3, f3⟩ := hc 3 _ (by omega) rfl
  obtain ⟨g4, e4, c4, f4⟩ := hc 4 _ (by omega) rfl
  cases e1; cases e2; cases e3; cases e4
  obtain ⟨o, ho, _⟩ := cell_obj c0
  exact ⟨g, rfl, heap_lt ho, c0, c1, c2, c3, c4, f0, f1, f2, f3, f4⟩
theorem OSu.store {w : World} {B2 B4 B7 g : Nat} {o2 o3 : Option Addr} {c1 c2 c3 : Nat} {ts : List Tk} {i : Nat} {wx : World} (h : OSu w B2 B4 B7 (some ⟨g, 0, none⟩) o2 o3 c1 c2 c3 ts i wx) (n : Nat) (y0 y1 y2 y3 y4 : Value) :
    OSu w B2 B4 B7 (some ⟨g, 0, none⟩) o2 o3 c1 c2 c3 ts (i + 1) ((((((wx.setCell ⟨g, i * 5, none⟩ y0).setCell ⟨g, i * 5 + 1, none⟩ y1).setCell ⟨g, i * 5 + 2, none⟩ y2).setCell ⟨g, i * 5 + 3, none⟩ y3).setCell ⟨g, i * 5 + 4, none⟩ y4).drewN n) := by
  obtain ⟨xs, hr, hx⟩ := h.r1
  obtain ⟨xs', hr', t, hx'⟩ := five_stored (o := i * 5) hr y0 y1 y2 y3 y4
  obtain ⟨h1, h2, h3⟩ := h.ord g rfl
  have t' := t.trans (Tch.drewN No _ n) (fun _ h => h.elim)
  exact ⟨⟨xs', ownsRow_tch hr' (Tch.drewN No _ n) (fun _ _ h => h), fun k hk => by rw [hx' k (by omega), hx k (by omega)]⟩, ownsRow_tch h.r2 t' (fun k hk e => by have := (ownsRow_ge h.r2 hk).1; omega), ownsRow_tch h.r3 t' (fun k hk e => by have := (ownsRow_ge h.r3 hk).1; omega), Tch.below h.bel t' h.bel.size (fun k e => by omega), h.ord, Nat.le_trans h.sz t'.size⟩
theorem own_walk (tb : Nat) (v : Value) (text : List UInt8) (w : World) (m : Int) (hby : BytS w tb v text) (htb : tb < w.heap.size) (hlen : text.length ≤ 140737488351232) (hm : w.cell? ⟨0, 0, none⟩ = some (.int .i64 m)) :
    Calls Try.prog 4 #[v] w fun e w' => e = .returned (.bool true) ∧ Below w.heap.size w w' := by
  obtain ⟨ao, cap, rfl⟩ := hby.shape
  obtain ⟨ob, ho, _⟩ := cell_obj hm
  have h0w := heap_lt ho
  obtain ⟨i5, hi5, hz50, hz51, hz52⟩ := info_parts info5
  have hA := awake_any w m hm
  obtain ⟨Fd, Fl, Fe, hF⟩ : ∃ Fd Fl Fe, sF text = (Fd, Fl, Fe) := ⟨_, _, _, rfl⟩
  obtain ⟨ts, hts⟩ : ∃ ts, sTs text = ts := ⟨_, rfl⟩
  have hS := fun b v wx h1 h2 h3 => scanD (m := m) hF hts b v wx h1 h2 h3
  have hcell : ∀ wx, Below w.heap.size w wx → wx.cell? ⟨0, 0, none⟩ = some (.int .i64 m) := fun wx hB => (hB.cell (p := ⟨0, 0, none⟩) h0w).trans hm
  have hkeep : ∀ wx, Below w.heap.size w wx → BytS wx tb (.slice ao text.length cap) text := fun wx hB => hby.keep (hB.block tb htb)
  have htl : ts.length ≤ 200000 := by rw [← hts]; exact sTs_len text
  replace hi5 := Lib.hid hi5
  replace hz50 := Lib.hid hz50
  replace hz51 := Lib.hid hz51
  replace hz52 := Lib.hid hz52
  replace hA := Lib.hid hA
  replace hby := Lib.hid hby
  replace hm := Lib.hid hm
  replace ho := Lib.hid ho
  replace hlen := Lib.hid hlen
  replace hS := Lib.hid hS
  replace hF := Lib.hid hF
  replace hts := Lib.hid hts
  replace hcell := Lib.hid hcell
  replace hkeep := Lib.hid hkeep
  replace htl := Lib.hid htl
  go_enter Try.func4, Try.ntmps4
  go_upto_region 4 with (first
    | (go_at_call 6; refine hA.out.mono ?_; rintro e w1 ⟨rfl, hb1⟩; have hby1 := Lib.hid (hkeep.out _ (hb1.alloc hb1.size (.cells #[] 5))); replace hb1 := Lib.hid hb1)
    | (at_builtin; refine wp_append_byts rfl _ _ (by rfl) w1.heap.size tb i5 hi5.out hz50.out hz51.out hz52.out _ [] (by rfl) (row_empty w1 w1.heap.size (Nat.le_refl _)) _ text (by rfl) hby1.out (by rw [List.length_nil, Nat.zero_add]; exact Nat.le_trans hlen.out (by decide)) (by simp) ?_; intro v2 w2 hr2 hg2 hl2; replace hr2 := Lib.hid hr2; replace hg2 := Lib.hid hg2; replace hl2 := Lib.hid hl2)
    | fail)
  obtain ⟨hr2', hb2, hb12, ib, hin, hib⟩ := copied hb1.out hr2.out hg2.out
  obtain ⟨io, ic, rfl⟩ := ownsRow_shape hr2'
  have hs4 := Lib.hid (hS.out ib _ w2 hin hib (hcell.out w2 hb2))
  clear hr2 hg2 hl2
  replace hr2' := Lib.hid hr2'
  replace hb2 := Lib.hid hb2
  replace hb12 := Lib.hid hb12
  replace hin := Lib.hid hin
  replace hib := Lib.hid hib
  go_upto_region 6 with (first
    | (go_at_call 7; (with_reducible refine hs4.out.mono ?_); rintro e w3 ⟨O1, rfl, hr3, hb3⟩; obtain ⟨o1, c1, rfl⟩ := ownsRow_shape hr3; have hb3' := hb2.out.trans (hb3.mono hb2.out.size); have hb4 := hb3'.alloc hb3'.size (.cells #[.int .i64 Fd, .int .i64 Fl, .int .i64 Fe] 27); have hb24 := hb3.alloc hb3.size (.cells #[.int .i64 Fd, .int .i64 Fl, .int .i64 Fe] 27); have hs6 := Lib.hid (hS.out ib _ (w3.alloc (.cells #[.int .i64 Fd, .int .i64 Fl, .int .i64 Fe] 27)) (hin.out.of_below hb24 hib.out) (hib.out.imp (fun h => Nat.lt_of_lt_of_le h hb24.size) id) (hcell.out _ hb4)); replace hb3 := Lib.hid hb3; replace hb3' := Lib.hid hb3'; replace hb4 := Lib.hid hb4; replace hb24 := Lib.hid hb24; replace hr3 := Lib.hid hr3)
    | (go_at_call 7; (with_reducible refine hs6.out.mono ?_); rintro e w5 ⟨O2, rfl, hr5, hb5⟩; obtain ⟨o2, c2, rfl⟩ := ownsRow_shape hr5; replace hb5 := Lib.hid hb5; replace hr5 := Lib.hid hr5)
    | fail)
  have hst : Hid (OSt w w1.heap.size w2.heap.size w3.heap.size (w3.heap.size + 1) io o1 o2 ic c1 c2 text.length Fd Fl Fe ts (w5.alloc (.cells #[.int .i64 Fd, .int .i64 Fl, .int .i64 Fe] 27))) := by
    have hb46 : Below (w3.heap.size + 1) (w3.alloc (.cells #[.int .i64 Fd, .int .i64 Fl, .int .i64 Fe] 27)) (w5.alloc (.cells #[.int .i64 Fd, .int .i64 Fl, .int .i64 Fe] 27)) := by
      have h := hb5.out.alloc hb5.out.size (.cells #[.int .i64 Fd, .int .i64 Fl, .int .i64 Fe] 27)
      rw [World.size_alloc] at h
      exact h
    have h46 : Tch No (w3.alloc (.cells #[.int .i64 Fd, .int .i64 Fl, .int .i64 Fe] 27)) (w5.alloc (.cells #[.int .i64 Fd, .int .i64 Fl, .int .i64 Fe] 27)) := Tch.of_below (by rw [World.size_alloc]; exact hb46)
    have h26 : Tch No w2 (w5.alloc (.cells #[.int .i64 Fd, .int .i64 Fl, .int .i64 Fe] 27)) := ((Tch.of_below hb3.out : Tch No w2 w3).trans (Tch.alloc No _ _) (fun _ h => h.elim)).trans h46 (fun _ h => h.elim)
    refine Lib.hid ⟨⟨text, rfl, ownsRow_tch hr2'.out h26 (fun _ _ h => h)⟩, ownsRow_tch hr3.out ((Tch.alloc No _ _).trans h46 (fun _ h => h.elim)) (fun _ _ h => h), (hb46.block _ (by omega)).trans (heap_alloc_new w3 _), ownsRow_tch (by have h := hr5.out; rw [World.size_alloc] at h; exact h) (Tch.alloc No _ _) (fun _ _ h => h), Tch.below hb2.out h26 hb2.out.size (fun _ h => h.elim), hb1.out.size⟩
  go_wp2
  go_loopg [8] (text.length + 1) (fun gg iv wr => ∃ i : Nat, gg = text.length - i + 1 ∧ iv = .int .i64 i ∧ i ≤ text.length ∧ Hid (OSt w w1.heap.size w2.heap.size w3.heap.size (w3.heap.size + 1) io o1 o2 ic c1 c2 text.length Fd Fl Fe ts wr))
  case atStart => exact ⟨0, rfl, rfl, Nat.zero_le _, hst⟩
  case round =>
    obtain ⟨i, rfl, rfl, hil, hst2⟩ := hrel
    by_cases hlt : i < text.length
    · have k0 := nn_lt2 hlt
      obtain ⟨l, hl, hr⟩ := hst2.out.inr
      have hxi := List.getElem?_eq_getElem (l := l) (i := i) (by omega)
      generalize l[i] = c at hxi
      obtain ⟨g, rfl, _, _, e0, e1⟩ := ownsRow_cell hr (vbs_at hxi)
      have hwk := Lib.hid (nn_wrapB hlt hlen.out)
      obtain ⟨x, hx⟩ : ∃ x : Int, x = (c.toNat : Int) := ⟨_, rfl⟩
      rw [← hx] at e0
      replace hx := Lib.hid hx
      replace hr := Lib.hid hr
      replace hl := Lib.hid hl
      replace hxi := Lib.hid hxi
      replace hil := Lib.hid hil
      go_wp2
      go_roundg (text.length - (i + 1) + 1)
      case rel => exact ⟨i + 1, rfl, by rw [hwk.out], hlt, Lib.hid (by rw [add91 hx.out]; exact hst2.out.store _ hlt)⟩
      case measure => exact nn_down hlt
    · have k0 := nn_ge2 hlt
      have k1 : decide (i < text.length) = false := decide_eq_false hlt
      have hby1 := Lib.hid (hkeep.out _ (hst2.out.bel.alloc hst2.out.bel.size (.cells #[] 5)))
      replace hlt := Lib.hid hlt
      replace hil := Lib.hid hil
      clear hst
      go_upto_region 11 with (first
        | (at_builtin; refine wp_append_byts rfl _ _ (by rfl) wr.heap.size tb i5 hi5.out hz50.out hz51.out hz52.out _ [] (by rfl) (row_empty wr wr.heap.size (Nat.le_refl _)) _ text (by rfl) hby1.out (by rw [List.length_nil, Nat.zero_add]; exact Nat.le_trans hlen.out (by decide)) (by simp) ?_; intro v7 w7 hr7 hg7 hl7; obtain ⟨hr7', hb7, hb77, jb, hjn, hjb⟩ := copied hst2.out.bel hr7 hg7; obtain ⟨jo, jc, rfl⟩ := ownsRow_shape hr7'; have hs8 := Lib.hid (hS.out jb _ w7 hjn hjb (hcell.out w7 hb7)); clear hr7 hg7 hl7 hjn hjb; replace hr7' := Lib.hid hr7'; replace hb7 := Lib.hid hb7; replace hb77 := Lib.hid hb77)
        | (go_at_call 7; (with_reducible refine hs8.out.mono ?_); rintro e w8 ⟨O3, rfl, hr8, hb8⟩; obtain ⟨o3, c3, rfl⟩ := ownsRow_shape hr8; replace hb8 := Lib.hid hb8; replace hr8 := Lib.hid hr8)
        | fail)
      have hb79 : Below w7.heap.size w7 (w8.alloc (.cells #[.int .i64 Fd, .int .i64 Fl, .int .i64 Fe] 27)) := hb8.out.alloc hb8.out.size _
      have hbr9 : Below wr.heap.size wr (w8.alloc (.cells #[.int .i64 Fd, .int .i64 Fl, .int .i64 Fe] 27)) := hb77.out.trans (hb79.mono hb77.out.size)
      have h39 : (w8.alloc (.cells #[.int .i64 Fd, .int .i64 Fl, .int .i64 Fe] 27)).heap[w3.heap.size]? = some (.cells #[.int .i64 Fd, .int .i64 Fl, .int .i64 Fe] 27 (0, 0)) := (hbr9.block _ (heap_lt hst2.out.b1)).trans hst2.out.b1
      have h89 := heap_alloc_new w8 (.cells #[.int .i64 Fd, .int .i64 Fl, .int .i64 Fe] 27)
      have hsu : Hid (OSu w w2.heap.size (w3.heap.size + 1) w7.heap.size o1 o2 o3 c1 c2 c3 ts 0 (w8.alloc (.cells #[.int .i64 Fd, .int .i64 Fl, .int .i64 Fe] 27))) := Lib.hid
        { r1 := ⟨_, ownsRow_tch hst2.out.r1 (Tch.of_below hbr9 : Tch No _ _) (fun _ _ h => h), fun k _ => rfl⟩
          r2 := ownsRow_tch hst2.out.r2 (Tch.of_below hbr9 : Tch No _ _) (fun _ _ h => h)
          r3 := ownsRow_tch hr8.out (Tch.alloc No _ _) (fun _ _ h => h)
          bel := hst2.out.bel.trans (hbr9.mono hst2.out.bel.size)
          ord := fun g hg => by
            have h1 := ownsRow_ge hr3.out hg
            have h2 := hb2.out.size
            have h3 := hb5.out.size
            have h4 := hb77.out.size
            have h5 := (ownsRow_ge hst2.out.r1 hg).2
            simp at h3
            exact ⟨by omega, by omega, by omega⟩
          sz := by
            have h1 := hb3.out.size
            have h2 := heap_lt hst2.out.b1
            have h3 := hbr9.size
            omega }
      obtain ⟨w9, hw9⟩ : ∃ w9, w9 = w8.alloc (.cells #[.int .i64 Fd, .int .i64 Fl, .int .i64 Fe] 27) := ⟨_, rfl⟩
      rw [← hw9] at h39 h89 hsu ⊢
      clear hw9 hb79 hbr9
      obtain ⟨y0, y1, y2⟩ : w9.cell? ⟨w3.heap.size, 0, none⟩ = some (.int .i64 Fd) ∧ w9.cell? ⟨w3.heap.size, 1, none⟩ = some (.int .i64 Fl) ∧ w9.cell? ⟨w3.heap.size, 2, none⟩ = some (.int .i64 Fe) := ⟨cell_of_row _ _ 0 _ _ _ h39, cell_of_row _ _ 1 _ _ _ h39, cell_of_row _ _ 2 _ _ _ h39⟩
      obtain ⟨z0, z1, z2⟩ : w9.cell? ⟨w8.heap.size, 0, none⟩ = some (.int .i64 Fd) ∧ w9.cell? ⟨w8.heap.size, 1, none⟩ = some (.int .i64 Fl) ∧ w9.cell? ⟨w8.heap.size, 2, none⟩ = some (.int .i64 Fe) := ⟨cell_of_row _ _ 0 _ _ _ h89, cell_of_row _ _ 1 _ _ _ h89, cell_of_row _ _ 2 _ _ _ h89⟩
      replace h39 := Lib.hid h39
      replace h89 := Lib.hid h89
      go_wp2_with fail
      obtain ⟨wo, rfl⟩ : ∃ wo : World, wo = wr := ⟨_, rfl⟩
      clear y0 y1 y2 z0 z1 z2
      go_loopg [11] (ts.length + 1) (fun gg iv wr => ∃ i : Nat, gg = ts.length - i + 1 ∧ iv = .int .i64 i ∧ i ≤ ts.length ∧ Hid (OSu w w2.heap.size (w3.heap.size + 1) w7.heap.size o1 o2 o3 c1 c2 c3 ts i wr))
      case atStart => exact ⟨0, rfl, rfl, Nat.zero_le _, hsu⟩
      case round =>
        obtain ⟨i, rfl, rfl, hil, hsx⟩ := hrel
        by_cases hlt : i < ts.length
        · have k0 := nn_lt2 hlt
          have hwk := Lib.hid (nn_wrapB hlt (by have := htl.out; omega))
          have hxi := List.getElem?_eq_getElem hlt
          generalize ts[i] = t at hxi
          obtain ⟨g, rfl, hg, a0, a1, a2, a3, a4, f0, f1, f2, f3, f4⟩ := hsx.out.at hxi
          obtain ⟨g3, rfl, hg3, e0, e1, e2, e3, e4⟩ := tk_cells hsx.out.r3 hxi
          replace hxi := Lib.hid hxi
          replace hil := Lib.hid hil
          go_wp2_with fail
          go_quiet (fail)
          go_wp2_with fail
          go_roundg (ts.length - (i + 1) + 1)
          case rel => exact ⟨i + 1, rfl, by rw [hwk.out], hlt, Lib.hid (hsx.out.store _ _ _ _ _ _)⟩
          case measure => exact nn_down hlt
        · have k0 := nn_ge2 hlt
          have k1 : decide (i < ts.length) = false := decide_eq_false hlt
          obtain ⟨xs, hrx, _⟩ := hsx.out.r1
          have hal := Lib.hid (hrx.alloc (.cells #[.int .i64 0, .int .i64 0, .int .i64 0, .string ⟨#[]⟩, .bool false, .int .i64 0, .int .i64 0, .int .i64 0, .string ⟨#[]⟩, .bool false] 31))
          obtain ⟨i0, hi, hz0, hz1, hz2⟩ := info_parts info31
          have hn2 : ts.length + 2 ≤ maxLen ∧ (ts.length + 2) * 48 ≤ 140737488355328 := by have := htl.out; unfold maxLen; omega
          have hB2 : w2.heap.size ≤ (wr.alloc (.cells #[.int .i64 0, .int .i64 0, .int .i64 0, .string ⟨#[]⟩, .bool false, .int .i64 0, .int .i64 0, .int .i64 0, .string ⟨#[]⟩, .bool false] 31)).heap.size := by
            have h1 := hsx.out.sz
            simp; omega
          have hnc := new_cells wr [.int .i64 0, .int .i64 0, .int .i64 0, .string ⟨#[]⟩, .bool false, .int .i64 0, .int .i64 0, .int .i64 0, .string ⟨#[]⟩, .bool false] 31
          replace hlt := Lib.hid hlt
          replace hil := Lib.hid hil
          replace hi := Lib.hid hi
          replace hz0 := Lib.hid hz0
          replace hz1 := Lib.hid hz1
          replace hz2 := Lib.hid hz2
          replace hrx := Lib.hid hrx
          replace hn2 := Lib.hid hn2
          replace hB2 := Lib.hid hB2
          replace hnc := Lib.hid hnc
          go_upto_region 20 with (first
            | (at_builtin; refine wpList_append_own _ rfl _ _ 24 (by rfl) w2.heap.size 31 i0 (.agg #[.int .i64 0, .int .i64 0, .int .i64 0, .string ⟨#[]⟩, .bool false]) 5 48 Try.underlying24 hi.out hz0.out hz1.out hz2.out rfl (by decide) _ ts.length _ (by rfl) hal.out ⟨wr.heap.size, 0, none⟩ 2 2 [.int .i64 0, .int .i64 0, .int .i64 0, .string ⟨#[]⟩, .bool false, .int .i64 0, .int .i64 0, .int .i64 0, .string ⟨#[]⟩, .bool false] (by rfl) rfl hnc.out (by simp [Value.oneCell']) hn2.out.1 hn2.out.2 hB2.out ?_; intro v10 w10 hr10 hg10 _; obtain ⟨po, pc, rfl⟩ := ownsRow_shape hr10; replace hr10 := Lib.hid hr10; replace hg10 := Lib.hid hg10)
            | fail)
          have t10 : Tch (fun k => (Value.slice o1 ts.length c1).ownBlock = some k) wr w10 := (Tch.alloc _ wr _).trans (Tch.grown hg10.out (fun k hk => .inl hk)) (fun _ h => .inl h)
          have hfin : Hid (tkRow w10 (w3.heap.size + 1) (.slice o2 ts.length c2) ts ∧ tkRow w10 w7.heap.size (.slice o3 ts.length c3) ts ∧ Below w.heap.size w w10) := Lib.hid
            ⟨ownsRow_tch hsx.out.r2 t10 (fun k hk e => by have := (ownsRow_ge hsx.out.r2 hk).1; have := (hsx.out.ord k e).1; omega),
             ownsRow_tch hsx.out.r3 t10 (fun k hk e => by have := (ownsRow_ge hsx.out.r3 hk).1; have := (hsx.out.ord k e).2.1; omega),
             Tch.below hsx.out.bel t10 hsx.out.bel.size (fun k e => (hsx.out.ord k e).2.2)⟩
          clear hal hnc hB2 hn2 t10
          obtain ⟨wl, rfl⟩ : ∃ wl : World, wl = wr := ⟨_, rfl⟩
          go_wp2
          go_loopg [12] (ts.length + 1) (fun gg iv wr => ∃ i : Nat, gg = ts.length - i + 1 ∧ iv = .int .i64 i ∧ i ≤ ts.length ∧ Hid (tkRow wr (w3.heap.size + 1) (.slice o2 ts.length c2) ts ∧ tkRow wr w7.heap.size (.slice o3 ts.length c3) ts ∧ Below w.heap.size w wr))
          case atStart => exact ⟨0, rfl, rfl, Nat.zero_le _, hfin⟩
          case round =>
            obtain ⟨i, rfl, rfl, hil, hsy⟩ := hrel
            by_cases hlt : i < ts.length
            · have k0 := nn_lt2 hlt
              have hwk := Lib.hid (nn_wrapB hlt (by have := htl.out; omega))
              have hxi := List.getElem?_eq_getElem hlt
              generalize ts[i] = t at hxi
              obtain ⟨g2, rfl, hg2, a0, a1, a2, a3, a4⟩ := tk_cells hsy.out.1 hxi
              obtain ⟨g3, rfl, hg3, e0, e1, e2, e3, e4⟩ := tk_cells hsy.out.2.1 hxi
              have hdr : ∀ n, Hid (tkRow (wr.drewN n) (w3.heap.size + 1) (.slice (some ⟨g2, 0, none⟩) ts.length c2) ts ∧ tkRow (wr.drewN n) w7.heap.size (.slice (some ⟨g3, 0, none⟩) ts.length c3) ts ∧ Below w.heap.size w (wr.drewN n)) := fun n => Lib.hid ⟨ownsRow_tch hsy.out.1 (Tch.drewN No _ n) (fun _ _ h => h), ownsRow_tch hsy.out.2.1 (Tch.drewN No _ n) (fun _ _ h => h), Tch.below hsy.out.2.2 (Tch.drewN No _ n) hsy.out.2.2.size (fun _ h => h.elim)⟩
              replace hxi := Lib.hid hxi
              replace hil := Lib.hid hil
              replace hdr := Lib.hid hdr
              go_wp2_with fail
              go_quiet (fail)
              go_wp2_with fail
              go_roundg (ts.length - (i + 1) + 1)
              case rel => exact ⟨i + 1, rfl, by rw [hwk.out], hlt, hdr.out _⟩
              case measure => exact nn_down hlt
            · have k0 := nn_ge2 hlt
              have k1 : decide (i < ts.length) = false := decide_eq_false hlt
              have k2 : decide ((2 : Int) ≤ (ts.length : Int) + 2) = true := decide_eq_true (by omega)
              have k3 : decide (2 ≤ ts.length + 2) = true := decide_eq_true (by omega)
              replace hlt := Lib.hid hlt
              replace hil := Lib.hid hil
              go_wp2
              go_ret
              exact ⟨by simp, hsy.out.2.2⟩
end Go.Proofs.Ytabgckjokniooaa
