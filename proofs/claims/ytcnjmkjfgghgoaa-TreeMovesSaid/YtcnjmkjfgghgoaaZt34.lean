/- The law TreeReads, walked. -/
import Derived.Test.YtcnjmkjfgghgoaaZt33
import Derived.Test.YtcnjmkjfgghgoaaZt10
import Derived.Test.YtcnjmkjfgghgoaaZt32
import Derived.Below
section
/- Trees that the program made read; fault. -/
namespace Go.Proofs.Ytcnjmkjfgghgoaa
open Go.RowKit Go.Mp Go.Tr
set_option linter.unusedVariables false
set_option maxRecDepth 20000
theorem intsR_of {w : World} {B : Nat} {v : Value} {ks : List Int} (h : w.ownsRow B 3 1 v ks.length (icells ks)) : IntsR w v ks := by
  obtain ⟨ao, cap, rfl⟩ := ownsRow_shape h
  refine ⟨ao, cap, rfl, fun i k hk => ?_⟩
  obtain ⟨g, rfl, _, _, c, _⟩ := ownsRow_cell h (j := i) (u := .int .i64 k) (by simp [icells, hk])
  exact ⟨g, 0, rfl, by rw [Nat.zero_add]; exact c⟩
theorem nodesR_of {w : World} {B : Nat} {F : Nat → Prop} {v : Value} {R : List (Nd × Value)} {N : List Nd} (h : NM w B F v R) (hN : R.map (·.1) = N) : NodesR w v N := by
  subst hN
  obtain ⟨ao, cap, rfl⟩ := ownsRow_shape h.row
  refine ⟨ao, cap, by simp, fun i n hn => ?_⟩
  rw [List.getElem?_map] at hn
  obtain ⟨x, hx, rfl⟩ : ∃ x, R[i]? = some x ∧ x.1 = n := by
    cases hr : R[i]? with
    | none => rw [hr] at hn; cases hn
    | some x => rw [hr] at hn; exact ⟨x, rfl, by simpa using hn⟩
  obtain ⟨g, cp, e, hc⟩ := h.at hx
  cases e
  have hk := h.kid i x hx
  obtain ⟨ko, kc, ek⟩ := ownsRow_shape hk
  refine ⟨g, 0, ko, kc, rfl, ?_, ?_, ?_, ?_, ?_, ?_, ?_⟩
  · rw [Nat.zero_add]; exact (hc 0 _ (by omega) rfl).1
  · rw [Nat.zero_add]; exact (hc 1 _ (by omega) rfl).1
  · rw [Nat.zero_add]; exact (hc 2 _ (by omega) rfl).1
  · rw [Nat.zero_add]; exact (hc 3 _ (by omega) rfl).1
  · rw [Nat.zero_add]; exact (hc 4 _ (by omega) rfl).1
  · rw [Nat.zero_add, ← ek]; exact (hc 5 _ (by omega) rfl).1
  · rw [← ek]; exact intsR_of hk
theorem treesR_of {w : World} {B : Nat} {F : Nat → Prop} {v : Value} {L : List TrX} {ts : List T} (h : TM w B F v L) (hL : L.map (·.1) = ts) : TreesR w v (ts.map (lay 0)) := by
  subst hL
  obtain ⟨ao, cap, rfl⟩ := ownsRow_shape h.row
  refine ⟨ao, cap, by simp, fun i N hN => ?_⟩
  rw [List.map_map, List.getElem?_map] at hN
  obtain ⟨x, hx, rfl⟩ : ∃ x, L[i]? = some x ∧ lay 0 x.1 = N := by
    cases hr : L[i]? with
    | none => rw [hr] at hN; cases hN
    | some x => rw [hr] at hN; exact ⟨x, rfl, by simpa using hN⟩
  obtain ⟨R, hR, hM⟩ := h.el i x hx
  obtain ⟨g, rfl, _, _, c, _⟩ := ownsRow_cell h.row (j := i) (u := x.2.1) (by simp [hx])
  obtain ⟨no, nc, e⟩ := ownsRow_shape hM.row
  have hl : R.length = (lay 0 x.1).length := by rw [← hR]; simp
  rw [hl] at e
  exact ⟨g, 0, no, nc, rfl, by rw [Nat.zero_add, ← e]; exact c, by rw [← e]; exact nodesR_of hM hR⟩
theorem fault_any (w : World) (d l e : Int) : Calls Try.prog 13 #[.agg #[.int .i64 d, .int .i64 l, .int .i64 e], .agg #[.int .i64 d, .int .i64 l, .int .i64 e]] w fun e w' => e = .returned (.bool true) ∧ Tch No w w' := by
  go_enter Try.func13, Try.ntmps13
  go_wp2
  go_ret
  exact ⟨rfl, (Tch.alloc No w _).trans (Tch.alloc No _ _) (fun _ h => h.elim)⟩
end Go.Proofs.Ytcnjmkjfgghgoaa
end

section
/- stay: tokens are as they were lent, the mark too. -/
namespace Go.Proofs.Ytcnjmkjfgghgoaa
open Go.RowKit Go.Mp Go.Tr
set_option linter.unusedVariables false
set_option maxRecDepth 100000
set_option maxHeartbeats 1000000
theorem stay_any {w : World} {B gb cap kb : Nat} {lv : Value} {l : List Tok} (hO : OwnM w B gb cap l) (tk : TokS w kb lv l) (hk : kb < w.heap.size ∨ l = []) (hll : l.length < 2932031007400) :
    Calls Try.prog 14 #[.slice (some ⟨gb, 0, none⟩) l.length cap, lv] w fun e w' => e = .returned (.bool true) ∧ Tch No w w' := by
  obtain ⟨ao, cp, rfl, _⟩ := id tk
  have hc := hO.cap
  have hcc : (l.length : Int) + 1 ≤ (cap : Int) := by omega
  have m0 := (hO.cells (i := l.length) (t := mark) (by simp) 0 _ (by omega) rfl).1
  have hwl : wrap64 ((l.length : Int) + 1) = (l.length : Int) + 1 := by unfold wrap64; omega
  rw [Nat.add_zero] at m0
  have hTn := Lib.hid (show (((l.length : Int) + 1).toNat) = l.length + 1 by omega)
  have hlt1 : (l.length : Int) < (l.length : Int) + 1 := by omega
  replace hc := Lib.hid hc
  replace tk := Lib.hid tk
  replace hk := Lib.hid hk
  replace hll := Lib.hid hll
  replace hO := Lib.hid hO
  go_enter Try.func14, Try.ntmps14
  go_wp2
  go_loopg [5] (l.length + 1) (fun gg iv wr => ∃ i : Nat, gg = l.length - i + 1 ∧ iv = .int .i64 i ∧ i ≤ l.length ∧ Tch No w wr)
  case atStart => exact ⟨0, rfl, rfl, Nat.zero_le _, Tch.refl _ _⟩
  case round =>
    obtain ⟨i, rfl, rfl, hil, tr⟩ := hrel
    clear m0 hcc hwl hlt1
    by_cases hlt : i < l.length
    · have k0 := nn_lt hlt
      have hx := List.getElem?_eq_getElem hlt
      generalize l[i] = t at *
      have hkw : kb < w.heap.size := by rcases hk.out with h | h; exact h; rw [h] at hx; simp at hx
      have tkr := tk.out.keep (tr.block kb hkw id)
      obtain ⟨off, rfl, _, d0, d1, d2, d3, d4⟩ := tkr.at hx
      obtain ⟨_, e2, _, b0, b1, b2, b3, b4⟩ := (hO.out.tch tr id).tok.1.at hx
      cases e2
      rw [Nat.zero_add] at b0 b1 b2 b3 b4
      have hwk := nn_succ hlt (Nat.lt_trans hll.out (by decide))
      obtain ⟨w1, hw1⟩ : ∃ w1, w1 = wr.alloc (tokO t 39) := ⟨_, rfl⟩
      have t1 : Tch No wr w1 := by rw [hw1]; exact Tch.alloc No wr _
      obtain ⟨c1, hc1⟩ : ∃ c1, c1 = wr.heap.size := ⟨_, rfl⟩
      have g1 : w1.heap[c1]? = some (tokO t 39) := by rw [hw1, hc1]; exact heap_alloc_new wr _
      obtain ⟨w2, hw2⟩ : ∃ w2, w2 = w1.alloc (tokO t 48) := ⟨_, rfl⟩
      have t2 : Tch No w1 w2 := by rw [hw2]; exact Tch.alloc No w1 _
      obtain ⟨c2, hc2⟩ : ∃ c2, c2 = w1.heap.size := ⟨_, rfl⟩
      have g2 : w2.heap[c2]? = some (tokO t 48) := by rw [hw2, hc2]; exact heap_alloc_new w1 _
      have g1' : w2.heap[c1]? = some (tokO t 39) := (t2.block c1 (Array.getElem?_eq_some_iff.1 g1).1 id).trans g1
      have d0' := t1.cell_some d0 id
      have d1' := t1.cell_some d1 id
      have d2' := t1.cell_some d2 id
      have d3' := t1.cell_some d3 id
      have d4' := t1.cell_some d4 id
      obtain ⟨x0, x1, x2, x3, x4⟩ := tokO_cells g1'
      obtain ⟨y0, y1, y2, y3, y4⟩ := tokO_cells g2
      have tt := Lib.hid ((tr.trans t1 (fun _ h => h.elim)).trans t2 (fun _ h => h.elim))
      replace tkr := Lib.hid tkr
      replace hx := Lib.hid hx
      replace tr := Lib.hid tr
      replace t1 := Lib.hid t1
      replace t2 := Lib.hid t2
      replace g1 := Lib.hid g1
      replace g2 := Lib.hid g2
      replace g1' := Lib.hid g1'
      replace hkw := Lib.hid hkw
      replace hil := Lib.hid hil
      go_upto_region 7 with fail
      rw [show (wr.alloc (tokO t 39)) = w1 from hw1.symm, ← hc1]
      replace hw1 := Lib.hid hw1
      replace hc1 := Lib.hid hc1
      go_upto_region 8 with fail
      rw [show (w1.alloc (tokO t 48)) = w2 from hw2.symm, ← hc2]
      replace hw2 := Lib.hid hw2
      replace hc2 := Lib.hid hc2
      go_wp2
      go_roundg (l.length - (i + 1) + 1)
      case rel => exact ⟨i + 1, rfl, by rw [nn_cast], hlt, tt.out⟩
      case measure => exact Nat.succ_lt_succ (nn_sub hlt)
    · have k0 := nn_ge hlt
      have k1 : decide (i < l.length) = false := decide_eq_false hlt
      replace tr := Lib.hid tr
      replace hlt := Lib.hid hlt
      replace hil := Lib.hid hil
      go_wp2
      go_ret
      exact ⟨rfl, tr.out⟩
end Go.Proofs.Ytcnjmkjfgghgoaa
end

section

namespace Go.Tr
def flt (r : Except (Nat × Fa) (List T)) : Int × Int × Int := match r with
  | .error (k, ln, er) => ((k : Int), ln, er)
  | .ok _ => (0, 0, 0)
def trs (r : Except (Nat × Fa) (List T)) : List T := match r with
  | .error _ => []
  | .ok ts => ts
theorem segs_length (cur l : List Tok) : (segs cur l).length ≤ l.length + 1 := by
  induction l generalizing cur with
  | nil => simp only [segs]; split <;> simp
  | cons t r ih =>
    rw [segs_cons]
    split
    · split
      · have := ih []; simp; omega
      · have := ih []; simp; omega
    · have := ih (cur ++ [t]); simp; omega
theorem docsRun_ok {k : Nat} {ds : List (List Tok)} {ts : List T} (h : docsRun k ds = .ok ts) : ts.length = ds.length ∧ ∀ t ∈ ts, t.size ≤ 4096 := by
  induction ds generalizing k ts with
  | nil => cases h; exact ⟨rfl, fun t ht => by cases ht⟩
  | cons d ds ih =>
    simp only [docsRun] at h
    split at h
    · cases h
    · rename_i t hd
      split at h
      · cases h
      · rename_i us hu
        cases h
        obtain ⟨h1, h2⟩ := ih hu
        refine ⟨by simp [h1], fun x hx => ?_⟩
        rcases List.mem_cons.1 hx with rfl | hx
        · exact doc_size hd
        · exact h2 x hx
theorem trs_ok (l : List Tok) : (trs (ofRun l)).length ≤ l.length + 1 ∧ ∀ t ∈ trs (ofRun l), t.size ≤ 4096 := by
  unfold trs
  split
  · exact ⟨by simp, fun t ht => by cases ht⟩
  · rename_i ts h
    obtain ⟨h1, h2⟩ := docsRun_ok h
    exact ⟨by rw [h1]; exact segs_length [] l, h2⟩
mutual
theorem lay_kids : ∀ (b : Nat) (t : T) (n : Nd), n ∈ lay b t → n.kids.length ≤ t.size
  | b, .node k key text q ln ks, n, h => by
    simp only [lay, List.mem_cons] at h
    simp only [T.size]
    rcases h with rfl | h
    · have : (kidAts (b + 1) ks).length ≤ sizes ks := by rw [kidAts_length]; exact le_sizes ks
      simp only; omega
    · have := lays_kids (b + 1) ks n h; omega
theorem lays_kids : ∀ (b : Nat) (ts : List T) (n : Nd), n ∈ lays b ts → n.kids.length ≤ sizes ts
  | b, [], n, h => by simp only [lays] at h; cases h
  | b, t :: ts, n, h => by
    simp only [lays, List.mem_append] at h
    simp only [sizes]
    rcases h with h | h
    · have := lay_kids b t n h; omega
    · have := lays_kids (b + t.size) ts n h; omega
end
end Go.Tr
namespace Go.Proofs.Ytcnjmkjfgghgoaa
open Go.RowKit Go.Mp Go.Tr
set_option linter.unusedVariables false
set_option maxRecDepth 100000
set_option maxHeartbeats 4000000
theorem slim_lay {t : T} (h : t.size ≤ 4096) : Slim (lay 0 t) :=
  ⟨by rw [lay_length]; omega, fun i n hn => by have := lay_kids 0 t n (List.mem_of_getElem? hn); omega⟩
theorem ofOut_any {w w' : World} {r : Except (Nat × Fa) (List T)} {e : Ending} (h : OfOut w r e w') : ∃ tv F L, e = .returned (.tuple #[tv, .agg #[.int .i64 (flt r).1, .int .i64 (flt r).2.1, .int .i64 (flt r).2.2]]) ∧ L.map (·.1) = trs r ∧ TM w' w.heap.size F tv L ∧ Tch No w w' := by
  unfold OfOut at h
  split at h
  · exact ⟨_, _, [], h.1, rfl, TM.nil w' _, h.2⟩
  · obtain ⟨v, F, L, h1, h2, h3, h4⟩ := h
    exact ⟨v, F, L, h1, h2, h3, h4⟩
theorem tchBelow {w w' : World} (t : Tch No w w') : Below w.heap.size w w' := ⟨t.os, t.tape, t.output, t.size, fun k hk => t.block k hk id⟩
/-- Five cells written into a row. -/
theorem five_stored {w : World} {B e gb n cap o : Nat} {xs : List Value} (h : w.ownsRow B e 5 (.slice (some ⟨gb, 0, none⟩) n cap) n xs) (y0 y1 y2 y3 y4 : Value) :
    ∃ xs', (((((w.setCell ⟨gb, o, none⟩ y0).setCell ⟨gb, o + 1, none⟩ y1).setCell ⟨gb, o + 2, none⟩ y2).setCell ⟨gb, o + 3, none⟩ y3).setCell ⟨gb, o + 4, none⟩ y4).ownsRow B e 5 (.slice (some ⟨gb, 0, none⟩) n cap) n xs' ∧
      Tch (fun k => k = gb) w (((((w.setCell ⟨gb, o, none⟩ y0).setCell ⟨gb, o + 1, none⟩ y1).setCell ⟨gb, o + 2, none⟩ y2).setCell ⟨gb, o + 3, none⟩ y3).setCell ⟨gb, o + 4, none⟩ y4) := by
  have h1 := (h.stored o y0).1
  have h2 := (h1.stored (o + 1) y1).1
  have h3 := (h2.stored (o + 2) y2).1
  have h4 := (h3.stored (o + 3) y3).1
  have h5 := (h4.stored (o + 4) y4).1
  refine ⟨_, h5, ?_⟩
  exact ((((Tch.setCell (S := fun k => k = gb) w (p := ⟨gb, o, none⟩) rfl y0).trans (Tch.setCell (S := fun k => k = gb) _ (p := ⟨gb, o + 1, none⟩) rfl y1) (fun _ h => .inl h)).trans (Tch.setCell (S := fun k => k = gb) _ (p := ⟨gb, o + 2, none⟩) rfl y2) (fun _ h => .inl h)).trans (Tch.setCell (S := fun k => k = gb) _ (p := ⟨gb, o + 3, none⟩) rfl y3) (fun _ h => .inl h)).trans (Tch.setCell (S := fun k => k = gb) _ (p := ⟨gb, o + 4, none⟩) rfl y4) (fun _ h => .inl h)
theorem five_cells {w : World} {B e gb n cap i : Nat} {xs : List Value} (h : w.ownsRow B e 5 (.slice (some ⟨gb, 0, none⟩) n cap) n xs) (hi : i < n) : ∃ x0 x1 x2 x3 x4, w.cell? ⟨gb, i * 5, none⟩ = some x0 ∧ w.cell? ⟨gb, i * 5 + 1, none⟩ = some x1 ∧ w.cell? ⟨gb, i * 5 + 2, none⟩ = some x2 ∧ w.cell? ⟨gb, i * 5 + 3, none⟩ = some x3 ∧ w.cell? ⟨gb, i * 5 + 4, none⟩ = some x4 ∧
    w.frozen? ⟨gb, i * 5, none⟩ = false ∧ w.frozen? ⟨gb, i * 5 + 1, none⟩ = false ∧ w.frozen? ⟨gb, i * 5 + 2, none⟩ = false ∧ w.frozen? ⟨gb, i * 5 + 3, none⟩ = false ∧ w.frozen? ⟨gb, i * 5 + 4, none⟩ = false := by
  have hl := h.1
  have at' : ∀ j, j < xs.length → ∃ x, w.cell? ⟨gb, j, none⟩ = some x ∧ w.frozen? ⟨gb, j, none⟩ = false := fun j hj => by
    obtain ⟨g, e, _, _, c, f⟩ := ownsRow_cell h (List.getElem?_eq_getElem hj)
    cases e
    exact ⟨_, c, f⟩
  obtain ⟨x0, c0, f0⟩ := at' (i * 5) (by omega)
  obtain ⟨x1, c1, f1⟩ := at' (i * 5 + 1) (by omega)
  obtain ⟨x2, c2, f2⟩ := at' (i * 5 + 2) (by omega)
  obtain ⟨x3, c3, f3⟩ := at' (i * 5 + 3) (by omega)
  obtain ⟨x4, c4, f4⟩ := at' (i * 5 + 4) (by omega)
  exact ⟨x0, x1, x2, x3, x4, c0, c1, c2, c3, c4, f0, f1, f2, f3, f4⟩
theorem treesR_tm {w : World} {B : Nat} {F : Nat → Prop} {v : Value} {L : List TrX} {r : Except (Nat × Fa) (List T)} (h : TM w B F v L) (hL : L.map (·.1) = trs r) : TreesR w v ((trs r).map (lay 0)) := treesR_of h hL
theorem tree_reads {W : World} {kb : Nat} {lv : Value} {l : List Tok} (tk : TokS W kb lv l) (hk : kb < W.heap.size ∨ l = []) (hll : l.length < 2932031007400) :
    Calls Try.prog 3 #[lv] W fun e w' => e = .returned (.bool true) ∧ Below W.heap.size W w' := by
  have hslim : ∀ N ∈ (trs (ofRun l)).map (lay 0), Slim N := fun N hN => by
    obtain ⟨t, ht, rfl⟩ := List.mem_map.1 hN
    exact slim_lay ((trs_ok l).2 t ht)
  have hlen : ((trs (ofRun l)).map (lay 0)).length < 8796093022208 := by have := (trs_ok l).1; simp; omega
  have hOwn := own_any tk hk hll
  obtain ⟨r, hr⟩ : ∃ r, r = ofRun l := ⟨_, rfl⟩
  rw [← hr] at hslim hlen
  obtain ⟨fk, fln, fer, hfl⟩ : ∃ a b c, flt r = (a, b, c) := ⟨_, _, _, rfl⟩
  replace hfl := Lib.hid hfl
  obtain ⟨ao, cp, rfl, _⟩ := id tk
  replace hslim := Lib.hid hslim
  replace hlen := Lib.hid hlen
  replace hr := Lib.hid hr
  replace tk := Lib.hid tk
  replace hk := Lib.hid hk
  replace hOwn := Lib.hid hOwn
  replace hll := Lib.hid hll
  go_enter Try.func3, Try.ntmps3
  go_upto_region 2 with (first
    | (go_at_call 9; refine hOwn.out.mono ?_; clear hOwn; rintro e w1 ⟨gb, cap, rfl, hO1, t1⟩; have hgb := Lib.hid hO1.lt; replace hO1 := Lib.hid hO1; replace t1 := Lib.hid t1)
    | fail)
  have hOf := Lib.hid (of_any hO1.out.tok hgb.out.2 (by have := hll.out; omega))
  go_upto_region 3 with (first
    | (go_at_call 10; refine hOf.out.mono ?_; clear hOf; rintro e w2 h2; obtain ⟨tv, F2, L2, rfl, hL2, hT2, t2⟩ := ofOut_any h2; rw [← hr.out] at hL2 ⊢; rw [hfl.out]; obtain ⟨ta, tc, rfl⟩ := ownsRow_shape hT2.row; replace hL2 := Lib.hid hL2; replace hT2 := Lib.hid hT2; replace t2 := Lib.hid t2; clear h2)
    | fail)
  obtain ⟨w3, hw3⟩ : ∃ w3, w3 = w2.alloc (.cells #[.int .i64 fk, .int .i64 fln, .int .i64 fer] 28) := ⟨_, rfl⟩
  obtain ⟨b28, h28⟩ : ∃ b, b = w2.heap.size := ⟨_, rfl⟩
  rw [← hw3, ← h28]
  have t3 : Tch No w2 w3 := by rw [hw3]; exact Tch.alloc No w2 _
  have g3 : w3.heap[b28]? = some (.cells #[.int .i64 fk, .int .i64 fln, .int .i64 fer] 28) := by rw [hw3, h28]; exact heap_alloc_new w2 _
  have t03 : Tch No W w3 := (t1.out.trans t2.out (fun _ h => h.elim)).trans t3 (fun _ h => h.elim)
  have hRf := rof_any (tk.out.stay hk.out t03 id) (hk.out.imp (fun h => Nat.lt_of_lt_of_le h t03.size) id) hll.out
  replace hw3 := Lib.hid hw3
  replace h28 := Lib.hid h28
  replace g3 := Lib.hid g3
  replace hRf := Lib.hid hRf
  replace t3 := Lib.hid t3
  replace t03 := Lib.hid t03
  go_upto_region 4 with (first
    | (go_at_call 11; refine hRf.out.mono ?_; clear hRf; rintro e w4 h4; obtain ⟨wv, F4, L4, rfl, hL4, hT4, t4⟩ := ofOut_any h4; rw [← hr.out] at hL4 ⊢; rw [hfl.out]; obtain ⟨wa, wc', rfl⟩ := ownsRow_shape hT4.row; replace hL4 := Lib.hid hL4; replace hT4 := Lib.hid hT4; replace t4 := Lib.hid t4; clear h4)
    | fail)
  obtain ⟨w5, hw5⟩ : ∃ w5, w5 = w4.alloc (.cells #[.int .i64 fk, .int .i64 fln, .int .i64 fer] 32) := ⟨_, rfl⟩
  obtain ⟨b32, h32⟩ : ∃ b, b = w4.heap.size := ⟨_, rfl⟩
  rw [← hw5, ← h32]
  have t5 : Tch No w4 w5 := by rw [hw5]; exact Tch.alloc No w4 _
  have g5 : w5.heap[b32]? = some (.cells #[.int .i64 fk, .int .i64 fln, .int .i64 fer] 32) := by rw [hw5, h32]; exact heap_alloc_new w4 _
  have t25 : Tch No w2 w5 := (t3.out.trans t4.out (fun _ h => h.elim)).trans t5 (fun _ h => h.elim)
  have t05 : Tch No W w5 := t03.out.trans (t4.out.trans t5 (fun _ h => h.elim)) (fun _ h => h.elim)
  have g35 : w5.heap[b28]? = some (.cells #[.int .i64 fk, .int .i64 fln, .int .i64 fer] 28) := ((t4.out.trans t5 (fun _ h => h.elim)).block b28 (Array.getElem?_eq_some_iff.1 g3.out).1 id).trans g3.out
  have hTa := hT2.out.tch t25 (fun _ _ h => h)
  have hTb := hT4.out.tch t5 (fun _ _ h => h)
  have hS := trees_same (treesR_tm hTa hL2.out) (treesR_tm hTb hL4.out) hlen.out hslim.out
  have hO5 := hO1.out.tch (t2.out.trans t25 (fun _ h => h.elim)) id
  have tk5 := tk.out.stay hk.out t05 id
  obtain ⟨x0, x1, x2, _, _, _⟩ := row3_cells g35
  obtain ⟨y0, y1, y2, _, _, _⟩ := row3_cells g5
  have hFa := fun w => fault_any w fk fln fer
  replace hFa := Lib.hid hFa
  replace hw5 := Lib.hid hw5
  replace h32 := Lib.hid h32
  replace g5 := Lib.hid g5
  replace g35 := Lib.hid g35
  replace hTa := Lib.hid hTa
  replace hTb := Lib.hid hTb
  replace hS := Lib.hid hS
  replace hO5 := Lib.hid hO5
  replace tk5 := Lib.hid tk5
  replace t5 := Lib.hid t5
  replace t25 := Lib.hid t25
  replace t05 := Lib.hid t05
  have tok := trivial
  go_upto_region 6 with (first
    | (go_at_call 12; refine hS.out.mono ?_; clear hS; rintro e w6 ⟨rfl, nq, rfl⟩)
    | (go_at_call 13; refine (hFa.out _).mono ?_; rintro e w7 ⟨rfl, t7⟩; have hSt := Lib.hid (stay_any (hO5.out.tch ((Tch.drewN No w5 nq).trans t7 (fun _ h => h.elim)) id) (tk5.out.stay (hk.out.imp (fun h => Nat.lt_of_lt_of_le h t05.out.size) id) ((Tch.drewN No w5 nq).trans t7 (fun _ h => h.elim)) id) (hk.out.imp (fun h => Nat.lt_of_lt_of_le h ((t05.out.trans (Tch.drewN No w5 nq) (fun _ h => h.elim)).trans t7 (fun _ h => h.elim)).size) id) hll.out); replace t7 := Lib.hid t7)
    | (go_at_call 14; refine hSt.out.mono ?_; clear hSt; rintro e w8 ⟨rfl, t8⟩; replace t8 := Lib.hid t8)
    | fail)
  have t58 : Tch No w5 w8 := ((Tch.drewN No w5 nq).trans t7.out (fun _ h => h.elim)).trans t8.out (fun _ h => h.elim)
  have hO8 := Lib.hid (hO5.out.tch t58 id)
  have hTa8 := Lib.hid (hTa.out.tch t58 (fun _ _ h => h))
  have hTb8 := Lib.hid (hTb.out.tch t58 (fun _ _ h => h))
  have t08 := Lib.hid (t05.out.trans t58 (fun _ h => h.elim))
  replace t58 := Lib.hid t58
  clear x0 x1 x2 y0 y1 y2
  go_wp2
  go_loopg [8] (l.length + 1) (fun gg iv wr => ∃ (i : Nat) (xs : List Value), gg = l.length - i + 1 ∧ iv = .int .i64 i ∧ i ≤ l.length ∧ wr.ownsRow W.heap.size 39 5 (.slice (some ⟨gb, 0, none⟩) (l.length + 1) cap) (l.length + 1) xs ∧ Tch (fun k => k = gb) w8 wr)
  case atStart => exact ⟨0, _, rfl, rfl, Nat.zero_le _, hO8.out.row, Tch.refl _ _⟩
  case round =>
    obtain ⟨i, xs, rfl, rfl, hil, hrow, tr⟩ := hrel
    by_cases hlt : i < l.length
    · have k0 := nn_lt hlt
      have hwk := nn_succ hlt (Nat.lt_trans hll.out (by decide))
      obtain ⟨x0, x1, x2, x3, x4, c0, c1, c2, c3, c4, f0, f1, f2, f3, f4⟩ := five_cells hrow (show i < l.length + 1 by omega)
      obtain ⟨xs', h5, t5'⟩ := five_stored (o := i * 5) hrow (.int .i64 0) (.int .i64 0) (.int .i64 0) (.string ⟨#[103, 111, 110, 101]⟩) (.bool false)
      obtain ⟨w9, hw9⟩ : ∃ w9, w9 = ((((wr.setCell ⟨gb, i * 5, none⟩ (.int .i64 0)).setCell ⟨gb, i * 5 + 1, none⟩ (.int .i64 0)).setCell ⟨gb, i * 5 + 2, none⟩ (.int .i64 0)).setCell ⟨gb, i * 5 + 3, none⟩ (.string ⟨#[103, 111, 110, 101]⟩)).setCell ⟨gb, i * 5 + 4, none⟩ (.bool false) := ⟨_, rfl⟩
      rw [← hw9] at h5 t5'
      replace h5 := Lib.hid h5
      replace t5' := Lib.hid t5'
      replace hrow := Lib.hid hrow
      replace hil := Lib.hid hil
      replace tr := Lib.hid tr
      go_wp2
      rw [← hw9]
      replace hw9 := Lib.hid hw9
      go_roundg (l.length - (i + 1) + 1)
      case rel => exact ⟨i + 1, xs', rfl, by first | rw [hwk] | rw [nn_cast], hlt, h5.out, tr.out.trans t5'.out (fun _ h => .inl h)⟩
      case measure => exact Nat.succ_lt_succ (nn_sub hlt)
    · have k0 := nn_ge hlt
      have k1 : decide (i < l.length) = false := decide_eq_false hlt
      have hgl := hgb.out
      have hTc := hTa8.out.tch tr (fun k hk e => by have := (hT2.out.lt k); have := (hTa8.out.lt k hk).1; omega)
      have hTd := hTb8.out.tch tr (fun k hk e => by have := (hTb8.out.lt k hk).1; have := t2.out.size; have := t3.out.size; omega)
      have hS2 := Lib.hid (trees_same (treesR_tm hTc hL2.out) (treesR_tm hTd hL4.out) hlen.out hslim.out)
      have tfin := Lib.hid (t08.out.trans tr (fun k hk => .inr (by rw [hk]; exact hgl.1)))
      replace hTc := Lib.hid hTc
      replace hTd := Lib.hid hTd
      replace hgl := Lib.hid hgl
      replace hrow := Lib.hid hrow
      replace hil := Lib.hid hil
      replace tr := Lib.hid tr
      replace hlt := Lib.hid hlt
      go_wp2_with (first
        | (go_at_call 12; refine hS2.out.mono ?_; clear hS2; rintro e w9 ⟨rfl, q9, rfl⟩)
        | fail)
      go_ret
      exact ⟨rfl, tchBelow (tfin.out.trans (Tch.drewN No wr q9) (fun _ h => h.elim))⟩
end Go.Proofs.Ytcnjmkjfgghgoaa
end
