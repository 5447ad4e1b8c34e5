/- That the program answers something: the walk of awake. -/
import Derived.Test.YtnnoccojjeadhaaAw0
import Derived.Test.YtnnoccojjeadhaaDcw
import Derived.Deep.DeepCutAuto
namespace Go.Proofs.Ytnnoccojjeadhaa
open Go.ChangeShapes Go.WideShapes Go.ChangeAt Go.RowKit
open Go.Pa Go.Dec
set_option linter.unusedVariables false
theorem boxes8 (w : World) (o0 o1 o2 o3 o4 o5 o6 o7 : Obj) :
    (((((((((w.alloc o0).alloc o1).alloc o2).alloc o3).alloc o4).alloc o5).alloc o6).alloc o7).heap[w.heap.size]? = some o0 ∧ ((((((((w.alloc o0).alloc o1).alloc o2).alloc o3).alloc o4).alloc o5).alloc o6).alloc o7).heap[w.heap.size + 1]? = some o1 ∧ ((((((((w.alloc o0).alloc o1).alloc o2).alloc o3).alloc o4).alloc o5).alloc o6).alloc o7).heap[w.heap.size + 1 + 1]? = some o2 ∧ ((((((((w.alloc o0).alloc o1).alloc o2).alloc o3).alloc o4).alloc o5).alloc o6).alloc o7).heap[w.heap.size + 1 + 1 + 1]? = some o3 ∧ ((((((((w.alloc o0).alloc o1).alloc o2).alloc o3).alloc o4).alloc o5).alloc o6).alloc o7).heap[w.heap.size + 1 + 1 + 1 + 1]? = some o4 ∧ ((((((((w.alloc o0).alloc o1).alloc o2).alloc o3).alloc o4).alloc o5).alloc o6).alloc o7).heap[w.heap.size + 1 + 1 + 1 + 1 + 1]? = some o5 ∧ ((((((((w.alloc o0).alloc o1).alloc o2).alloc o3).alloc o4).alloc o5).alloc o6).alloc o7).heap[w.heap.size + 1 + 1 + 1 + 1 + 1 + 1]? = some o6 ∧ ((((((((w.alloc o0).alloc o1).alloc o2).alloc o3).alloc o4).alloc o5).alloc o6).alloc o7).heap[w.heap.size + 1 + 1 + 1 + 1 + 1 + 1 + 1]? = some o7) ∧ Below w.heap.size w ((((((((w.alloc o0).alloc o1).alloc o2).alloc o3).alloc o4).alloc o5).alloc o6).alloc o7) := by
  refine ⟨⟨?_, ?_, ?_, ?_, ?_, ?_, ?_, ?_⟩, (Tp.Below_seq (Tp.Below_seq (Tp.Below_seq (Tp.Below_seq (Tp.Below_seq (Tp.Below_seq (Tp.Below_seq (Tp.Below_alloc w o0) (Tp.Below_alloc _ o1)) (Tp.Below_alloc _ o2)) (Tp.Below_alloc _ o3)) (Tp.Below_alloc _ o4)) (Tp.Below_alloc _ o5)) (Tp.Below_alloc _ o6)) (Tp.Below_alloc _ o7))⟩
  all_goals
    simp only [alloc_heap, alloc_size]
    repeat first
      | rw [if_pos trivial]
      | rw [if_pos rfl]
      | rw [if_neg (by omega)]
theorem one_of {α : Type} {E : Rd.Elem α} {w : World} {x : α} {b : Nat} (hb : b < w.heap.size) (h : E.R w (Rd.cellsAt w b (0 + 0 * E.k)) x) : Rd.SliceOf E w (.slice (some ⟨b, 0, none⟩) 1 1) [x] :=
  ⟨by show 1 ≤ 140737488351232; decide, _, _, rfl, .inr ⟨b, 0, rfl, hb, fun i y hi => by
    match i, hi with
    | 0, hi => cases hi; exact h
    | n + 1, hi => simp at hi⟩⟩
theorem two_of {α : Type} {E : Rd.Elem α} {w : World} {x y : α} {b : Nat} (hb : b < w.heap.size) (h : E.R w (Rd.cellsAt w b (0 + 0 * E.k)) x) (h2 : E.R w (Rd.cellsAt w b (0 + 1 * E.k)) y) : Rd.SliceOf E w (.slice (some ⟨b, 0, none⟩) 2 2) [x, y] :=
  ⟨by show 2 ≤ 140737488351232; decide, _, _, rfl, .inr ⟨b, 0, rfl, hb, fun i z hi => by
    match i, hi with
    | 0, hi => cases hi; exact h
    | 1, hi => cases hi; exact h2
    | n + 2, hi => simp at hi⟩⟩
theorem cellsAt_row {w : World} {b : Nat} {cs : Array Value} {T : TypeId} (h : w.heap[b]? = some (.cells cs T (0, 0))) (j : Nat) : Rd.cellsAt w b 0 j = cs[j]? := by
  show w.cell? ⟨b, 0 + j, none⟩ = _
  rw [Nat.zero_add]; exact cell_of_row _ _ j _ _ _ h
theorem aw_mem (w W : World) (hW : W = ((((((((w.alloc (.cells #[.string ⟨#[115]⟩, .float .f64 4607182418800017408] 53)).alloc (.cells #[.string ⟨#[47, 97, 42]⟩, .string ⟨#[71, 69, 84]⟩, .slice (some ⟨w.heap.size, 0, none⟩) 1 1] 41)).alloc (.cells #[.string ⟨#[47, 97, 42]⟩, .string ⟨#[71, 69, 84]⟩, .slice (some ⟨w.heap.size, 0, none⟩) 1 1] 41)).alloc (.cells #[.string ⟨#[47, 97, 120]⟩, .string ⟨#[42]⟩, .bool false] 60)).alloc (.cells #[.string ⟨#[42]⟩, .string ⟨#[114]⟩, .slice (some ⟨w.heap.size + 1 + 1, 0, none⟩) 1 1, .slice (some ⟨w.heap.size + 1 + 1 + 1, 0, none⟩) 1 1] 36)).alloc (.cells #[.int .i64 0, .slice (some ⟨w.heap.size + 1 + 1 + 1 + 1, 0, none⟩) 1 1, .slice none 0 0] 25)).alloc (.cells #[.string ⟨#[101, 49]⟩, .string ⟨#[101, 50]⟩] 9)).alloc (.cells #[.string ⟨#[115]⟩, .slice (some ⟨w.heap.size + 1 + 1 + 1 + 1 + 1 + 1, 0, none⟩) 2 2] 50))) : Rd.SliceOf hostE W (.slice (some ⟨w.heap.size + 1 + 1 + 1 + 1, 0, none⟩) 1 1) hoA ∧ Rd.SliceOf healthyE W (.slice (some ⟨w.heap.size + 1 + 1 + 1 + 1 + 1 + 1 + 1, 0, none⟩) 1 1) heA ∧ Below w.heap.size w W ∧ W.heap[w.heap.size + 1 + 1 + 1 + 1 + 1]? = some (.cells #[.int .i64 0, .slice (some ⟨w.heap.size + 1 + 1 + 1 + 1, 0, none⟩) 1 1, .slice none 0 0] 25) := by
  obtain ⟨⟨k0, k1, k2, k3, k4, k5, k6, k7⟩, kb⟩ := boxes8 w (.cells #[.string ⟨#[115]⟩, .float .f64 4607182418800017408] 53) (.cells #[.string ⟨#[47, 97, 42]⟩, .string ⟨#[71, 69, 84]⟩, .slice (some ⟨w.heap.size, 0, none⟩) 1 1] 41) (.cells #[.string ⟨#[47, 97, 42]⟩, .string ⟨#[71, 69, 84]⟩, .slice (some ⟨w.heap.size, 0, none⟩) 1 1] 41) (.cells #[.string ⟨#[47, 97, 120]⟩, .string ⟨#[42]⟩, .bool false] 60) (.cells #[.string ⟨#[42]⟩, .string ⟨#[114]⟩, .slice (some ⟨w.heap.size + 1 + 1, 0, none⟩) 1 1, .slice (some ⟨w.heap.size + 1 + 1 + 1, 0, none⟩) 1 1] 36) (.cells #[.int .i64 0, .slice (some ⟨w.heap.size + 1 + 1 + 1 + 1, 0, none⟩) 1 1, .slice none 0 0] 25) (.cells #[.string ⟨#[101, 49]⟩, .string ⟨#[101, 50]⟩] 9) (.cells #[.string ⟨#[115]⟩, .slice (some ⟨w.heap.size + 1 + 1 + 1 + 1 + 1 + 1, 0, none⟩) 2 2] 50)
  rw [← hW] at k0 k1 k2 k3 k4 k5 k6 k7 kb
  clear hW
  have l0 := (Array.getElem?_eq_some_iff.1 k0).1
  have l1 := (Array.getElem?_eq_some_iff.1 k1).1
  have l2 := (Array.getElem?_eq_some_iff.1 k2).1
  have l3 := (Array.getElem?_eq_some_iff.1 k3).1
  have l4 := (Array.getElem?_eq_some_iff.1 k4).1
  have l5 := (Array.getElem?_eq_some_iff.1 k5).1
  have l6 := (Array.getElem?_eq_some_iff.1 k6).1
  have l7 := (Array.getElem?_eq_some_iff.1 k7).1
  have c0 := cellsAt_row k0
  have c1 := cellsAt_row k1
  have c2 := cellsAt_row k2
  have c3 := cellsAt_row k3
  have c4 := cellsAt_row k4
  have c5 := cellsAt_row k5
  have c6 := cellsAt_row k6
  have c7 := cellsAt_row k7
  have sm : ∀ a b : Nat, a ≤ b → a ≤ b := fun _ _ h => h
  have hsh : Rd.SliceOf shareE W (.slice (some ⟨w.heap.size, 0, none⟩) 1 1) shA := one_of l0 ⟨⟨c0 0, by show 1 ≤ maxLen; decide⟩, ⟨c0 1, by decide⟩, trivial⟩
  have hen : Rd.SliceOf entryE W (.slice (some ⟨w.heap.size + 1 + 1, 0, none⟩) 1 1) enA := one_of l2 ⟨⟨c2 0, by show 3 ≤ maxLen; decide⟩, ⟨c2 1, by show 3 ≤ maxLen; decide⟩, ⟨_, c2 2, hsh⟩, trivial⟩
  have hpe : Rd.SliceOf permitE W (.slice (some ⟨w.heap.size + 1 + 1 + 1, 0, none⟩) 1 1) peA := one_of l3 ⟨⟨c3 0, by show 3 ≤ maxLen; decide⟩, ⟨c3 1, by show 1 ≤ maxLen; decide⟩, c3 2, trivial⟩
  have hep : Rd.SliceOf Rd.str W (.slice (some ⟨w.heap.size + 1 + 1 + 1 + 1 + 1 + 1, 0, none⟩) 2 2) epA := two_of l6 ⟨c6 0, by show 2 ≤ maxLen; decide⟩ ⟨c6 1, by show 2 ≤ maxLen; decide⟩
  exact ⟨one_of l4 ⟨⟨c4 0, by show 1 ≤ maxLen; decide⟩, ⟨c4 1, by show 1 ≤ maxLen; decide⟩, ⟨_, c4 2, hen⟩, ⟨_, c4 3, hpe⟩, trivial⟩, one_of l7 ⟨⟨c7 0, by show 1 ≤ maxLen; decide⟩, ⟨_, c7 1, hep⟩, trivial⟩, kb, k5⟩
set_option maxRecDepth 100000 in
set_option maxHeartbeats 2000000 in
theorem awake14 (w : World) : Calls Try.prog 14 #[] w fun e w' => e = .returned (.bool true) ∧ Below w.heap.size w w' := by
  have hcall := fun wx (hb : Below w.heap.size w wx) (h : Rd.SliceOf hostE wx _ hoA) (h2 : Rd.SliceOf healthyE wx _ heA) (p : ByteArray) (hp : p.size ≤ maxLen) => decide15 0 (.slice (some ⟨w.heap.size + 1 + 1 + 1 + 1, 0, none⟩) 1 1) (.slice none 0 0) (.slice (some ⟨w.heap.size + 1 + 1 + 1 + 1 + 1 + 1 + 1, 0, none⟩) 1 1) hoA heA ⟨#[71, 69, 84]⟩ ⟨#[120]⟩ p 4602678819172646912 3 wx (by show 3 ≤ maxLen; decide) (by show 1 ≤ maxLen; decide) hp (by decide) h h2
  replace hcall := Lib.hid hcall
  have hm := Lib.hid (aw_mem w _ rfl)
  go_enter Try.func14, Try.ntmps14
  go_wp2_with fail
  refine (hcall.out _ hm.out.2.2.1 hm.out.1 hm.out.2.1 ⟨#[47, 97, 98]⟩ (by show 3 ≤ maxLen; decide)).mono ?_
  rw [awA]
  rintro e w1 ⟨rfl, hb1⟩
  obtain ⟨h1, h2, h3, h4⟩ := hm.out
  generalize ((((((((w.alloc (.cells #[.string ⟨#[115]⟩, .float .f64 4607182418800017408] 53)).alloc (.cells #[.string ⟨#[47, 97, 42]⟩, .string ⟨#[71, 69, 84]⟩, .slice (some ⟨w.heap.size, 0, none⟩) 1 1] 41)).alloc (.cells #[.string ⟨#[47, 97, 42]⟩, .string ⟨#[71, 69, 84]⟩, .slice (some ⟨w.heap.size, 0, none⟩) 1 1] 41)).alloc (.cells #[.string ⟨#[47, 97, 120]⟩, .string ⟨#[42]⟩, .bool false] 60)).alloc (.cells #[.string ⟨#[42]⟩, .string ⟨#[114]⟩, .slice (some ⟨w.heap.size + 1 + 1, 0, none⟩) 1 1, .slice (some ⟨w.heap.size + 1 + 1 + 1, 0, none⟩) 1 1] 36)).alloc (.cells #[.int .i64 0, .slice (some ⟨w.heap.size + 1 + 1 + 1 + 1, 0, none⟩) 1 1, .slice none 0 0] 25)).alloc (.cells #[.string ⟨#[101, 49]⟩, .string ⟨#[101, 50]⟩] 9)).alloc (.cells #[.string ⟨#[115]⟩, .slice (some ⟨w.heap.size + 1 + 1 + 1 + 1 + 1 + 1, 0, none⟩) 2 2] 50)) = W at *
  clear hm
  unfold Dc.v
  dsimp only
  go_upto_region 5 with fail
  have b1 := heap_alloc_new w1 (.cells #[.int .i64 1, .int .i64 0, .string ⟨#[114]⟩, .int .i64 0, .string ⟨#[115]⟩, .string ⟨#[101, 50]⟩] 46)
  have hb2 := Tp.Below_seq hb1 (Tp.Below_alloc w1 (.cells #[.int .i64 1, .int .i64 0, .string ⟨#[114]⟩, .int .i64 0, .string ⟨#[115]⟩, .string ⟨#[101, 50]⟩] 46))
  generalize w1.alloc (.cells #[.int .i64 1, .int .i64 0, .string ⟨#[114]⟩, .int .i64 0, .string ⟨#[115]⟩, .string ⟨#[101, 50]⟩] 46) = w2 at *
  generalize w1.heap.size = b4 at *
  have g1 := (hb2.block _ (Array.getElem?_eq_some_iff.1 h4).1).trans h4
  have g2 := Lib.hid (Tp.Below_seq h3 hb2)
  have g3 := Lib.hid (h1.below hb2)
  have g4 := Lib.hid (h2.below hb2)
  clear h1 h2 h3 h4 hb1 hb2
  have t0 : w2.cell? ⟨w.heap.size + 1 + 1 + 1 + 1 + 1, 0, none⟩ = some (.int .i64 0) := cell_of_row _ _ 0 _ _ _ g1
  have t1 : w2.cell? ⟨w.heap.size + 1 + 1 + 1 + 1 + 1, 1, none⟩ = some (.slice (some ⟨w.heap.size + 1 + 1 + 1 + 1, 0, none⟩) 1 1) := cell_of_row _ _ 1 _ _ _ g1
  have t2 : w2.cell? ⟨w.heap.size + 1 + 1 + 1 + 1 + 1, 2, none⟩ = some (.slice none 0 0) := cell_of_row _ _ 2 _ _ _ g1
  replace g1 := Lib.hid g1
  replace b1 := Lib.hid b1
  go_wp2_with fail
  refine (hcall.out _ g2.out g3.out g4.out ⟨#[47, 97, 120]⟩ (by show 3 ≤ maxLen; decide)).mono ?_
  rw [awB]
  rintro e w3 ⟨rfl, hb1⟩
  clear t0 t1 t2
  unfold Dc.v
  dsimp only
  go_upto_region 6 with fail
  have b2 := heap_alloc_new w3 (.cells #[.int .i64 4, .int .i64 403, .string ⟨#[114]⟩, .int .i64 0, .string nil, .string nil] 46)
  have hb2 := Tp.Below_seq hb1 (Tp.Below_alloc w3 (.cells #[.int .i64 4, .int .i64 403, .string ⟨#[114]⟩, .int .i64 0, .string nil, .string nil] 46))
  generalize w3.alloc (.cells #[.int .i64 4, .int .i64 403, .string ⟨#[114]⟩, .int .i64 0, .string nil, .string nil] 46) = w4 at *
  generalize w3.heap.size = b5 at *
  have hfin := Lib.hid (Tp.Below_seq g2.out hb2)
  have c1 := (hb2.block _ (Array.getElem?_eq_some_iff.1 b1.out).1).trans b1.out
  clear hb1 hb2
  have t0 : w4.cell? ⟨b4, 0, none⟩ = some (.int .i64 1) := cell_of_row _ _ 0 _ _ _ c1
  have t5 : w4.cell? ⟨b4, 5, none⟩ = some (.string ⟨#[101, 50]⟩) := cell_of_row _ _ 5 _ _ _ c1
  have s0 : w4.cell? ⟨b5, 0, none⟩ = some (.int .i64 4) := cell_of_row _ _ 0 _ _ _ b2
  have s1 : w4.cell? ⟨b5, 1, none⟩ = some (.int .i64 403) := cell_of_row _ _ 1 _ _ _ b2
  replace c1 := Lib.hid c1
  replace b2 := Lib.hid b2
  go_wp2
  go_ret
  exact ⟨rfl, hfin.out⟩
end Go.Proofs.Ytnnoccojjeadhaa
