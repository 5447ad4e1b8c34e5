/- The walk of tables' Same. -/
import Derived.Test.YtghfahhfiihneaaEqf
import Derived.Test.YtghfahhfiihneaaFind
namespace Go.Tb
@[go_sem] theorem run_store_func {P : Program} (w : World) (a : Addr) (fn : Fn) (first cap : Array Value) (m : Mode) : (store a (.func fn first cap) m).run P w = stored P w a (.func fn first cap) m := run_store P w a _ m rfl
theorem alloc_heap (w : World) (o : Obj) (k : Nat) : (w.alloc o).heap[k]? = if k = w.heap.size then some o else w.heap[k]? := Array.getElem?_push
theorem alloc_size (w : World) (o : Obj) : (w.alloc o).heap.size = w.heap.size + 1 := by simp
end Go.Tb
namespace Go.Proofs.Ytghfahhfiihneaa
open Go.ChangeShapes Go.WideShapes Go.ChangeAt Go.RowKit
open Go.Tb
set_option linter.unusedVariables false
set_option maxRecDepth 100000
theorem same13 (x y : Go.Tb.Tables) (v1 v2 u1 u2 : Value) (w : World) (hx1 : Rd.SliceOf hostE w v1 x.2.1) (hx2 : Rd.SliceOf Rd.str w v2 x.2.2.1) (hy1 : Rd.SliceOf hostE w u1 y.2.1) (hy2 : Rd.SliceOf Rd.str w u2 y.2.2.1) :
    Calls Try.prog 13 #[.agg #[.int .i64 x.1, v1, v2], .agg #[.int .i64 y.1, u1, u2]] w fun e w' => e = .returned (.bool (tablesEq x y)) ∧ Below w.heap.size w w' := by
  obtain ⟨a1, k1, hv⟩ := slice_shape hx1
  subst hv
  obtain ⟨a2, k2, hv⟩ := slice_shape hx2
  subst hv
  obtain ⟨b1, l1, hv⟩ := slice_shape hy1
  subst hv
  obtain ⟨b2, l2, hv⟩ := slice_shape hy2
  subst hv
  obtain ⟨W, hW⟩ : ∃ W, W = ((w.alloc (.cells #[.int .i64 x.1, .slice a1 x.2.1.length k1, .slice a2 x.2.2.1.length k2] 25)).alloc (.cells #[.int .i64 y.1, .slice b1 y.2.1.length l1, .slice b2 y.2.2.1.length l2] 25)).alloc (.cells #[.func (.func 42) #[] #[]] 89) := ⟨_, rfl⟩
  have hbb : Below w.heap.size w W := by
    rw [hW]
    exact Tp.Below_seq (Tp.Below_seq (Tp.Below_alloc w _) (Tp.Below_alloc _ _)) (Tp.Below_alloc _ _)
  have hB : W.heap[w.heap.size]? = some (.cells #[.int .i64 x.1, .slice a1 x.2.1.length k1, .slice a2 x.2.2.1.length k2] 25) ∧ W.heap[w.heap.size + 1]? = some (.cells #[.int .i64 y.1, .slice b1 y.2.1.length l1, .slice b2 y.2.2.1.length l2] 25) ∧ W.heap[w.heap.size + 2]? = some (.cells #[.func (.func 42) #[] #[]] 89) := by
    rw [hW]
    refine ⟨?_, ?_, ?_⟩
    all_goals
      simp only [alloc_heap, alloc_size]
      repeat first
        | rw [if_pos trivial]
        | rw [if_pos rfl]
        | rw [if_neg (by omega)]
  obtain ⟨hBx, hBy, hBf⟩ := hB
  have hlf := (Array.getElem?_eq_some_iff.1 hBf).1
  have hcf : W.cell? ⟨w.heap.size + 2, 0, none⟩ = some (.func (.func 42) #[] #[]) := (cell_of_row _ _ 0 _ _ _ hBf).trans rfl
  have hS : ∀ w', Below W.heap.size W w' → (w'.cell? ⟨w.heap.size, 0, none⟩ = some (.int .i64 x.1) ∧ w'.cell? ⟨w.heap.size, 1, none⟩ = some (.slice a1 x.2.1.length k1) ∧ w'.cell? ⟨w.heap.size, 2, none⟩ = some (.slice a2 x.2.2.1.length k2)) ∧ w'.cell? ⟨w.heap.size + 1, 0, none⟩ = some (.int .i64 y.1) ∧ w'.cell? ⟨w.heap.size + 1, 1, none⟩ = some (.slice b1 y.2.1.length l1) ∧ w'.cell? ⟨w.heap.size + 1, 2, none⟩ = some (.slice b2 y.2.2.1.length l2) := fun w' hb => by
    have h1 := (hb.block _ (Array.getElem?_eq_some_iff.1 hBx).1).trans hBx
    have h2 := (hb.block _ (Array.getElem?_eq_some_iff.1 hBy).1).trans hBy
    exact ⟨⟨(cell_of_row _ _ 0 _ _ _ h1).trans rfl, (cell_of_row _ _ 1 _ _ _ h1).trans rfl, (cell_of_row _ _ 2 _ _ _ h1).trans rfl⟩, (cell_of_row _ _ 0 _ _ _ h2).trans rfl, (cell_of_row _ _ 1 _ _ _ h2).trans rfl, (cell_of_row _ _ 2 _ _ _ h2).trans rfl⟩
  have k47 := eqf47 _ _ _ _ W (w.heap.size + 2) hlf hcf (hx1.below hbb) (hy1.below hbb)
  have k48 := fun wz (hz : Below W.heap.size W wz) => eq48 _ _ _ _ wz ((hx2.below hbb).below hz) ((hy2.below hbb).below hz)
  have hne : tablesEq x y = ((x.1 == y.1) && (eqL hostEq x.2.1 y.2.1 && eqL strEq x.2.2.1 y.2.2.1)) := rfl
  generalize eqL hostEq x.2.1 y.2.1 = r at *
  generalize eqL strEq x.2.2.1 y.2.2.1 = s at *
  have hmf := mkf
  obtain ⟨⟨c0, c1, c2⟩, d0, d1, d2⟩ := hS W (Below.refl _ _)
  replace hS := Lib.hid hS
  replace k47 := Lib.hid k47
  replace k48 := Lib.hid k48
  replace hbb := Lib.hid hbb
  replace hne := Lib.hid hne
  clear hx1 hx2 hy1 hy2 hBx hBy hBf hlf
  rcases Bool.eq_false_or_eq_true (x.1 == y.1) with h0 | h0
  · have hn := Lib.hid (show tablesEq x y = (r && s) by rw [hne.out, h0]; rfl)
    go_enter Try.func13, Try.ntmps13
    go_upto_region 3 with fail
    change Code.wp _ _ _ _ (((w.alloc (.cells #[.int .i64 x.1, .slice a1 x.2.1.length k1, .slice a2 x.2.2.1.length k2] 25)).alloc (.cells #[.int .i64 y.1, .slice b1 y.2.1.length l1, .slice b2 y.2.2.1.length l2] 25)).alloc (.cells #[.func (.func 42) #[] #[]] 89))
    rw [← hW]
    replace hW := Lib.hid hW
    go_wp2_with fail
    refine k47.out.mono ?_
    rintro e w1 ⟨rfl, hb1⟩
    clear c0 c1 c2 d0 d1 d2 hcf
    obtain ⟨⟨c0, c1, c2⟩, d0, d1, d2⟩ := hS.out w1 hb1
    replace hb1 := Lib.hid hb1
    cases r
    · go_wp2_with fail
      go_ret
      exact ⟨by rw [hn.out]; rfl, Tp.Below_seq hbb.out hb1.out⟩
    · go_wp2_with fail
      refine (k48.out _ hb1.out).mono ?_
      rintro e w2 ⟨rfl, hb2⟩
      go_wp2_with fail
      go_ret
      exact ⟨by rw [hn.out]; rfl, Tp.Below_seq hbb.out (Tp.Below_seq hb1.out hb2)⟩
  · have hn := Lib.hid (show tablesEq x y = false by rw [hne.out, h0]; rfl)
    go_enter Try.func13, Try.ntmps13
    go_upto_region 3 with fail
    change Code.wp _ _ _ _ (((w.alloc (.cells #[.int .i64 x.1, .slice a1 x.2.1.length k1, .slice a2 x.2.2.1.length k2] 25)).alloc (.cells #[.int .i64 y.1, .slice b1 y.2.1.length l1, .slice b2 y.2.2.1.length l2] 25)).alloc (.cells #[.func (.func 42) #[] #[]] 89))
    rw [← hW]
    replace hW := Lib.hid hW
    go_wp2_with fail
    go_ret
    exact ⟨by rw [hn.out]; rfl, hbb.out⟩
end Go.Proofs.Ytghfahhfiihneaa
