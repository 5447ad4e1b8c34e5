/- awake: two short texts are read as they should. -/
import Derived.Test.YtabgckjokniooaaLsn
import Derived.Lib.SlBytesConst
namespace Go.Proofs.Ytabgckjokniooaa
open Go.RowKit Go.Ln Go.Mp Go.Tr Go.Shelf
set_option linter.unusedVariables false
set_option maxRecDepth 100000
set_option maxHeartbeats 4000000
theorem byts_new (w : World) (c0 c1 c2 c3 c4 : UInt8) : BytS (w.alloc (.cells #[.int .u8 c0.toNat, .int .u8 c1.toNat, .int .u8 c2.toNat, .int .u8 c3.toNat, .int .u8 c4.toNat] 5 (5, 6))) w.heap.size (.slice (some ⟨w.heap.size, 0, none⟩) 5 5) [c0, c1, c2, c3, c4] := by
  refine ⟨_, 5, rfl, Nat.le_refl _, (fun h => by cases h), fun i c hc => ⟨0, rfl, ?_⟩⟩
  rw [Nat.zero_add]
  refine (cell_of_row _ _ i _ _ _ (heap_alloc_new w _)).trans ?_
  match i, hc with
  | 0, hc => cases hc; rfl
  | 1, hc => cases hc; rfl
  | 2, hc => cases hc; rfl
  | 3, hc => cases hc; rfl
  | 4, hc => cases hc; rfl
theorem scan1 : scan [97, 58, 32, 98, 10] = ([⟨3, 1, 0, [97], false⟩, ⟨4, 1, 3, [98], false⟩], none) := by decide +kernel
theorem scan2 : scan [97, 58, 32, 42, 10] = ([], some (0, 1, 83)) := by decide +kernel
theorem Below_of {w w1 : World} {o : Obj} (h : Below (w.alloc o).heap.size (w.alloc o) w1) : Below w.heap.size w w1 := ((Below.refl _ _).alloc (Nat.le_refl _) o).trans (h.mono (by simp))
theorem awake_any (w : World) (m : Int) (hm : w.cell? ⟨0, 0, none⟩ = some (.int .i64 m)) : Calls Try.prog 6 #[] w fun e w' => e = .returned (.bool true) ∧ Below w.heap.size w w' := by
  obtain ⟨ob, ho, _⟩ := cell_obj hm
  have h0w := heap_lt ho
  have hs1 := scan_any w.heap.size (.slice (some ⟨w.heap.size, 0, none⟩) 5 5) [97, 58, 32, 98, 10] (w.alloc (.cells #[.int .u8 97, .int .u8 58, .int .u8 32, .int .u8 98, .int .u8 10] 5 (5, 6))) m (byts_new w 97 58 32 98 10) (by simp) ((Tch.alloc No w _).cell_some hm id)
  rw [scan1] at hs1
  have kc := fun (w : World) (C : Array Value) (n c : Nat) => Lib.run_convert_bytes_const (P := Try.prog) w 22 5 C n c Try.underlying22 Try.underlying5
  have hs2 : ∀ w1, Below (w.alloc (.cells #[.int .u8 97, .int .u8 58, .int .u8 32, .int .u8 98, .int .u8 10] 5 (5, 6))).heap.size (w.alloc (.cells #[.int .u8 97, .int .u8 58, .int .u8 32, .int .u8 98, .int .u8 10] 5 (5, 6))) w1 → Calls Try.prog 7 #[.slice (some ⟨w1.heap.size + 1, 0, none⟩) 5 5] ((w1.alloc (.cells #[.int .i64 0, .int .i64 0, .int .i64 0] 27)).alloc (.cells #[.int .u8 97, .int .u8 58, .int .u8 32, .int .u8 42, .int .u8 10] 5 (5, 6))) fun e w' => e = .returned (.tuple #[.slice none 0 0, .agg #[.int .i64 0, .int .i64 1, .int .i64 83]]) ∧ Below (w1.heap.size + 1 + 1) ((w1.alloc (.cells #[.int .i64 0, .int .i64 0, .int .i64 0] 27)).alloc (.cells #[.int .u8 97, .int .u8 58, .int .u8 32, .int .u8 42, .int .u8 10] 5 (5, 6))) w' := by
    intro w1 hb
    have h := scan_any (w1.alloc (.cells #[.int .i64 0, .int .i64 0, .int .i64 0] 27)).heap.size (.slice (some ⟨(w1.alloc (.cells #[.int .i64 0, .int .i64 0, .int .i64 0] 27)).heap.size, 0, none⟩) 5 5) [97, 58, 32, 42, 10] ((w1.alloc (.cells #[.int .i64 0, .int .i64 0, .int .i64 0] 27)).alloc (.cells #[.int .u8 97, .int .u8 58, .int .u8 32, .int .u8 42, .int .u8 10] 5 (5, 6))) m (byts_new _ 97 58 32 42 10) (by simp) ((Tch.alloc No _ _).cell_some ((Tch.alloc No _ _).cell_some ((hb.cell (p := ⟨0, 0, none⟩) (by simp)).trans ((Tch.alloc No w _).cell_some hm id)) id) id)
    rw [scan2] at h
    simp only [World.size_alloc] at h
    refine h.mono ?_
    rintro e w' ⟨O, f, rfl, ⟨rfl, rfl⟩, hb⟩
    exact ⟨rfl, by simpa using hb⟩
  replace hs1 := Lib.hid hs1
  replace hs2 := Lib.hid hs2
  replace hm := Lib.hid hm
  replace ho := Lib.hid ho
  go_enter Try.func6, Try.ntmps6
  go_wp2_with fail
  with_reducible refine hs1.out.mono ?_
  rintro e w1 ⟨O, f, he, ⟨rfl, hr1⟩, hb1⟩
  replace he : e = .returned (.tuple #[O, .agg #[.int .i64 0, .int .i64 0, .int .i64 0]]) := he
  subst he
  replace hs2 := Lib.hid (hs2.out w1 hb1)
  have kc2 : (convert 22 22 (.slice (some ⟨w1.heap.size + 1, 0, none⟩) 5 5)).run Try.prog ((w1.alloc (.cells #[.int .i64 0, .int .i64 0, .int .i64 0] 27)).alloc (.cells #[.int .u8 97, .int .u8 58, .int .u8 32, .int .u8 42, .int .u8 10] 5)) = .ok (.slice (some ⟨w1.heap.size + 1, 0, none⟩) 5 5) ((w1.alloc (.cells #[.int .i64 0, .int .i64 0, .int .i64 0] 27)).alloc (.cells #[.int .u8 97, .int .u8 58, .int .u8 32, .int .u8 42, .int .u8 10] 5 (5, 6))) := by
    have h := kc (w1.alloc (.cells #[.int .i64 0, .int .i64 0, .int .i64 0] 27)) #[.int .u8 97, .int .u8 58, .int .u8 32, .int .u8 42, .int .u8 10] 5 5
    rw [World.size_alloc] at h
    exact h
  clear kc
  obtain ⟨oo, oc, rfl⟩ := ownsRow_shape hr1
  replace hr1 := Lib.hid hr1
  replace hb1 := Lib.hid hb1
  go_wp2_with fail
  with_reducible refine hs2.out.mono ?_
  rintro e w2 ⟨rfl, hb2⟩
  have ha : ∀ (o1 o2 : Obj), Below w1.heap.size w1 ((w1.alloc o1).alloc o2) := fun o1 o2 => ((Below.refl _ _).alloc (Nat.le_refl _) _).alloc (by simp) _
  have hb12 : Below w1.heap.size w1 w2 := (ha _ _).trans (hb2.mono (by omega))
  have e2 : w2.cell? ⟨w1.heap.size, 2, none⟩ = some (.int .i64 0) := by
    refine (hb2.cell (p := ⟨w1.heap.size, 2, none⟩) (by simp; omega)).trans ?_
    refine ((Tch.alloc No _ _).cell_some ?_ id)
    exact cell_of_row _ _ 2 _ _ _ (heap_alloc_new w1 _)
  have hr2 : tkRow w2 (w.alloc (.cells #[.int .u8 97, .int .u8 58, .int .u8 32, .int .u8 98, .int .u8 10] 5 (5, 6))).heap.size (.slice oo 2 oc) [⟨3, 1, 0, [97], false⟩, ⟨4, 1, 3, [98], false⟩] := ownsRow_tch hr1.out (Tch.of_below hb12 : Tch No w1 w2) (fun _ _ h => h)
  obtain ⟨g, rfl, hg, c0, c1, c2, c3, c4⟩ := tk_cells hr2 (i := 0) rfl
  obtain ⟨g', e, _, d0, d1, d2, d3, d4⟩ := tk_cells hr2 (i := 1) rfl
  cases e
  simp only [Nat.zero_mul, Nat.zero_add, Nat.one_mul, Nat.reduceAdd] at c0 c1 c2 c3 c4 d0 d1 d2 d3 d4
  have hlt : w1.heap.size < w2.heap.size := by have := hb2.size; simp at this; omega
  have hbw : Below w.heap.size w w2 := (Below_of hb1.out).trans (hb12.mono (by have := hb1.out.size; simp at this; omega))
  replace hb2 := Lib.hid hb2
  replace hr2 := Lib.hid hr2
  replace hb12 := Lib.hid hb12
  replace hbw := Lib.hid hbw
  clear ha
  go_wp2_with fail
  go_ret
  exact ⟨rfl, hbw.out.alloc (hbw.out.size) _⟩
end Go.Proofs.Ytabgckjokniooaa
