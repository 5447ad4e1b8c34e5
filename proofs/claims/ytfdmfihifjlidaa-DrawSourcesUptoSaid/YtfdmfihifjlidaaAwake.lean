/- The walk of the law's own awake: it answers true. -/
import Derived.Test.YtfdmfihifjlidaaReals
namespace Go.Proofs.Ytfdmfihifjlidaa
open Go.ChangeShapes Go.WideShapes Go.ChangeAt Go.RowKit
open Cum (sumTo sums lastTo outs good)

theorem new_any (s : Int) (w : World) :
    Calls Try.prog 15 #[.int .u64 s] w fun e w' => e = .returned (.pointer (some ⟨w.heap.size, 0, none⟩)) ∧ w.alloc (.cells #[.slice none 0 0, .int .u64 s] 67) = w' := by
  go_enter Try.func15, Try.ntmps15
  go_wp2
  go_ret
  exact ⟨rfl, rfl⟩
def stepW (s : Int) : Int := IntKind.u64.wrap (IntKind.u64.wrap (s * 6364136223846793005) + 1442695040888963407)
theorem next_empty (b : Nat) (s : Int) (w : World) (h0 : w.cell? ⟨b, 0, none⟩ = some (.slice none 0 0)) (h1 : w.cell? ⟨b, 1, none⟩ = some (.int .u64 s)) (hf : w.frozen? ⟨b, 1, none⟩ = false) :
    Calls Try.prog 19 #[.pointer (some ⟨b, 0, none⟩)] w fun e w' => e = .returned (.int .u64 (stepW s)) ∧ w.setCell ⟨b, 1, none⟩ (.int .u64 (stepW s)) = w' := by
  go_enter Try.func19, Try.ntmps19
  go_wp2
  go_ret
  exact ⟨rfl, rfl⟩

theorem rdf_lit (w : World) (ls : List Nat) : Tp.RdF (w.alloc (.cells (ls.map (Value.float .f64)).toArray 29)) (.slice (some ⟨w.heap.size, 0, none⟩) ls.length ls.length) ls := by
  refine ⟨_, _, rfl, .inr ⟨_, 0, rfl, by simp, fun i hi => ?_⟩⟩
  rw [cell_of_row _ _ _ _ _ _ (heap_alloc_new w _)]
  simp [List.getD, hi]

theorem rdf_lit_at (w : World) (ls : List Nat) (cs : Array Value) (b n : Nat) (hb : w.heap.size = b) (hcs : cs = (ls.map (Value.float .f64)).toArray) (hn : ls.length = n) : Tp.RdF (w.alloc (.cells cs 29)) (.slice (some ⟨b, 0, none⟩) n n) ls := by
  subst hb; subst hcs; subst hn; exact rdf_lit w ls
def wsA : List Nat := [4598175219545276416, 0, 4602678819172646912, 4598175219545276416, 0]
def wsB : List Nat := [4598175219545276416, 0, 4602678819172646912, 4598175219545276416]
def wsC : List Nat := [4598175219545276416, 4598175219545276416, 4604930618986332160, 4607182418800017408, 4607182418800017408]
theorem goodA : good wsA = true := by decide +kernel
theorem outsA : outs wsA = wsC := by decide +kernel
theorem pickB : PickV 9223372036854775808 wsB = .tuple #[.int .i64 2, .int .i64 0] := by
  unfold PickV
  rw [show good wsB = true from by decide +kernel, show first (outs wsB) (Fl.D (9223372036854775808 / 2048) (-53)) = some 2 from by decide +kernel]
  rfl

theorem unit_half (w : World) : Calls Try.prog 13 #[.int .u64 9223372036854775808] w fun e w' => e = .returned (.float .f64 4602678819172646912) ∧ w = w' := by
  have h := unit_any 9223372036854775808 w (by decide) (by decide)
  have e : Fl.D ((9223372036854775808 : Int) / 2048).toNat (-53) = 4602678819172646912 := by decide +kernel
  rw [e] at h; exact h
theorem half_half : (FloatKind.f64.format.order 4602678819172646912 4602678819172646912 == some Ordering.eq) = true := by decide +kernel
theorem stepW_zero : stepW 0 = 1442695040888963407 := by decide +kernel

set_option maxHeartbeats 1000000 in
theorem awake_any (w : World) : Calls Try.prog 31 #[] w fun e w' => e = .returned (.bool true) ∧ Below w.heap.size w w' := by
  have hA : ∀ x ∈ wsA, x < 18446744073709551616 := by decide +kernel
  have hB : ∀ x ∈ wsB, x < 18446744073709551616 := by decide +kernel
  go_enter Try.func31, Try.ntmps31
  go_wp2_with fail
  refine (cum_any wsA hA _ _ (rdf_lit w wsA) (by decide)).mono ?_
  rintro e w1 ⟨h, hb1⟩
  rcases h with ⟨hg, _⟩ | ⟨_, v, rfl, hown⟩
  · rw [goodA] at hg; cases hg
  have hr1 : Tp.RdF w1 v wsC := outsA ▸ Tp.RdF.own (by rw [Cum.outs_length]; exact hown)
  clear hown
  go_wp2_with fail
  refine (pick_any 9223372036854775808 (by decide) wsB hB _ _ (rdf_lit w1 wsB) (by decide)).mono ?_
  rw [pickB]
  rintro e w2 ⟨rfl, hb2⟩
  have hr2 := (hr1.below (Tp.Below_alloc w1 _)).below hb2
  clear hr1
  go_wp2_with fail
  refine (cum_any [] (by simp) _ w2 ⟨none, 0, rfl, .inl rfl⟩ (by decide)).mono ?_
  rintro e w3 ⟨h, hb3⟩
  obtain ⟨_, rfl⟩ := h.resolve_right (by rintro ⟨hg, _⟩; cases hg)
  have hr3 := hr2.below hb3
  clear hr2
  go_wp2_with fail
  refine (below_ok 10 3 w3 (by omega) (by omega) (by omega) (by omega)).mono ?_
  rintro e w4 ⟨rfl, rfl⟩
  go_wp2_with fail
  refine (new_any 0 w3).mono ?_
  rintro e w4 ⟨rfl, rfl⟩
  go_wp2_with fail
  have hlit := rdf_lit_at (w3.alloc (.cells #[.slice none 0 0, .int .u64 0] 67)) wsC #[.float .f64 4598175219545276416, .float .f64 4598175219545276416, .float .f64 4604930618986332160, .float .f64 4607182418800017408, .float .f64 4607182418800017408] (w3.heap.size + 1) 5 (by simp) rfl rfl
  refine (reals_any wsC wsC v _ _ ((hr3.below (Tp.Below_alloc w3 _)).below (Tp.Below_alloc _ _)) hlit (by decide)).mono ?_
  rw [realsB_self]
  rintro e w4 ⟨rfl, n, rfl⟩
  go_wp2_with fail
  refine (unit_half _).mono ?_
  rintro e w' ⟨rfl, rfl⟩
  have hhh := half_half
  go_wp2_with fail
  generalize hwl : (w3.alloc (Obj.cells #[Value.slice none 0 0, Value.int IntKind.u64 0] 67)).alloc _ = w4
  have hbel : Below w3.heap.size w3 w4 := by rw [← hwl]; exact ((Below.refl _ _).alloc (Nat.le_refl _) _).alloc (by simp) _
  have c0 : w4.cell? ⟨w3.heap.size, 0, none⟩ = some (.slice none 0 0) := by
    rw [← hwl]; simp [World.cell?_alloc_past]
  have c1 : w4.cell? ⟨w3.heap.size, 1, none⟩ = some (.int .u64 0) := by
    rw [← hwl]; simp [World.cell?_alloc_past]
  have f1 : w4.frozen? ⟨w3.heap.size, 1, none⟩ = false := by
    rw [← hwl]; simp
  clear hwl
  refine (next_empty w3.heap.size 0 (w4.drewN n) c0 c1 f1).mono ?_
  rw [stepW_zero]
  rintro e w' ⟨rfl, rfl⟩
  go_wp2
  go_ret
  refine ⟨rfl, ?_⟩
  have h3 := Tp.Below_seq (Tp.Below_seq (Tp.Below_of_alloc hb1) (Tp.Below_of_alloc hb2)) hb3
  have h4 := Tp.Below_seq h3 hbel
  exact (below_drewN h4 n).setCell (by have := h3.size; exact this) _
end Go.Proofs.Ytfdmfihifjlidaa
