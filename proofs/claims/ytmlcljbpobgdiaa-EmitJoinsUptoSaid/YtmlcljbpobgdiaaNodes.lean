/- Nodes: how they read, when two are the same, and the walks of what compares them. -/
import Derived.Test.YtmlcljbpobgdiaaRd
import Derived.Test.YtmlcljbpobgdiaaMem
import Derived.Test.YtmlcljbpobgdiaaShelf
import Derived.Test.YtmlcljbpobgdiaaBulk
import Derived.Lib.Hide
import Derived.Deep.LoopGhost
import Derived.Deep.Cut
import Derived.Deep.QuietTactic
import Derived.BigQuiet
import Derived.Outline
namespace Go.Em
open Go.RowKit
abbrev ENode := Int × (ByteArray × (ByteArray × (Bool × (Int × (List Int × Unit)))))
def nodeE : Rd.Elem ENode := Rd.pair Rd.int (Rd.pair Rd.str (Rd.pair Rd.str (Rd.pair Rd.bool (Rd.pair Rd.int (Rd.pair (Rd.slice Rd.int) Rd.none)))))
def kids (x : ENode) : List Int := x.2.2.2.2.2.1
def nodeEq (x y : ENode) : Bool := (x.1 == y.1) && ((x.2.1.toList == y.2.1.toList) && ((x.2.2.1.toList == y.2.2.1.toList) && (kids x == kids y)))
def nodesEq : List ENode → List ENode → Bool
  | [], [] => true
  | x :: a, y :: b => nodeEq x y && nodesEq a b
  | _, _ => false
theorem nodesEq_len {a b : List ENode} (h : a.length ≠ b.length) : nodesEq a b = false := by
  induction a generalizing b with
  | nil => cases b with
    | nil => exact absurd rfl h
    | cons y b => rfl
  | cons x a ih => cases b with
    | nil => rfl
    | cons y b => simp only [nodesEq, ih (by simpa using h), Bool.and_false]
theorem nodesEq_bad {a b : List ENode} {i : Nat} {x y : ENode} (hx : a[i]? = some x) (hy : b[i]? = some y) (h : nodeEq x y = false) : nodesEq a b = false := by
  induction i generalizing a b with
  | zero =>
    cases a with
    | nil => simp at hx
    | cons x' a => cases b with
      | nil => simp at hy
      | cons y' b => simp at hx hy; subst hx hy; simp only [nodesEq, h, Bool.false_and]
  | succ i ih =>
    cases a with
    | nil => simp at hx
    | cons x' a => cases b with
      | nil => simp at hy
      | cons y' b => simp only [nodesEq, ih (by simpa using hx) (by simpa using hy), Bool.and_false]
theorem nodesEq_all {a b : List ENode} (hl : a.length = b.length) (h : ∀ (i : Nat) x y, a[i]? = some x → b[i]? = some y → nodeEq x y = true) : nodesEq a b = true := by
  induction a generalizing b with
  | nil => cases b with
    | nil => rfl
    | cons y b => simp at hl
  | cons x a ih => cases b with
    | nil => simp at hl
    | cons y b =>
      simp only [nodesEq]
      rw [h 0 x y rfl rfl, ih (by simpa using hl) fun i x' y' hx hy => h (i + 1) x' y' (by simpa using hx) (by simpa using hy)]
      rfl
theorem nodeEq_refl (x : ENode) : nodeEq x x = true := by simp [nodeEq]
theorem nodesEq_refl (a : List ENode) : nodesEq a a = true := nodesEq_all rfl fun i x y hx hy => by rw [hx] at hy; cases hy; exact nodeEq_refl x
end Go.Em
namespace Go.Proofs.Ytmlcljbpobgdiaa
open Go.ChangeShapes Go.WideShapes Go.ChangeAt Go.RowKit
open Go.Em
set_option linter.unusedVariables false
theorem ints18 {w : World} {v u : Value} {xs ys : List Int} (hx : Rd.SliceOf Rd.int w v xs) (hy : Rd.SliceOf Rd.int w u ys) :
    Calls Try.prog 18 #[v, u] w fun e w' => e = .returned (.bool (xs == ys)) ∧ ∃ q, w' = w.drewN q := by
  have hxl := hx.1
  have hyl := hy.1
  obtain ⟨a1, c1, rfl⟩ : ∃ ao cap, v = .slice ao xs.length cap := by obtain ⟨_, ao, cap, rfl, _⟩ := hx; exact ⟨_, _, rfl⟩
  obtain ⟨a2, c2, rfl⟩ : ∃ ao cap, u = .slice ao ys.length cap := by obtain ⟨_, ao, cap, rfl, _⟩ := hy; exact ⟨_, _, rfl⟩
  by_cases hl : xs.length = ys.length
  · by_cases h0 : xs = []
    · subst h0
      have hy0 : ys = [] := List.eq_nil_of_length_eq_zero hl.symm
      subst hy0
      refine (Try.slices_Equal_int_empty a1 a2 c1 0 c2 w (by decide)).mono ?_
      rintro e w' ⟨rfl, rfl⟩
      exact ⟨by simp, 0, rfl⟩
    · have h1 : ys ≠ [] := by rintro rfl; exact h0 (List.eq_nil_of_length_eq_zero hl)
      obtain ⟨b1, o1, k1, e1, _, hc1⟩ := hx.at h0
      obtain ⟨b2, o2, k2, e2, _, hc2⟩ := hy.at h1
      cases e1
      cases e2
      refine (Try.slices_Equal_int b1 o1 xs.length c1 b2 o2 ys.length c2 xs ys w (Nat.le_refl _) (Nat.le_refl _) (by omega) (by omega) (fun j hj => ?_) (fun j hj => ?_)).mono ?_
      · have := (hc1 j _ (List.getElem?_eq_getElem hj)).1
        rw [show xs.getD j 0 = xs[j] from by simp [List.getD, hj]]
        simpa [Rd.cellsAt, Rd.int] using this
      · have := (hc2 j _ (List.getElem?_eq_getElem hj)).1
        rw [show ys.getD j 0 = ys[j] from by simp [List.getD, hj]]
        simpa [Rd.cellsAt, Rd.int] using this
      · rintro e w' ⟨rfl, h⟩
        rw [List.take_length, List.take_length]
        exact ⟨rfl, h⟩
  · refine (Try.slices_Equal_int_lens a1 a2 xs.length c1 ys.length c2 w hl).mono ?_
    rintro e w' ⟨rfl, rfl⟩
    have : (xs == ys) = false := by rw [beq_eq_false_iff_ne]; rintro rfl; exact hl rfl
    exact ⟨by rw [this], 0, rfl⟩
/-- A node by its cells. -/
def nval (x : ENode) (v : Value) : Value := .agg #[.int .i64 x.1, .string x.2.1, .string x.2.2.1, .bool x.2.2.2.1, .int .i64 x.2.2.2.2.1, v]
set_option maxHeartbeats 2000000 in
theorem same17 (x y : ENode) (v u : Value) (w : World) (hx : Rd.SliceOf Rd.int w v (kids x)) (hy : Rd.SliceOf Rd.int w u (kids y)) :
    Calls Try.prog 17 #[nval x v, nval y u] w fun e w' => e = .returned (.bool (nodeEq x y)) ∧ Below w.heap.size w w' := by
  obtain ⟨k1, s1, t1, q1, l1, ks1, _⟩ := x
  obtain ⟨k2, s2, t2, q2, l2, ks2, _⟩ := y
  dsimp only [kids] at hx hy
  unfold nval
  dsimp only
  have hbb := Tp.Below_seq (Tp.Below_alloc w (.cells #[.int .i64 k1, .string s1, .string t1, .bool q1, .int .i64 l1, v] 45)) (Tp.Below_alloc _ (.cells #[.int .i64 k2, .string s2, .string t2, .bool q2, .int .i64 l2, u] 45))
  have hcall := ints18 (hx.below hbb) (hy.below hbb)
  have hne : nodeEq (k1, s1, t1, q1, l1, ks1, ()) (k2, s2, t2, q2, l2, ks2, ()) = ((k1 == k2) && ((s1.toList == s2.toList) && ((t1.toList == t2.toList) && (ks1 == ks2)))) := rfl
  obtain ⟨ao1, c1, rfl⟩ : ∃ ao cap, v = .slice ao ks1.length cap := by obtain ⟨_, ao, cap, rfl, _⟩ := hx; exact ⟨_, _, rfl⟩
  obtain ⟨ao2, c2, rfl⟩ : ∃ ao cap, u = .slice ao ks2.length cap := by obtain ⟨_, ao, cap, rfl, _⟩ := hy; exact ⟨_, _, rfl⟩
  replace hcall := Lib.hid hcall
  replace hbb := Lib.hid hbb
  replace hx := Lib.hid hx
  replace hy := Lib.hid hy
  replace hne := Lib.hid hne
  rcases Bool.eq_false_or_eq_true (k1 == k2) with h1 | h1
  · rcases Bool.eq_false_or_eq_true (s1.toList == s2.toList) with h2 | h2
    · rcases Bool.eq_false_or_eq_true (t1.toList == t2.toList) with h3 | h3
      · have hn := Lib.hid (show nodeEq (k1, s1, t1, q1, l1, ks1, ()) (k2, s2, t2, q2, l2, ks2, ()) = (ks1 == ks2) by rw [hne.out, h1, h2, h3]; rfl)
        generalize (ks1 == ks2) = r at *
        go_enter Try.func17, Try.ntmps17
        go_wp2_with fail
        refine hcall.out.mono ?_
        rintro e w1 ⟨rfl, q, rfl⟩
        go_wp2_with fail
        go_ret
        exact ⟨by rw [hn.out]; rfl, Tp.Below_seq hbb.out (below_drewN (Below.refl _ _) _)⟩
      · have hn := Lib.hid (show nodeEq (k1, s1, t1, q1, l1, ks1, ()) (k2, s2, t2, q2, l2, ks2, ()) = false by rw [hne.out, h1, h2, h3]; rfl)
        go_enter Try.func17, Try.ntmps17
        go_wp2_with fail
        go_ret
        exact ⟨by rw [hn.out]; rfl, hbb.out⟩
    · have hn := Lib.hid (show nodeEq (k1, s1, t1, q1, l1, ks1, ()) (k2, s2, t2, q2, l2, ks2, ()) = false by rw [hne.out, h1, h2]; rfl)
      go_enter Try.func17, Try.ntmps17
      go_wp2_with fail
      go_ret
      exact ⟨by rw [hn.out]; rfl, hbb.out⟩
  · have hn := Lib.hid (show nodeEq (k1, s1, t1, q1, l1, ks1, ()) (k2, s2, t2, q2, l2, ks2, ()) = false by rw [hne.out, h1]; rfl)
    go_enter Try.func17, Try.ntmps17
    go_wp2_with fail
    go_ret
    exact ⟨by rw [hn.out]; rfl, hbb.out⟩
end Go.Proofs.Ytmlcljbpobgdiaa
