/- The walks of the law's own alike, reals, kept and lent: any reals. -/
import Derived.Test.YtfdmfihifjlidaaPick
namespace Go.Proofs.Ytfdmfihifjlidaa
open Go.ChangeShapes Go.WideShapes Go.ChangeAt Go.RowKit

def isNaN (x : Nat) : Bool := FloatKind.f64.format.order x x != some Ordering.eq
def alikeB (x y : Nat) : Bool := ((x : Int) == (y : Int)) || (isNaN x && isNaN y)
theorem alike_any (x y : Nat) (w : World) :
    Calls Try.prog 12 #[.float .f64 x, .float .f64 y] w fun e w' => e = .returned (.bool (alikeB x y)) ∧ w = w' := by
  have h33 := call33
  have hd : alikeB x y = (((x : Int) == (y : Int)) || ((FloatKind.f64.format.order x x != some Ordering.eq) && (FloatKind.f64.format.order y y != some Ordering.eq))) := rfl
  by_cases h1 : ((x : Int) == (y : Int)) = true
  · have hd : alikeB x y = true := by rw [hd, h1]; rfl
    replace hd := Lib.hid hd
    go_enter Try.func12, Try.ntmps12
    go_wp2
    go_ret
    exact ⟨by rw [hd.out]; rfl, rfl⟩
  · have h1 : ((x : Int) == (y : Int)) = false := by simpa using h1
    by_cases h2 : (FloatKind.f64.format.order x x != some Ordering.eq) = true
    · have hd : alikeB x y = (FloatKind.f64.format.order y y != some Ordering.eq) := by rw [hd, h1, h2]; rfl
      replace hd := Lib.hid hd
      go_enter Try.func12, Try.ntmps12
      go_wp2
      go_ret
      exact ⟨by rw [hd.out]; rfl, rfl⟩
    · have h2 : (FloatKind.f64.format.order x x != some Ordering.eq) = false := by simpa using h2
      have hd : alikeB x y = false := by rw [hd, h1, h2]; rfl
      replace hd := Lib.hid hd
      go_enter Try.func12, Try.ntmps12
      go_wp2
      go_ret
      exact ⟨by rw [hd.out]; rfl, rfl⟩

def realsTo (a b : List Nat) (k : Nat) : Bool := (List.range k).all fun j => alikeB (a.getD j 0) (b.getD j 0)
def realsB (a b : List Nat) : Bool := ((a.length : Int) == (b.length : Int)) && realsTo a b a.length
theorem reals_some (a b : List Nat) (p off cap q off' cap' : Nat) (w : World) (hl : a.length = b.length) (hc : ∀ i, i < a.length → w.cell? ⟨p, off + i, none⟩ = some (.float .f64 (a.getD i 0)))
    (hd : ∀ i, i < b.length → w.cell? ⟨q, off' + i, none⟩ = some (.float .f64 (b.getD i 0))) (hlen : a.length * 8 ≤ 140737488355328) :
    Calls Try.prog 29 #[.slice (some ⟨p, off, none⟩) a.length cap, .slice (some ⟨q, off', none⟩) b.length cap'] w fun e w' => e = .returned (.bool (realsTo a b a.length)) ∧ ∃ n, w.drewN n = w' := by
  rw [← hl] at hd ⊢
  have hne : ((a.length : Int) != (a.length : Int)) = false := by simp
  clear hl
  go_enter Try.func29, Try.ntmps29
  go_wp2
  go_loopw [5] (fun i wr => ∃ k n : Nat, k ≤ a.length ∧ i = .int .i64 k ∧ wr = w.drewN n ∧ realsTo a b k = true)
    (fun i _ => a.length - (intOf i).toNat)
  case atStart => exact ⟨0, 0, by omega, rfl, rfl, rfl⟩
  case round =>
    obtain ⟨k, n, hk, rfl, hwr, hall⟩ := hrel
    replace hall := Lib.hid hall
    have hcw : ∀ a, wr.cell? a = w.cell? a := fun a => by rw [hwr]; rfl
    have hc' := fun i hi => (hcw _).trans (hc i hi)
    have hd' := fun i hi => (hcw _).trans (hd i hi)
    replace hwr := Lib.hid hwr
    clear hcw
    by_cases hlt : k < a.length
    · have hcx := hc' k hlt
      have hdx := hd' k hlt
      have hs : realsTo a b (k + 1) = (realsTo a b k && alikeB (a.getD k 0) (b.getD k 0)) := by simp [realsTo, List.range_succ, List.all_append]
      obtain ⟨x, hx⟩ : ∃ x, x = a.getD k 0 := ⟨_, rfl⟩
      obtain ⟨y, hy⟩ : ∃ y, y = b.getD k 0 := ⟨_, rfl⟩
      rw [← hx] at hcx
      rw [← hy] at hdx
      rw [← hx, ← hy, hall.out, Bool.true_and] at hs
      have hi1 : (0 : Int) ≤ (k : Int) := by omega
      have hi2 : (k : Int) < (a.length : Int) := by omega
      replace hs := Lib.hid hs
      clear hc hd hx hy hc' hd'
      go_wp2
      go_quiet ((go_at_call 12; exact Tp.quiet_same (alike_any _ _ _)))
      by_cases hr : alikeB x y = true
      · rw [hr] at hs ⊢
        clear hr
        go_wp2
        go_roundw
        case rel => exact ⟨k + 1, _, by omega, by go_num, by rw [hwr.out, World.drewN_drewN], hs.out⟩
        case measure => simp [intOf]; omega
      · have hr2 : alikeB x y = false := by simpa using hr
        have hfin : realsTo a b a.length = false := by
          rw [Bool.eq_false_iff]
          intro h
          have h1 := List.all_eq_true.1 h k (by simpa using hlt)
          have h2 := hs.out
          rw [hr2] at h2
          have h3 : realsTo a b (k + 1) = true := List.all_eq_true.2 fun j hj => List.all_eq_true.1 h j (by simp at hj ⊢; omega)
          rw [h3] at h2; cases h2
        replace hfin := Lib.hid hfin
        rw [hr2]
        clear hr hr2 hs hall
        go_wp2
        go_ret
        exact ⟨by rw [hfin.out]; rfl, _, by rw [hwr.out, World.drewN_drewN]⟩
    · obtain rfl : k = a.length := by omega
      clear hc hd hc' hd'
      go_wp2
      go_ret
      exact ⟨by rw [hall.out]; rfl, n, hwr.out.symm⟩
theorem reals_ne (ao bo : Option Addr) (a b : List Nat) (cap cap' : Nat) (w : World) (hl : a.length ≠ b.length) :
    Calls Try.prog 29 #[.slice ao a.length cap, .slice bo b.length cap'] w fun e w' => e = .returned (.bool false) ∧ ∃ n, w.drewN n = w' := by
  have hne : ((a.length : Int) != (b.length : Int)) = true := by rw [bne_iff_ne]; omega
  go_enter Try.func29, Try.ntmps29
  go_wp2
  go_ret
  exact ⟨rfl, 0, rfl⟩
theorem reals_zero (ao bo : Option Addr) (cap cap' : Nat) (w : World) :
    Calls Try.prog 29 #[.slice ao 0 cap, .slice bo 0 cap'] w fun e w' => e = .returned (.bool true) ∧ ∃ n, w.drewN n = w' := by
  go_enter Try.func29, Try.ntmps29
  go_wp2
  refine wp_loop_rounds 1 ?_
  rw [rounds_succ]
  go_wp2
  go_ret
  exact ⟨rfl, 0, rfl⟩
theorem reals_any (a b : List Nat) (u v : Value) (w : World) (hu : Tp.RdF w u a) (hv : Tp.RdF w v b) (hlen : a.length * 8 ≤ 140737488355328) :
    Calls Try.prog 29 #[u, v] w fun e w' => e = .returned (.bool (realsB a b)) ∧ ∃ n, w.drewN n = w' := by
  obtain ⟨ao, cap, rfl, ha⟩ := hu
  obtain ⟨bo, cap', rfl, hb⟩ := hv
  by_cases hl : a.length = b.length
  · have e : realsB a b = realsTo a b a.length := by unfold realsB; simp [hl]
    rw [e]
    by_cases h0 : a.length = 0
    · have ha0 := List.eq_nil_of_length_eq_zero h0
      have hb0 := List.eq_nil_of_length_eq_zero (hl ▸ h0)
      subst ha0; subst hb0
      exact reals_zero ao bo cap cap' w
    · rcases ha with rfl | ⟨p, off, rfl, hp, hc⟩
      · simp at h0
      · rcases hb with rfl | ⟨q, off', rfl, hq, hd⟩
        · simp at hl; simp [hl] at h0
        · exact reals_some a b p off cap q off' cap' w hl hc hd hlen
  · have e : realsB a b = false := by unfold realsB; rw [show ((a.length : Int) == (b.length : Int)) = false from by rw [beq_eq_false_iff_ne]; omega]; rfl
    rw [e]
    exact reals_ne ao bo a b cap cap' w hl
theorem realsB_self (a : List Nat) : realsB a a = true := by
  unfold realsB realsTo
  simp [alikeB]
end Go.Proofs.Ytfdmfihifjlidaa
