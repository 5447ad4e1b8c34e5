/- The document's own Cumulate: plain facts, and its walk. Any weights. -/
import Derived.Test.YtfdmfihifjlidaaReals
namespace Go.Proofs.Ytfdmfihifjlidaa
open Go.ChangeShapes Go.WideShapes Go.ChangeAt Go.RowKit
open Cum (sumTo sums lastTo outs good)
open Fl (fin lt0 ge INF)

theorem fin_cases (x : Nat) (h : x < 18446744073709551616) : (fin x = true ∧ lt0 x = false → ge x = true) ∧ (ge x = true → x ≠ INF → fin x = true ∧ lt0 x = false) := by
  have hord := Fl.order0 x h
  have hl : lt0 x = (Fl.dbl.order x 0 == some Ordering.lt) := rfl
  have hg : ge x = (Fl.dbl.order x 0 == some Ordering.gt || Fl.dbl.order x 0 == some Ordering.eq) := rfl
  constructor
  · rintro ⟨h1, h2⟩
    rcases hord with ⟨_, e⟩ | ⟨_, _, e⟩ | ⟨_, e⟩ | ⟨⟨hi, hne⟩, e | e⟩
    · rw [hg, e]; rfl
    · rw [hg, e]; rfl
    · rw [hg, e]; rfl
    · rw [hl, e] at h2; cases h2
    · exfalso
      unfold fin at h1
      rcases Nat.lt_or_ge x 9223372036854775808 with h3 | h3
      · obtain ⟨s, t, e2⟩ := Fl.read_nan x hi h3
        rw [e2] at h1; cases h1
      · rcases Fl.read_neg x (by omega) h with ⟨m, p, e2, hm, _⟩ | e2 | ⟨s, t, e2⟩
        · unfold Ieee.Format.order at e
          rw [e2, Fl.read0, Fl.order_num0 m p hm true] at e; cases e
        · rw [e2] at h1; cases h1
        · rw [e2] at h1; cases h1
  · intro h1 hne
    rcases (Fl.ge_iff x h).1 h1 with h2 | h2
    · obtain ⟨r, m, e, _⟩ := Fl.read_V x (by omega)
      refine ⟨by unfold fin; rw [e], ?_⟩
      rw [hl]
      rcases hord with ⟨_, e⟩ | ⟨_, _, e⟩ | ⟨_, e⟩ | ⟨⟨hi, _⟩, _⟩
      · rw [e]; rfl
      · rw [e]; rfl
      · rw [e]; rfl
      · omega
    · subst h2
      refine ⟨by unfold fin; rw [Fl.readN0], by decide +kernel⟩

/-- x - x: nought, or no number. -/
theorem sub_self (x : Nat) : (fin x = true → Fl.dbl.sub x x = some 0) ∧ (fin x = false → Fl.dbl.sub x x = none) := by
  unfold fin Ieee.Format.sub
  constructor
  · intro h
    cases e : Fl.dbl.read x with
    | number s m p =>
      simp only [Ieee.Datum.opposite, Ieee.Datum.sum, Option.map_some]
      have hs : ∀ k, Ieee.signed s m k + Ieee.signed (!s) m k = 0 := by
        intro k; cases s <;> simp [Ieee.signed] <;> omega
      have e2 : (p - min p p).toNat = 0 := by omega
      rw [e2, hs 0]
      cases s <;> simp [Ieee.Format.write, Ieee.Format.nearest, Ieee.Format.word]
    | infinity s => rw [e] at h; cases h
    | nan s t => rw [e] at h; cases h
  · intro h
    cases e : Fl.dbl.read x with
    | number s m p => rw [e] at h; cases h
    | infinity s => cases s <;> rfl
    | nan s t => rfl

def nanOf (w : World) (x y : Nat) : Nat := (Question.nanBits .f64 x y).cut (w.tape w.drawn (.nanBits .f64 x y))
theorem nanOf_lt (w : World) (x y : Nat) : INF < nanOf w x y ∧ nanOf w x y ≠ 9223372036854775808 ∧ nanOf w x y < 18446744073709551616 := by
  unfold nanOf Question.cut INF
  simp only []
  generalize w.tape w.drawn (Question.nanBits FloatKind.f64 x y) = t
  have h1 := Nat.mod_lt t (show 0 < 2 by decide)
  have h2 := Nat.mod_lt (t / 2) (show 0 < 4503599627370495 by decide)
  have e1 : (2 : Nat) ^ 63 = 9223372036854775808 := by decide
  have e2 : (2 : Nat) ^ 52 - 1 = 4503599627370495 := by decide
  rw [e1, e2]
  omega
theorem nanOf_nan (w : World) (x y : Nat) : ∃ s t, Fl.dbl.read (nanOf w x y) = .nan s t := by
  unfold nanOf Question.cut
  simp only []
  generalize w.tape w.drawn (Question.nanBits FloatKind.f64 x y) = t
  have h2 := Nat.mod_lt (t / 2) (show 0 < 4503599627370495 by decide)
  have e1 : (2 : Nat) ^ 63 = 9223372036854775808 := by decide
  have e2 : (2 : Nat) ^ 52 - 1 = 4503599627370495 := by decide
  rw [e1, e2]
  generalize t / 2 % 4503599627370495 = b at h2
  have hm : t % 2 = 0 ∨ t % 2 = 1 := by omega
  unfold Ieee.Format.read
  simp only [Fl.eb, Fl.ei, Fl.es, Fl.el]
  have k2 : (t % 2 * 9223372036854775808 + 9218868437227405312 + 1 + b) % 9223372036854775808 = 9218868437227405312 + 1 + b := by omega
  rw [k2, if_neg (by omega), if_neg (by omega), if_neg (by omega)]
  exact ⟨_, _, rfl⟩
theorem run_sub_nan (x : Nat) (h : fin x = false) (w : World) : (binOp .sub 29 (.float .f64 x) (.float .f64 x)).run Try.prog w = .ok (.float .f64 (nanOf w x x)) w.drew := by
  have h2 : FloatKind.f64.format.sub x x = none := (sub_self x).2 h
  simp [binOp, Op.floatArith, h2, nanOf, Question.forced]

theorem finite_yes (x : Nat) (h : fin x = true) (w : World) : Calls Try.prog 36 #[.float .f64 x] w fun e w' => e = .returned (.bool true) ∧ w = w' := by
  have hs : ∀ w, (binOp .sub 29 (.float .f64 x) (.float .f64 x)).run Try.prog w = .ok (.float .f64 0) w := fun w => run_float_arith w _ _ _ _ _ _ ((sub_self x).1 h)
  have h0 : (FloatKind.f64.format.order 0 0 == some Ordering.eq) = true := by decide +kernel
  go_enter Try.func36, Try.ntmps36
  go_wp2
  go_ret
  exact ⟨rfl, rfl⟩
theorem finite_no (x : Nat) (h : fin x = false) (w : World) : Calls Try.prog 36 #[.float .f64 x] w fun e w' => e = .returned (.bool false) ∧ w.drew = w' := by
  have hs := run_sub_nan x h w
  obtain ⟨n, hn⟩ : ∃ n, nanOf w x x = n := ⟨_, rfl⟩
  have h0 : (FloatKind.f64.format.order n 0 == some Ordering.eq) = false := by
    obtain ⟨s, t, e⟩ := nanOf_nan w x x
    rw [hn] at e
    show (Fl.dbl.order n 0 == some Ordering.eq) = false
    unfold Ieee.Format.order
    rw [e]; rfl
  rw [hn] at hs
  clear hn
  go_enter Try.func36, Try.ntmps36
  go_wp2
  go_ret
  exact ⟨rfl, rfl⟩
end Go.Proofs.Ytfdmfihifjlidaa
