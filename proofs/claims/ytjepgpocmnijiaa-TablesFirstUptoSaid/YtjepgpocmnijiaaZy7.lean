/- The walks of what asks for keys and their order: of, order, Less, key, find, out, Out. -/
import Derived.Test.YtjepgpocmnijiaaZy6
section

namespace Go.Ck
open Go.RowKit
set_option linter.unusedVariables false
def ordI (a b : Int × ByteArray) : Int := if Lib.compareInt a.1 b.1 ≠ 0 then Lib.compareInt a.1 b.1 else Lib.compareBytes a.2.data.toList b.2.data.toList
theorem cmpB (a b : List UInt8) : Lib.compareBytes a b = if a = b then 0 else if Op.bytesLess a b = true then -1 else 1 := by
  induction a generalizing b with
  | nil => cases b <;> simp [Lib.compareBytes, Op.bytesLess]
  | cons x xs ih =>
    cases b with
    | nil => simp [Lib.compareBytes, Op.bytesLess]
    | cons y ys =>
      simp only [Lib.compareBytes, Op.bytesLess, List.cons.injEq]
      by_cases h1 : x < y
      · have h2 : ¬ x = y := fun e => by subst e; exact absurd h1 (UInt8.lt_irrefl _)
        simp [h1, h2]
      · by_cases h2 : y < x
        · have h3 : ¬ x = y := fun e => by subst e; exact absurd h2 (UInt8.lt_irrefl _)
          simp [h1, h2, h3]
        · have h3 : x = y := UInt8.le_antisymm (UInt8.not_lt.1 h2) (UInt8.not_lt.1 h1)
          subst h3
          rw [if_neg h1, if_neg h1, ih]
          simp [h1]
theorem less_ord (a b : Res) : less a b = decide (ordI (a.kind, a.name) (b.kind, b.name) < 0) := by
  unfold less ordI slt
  rw [cmpB]
  simp only [Lib.compareInt, Lib.toList_data]
  by_cases h1 : a.kind < b.kind
  · simp [h1]
  · by_cases h2 : b.kind < a.kind
    · have h3 : ¬ a.kind = b.kind := by omega
      simp [h1, h2, h3]
    · have h3 : a.kind = b.kind := by omega
      by_cases h4 : a.name.data.toList = b.name.data.toList
      · have h5 : Op.bytesLess b.name.data.toList b.name.data.toList = false := by
          generalize b.name.data.toList = l
          induction l with
          | nil => rfl
          | cons x xs ih => simp [Op.bytesLess, ih]
        simp [h3, h4, h5]
      · cases h5 : Op.bytesLess a.name.data.toList b.name.data.toList <;> simp [h3, h4]
end Go.Ck
namespace Go.Proofs.Ytjepgpocmnijiaa
open Go.RowKit Go.Mp Go.Ck
set_option linter.unusedVariables false
set_option maxRecDepth 100000
theorem ret_i {a b : Int} (h : a = b) : Ending.returned (.int .i64 a) = .returned (.int .i64 b) := by rw [h]
theorem alloc_below (w : World) (o : Obj) : Below w.heap.size w (w.alloc o) := (Below.refl _ _).alloc (Nat.le_refl _) _
theorem seq_below {a b c : World} (h : Below a.heap.size a b) (h' : Below b.heap.size b c) : Below a.heap.size a c := h.trans (h'.mono h.size)
theorem drew_below (w : World) (n : Nat) : Below w.heap.size w (w.drewN n) := ⟨rfl, rfl, rfl, Nat.le_refl _, fun _ _ => rfl⟩
section
variable (a b : Res) (ea ta ra eb tb rb : Value) (w : World)
theorem of61 : Calls Try.prog 61 #[.agg #[.int .i64 a.kind, .string a.name, ea, ta, .string a.host, ra, .string a.route, .bool a.del]] w
    fun e w' => e = .returned (.agg #[.int .i64 a.kind, .string a.name]) ∧ Below w.heap.size w w' := by
  go_enter Try.func61, Try.ntmps61
  go_wp2
  exact bodyPost_ret (v := .agg #[.int .i64 a.kind, .string a.name]) (by simp [results, Try.results61, go_sem]) rfl ⟨rfl, seq_below (alloc_below _ _) (alloc_below _ _)⟩
end
theorem ord114 (k1 k2 : Int) (n1 n2 : ByteArray) (w : World) : Calls Try.prog 114 #[.agg #[.int .i64 k1, .string n1], .agg #[.int .i64 k2, .string n2]] w fun e w' => e = .returned (.int .i64 (ordI (k1, n1) (k2, n2))) ∧ Below w.heap.size w w' := by
  have hc := fun w => Try.cmp_Compare_int k1 k2 w
  have hs := fun w => Try.strings_Compare n1 n2 w
  unfold ordI
  dsimp only
  generalize Lib.compareInt k1 k2 = c at *
  generalize Lib.compareBytes n1.data.toList n2.data.toList = d at *
  by_cases h : c = 0
  · subst h
    replace hc := Lib.hid hc
    replace hs := Lib.hid hs
    go_enter Try.func114, Try.ntmps114
    go_wp2_with (first | (go_at_call 111; (with_reducible refine (hc.out _).mono ?_); rintro e w1 ⟨rfl, rfl⟩) | (go_at_call 143; (with_reducible refine (hs.out _).mono ?_); rintro e w1 ⟨rfl, rfl⟩) | fail)
    go_ret
    exact ⟨rfl, seq_below (alloc_below _ _) (alloc_below _ _)⟩
  · have h1 : (c == 0) = false := beq_eq_false_iff_ne.2 h
    have h2 : (c != 0) = true := bne_iff_ne.2 h
    replace hc := Lib.hid hc
    go_enter Try.func114, Try.ntmps114
    go_wp2_with (first | (go_at_call 111; (with_reducible refine (hc.out _).mono ?_); rintro e w1 ⟨rfl, rfl⟩) | fail)
    go_ret
    exact ⟨by simp, seq_below (alloc_below _ _) (alloc_below _ _)⟩
theorem of61_from {wb w : World} (h : Below wb.heap.size wb w) (a : Res) (ea ta ra : Value) : Calls Try.prog 61 #[.agg #[.int .i64 a.kind, .string a.name, ea, ta, .string a.host, ra, .string a.route, .bool a.del]] w
    fun e w' => e = .returned (.agg #[.int .i64 a.kind, .string a.name]) ∧ Below wb.heap.size wb w' := (of61 a ea ta ra w).mono fun _ _ ⟨he, hb⟩ => ⟨he, seq_below h hb⟩
theorem ord114_from {wb w : World} (h : Below wb.heap.size wb w) (k1 k2 : Int) (n1 n2 : ByteArray) : Calls Try.prog 114 #[.agg #[.int .i64 k1, .string n1], .agg #[.int .i64 k2, .string n2]] w fun e w' => e = .returned (.int .i64 (ordI (k1, n1) (k2, n2))) ∧ Below wb.heap.size wb w' := (ord114 k1 k2 n1 n2 w).mono fun _ _ ⟨he, hb⟩ => ⟨he, seq_below h hb⟩
end Go.Proofs.Ytjepgpocmnijiaa
end
