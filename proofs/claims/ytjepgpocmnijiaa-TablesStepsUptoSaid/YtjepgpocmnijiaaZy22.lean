/- The plain laws of patterns: to cover, to take, the order, the best one. -/
import Derived.Test.YtjepgpocmnijiaaZy21
import Derived.RegionTactic
import Derived.ChangeAlike
section
/- The walks that tell a host pattern's sort, the program's and the document's. -/
namespace Go.Proofs.Ytjepgpocmnijiaa
open Go.ChangeShapes Go.WideShapes Go.ChangeAt Go.RowKit
open Go.Pa
set_option linter.unusedVariables false
set_option maxRecDepth 100000

def HostV (l : Bs) : Value := .tuple #[.int .i64 (sortH l).1, .string (B (sortH l).2)]
theorem foldV_none {l : Bs} (h : foldH l = none) : FoldV l = .tuple #[.string ⟨#[]⟩, .bool false] := by unfold FoldV; rw [h]; rfl
theorem foldV_some {l h : Bs} (e : foldH l = some h) : FoldV l = .tuple #[.string (B h), .bool true] := by unfold FoldV; rw [e]
theorem data_from2 (s : ByteArray) : (s.extract 2 s.size).data.toList = s.data.toList.drop 2 := by
  rw [Lib.extract_data]
  exact List.take_of_length_le (by rw [List.length_drop, len_data]; omega)
theorem pre2_list : (⟨#[42, 46]⟩ : ByteArray).data.toList = [42, 46] := rfl
theorem extract_le (s : ByteArray) (a b : Nat) (h : s.size ≤ maxLen) : (s.extract a b).size ≤ maxLen := by
  rw [← len_data, Lib.extract_data, List.length_take, List.length_drop, len_data]; omega
theorem pre2_size {s : ByteArray} (h : Lib.hasPrefix s.data.toList [42, 46] = true) : 2 ≤ s.size := by
  have h2 := (List.isPrefixOf_iff_prefix.1 h).length_le
  rw [len_data] at h2
  exact h2
theorem below_drewQ {B : Nat} {w w' : World} (h : Below B w w') (n : Nat) : Below B w (w'.drewN n) := h.trans (Tp.Below_drewN n)

theorem sort_us {l h : Bs} (h1 : ¬ l = [42]) (h2 : Lib.hasPrefix l [42, 46] = true) (h3 : foldH (l.drop 2) = some h) : sortH l = (1, h) := by unfold sortH; rw [if_neg h1, if_pos h2, h3]
theorem sort_un {l : Bs} (h1 : ¬ l = [42]) (h2 : Lib.hasPrefix l [42, 46] = true) (h3 : foldH (l.drop 2) = none) : sortH l = (3, l) := by unfold sortH; rw [if_neg h1, if_pos h2, h3]
theorem sort_s {l h : Bs} (h1 : ¬ l = [42]) (h2 : Lib.hasPrefix l [42, 46] = false) (h3 : foldH l = some h) : sortH l = (0, h) := by unfold sortH; rw [if_neg h1, if_neg (by simp [h2]), h3]
theorem sort_n {l : Bs} (h1 : ¬ l = [42]) (h2 : Lib.hasPrefix l [42, 46] = false) (h3 : foldH l = none) : sortH l = (3, l) := by unfold sortH; rw [if_neg h1, if_neg (by simp [h2]), h3]

set_option maxHeartbeats 1000000 in
theorem host36 (s : ByteArray) (w : World) (hs : s.size ≤ maxLen) :
    Calls Try.prog 110 #[.string s] w fun e w' => e = .returned (HostV s.data.toList) ∧ Below w.heap.size w w' := by
  have e1 := eq_const s [42]
  by_cases h1 : s.data.toList = [42]
  · have hv : HostV s.data.toList = .tuple #[.int .i64 2, .string ⟨#[]⟩] := by unfold HostV sortH; rw [if_pos h1]; rfl
    rw [show (s.data.toList == [42]) = true from by simpa using h1] at e1
    replace hv := Lib.hid hv
    clear h1
    go_enter Try.func110, Try.ntmps110
    go_wp2
    go_ret2
    exact ⟨by rw [hv.out]; rfl, Below.refl _ _⟩
  · rw [show (s.data.toList == [42]) = false from by simpa using h1] at e1
    have hpre := haspre_any s ⟨#[42, 46]⟩ w hs (by decide)
    rw [pre2_list] at hpre
    by_cases h2 : Lib.hasPrefix s.data.toList [42, 46] = true
    · have hsz := pre2_size h2
      rw [h2] at hpre
      have hf := fun w => fold_any (s.extract 2 s.size) w (extract_le s _ _ hs)
      rw [data_from2] at hf
      replace hpre := Lib.hid hpre
      cases hfo : foldH (s.data.toList.drop 2) with
      | none =>
        rw [foldV_none hfo] at hf
        have hv : HostV s.data.toList = .tuple #[.int .i64 3, .string s] := by unfold HostV; rw [sort_un h1 h2 hfo, B_self]
        replace hv := Lib.hid hv
        replace hf := Lib.hid hf
        clear h1 h2 hfo
        unfold maxLen at hs
        go_enter Try.func110, Try.ntmps110
        go_wp2_with (go_at_call 140; refine hpre.out.mono ?_; rintro e w' ⟨rfl, rfl⟩)
        go_quiet (fail)
        go_wp2_with fail
        refine (hf.out _).mono ?_
        rintro e w1 ⟨rfl, hb1⟩
        replace hb1 := Lib.hid hb1
        go_wp2
        go_ret2
        exact ⟨by rw [hv.out]; rfl, (below_drewQ (Below.refl _ _) nq).trans hb1.out⟩
      | some h =>
        rw [foldV_some hfo] at hf
        have hv : HostV s.data.toList = .tuple #[.int .i64 1, .string (B h)] := by unfold HostV; rw [sort_us h1 h2 hfo]
        replace hv := Lib.hid hv
        replace hf := Lib.hid hf
        clear h1 h2 hfo
        unfold maxLen at hs
        go_enter Try.func110, Try.ntmps110
        go_wp2_with (go_at_call 140; refine hpre.out.mono ?_; rintro e w' ⟨rfl, rfl⟩)
        go_quiet (fail)
        go_wp2_with fail
        refine (hf.out _).mono ?_
        rintro e w1 ⟨rfl, hb1⟩
        replace hb1 := Lib.hid hb1
        go_wp2
        go_ret2
        exact ⟨by rw [hv.out]; rfl, (below_drewQ (Below.refl _ _) nq).trans hb1.out⟩
    · have h2' : Lib.hasPrefix s.data.toList [42, 46] = false := by simpa using h2
      rw [h2'] at hpre
      have hf := fold_any s w hs
      replace hpre := Lib.hid hpre
      cases hfo : foldH s.data.toList with
      | none =>
        rw [foldV_none hfo] at hf
        have hv : HostV s.data.toList = .tuple #[.int .i64 3, .string s] := by unfold HostV; rw [sort_n h1 h2' hfo, B_self]
        replace hv := Lib.hid hv
        replace hf := Lib.hid hf
        clear h1 h2 h2' hfo
        go_enter Try.func110, Try.ntmps110
        go_wp2_with (go_at_call 140; refine hpre.out.mono ?_; rintro e w' ⟨rfl, rfl⟩)
        refine (hf.out).mono ?_
        rintro e w1 ⟨rfl, hb1⟩
        replace hb1 := Lib.hid hb1
        go_wp2
        go_ret2
        exact ⟨by rw [hv.out]; rfl, hb1.out⟩
      | some h =>
        rw [foldV_some hfo] at hf
        have hv : HostV s.data.toList = .tuple #[.int .i64 0, .string (B h)] := by unfold HostV; rw [sort_s h1 h2' hfo]
        replace hv := Lib.hid hv
        replace hf := Lib.hid hf
        clear h1 h2 h2' hfo
        go_enter Try.func110, Try.ntmps110
        go_wp2_with (go_at_call 140; refine hpre.out.mono ?_; rintro e w' ⟨rfl, rfl⟩)
        refine (hf.out).mono ?_
        rintro e w1 ⟨rfl, hb1⟩
        replace hb1 := Lib.hid hb1
        go_wp2
        go_ret2
        exact ⟨by rw [hv.out]; rfl, hb1.out⟩

end Go.Proofs.Ytjepgpocmnijiaa
end

section
/- The walks of the comparisons: of numbers, of texts, and the first of three that is not nought. -/
namespace Go.Pa
theorem cmpL_self (a : Bs) : cmpL a a = 0 := by
  induction a with
  | nil => rfl
  | cons x r ih => unfold cmpL; rw [if_neg (by simp), if_neg (by simp)]; exact ih
theorem cmpL_vals (a b : Bs) : cmpL a b = -1 ∨ cmpL a b = 0 ∨ cmpL a b = 1 := by
  induction a generalizing b with
  | nil => cases b <;> simp [cmpL]
  | cons x r ih =>
    cases b with
    | nil => simp [cmpL]
    | cons y t =>
      unfold cmpL
      split
      · exact .inl rfl
      · split
        · exact .inr (.inr rfl)
        · exact ih t
theorem cmpL_zero {a b : Bs} (h : cmpL a b = 0) : a = b := by
  induction a generalizing b with
  | nil => cases b with
    | nil => rfl
    | cons y t => simp [cmpL] at h
  | cons x r ih =>
    cases b with
    | nil => simp [cmpL] at h
    | cons y t =>
      unfold cmpL at h
      split at h
      · simp at h
      · rename_i h1
        split at h
        · simp at h
        · rename_i h2
          have e : x = y := by
            have h1' : ¬ x.toNat < y.toNat := h1
            have h2' : ¬ y.toNat < x.toNat := h2
            exact UInt8.toNat_inj.1 (by omega)
          rw [e, ih h]
theorem less_iff (a b : Bs) : Op.bytesLess a b = decide (cmpL a b = -1) := by
  induction a generalizing b with
  | nil => cases b <;> simp [cmpL, Op.bytesLess]
  | cons x r ih =>
    cases b with
    | nil => simp [cmpL, Op.bytesLess]
    | cons y t =>
      unfold cmpL Op.bytesLess
      by_cases h1 : x < y
      · simp [h1]
      · rw [if_neg h1]
        by_cases h2 : y < x
        · rw [if_pos h2]
          have : (x == y) = false := by
            rw [beq_eq_false_iff_ne]; rintro rfl; exact absurd h2 (by simp)
          simp [h1, this]
        · rw [if_neg h2]
          have e : x = y := by
            have h1' : ¬ x.toNat < y.toNat := h1
            have h2' : ¬ y.toNat < x.toNat := h2
            exact UInt8.toNat_inj.1 (by omega)
          subst e
          simp [ih]
def or3 (x y z : Int) : Int := if x ≠ 0 then x else if y ≠ 0 then y else z
end Go.Pa
namespace Go.Proofs.Ytjepgpocmnijiaa
open Go.ChangeShapes Go.WideShapes Go.ChangeAt Go.RowKit
open Go.Pa
set_option linter.unusedVariables false
set_option maxRecDepth 100000

theorem cmpint48 (x y : Int) (w : World) : Calls Try.prog 111 #[.int .i64 x, .int .i64 y] w fun e w' => e = .returned (.int .i64 (cmpI x y)) ∧ w = w' := by
  rcases Int.lt_trichotomy x y with h | h | h
  · have hc : cmpI x y = -1 := by unfold cmpI; rw [if_pos h]
    have hx : (x != x) = false := by simp
    have hy : (y != y) = false := by simp
    rw [hc]; clear hc
    go_enter Try.func111, Try.ntmps111
    go_wp2
    go_ret
    exact ⟨rfl, rfl⟩
  · subst h
    have hc : cmpI x x = 0 := by unfold cmpI; rw [if_neg (by omega), if_neg (by omega)]
    have hx : (x != x) = false := by simp
    rw [hc]; clear hc
    go_enter Try.func111, Try.ntmps111
    go_wp2
    go_ret
    exact ⟨rfl, rfl⟩
  · have hc : cmpI x y = 1 := by unfold cmpI; rw [if_neg (by omega), if_pos h]
    have h2 : ¬ x < y := by omega
    have hx : (x != x) = false := by simp
    have hy : (y != y) = false := by simp
    rw [hc]; clear hc
    go_enter Try.func111, Try.ntmps111
    go_wp2
    go_ret
    exact ⟨rfl, rfl⟩
theorem cmpstr50 (a b : ByteArray) (w : World) : Calls Try.prog 113 #[.string a, .string b] w fun e w' => e = .returned (.int .i64 (cmpL a.data.toList b.data.toList)) ∧ w = w' := by
  have hl := less_iff a.data.toList b.data.toList
  have hq := eq_lists a b
  rw [← Lib.toList_data, ← Lib.toList_data] at hl
  have hxa : (a.toList == a.toList) = true := by simp
  have hxb : (b.toList == b.toList) = true := by simp
  rw [← Lib.toList_data, ← Lib.toList_data]
  rcases cmpL_vals a.toList b.toList with h | h | h
  · rw [h] at hl ⊢
    rw [show decide ((-1 : Int) = -1) = true from rfl] at hl
    clear hq h
    go_enter Try.func113, Try.ntmps113
    go_wp2
    go_ret
    exact ⟨rfl, rfl⟩
  · have he := cmpL_zero h
    rw [h] at hl ⊢
    rw [show decide ((0 : Int) = -1) = false from rfl] at hl
    have hq2 : (a.toList == b.toList) = true := by rw [he]; simp
    clear hq h he
    go_enter Try.func113, Try.ntmps113
    go_wp2
    go_ret
    exact ⟨rfl, rfl⟩
  · have hne : (a.toList == b.toList) = false := by
      rw [beq_eq_false_iff_ne]; intro he; rw [he, cmpL_self] at h; simp at h
    rw [h] at hl ⊢
    rw [show decide ((1 : Int) = -1) = false from rfl] at hl
    clear hq h
    go_enter Try.func113, Try.ntmps113
    go_wp2
    go_ret
    exact ⟨rfl, rfl⟩
theorem or49 (b : Nat) (x y z : Int) (w : World) (h0 : w.cell? ⟨b, 0, none⟩ = some (.int .i64 x)) (h1 : w.cell? ⟨b, 1, none⟩ = some (.int .i64 y)) (h2 : w.cell? ⟨b, 2, none⟩ = some (.int .i64 z)) :
    Calls Try.prog 112 #[.slice (some ⟨b, 0, none⟩) 3 3] w fun e w' => e = .returned (.int .i64 (or3 x y z)) ∧ w = w' := by
  by_cases hx : x = 0
  · by_cases hy : y = 0
    · by_cases hz : z = 0
      · have hr : or3 x y z = 0 := by unfold or3; rw [if_neg (by simp [hx]), if_neg (by simp [hy]), hz]
        rw [hr]
        rw [hx] at h0; rw [hy] at h1; rw [hz] at h2
        clear hx hy hz hr
        go_enter Try.func112, Try.ntmps112
        go_wp2
        refine wp_loop_rounds 4 ?_
        iterate 4
          rw [rounds_succ]
          go_wp2
        go_ret
        exact ⟨rfl, rfl⟩
      · have hr : or3 x y z = z := by unfold or3; rw [if_neg (by simp [hx]), if_neg (by simp [hy])]
        rw [hr]
        have e3 : (z != 0) = true := by simpa using hz
        rw [hx] at h0; rw [hy] at h1
        clear hx hy hz hr
        go_enter Try.func112, Try.ntmps112
        go_wp2
        refine wp_loop_rounds 4 ?_
        iterate 3
          rw [rounds_succ]
          go_wp2
        go_ret
        exact ⟨rfl, rfl⟩
    · have hr : or3 x y z = y := by unfold or3; rw [if_neg (by simp [hx]), if_pos hy]
      rw [hr]
      have e3 : (y != 0) = true := by simpa using hy
      rw [hx] at h0
      clear hx hy hr
      go_enter Try.func112, Try.ntmps112
      go_wp2
      refine wp_loop_rounds 4 ?_
      iterate 2
        rw [rounds_succ]
        go_wp2
      go_ret
      exact ⟨rfl, rfl⟩
  · have hr : or3 x y z = x := by unfold or3; rw [if_pos hx]
    rw [hr]
    have e3 : (x != 0) = true := by simpa using hx
    clear hx hr
    go_enter Try.func112, Try.ntmps112
    go_wp2
    refine wp_loop_rounds 4 ?_
    rw [rounds_succ]
    go_wp2
    go_ret
    exact ⟨rfl, rfl⟩
theorem foldH_len {l h : Bs} (e : foldH l = some h) : 1 ≤ h.length ∧ h.length ≤ 64 := by
  unfold foldH at e
  split at e
  · rename_i hk
    cases e
    unfold foldOk at hk
    simp only [Bool.and_eq_true, decide_eq_true_eq] at hk
    rw [List.length_map]; exact ⟨hk.1, hk.2.1⟩
  · cases e
/-- What a sort comes to. -/
theorem sort_cases (l : Bs) : (∃ q, sortH l = (0, q) ∧ 1 ≤ q.length ∧ q.length ≤ 64) ∨ (∃ q, sortH l = (1, q) ∧ 1 ≤ q.length ∧ q.length ≤ 64) ∨ sortH l = (2, []) ∨ sortH l = (3, l) := by
  by_cases h1 : l = [42]
  · exact .inr (.inr (.inl (by unfold sortH; rw [if_pos h1])))
  · by_cases h2 : Lib.hasPrefix l [42, 46] = true
    · cases h3 : foldH (l.drop 2) with
      | none => exact .inr (.inr (.inr (sort_un h1 h2 h3)))
      | some h => exact .inr (.inl ⟨h, sort_us h1 h2 h3, foldH_len h3⟩)
    · have h2' : Lib.hasPrefix l [42, 46] = false := by simpa using h2
      cases h3 : foldH l with
      | none => exact .inr (.inr (.inr (sort_n h1 h2' h3)))
      | some h => exact .inl ⟨h, sort_s h1 h2' h3, foldH_len h3⟩
theorem hostV_eq {l q : Bs} {n : Int} (h : sortH l = (n, q)) : HostV l = .tuple #[.int .i64 n, .string (B q)] := by unfold HostV; rw [h]
end Go.Proofs.Ytjepgpocmnijiaa
end

section
/- The walks of the order of host patterns. -/
namespace Go.Proofs.Ytjepgpocmnijiaa
open Go.ChangeShapes Go.WideShapes Go.ChangeAt Go.RowKit
open Go.Pa
set_option linter.unusedVariables false
set_option maxRecDepth 100000

/-- A sort, whatever it is. -/
theorem sort_any (l : Bs) : ∃ (n : Int) (q : Bs), sortH l = (n, q) ∧ 0 ≤ n ∧ n ≤ 3 ∧ q.length ≤ max l.length 64 := by
  rcases sort_cases l with ⟨q, h, h1, h2⟩ | ⟨q, h, h1, h2⟩ | h | h
  · exact ⟨_, _, h, by omega, by omega, by omega⟩
  · exact ⟨_, _, h, by omega, by omega, by omega⟩
  · exact ⟨_, _, h, by omega, by omega, by simp⟩
  · exact ⟨_, _, h, by omega, by omega, by omega⟩
theorem order_eq {a b p q : Bs} {n m : Int} (h1 : sortH a = (n, p)) (h2 : sortH b = (m, q)) : orderH a b = if n = m then (if n = 1 ∧ p.length ≠ q.length then cmpI q.length p.length else cmpL p q) else cmpI n m := by
  unfold orderH; rw [h1, h2]
theorem cmpI_zero {x y : Int} : cmpI x y = 0 ↔ x = y := by
  unfold cmpI
  split
  · constructor
    · intro h; cases h
    · intro h; omega
  · split
    · constructor
      · intro h; cases h
      · intro h; omega
    · constructor
      · intro _; omega
      · intro _; rfl
theorem cmpI_self (x : Int) : cmpI x x = 0 := cmpI_zero.2 rfl
theorem order_or (n m z : Int) (P Q : Nat) : (if n = m then (if n = 1 ∧ P ≠ Q then cmpI Q P else z) else cmpI n m) = or3 (cmpI n m) (if n = m then (if n = 1 then cmpI Q P else 0) else 0) z := by
  unfold or3
  by_cases hnm : n = m
  · subst hnm
    simp only [cmpI_self, if_true, ne_eq, not_true, if_false]
    by_cases hn1 : n = 1
    · simp only [hn1, if_true, true_and]
      by_cases hl : P = Q
      · subst hl; simp [cmpI_self]
      · have h : ¬ cmpI (Q : Int) (P : Int) = 0 := by rw [cmpI_zero]; omega
        rw [if_pos hl, if_pos h]
    · simp [hn1]
  · have h : ¬ cmpI n m = 0 := by rw [cmpI_zero]; exact hnm
    rw [if_neg hnm, if_neg hnm, if_pos h]
set_option maxHeartbeats 4000000 in
theorem order33 (a b : ByteArray) (w : World) (ha : a.size ≤ maxLen) (hb : b.size ≤ maxLen) :
    Calls Try.prog 53 #[.string a, .string b] w fun e w' => e = .returned (.int .i64 (orderH a.data.toList b.data.toList)) ∧ Below w.heap.size w w' := by
  have h1 := host36 a w ha
  have h2 := fun w => host36 b w hb
  obtain ⟨n, p, hp, n0, n3, pl⟩ := sort_any a.data.toList
  obtain ⟨m, q, hq, m0, m3, ql⟩ := sort_any b.data.toList
  rw [hostV_eq hp] at h1
  simp only [hostV_eq hq] at h2
  have ho := order_eq hp hq
  rw [ho]
  clear ho
  have ho : True := trivial
  unfold maxLen at ha hb
  rw [len_data] at pl ql
  have ps : (B p).size ≤ 9223372036854775807 := by rw [B_size]; omega
  have qs : (B q).size ≤ 9223372036854775807 := by rw [B_size]; omega
  have c3 := fun w => cmpint48 n m w
  have c4 := fun w => cmpint48 (q.length : Int) (p.length : Int) w
  have c5 := fun w => cmpstr50 (B p) (B q) w
  simp only [B_data] at c5
  have bsq : ((B q).size : Int) = (q.length : Int) := by rw [B_size]
  have bsp : ((B p).size : Int) = (p.length : Int) := by rw [B_size]
  have hlp : (B p).size = p.length := B_size p
  have hlq : (B q).size = q.length := B_size q
  rw [← bsq, ← bsp] at c4
  have hres := order_or n m (cmpL p q) p.length q.length
  rw [hres, ← bsq, ← bsp]
  generalize cmpI n m = x at *
  generalize cmpI ((B q).size : Int) ((B p).size : Int) = y at *
  generalize cmpL p q = z at *
  replace h1 := Lib.hid h1
  replace h2 := Lib.hid h2
  replace c3 := Lib.hid c3
  replace c4 := Lib.hid c4
  replace c5 := Lib.hid c5
  clear hp hq ho hres bsq bsp hlp hlq
  by_cases hnm : n = m
  · have e1 : (n == m) = true := by simpa using hnm
    have e2 : (n != m) = false := by simpa using hnm
    rw [if_pos hnm]
    replace hnm := Lib.hid hnm
    by_cases hn1 : n = 1
    · have e3 : (n == 1) = true := by simpa using hn1
      rw [if_pos hn1]
      replace hn1 := Lib.hid hn1
      go_enter Try.func53, Try.ntmps53
      go_wp2_with fail
      refine h1.out.mono ?_
      rintro e w1 ⟨rfl, hb1⟩
      have hh1 := Lib.hid (h2.out w1)
      replace hb1 := Lib.hid hb1
      go_wp2_with fail
      refine hh1.out.mono ?_
      rintro e w2 ⟨rfl, hb2⟩
      replace hb2 := Lib.hid (Tp.Below_seq hb1.out hb2)
      clear hb1 hh1
      go_wp2_with fail
      refine (c4.out _).mono ?_
      rintro e w' ⟨rfl, rfl⟩
      go_wp2_with fail
      refine (c3.out _).mono ?_
      rintro e w' ⟨rfl, rfl⟩
      go_wp2_with fail
      refine (c5.out _).mono ?_
      rintro e w' ⟨rfl, rfl⟩
      have hor := or49 w2.heap.size x y z (w2.alloc (.cells #[.int .i64 x, .int .i64 y, .int .i64 z] 3)) (by simp) (by simp) (by simp)
      replace hor := Lib.hid hor
      go_wp2_with fail
      refine hor.out.mono ?_
      rintro e w' ⟨rfl, rfl⟩
      go_wp2
      go_ret
      exact ⟨rfl, Tp.Below_seq hb2.out (Tp.Below_alloc _ _)⟩
    · have e3 : (n == 1) = false := by simpa using hn1
      rw [if_neg hn1]
      replace hn1 := Lib.hid hn1
      go_enter Try.func53, Try.ntmps53
      go_wp2_with fail
      refine h1.out.mono ?_
      rintro e w1 ⟨rfl, hb1⟩
      have hh1 := Lib.hid (h2.out w1)
      replace hb1 := Lib.hid hb1
      go_wp2_with fail
      refine hh1.out.mono ?_
      rintro e w2 ⟨rfl, hb2⟩
      replace hb2 := Lib.hid (Tp.Below_seq hb1.out hb2)
      clear hb1 hh1
      go_wp2_with fail
      refine (c3.out _).mono ?_
      rintro e w' ⟨rfl, rfl⟩
      go_wp2_with fail
      refine (c5.out _).mono ?_
      rintro e w' ⟨rfl, rfl⟩
      have hor := or49 w2.heap.size x 0 z (w2.alloc (.cells #[.int .i64 x, .int .i64 0, .int .i64 z] 3)) (by simp) (by simp) (by simp)
      replace hor := Lib.hid hor
      go_wp2_with fail
      refine hor.out.mono ?_
      rintro e w' ⟨rfl, rfl⟩
      go_wp2
      go_ret
      exact ⟨rfl, Tp.Below_seq hb2.out (Tp.Below_alloc _ _)⟩
  · have e1 : (n == m) = false := by simpa using hnm
    have e2 : (n != m) = true := by simpa using hnm
    rw [if_neg hnm]
    replace hnm := Lib.hid hnm
    by_cases hn1 : n = 1
    · have e3 : (n == 1) = true := by simpa using hn1
      replace hn1 := Lib.hid hn1
      go_enter Try.func53, Try.ntmps53
      go_wp2_with fail
      refine h1.out.mono ?_
      rintro e w1 ⟨rfl, hb1⟩
      have hh1 := Lib.hid (h2.out w1)
      replace hb1 := Lib.hid hb1
      go_wp2_with fail
      refine hh1.out.mono ?_
      rintro e w2 ⟨rfl, hb2⟩
      replace hb2 := Lib.hid (Tp.Below_seq hb1.out hb2)
      clear hb1 hh1
      go_wp2_with fail
      refine (c4.out _).mono ?_
      rintro e w' ⟨rfl, rfl⟩
      go_wp2_with fail
      refine (c3.out _).mono ?_
      rintro e w' ⟨rfl, rfl⟩
      go_wp2_with fail
      refine (c5.out _).mono ?_
      rintro e w' ⟨rfl, rfl⟩
      have hor := or49 w2.heap.size x 0 z (w2.alloc (.cells #[.int .i64 x, .int .i64 0, .int .i64 z] 3)) (by simp) (by simp) (by simp)
      replace hor := Lib.hid hor
      go_wp2_with fail
      refine hor.out.mono ?_
      rintro e w' ⟨rfl, rfl⟩
      go_wp2
      go_ret
      exact ⟨rfl, Tp.Below_seq hb2.out (Tp.Below_alloc _ _)⟩
    · have e3 : (n == 1) = false := by simpa using hn1
      replace hn1 := Lib.hid hn1
      go_enter Try.func53, Try.ntmps53
      go_wp2_with fail
      refine h1.out.mono ?_
      rintro e w1 ⟨rfl, hb1⟩
      have hh1 := Lib.hid (h2.out w1)
      replace hb1 := Lib.hid hb1
      go_wp2_with fail
      refine hh1.out.mono ?_
      rintro e w2 ⟨rfl, hb2⟩
      replace hb2 := Lib.hid (Tp.Below_seq hb1.out hb2)
      clear hb1 hh1
      go_wp2_with fail
      refine (c3.out _).mono ?_
      rintro e w' ⟨rfl, rfl⟩
      go_wp2_with fail
      refine (c5.out _).mono ?_
      rintro e w' ⟨rfl, rfl⟩
      have hor := or49 w2.heap.size x 0 z (w2.alloc (.cells #[.int .i64 x, .int .i64 0, .int .i64 z] 3)) (by simp) (by simp) (by simp)
      replace hor := Lib.hid hor
      go_wp2_with fail
      refine hor.out.mono ?_
      rintro e w' ⟨rfl, rfl⟩
      go_wp2
      go_ret
      exact ⟨rfl, Tp.Below_seq hb2.out (Tp.Below_alloc _ _)⟩

end Go.Proofs.Ytjepgpocmnijiaa
end

section

namespace Go.Pa
set_option linter.unusedVariables false
set_option maxRecDepth 100000

/-! ### Texts that end, and begin, with another -/
/-! ### What a sort is -/
/-! ### Chains -/
/-! ### The order -/
theorem cmpI_anti (x y : Int) : cmpI x y = -cmpI y x := by unfold cmpI; split <;> split <;> omega
theorem cmpL_anti (a b : Bs) : cmpL a b = -cmpL b a := by
  induction a generalizing b with
  | nil => cases b <;> rfl
  | cons x r ih =>
    cases b with
    | nil => rfl
    | cons y t =>
      unfold cmpL
      by_cases h1 : x < y
      · have h2 : ¬ y < x := by
          intro h; have a := UInt8.lt_iff_toNat_lt.1 h1; have b := UInt8.lt_iff_toNat_lt.1 h; omega
        rw [if_pos h1, if_neg h2, if_pos h1]
      · by_cases h2 : y < x
        · rw [if_neg h1, if_pos h2, if_pos h2]; rfl
        · rw [if_neg h1, if_neg h2, if_neg h2, if_neg h1]; exact ih t
theorem cmpL_trans {a b c : Bs} (h1 : cmpL a b ≤ 0) (h2 : cmpL b c ≤ 0) : cmpL a c ≤ 0 ∧ (cmpL a c = 0 → cmpL a b = 0 ∧ cmpL b c = 0) := by
  induction a generalizing b c with
  | nil =>
    cases c with
    | nil =>
      cases b with
      | nil => exact ⟨by simp [cmpL], fun _ => ⟨rfl, rfl⟩⟩
      | cons y t => simp [cmpL] at h2
    | cons z u => exact ⟨by simp [cmpL], fun h => by simp [cmpL] at h⟩
  | cons x r ih =>
    cases b with
    | nil => simp [cmpL] at h1
    | cons y t =>
      cases c with
      | nil => simp [cmpL] at h2
      | cons z u =>
        have lt : ∀ p q : UInt8, p < q ↔ p.toNat < q.toNat := fun p q => UInt8.lt_iff_toNat_lt
        unfold cmpL at h1 h2 ⊢
        by_cases a1 : x < y
        · by_cases b1 : y < z
          · have c1 : x < z := by rw [lt] at *; omega
            rw [if_pos c1]; exact ⟨by omega, fun h => by omega⟩
          · rw [if_neg b1] at h2
            by_cases b2 : z < y
            · rw [if_pos b2] at h2; omega
            · have c1 : x < z := by rw [lt] at *; omega
              rw [if_pos c1]; exact ⟨by omega, fun h => by omega⟩
        · rw [if_neg a1] at h1
          by_cases a2 : y < x
          · rw [if_pos a2] at h1; omega
          · rw [if_neg a2] at h1
            by_cases b1 : y < z
            · have c1 : x < z := by rw [lt] at *; omega
              rw [if_pos c1]; exact ⟨by omega, fun h => by omega⟩
            · rw [if_neg b1] at h2
              by_cases b2 : z < y
              · rw [if_pos b2] at h2; omega
              · rw [if_neg b2] at h2
                have c1 : ¬ x < z := by rw [lt] at *; omega
                have c2 : ¬ z < x := by rw [lt] at *; omega
                rw [if_neg c1, if_neg c2, if_neg a1, if_neg a2, if_neg b1, if_neg b2]
                exact ih h1 h2
theorem order_anti (a b : Bs) : orderH a b = -orderH b a := by
  unfold orderH
  by_cases h : (sortH a).1 = (sortH b).1
  · rw [if_pos h, if_pos h.symm]
    by_cases h1 : (sortH a).1 = 1 ∧ (sortH a).2.length ≠ (sortH b).2.length
    · rw [if_pos h1, if_pos ⟨h ▸ h1.1, fun e => h1.2 e.symm⟩, cmpI_anti]
    · rw [if_neg h1, if_neg (fun h2 => h1 ⟨h ▸ h2.1, fun e => h2.2 e.symm⟩), cmpL_anti]
  · rw [if_neg h, if_neg (fun e => h e.symm), cmpI_anti]
theorem order_self (a : Bs) : orderH a a = 0 := by have := order_anti a a; omega
/-- The order as a triple that is compared part by part. -/
theorem order_le {a b : Bs} : orderH a b ≤ 0 ↔ (sortH a).1 < (sortH b).1 ∨ ((sortH a).1 = (sortH b).1 ∧ (((sortH a).1 = 1 ∧ (sortH b).2.length < (sortH a).2.length) ∨ (((sortH a).1 = 1 → (sortH a).2.length = (sortH b).2.length) ∧ cmpL (sortH a).2 (sortH b).2 ≤ 0))) := by
  unfold orderH
  by_cases h : (sortH a).1 = (sortH b).1
  · rw [if_pos h]
    by_cases h1 : (sortH a).1 = 1 ∧ (sortH a).2.length ≠ (sortH b).2.length
    · rw [if_pos h1]
      have e : cmpI ((sortH b).2.length : Int) ((sortH a).2.length : Int) ≤ 0 ↔ (sortH b).2.length < (sortH a).2.length := by
        unfold cmpI; have := h1.2; split <;> (try split) <;> omega
      rw [e]
      constructor
      · intro h2; exact .inr ⟨h, .inl ⟨h1.1, h2⟩⟩
      · rintro (h2 | ⟨_, ⟨_, h2⟩ | ⟨h2, _⟩⟩)
        · omega
        · exact h2
        · exact absurd (h2 h1.1) h1.2
    · rw [if_neg h1]
      have hq : (sortH a).1 = 1 → (sortH a).2.length = (sortH b).2.length := fun e => by
        rcases Nat.decEq (sortH a).2.length (sortH b).2.length with h2 | h2
        · exact absurd ⟨e, h2⟩ h1
        · exact h2
      constructor
      · intro h2; exact .inr ⟨h, .inr ⟨hq, h2⟩⟩
      · rintro (h2 | ⟨_, ⟨h2, h3⟩ | ⟨_, h2⟩⟩)
        · omega
        · have := hq h2; omega
        · exact h2
  · rw [if_neg h]
    constructor
    · intro h2
      left
      unfold cmpI at h2
      split at h2
      · assumption
      · split at h2 <;> omega
    · rintro (h2 | ⟨h2, _⟩)
      · unfold cmpI; rw [if_pos h2]; omega
      · exact absurd h2 h
theorem order_trans {a b c : Bs} (h1 : orderH a b ≤ 0) (h2 : orderH b c ≤ 0) : orderH a c ≤ 0 := by
  rw [order_le] at *
  rcases h1 with h1 | ⟨h1, e1⟩
  · rcases h2 with h2 | ⟨h2, _⟩
    · left; omega
    · left; omega
  · rcases h2 with h2 | ⟨h2, e2⟩
    · left; omega
    · right
      refine ⟨h1.trans h2, ?_⟩
      rcases e1 with ⟨n1, e1⟩ | ⟨n1, e1⟩
      · rcases e2 with ⟨n2, e2⟩ | ⟨n2, e2⟩
        · exact .inl ⟨n1, by omega⟩
        · have := n2 (h1 ▸ n1); exact .inl ⟨n1, by omega⟩
      · rcases e2 with ⟨n2, e2⟩ | ⟨n2, e2⟩
        · have := n1 (h1 ▸ n2); exact .inl ⟨h1 ▸ n2, by omega⟩
        · exact .inr ⟨fun e => (n1 e).trans (n2 (h1 ▸ e)), (cmpL_trans e1 e2).1⟩
/-! ### The best one -/
/-- Index i holds the pattern that is first among those that take the host, of the first n. -/
structure IsBest (l : List Bs) (h : Bs) (n i : Nat) : Prop where
  lt : i < n
  takes : hostTakes (l.getD i []) h = true
  least : ∀ k, k < n → hostTakes (l.getD k []) h = true → 0 ≤ orderH (l.getD k []) (l.getD i []) ∧ (orderH (l.getD k []) (l.getD i []) = 0 → i ≤ k)
def BestIs (l : List Bs) (h : Bs) (n : Nat) (i : Nat) (found : Bool) : Prop := (found = false ∧ i = 0 ∧ ∀ k, k < n → hostTakes (l.getD k []) h = false) ∨ (found = true ∧ IsBest l h n i)
theorem best_unique {l : List Bs} {h : Bs} {n i j : Nat} {f g : Bool} (h1 : BestIs l h n i f) (h2 : BestIs l h n j g) : i = j ∧ f = g := by
  rcases h1 with ⟨rfl, rfl, h1⟩ | ⟨rfl, h1⟩
  · rcases h2 with ⟨rfl, rfl, _⟩ | ⟨rfl, h2⟩
    · exact ⟨rfl, rfl⟩
    · have := h1 j h2.lt; rw [h2.takes] at this; cases this
  · rcases h2 with ⟨rfl, rfl, h2⟩ | ⟨rfl, h2⟩
    · have := h2 i h1.lt; rw [h1.takes] at this; cases this
    · have a := h1.least j h2.lt h2.takes
      have b := h2.least i h1.lt h1.takes
      have c := order_anti (l.getD i []) (l.getD j [])
      have d := a.2 (by omega)
      have e := b.2 (by omega)
      exact ⟨by omega, rfl⟩
theorem best_skip {l : List Bs} {h : Bs} {n i : Nat} {f : Bool} (h1 : BestIs l h n i f) (h2 : hostTakes (l.getD n []) h = false ∨ (f = true ∧ 0 ≤ orderH (l.getD n []) (l.getD i []))) : BestIs l h (n + 1) i f := by
  rcases h1 with ⟨rfl, rfl, h1⟩ | ⟨rfl, h1⟩
  · left
    refine ⟨rfl, rfl, fun k hk => ?_⟩
    rcases Nat.lt_or_ge k n with h3 | h3
    · exact h1 k h3
    · obtain rfl : k = n := by omega
      rcases h2 with h2 | ⟨h2, _⟩
      · exact h2
      · cases h2
  · right
    refine ⟨rfl, by have := h1.lt; omega, h1.takes, fun k hk ht => ?_⟩
    rcases Nat.lt_or_ge k n with h3 | h3
    · exact h1.least k h3 ht
    · obtain rfl : k = n := by omega
      rcases h2 with h2 | ⟨_, h2⟩
      · rw [h2] at ht; cases ht
      · exact ⟨h2, fun _ => Nat.le_of_lt h1.lt⟩
theorem best_take {l : List Bs} {h : Bs} {n i : Nat} {f : Bool} (h1 : BestIs l h n i f) (ht : hostTakes (l.getD n []) h = true) (h2 : f = false ∨ orderH (l.getD n []) (l.getD i []) < 0) : BestIs l h (n + 1) n true := by
  right
  refine ⟨rfl, by omega, ht, fun k hk hk2 => ?_⟩
  rcases Nat.lt_or_ge k n with h3 | h3
  · rcases h1 with ⟨rfl, rfl, h1⟩ | ⟨rfl, h1⟩
    · rw [h1 k h3] at hk2; cases hk2
    · have a := (h1.least k h3 hk2).1
      have b : orderH (l.getD n []) (l.getD i []) < 0 := by rcases h2 with h2 | h2; cases h2; exact h2
      have c := order_anti (l.getD k []) (l.getD n [])
      have d := order_anti (l.getD i []) (l.getD k [])
      have e := order_anti (l.getD n []) (l.getD i [])
      have hlt : 0 < orderH (l.getD k []) (l.getD n []) := by
        rcases Int.lt_or_le 0 (orderH (l.getD k []) (l.getD n [])) with h | h
        · exact h
        · exfalso
          have t := order_trans (a := l.getD i []) (b := l.getD k []) (c := l.getD n []) (by omega) h
          omega
      exact ⟨by omega, fun h => by omega⟩
  · obtain rfl : k = n := by omega
    rw [order_self]
    exact ⟨by omega, fun _ => by omega⟩
/-- The document's own: the first that takes the host and that none of all stands ahead of. -/
theorem best_first {l : List Bs} {h : Bs} {n i : Nat} (hi : i < n) (ht : hostTakes (l.getD i []) h = true) (hall : ∀ k, k < n → ¬ (hostTakes (l.getD k []) h = true ∧ (orderH (l.getD k []) (l.getD i []) < 0 ∨ (orderH (l.getD k []) (l.getD i []) = 0 ∧ k < i)))) : BestIs l h n i true := by
  right
  refine ⟨rfl, hi, ht, fun k hk hk2 => ?_⟩
  have h1 := hall k hk
  constructor
  · rcases Int.lt_or_le (orderH (l.getD k []) (l.getD i [])) 0 with h2 | h2
    · exact absurd ⟨hk2, .inl h2⟩ h1
    · exact h2
  · intro e
    rcases Nat.lt_or_ge k i with h2 | h2
    · exact absurd ⟨hk2, .inr ⟨e, h2⟩⟩ h1
    · exact h2
end Go.Pa
end
