/- The walks of the order of host patterns. -/
import Derived.Test.YtndbnomhhfhdfaaCmp
namespace Go.Proofs.Ytndbnomhhfhdfaa
open Go.ChangeShapes Go.WideShapes Go.ChangeAt Go.RowKit
open Go.Pa
set_option linter.unusedVariables false

theorem u8_lt (a b : UInt8) : a < b ↔ (a.toNat : Int) < (b.toNat : Int) := by rw [UInt8.lt_iff_toNat_lt]; omega
set_option maxHeartbeats 1000000 in
theorem bytes51 (a b : ByteArray) (w : World) (ha : a.size ≤ maxLen) (hb : b.size ≤ maxLen) :
    Calls Try.prog 51 #[.string a, .string b] w fun e w' => e = .returned (.int .i64 (cmpL a.data.toList b.data.toList)) ∧ Below w.heap.size w w' := by
  unfold maxLen at ha hb
  go_enter Try.func51, Try.ntmps51
  go_wp2
  go_loopg [5] a.size (fun g i wr => ∃ (k : Nat), k ≤ a.size ∧ k ≤ b.size ∧ g = a.size - k ∧ i = .int .i64 k ∧ cmpL a.data.toList b.data.toList = cmpL (a.data.toList.drop k) (b.data.toList.drop k) ∧ Below w.heap.size w wr)
  case atStart => exact ⟨0, by omega, by omega, rfl, rfl, rfl, Below.refl _ _⟩
  case round =>
    obtain ⟨k, hk, hkb, rfl, rfl, hc, hw⟩ := hrel
    replace hw := Lib.hid hw
    by_cases hlt : k < a.size ∧ k < b.size
    · obtain ⟨h1, h2⟩ := hlt
      have hd := cmpL_drop (a := a.data.toList) (b := b.data.toList) (k := k) (by rw [len_data]; exact h1) (by rw [len_data]; exact h2)
      rw [getD_data a k h1, getD_data b k h2] at hd
      rw [hd] at hc
      have hi0 : (k : Int) < (a.size : Int) := by omega
      have hi1 : (k : Int) < (b.size : Int) := by omega
      rcases Int.lt_trichotomy (a[k].toNat : Int) (b[k].toNat : Int) with h | h | h
      · rw [if_pos ((u8_lt _ _).2 h)] at hc
        replace hc := Lib.hid hc
        have hdec : decide ((a[k].toNat : Int) < (b[k].toNat : Int)) = true := decide_eq_true h
        clear hd
        go_wp2
        go_quiet (fail)
        go_wp2
        go_ret
        exact ⟨ret_i hc.out.symm, below_drewN hw.out _⟩
      · have e1 : ¬ (a[k] < b[k]) := fun h' => by have := (u8_lt _ _).1 h'; omega
        have e2 : ¬ (b[k] < a[k]) := fun h' => by have := (u8_lt _ _).1 h'; omega
        rw [if_neg e1, if_neg e2] at hc
        replace hc := Lib.hid hc
        have hdec : decide ((a[k].toNat : Int) < (b[k].toNat : Int)) = false := by simp; omega
        have hdec2 : decide ((b[k].toNat : Int) < (a[k].toNat : Int)) = false := by simp; omega
        have hle : (b[k].toNat : Int) ≤ (a[k].toNat : Int) := by omega
        have hle2 : (a[k].toNat : Int) ≤ (b[k].toNat : Int) := by omega
        clear hd e1 e2 h
        go_wp2
        go_quiet (fail)
        go_wp2
        have hw2 := Lib.hid (below_drewN hw.out nq)
        clear hw
        generalize wr.drewN nq = wr2 at *
        go_quiet (fail)
        go_wp2
        go_roundg (a.size - (k + 1))
        case measure => omega
        case rel => exact ⟨k + 1, by omega, by omega, rfl, by go_num, hc.out, below_drewN hw2.out _⟩
      · have e1 : ¬ (a[k] < b[k]) := fun h' => by have := (u8_lt _ _).1 h'; omega
        rw [if_neg e1, if_pos ((u8_lt _ _).2 h)] at hc
        replace hc := Lib.hid hc
        have hdec : decide ((a[k].toNat : Int) < (b[k].toNat : Int)) = false := by simp; omega
        have hdec2 : decide ((b[k].toNat : Int) < (a[k].toNat : Int)) = true := decide_eq_true h
        have hle : (b[k].toNat : Int) ≤ (a[k].toNat : Int) := by omega
        clear hd e1
        go_wp2
        go_quiet (fail)
        go_wp2
        have hw2 := Lib.hid (below_drewN hw.out nq)
        clear hw
        generalize wr.drewN nq = wr2 at *
        go_quiet (fail)
        go_wp2
        go_ret
        exact ⟨ret_i hc.out.symm, below_drewN hw2.out _⟩
    · have he := cmpL_end (a := a.data.toList) (b := b.data.toList) (k := k) (by rw [len_data, len_data]; omega) (by rw [len_data]; omega) (by rw [len_data]; omega)
      rw [len_data, len_data] at he
      rw [he] at hc
      rcases (show k < a.size ∧ b.size ≤ k ∨ a.size ≤ k from by omega) with ⟨q1, q2⟩ | q1
      · rw [if_neg (by omega), if_pos (by omega)] at hc
        replace hc := Lib.hid hc
        have q1' : (k : Int) < (a.size : Int) := by omega
        have q2' : (b.size : Int) ≤ (k : Int) := by omega
        clear he
        go_wp2
        go_ret
        exact ⟨ret_i hc.out.symm, hw.out⟩
      · have q2' : (a.size : Int) ≤ (k : Int) := by omega
        by_cases h : a.size < b.size
        · rw [if_pos h] at hc
          replace hc := Lib.hid hc
          clear he
          go_wp2
          go_ret
          exact ⟨ret_i hc.out.symm, hw.out⟩
        · rw [if_neg h, if_neg (by omega)] at hc
          replace hc := Lib.hid hc
          clear he
          go_wp2
          go_ret
          exact ⟨ret_i hc.out.symm, hw.out⟩

/-- A sort, whatever it is. -/
theorem sort_any (l : Bs) : ∃ (n : Int) (q : Bs), sortH l = (n, q) ∧ 0 ≤ n ∧ n ≤ 3 ∧ q.length ≤ max l.length 64 := by
  rcases sort_cases l with ⟨q, h, h1, h2⟩ | ⟨q, h, h1, h2⟩ | h | h
  · exact ⟨_, _, h, by omega, by omega, by omega⟩
  · exact ⟨_, _, h, by omega, by omega, by omega⟩
  · exact ⟨_, _, h, by omega, by omega, by simp⟩
  · exact ⟨_, _, h, by omega, by omega, by omega⟩
theorem order_eq {a b p q : Bs} {n m : Int} (h1 : sortH a = (n, p)) (h2 : sortH b = (m, q)) : orderH a b = if n = m then (if n = 1 ∧ p.length ≠ q.length then cmpI q.length p.length else cmpL p q) else cmpI n m := by
  unfold orderH; rw [h1, h2]
theorem cmpI_zero {x y : Int} : cmpI x y = 0 ↔ x = y := by
  unfold cmpI
  split
  · constructor
    · intro h; cases h
    · intro h; omega
  · split
    · constructor
      · intro h; cases h
      · intro h; omega
    · constructor
      · intro _; omega
      · intro _; rfl
theorem cmpI_self (x : Int) : cmpI x x = 0 := cmpI_zero.2 rfl
theorem order_or (n m z : Int) (P Q : Nat) : (if n = m then (if n = 1 ∧ P ≠ Q then cmpI Q P else z) else cmpI n m) = or3 (cmpI n m) (if n = m then (if n = 1 then cmpI Q P else 0) else 0) z := by
  unfold or3
  by_cases hnm : n = m
  · subst hnm
    simp only [cmpI_self, if_true, ne_eq, not_true, if_false]
    by_cases hn1 : n = 1
    · simp only [hn1, if_true, true_and]
      by_cases hl : P = Q
      · subst hl; simp [cmpI_self]
      · have h : ¬ cmpI (Q : Int) (P : Int) = 0 := by rw [cmpI_zero]; omega
        rw [if_pos hl, if_pos h]
    · simp [hn1]
  · have h : ¬ cmpI n m = 0 := by rw [cmpI_zero]; exact hnm
    rw [if_neg hnm, if_neg hnm, if_pos h]
set_option maxHeartbeats 4000000 in
theorem order33 (a b : ByteArray) (w : World) (ha : a.size ≤ maxLen) (hb : b.size ≤ maxLen) :
    Calls Try.prog 33 #[.string a, .string b] w fun e w' => e = .returned (.int .i64 (orderH a.data.toList b.data.toList)) ∧ Below w.heap.size w w' := by
  have h1 := host36 a w ha
  have h2 := fun w => host36 b w hb
  obtain ⟨n, p, hp, n0, n3, pl⟩ := sort_any a.data.toList
  obtain ⟨m, q, hq, m0, m3, ql⟩ := sort_any b.data.toList
  rw [hostV_eq hp] at h1
  simp only [hostV_eq hq] at h2
  have ho := order_eq hp hq
  rw [ho]
  clear ho
  have ho : True := trivial
  unfold maxLen at ha hb
  rw [len_data] at pl ql
  have ps : (B p).size ≤ 9223372036854775807 := by rw [B_size]; omega
  have qs : (B q).size ≤ 9223372036854775807 := by rw [B_size]; omega
  have c3 := fun w => cmpint48 n m w
  have c4 := fun w => cmpint48 (q.length : Int) (p.length : Int) w
  have c5 := fun w => cmpstr50 (B p) (B q) w
  simp only [B_data] at c5
  have bsq : ((B q).size : Int) = (q.length : Int) := by rw [B_size]
  have bsp : ((B p).size : Int) = (p.length : Int) := by rw [B_size]
  have hlp : (B p).size = p.length := B_size p
  have hlq : (B q).size = q.length := B_size q
  rw [← bsq, ← bsp] at c4
  have hres := order_or n m (cmpL p q) p.length q.length
  rw [hres, ← bsq, ← bsp]
  generalize cmpI n m = x at *
  generalize cmpI ((B q).size : Int) ((B p).size : Int) = y at *
  generalize cmpL p q = z at *
  replace h1 := Lib.hid h1
  replace h2 := Lib.hid h2
  replace c3 := Lib.hid c3
  replace c4 := Lib.hid c4
  replace c5 := Lib.hid c5
  clear hp hq ho hres bsq bsp hlp hlq
  by_cases hnm : n = m
  · have e1 : (n == m) = true := by simpa using hnm
    have e2 : (n != m) = false := by simpa using hnm
    rw [if_pos hnm]
    replace hnm := Lib.hid hnm
    by_cases hn1 : n = 1
    · have e3 : (n == 1) = true := by simpa using hn1
      rw [if_pos hn1]
      replace hn1 := Lib.hid hn1
      go_enter Try.func33, Try.ntmps33
      go_wp2_with fail
      refine h1.out.mono ?_
      rintro e w1 ⟨rfl, hb1⟩
      have hh1 := Lib.hid (h2.out w1)
      replace hb1 := Lib.hid hb1
      go_wp2_with fail
      refine hh1.out.mono ?_
      rintro e w2 ⟨rfl, hb2⟩
      replace hb2 := Lib.hid (Tp.Below_seq hb1.out hb2)
      clear hb1 hh1
      go_wp2_with fail
      refine (c4.out _).mono ?_
      rintro e w' ⟨rfl, rfl⟩
      go_wp2_with fail
      refine (c3.out _).mono ?_
      rintro e w' ⟨rfl, rfl⟩
      go_wp2_with fail
      refine (c5.out _).mono ?_
      rintro e w' ⟨rfl, rfl⟩
      have hor := or49 w2.heap.size x y z (w2.alloc (.cells #[.int .i64 x, .int .i64 y, .int .i64 z] 3)) (by simp) (by simp) (by simp)
      replace hor := Lib.hid hor
      go_wp2_with fail
      refine hor.out.mono ?_
      rintro e w' ⟨rfl, rfl⟩
      go_wp2
      go_ret
      exact ⟨rfl, Tp.Below_seq hb2.out (Tp.Below_alloc _ _)⟩
    · have e3 : (n == 1) = false := by simpa using hn1
      rw [if_neg hn1]
      replace hn1 := Lib.hid hn1
      go_enter Try.func33, Try.ntmps33
      go_wp2_with fail
      refine h1.out.mono ?_
      rintro e w1 ⟨rfl, hb1⟩
      have hh1 := Lib.hid (h2.out w1)
      replace hb1 := Lib.hid hb1
      go_wp2_with fail
      refine hh1.out.mono ?_
      rintro e w2 ⟨rfl, hb2⟩
      replace hb2 := Lib.hid (Tp.Below_seq hb1.out hb2)
      clear hb1 hh1
      go_wp2_with fail
      refine (c3.out _).mono ?_
      rintro e w' ⟨rfl, rfl⟩
      go_wp2_with fail
      refine (c5.out _).mono ?_
      rintro e w' ⟨rfl, rfl⟩
      have hor := or49 w2.heap.size x 0 z (w2.alloc (.cells #[.int .i64 x, .int .i64 0, .int .i64 z] 3)) (by simp) (by simp) (by simp)
      replace hor := Lib.hid hor
      go_wp2_with fail
      refine hor.out.mono ?_
      rintro e w' ⟨rfl, rfl⟩
      go_wp2
      go_ret
      exact ⟨rfl, Tp.Below_seq hb2.out (Tp.Below_alloc _ _)⟩
  · have e1 : (n == m) = false := by simpa using hnm
    have e2 : (n != m) = true := by simpa using hnm
    rw [if_neg hnm]
    replace hnm := Lib.hid hnm
    by_cases hn1 : n = 1
    · have e3 : (n == 1) = true := by simpa using hn1
      replace hn1 := Lib.hid hn1
      go_enter Try.func33, Try.ntmps33
      go_wp2_with fail
      refine h1.out.mono ?_
      rintro e w1 ⟨rfl, hb1⟩
      have hh1 := Lib.hid (h2.out w1)
      replace hb1 := Lib.hid hb1
      go_wp2_with fail
      refine hh1.out.mono ?_
      rintro e w2 ⟨rfl, hb2⟩
      replace hb2 := Lib.hid (Tp.Below_seq hb1.out hb2)
      clear hb1 hh1
      go_wp2_with fail
      refine (c4.out _).mono ?_
      rintro e w' ⟨rfl, rfl⟩
      go_wp2_with fail
      refine (c3.out _).mono ?_
      rintro e w' ⟨rfl, rfl⟩
      go_wp2_with fail
      refine (c5.out _).mono ?_
      rintro e w' ⟨rfl, rfl⟩
      have hor := or49 w2.heap.size x 0 z (w2.alloc (.cells #[.int .i64 x, .int .i64 0, .int .i64 z] 3)) (by simp) (by simp) (by simp)
      replace hor := Lib.hid hor
      go_wp2_with fail
      refine hor.out.mono ?_
      rintro e w' ⟨rfl, rfl⟩
      go_wp2
      go_ret
      exact ⟨rfl, Tp.Below_seq hb2.out (Tp.Below_alloc _ _)⟩
    · have e3 : (n == 1) = false := by simpa using hn1
      replace hn1 := Lib.hid hn1
      go_enter Try.func33, Try.ntmps33
      go_wp2_with fail
      refine h1.out.mono ?_
      rintro e w1 ⟨rfl, hb1⟩
      have hh1 := Lib.hid (h2.out w1)
      replace hb1 := Lib.hid hb1
      go_wp2_with fail
      refine hh1.out.mono ?_
      rintro e w2 ⟨rfl, hb2⟩
      replace hb2 := Lib.hid (Tp.Below_seq hb1.out hb2)
      clear hb1 hh1
      go_wp2_with fail
      refine (c3.out _).mono ?_
      rintro e w' ⟨rfl, rfl⟩
      go_wp2_with fail
      refine (c5.out _).mono ?_
      rintro e w' ⟨rfl, rfl⟩
      have hor := or49 w2.heap.size x 0 z (w2.alloc (.cells #[.int .i64 x, .int .i64 0, .int .i64 z] 3)) (by simp) (by simp) (by simp)
      replace hor := Lib.hid hor
      go_wp2_with fail
      refine hor.out.mono ?_
      rintro e w' ⟨rfl, rfl⟩
      go_wp2
      go_ret
      exact ⟨rfl, Tp.Below_seq hb2.out (Tp.Below_alloc _ _)⟩

set_option maxHeartbeats 4000000 in
theorem order34 (a b : ByteArray) (w : World) (ha : a.size ≤ maxLen) (hb : b.size ≤ maxLen) :
    Calls Try.prog 34 #[.string a, .string b] w fun e w' => e = .returned (.int .i64 (orderH a.data.toList b.data.toList)) ∧ Below w.heap.size w w' := by
  have h1 := sort37 a w ha
  have h2 := fun w => sort37 b w hb
  obtain ⟨n, p, hp, n0, n3, pl⟩ := sort_any a.data.toList
  obtain ⟨m, q, hq, m0, m3, ql⟩ := sort_any b.data.toList
  rw [sortV_eq hp] at h1
  simp only [sortV_eq hq] at h2
  have ho := order_eq hp hq
  unfold maxLen at ha hb
  rw [len_data] at pl ql
  have ps : (B p).size ≤ 9223372036854775807 := by rw [B_size]; omega
  have qs : (B q).size ≤ 9223372036854775807 := by rw [B_size]; omega
  have c5 := fun w => bytes51 (B p) (B q) w (by unfold maxLen; omega) (by unfold maxLen; omega)
  simp only [B_data] at c5
  have bsq : (B q).size = q.length := B_size q
  have bsp : (B p).size = p.length := B_size p
  rw [← bsq, ← bsp] at ho
  replace h1 := Lib.hid h1
  replace h2 := Lib.hid h2
  replace c5 := Lib.hid c5
  clear hp hq bsq bsp
  obtain ⟨n1, hn1⟩ : ∃ x, x = n + 1 := ⟨_, rfl⟩
  obtain ⟨m1, hm1⟩ : ∃ x, x = m + 1 := ⟨_, rfl⟩
  rw [← hn1] at h1
  rw [← hm1] at h2
  rcases Int.lt_trichotomy n m with h | h | h
  · rw [if_neg (by omega)] at ho
    have hc : cmpI n m = -1 := by unfold cmpI; rw [if_pos h]
    rw [hc] at ho
    rw [ho]
    have hlt : n1 < m1 := by omega
    clear ho hc hn1 hm1 h n0 n3 m0 m3
    go_enter Try.func34, Try.ntmps34
    go_wp2_with fail
    refine h1.out.mono ?_
    rintro e w1 ⟨rfl, hb1⟩
    have hh1 := Lib.hid (h2.out w1)
    replace hb1 := Lib.hid hb1
    go_wp2_with fail
    refine hh1.out.mono ?_
    rintro e w2 ⟨rfl, hb2⟩
    replace hb2 := Lib.hid (Tp.Below_seq hb1.out hb2)
    clear hb1 hh1
    go_wp2
    go_ret
    exact ⟨rfl, hb2.out⟩
  · rw [if_pos h] at ho
    have hnm : n1 = m1 := by omega
    subst hnm
    by_cases hn2 : n = 1
    · have e2 : (n1 == 2) = true := by simp; omega
      by_cases hl : (B p).size = (B q).size
      · rw [if_neg (by simp [hl])] at ho
        rw [ho]
        have e4 : (((B p).size : Int) != ((B q).size : Int)) = false := by simp [hl]
        have e5 : (((B q).size : Int) != ((B q).size : Int)) = false := by simp
        clear ho hm1 hn1 h hn2 hl
        go_enter Try.func34, Try.ntmps34
        go_wp2_with fail
        refine h1.out.mono ?_
        rintro e w1 ⟨rfl, hb1⟩
        have hh1 := Lib.hid (h2.out w1)
        replace hb1 := Lib.hid hb1
        go_wp2_with fail
        refine hh1.out.mono ?_
        rintro e w2 ⟨rfl, hb2⟩
        replace hb2 := Lib.hid (Tp.Below_seq hb1.out hb2)
        clear hb1 hh1
        go_wp2_with fail
        refine (c5.out _).mono ?_
        rintro e w3 ⟨rfl, hb3⟩
        replace hb3 := Lib.hid hb3
        go_wp2
        go_ret
        exact ⟨rfl, Tp.Below_seq hb2.out hb3.out⟩
      · rw [if_pos ⟨hn2, hl⟩] at ho
        have e4 : (((B p).size : Int) != ((B q).size : Int)) = true := by simp; omega
        rcases (show (B q).size < (B p).size ∨ (B p).size < (B q).size from by omega) with h5 | h5
        · have hc : cmpI ((B q).size : Int) ((B p).size : Int) = -1 := by unfold cmpI; rw [if_pos (by omega)]
          rw [hc] at ho
          rw [ho]
          clear ho hm1 hn1 h hn2 hl hc
          go_enter Try.func34, Try.ntmps34
          go_wp2_with fail
          refine h1.out.mono ?_
          rintro e w1 ⟨rfl, hb1⟩
          have hh1 := Lib.hid (h2.out w1)
          replace hb1 := Lib.hid hb1
          go_wp2_with fail
          refine hh1.out.mono ?_
          rintro e w2 ⟨rfl, hb2⟩
          replace hb2 := Lib.hid (Tp.Below_seq hb1.out hb2)
          clear hb1 hh1
          go_wp2
          go_ret
          exact ⟨rfl, hb2.out⟩
        · have hc : cmpI ((B q).size : Int) ((B p).size : Int) = 1 := by unfold cmpI; rw [if_neg (by omega), if_pos (by omega)]
          rw [hc] at ho
          rw [ho]
          have h6 : ((B p).size : Int) ≤ ((B q).size : Int) := by omega
          clear ho hm1 hn1 h hn2 hl hc
          go_enter Try.func34, Try.ntmps34
          go_wp2_with fail
          refine h1.out.mono ?_
          rintro e w1 ⟨rfl, hb1⟩
          have hh1 := Lib.hid (h2.out w1)
          replace hb1 := Lib.hid hb1
          go_wp2_with fail
          refine hh1.out.mono ?_
          rintro e w2 ⟨rfl, hb2⟩
          replace hb2 := Lib.hid (Tp.Below_seq hb1.out hb2)
          clear hb1 hh1
          go_wp2
          go_ret
          exact ⟨rfl, hb2.out⟩
    · have e2 : (n1 == 2) = false := by simp; omega
      rw [if_neg (by simp [hn2])] at ho
      rw [ho]
      clear ho hm1 hn1 h hn2
      go_enter Try.func34, Try.ntmps34
      go_wp2_with fail
      refine h1.out.mono ?_
      rintro e w1 ⟨rfl, hb1⟩
      have hh1 := Lib.hid (h2.out w1)
      replace hb1 := Lib.hid hb1
      go_wp2_with fail
      refine hh1.out.mono ?_
      rintro e w2 ⟨rfl, hb2⟩
      replace hb2 := Lib.hid (Tp.Below_seq hb1.out hb2)
      clear hb1 hh1
      go_wp2_with fail
      refine (c5.out _).mono ?_
      rintro e w3 ⟨rfl, hb3⟩
      replace hb3 := Lib.hid hb3
      go_wp2
      go_ret
      exact ⟨rfl, Tp.Below_seq hb2.out hb3.out⟩
  · rw [if_neg (by omega)] at ho
    have hc : cmpI n m = 1 := by unfold cmpI; rw [if_neg (by omega), if_pos h]
    rw [hc] at ho
    rw [ho]
    have hlt : m1 < n1 := by omega
    have hlt2 : m1 ≤ n1 := by omega
    clear ho hc hn1 hm1 h n0 n3 m0 m3
    go_enter Try.func34, Try.ntmps34
    go_wp2_with fail
    refine h1.out.mono ?_
    rintro e w1 ⟨rfl, hb1⟩
    have hh1 := Lib.hid (h2.out w1)
    replace hb1 := Lib.hid hb1
    go_wp2_with fail
    refine hh1.out.mono ?_
    rintro e w2 ⟨rfl, hb2⟩
    replace hb2 := Lib.hid (Tp.Below_seq hb1.out hb2)
    clear hb1 hh1
    go_wp2
    go_ret
    exact ⟨rfl, hb2.out⟩
end Go.Proofs.Ytndbnomhhfhdfaa
