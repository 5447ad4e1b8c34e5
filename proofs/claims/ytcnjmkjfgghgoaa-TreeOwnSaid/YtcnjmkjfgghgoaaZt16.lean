/- quoted: a quoted text. -/
import Derived.Test.YtcnjmkjfgghgoaaZt14
section

namespace Go.Proofs.Ytcnjmkjfgghgoaa
open Go.RowKit Go.Ln Go.Mp
set_option linter.unusedVariables false
set_option maxRecDepth 100000
set_option maxHeartbeats 8000000
def quotV : Option (List UInt8 × Nat) → Value
  | none => .tuple #[.string ⟨#[]⟩, .int .i64 0, .bool false]
  | some (t, k) => .tuple #[.string ⟨t.toArray⟩, .int .i64 k, .bool true]
theorem ret_done {t : List UInt8} {k : Nat} {x : Int} (h : x = (k : Int)) : Ending.returned (.tuple #[.string ⟨t.toArray⟩, .int .i64 x, .bool true]) = .returned (quotV (some (t, k))) := by rw [h]; rfl
theorem nn_idx {x : Int} {k : Nat} (h : x = (k : Int)) : Value.int .i64 x = .int .i64 (k : Int) := by rw [h]
theorem nn_bytes {a j n : Nat} (h : a ≤ j) (h2 : j ≤ n) (h3 : n < 4294967281) : a + 1 ≤ maxLen ∧ (a + 1) * 1 ≤ 140737488355328 := by unfold maxLen; omega
theorem row_out {w : World} {k : Nat} {ov : Value} {a : List UInt8} {b : UInt8} {x : Int} (hx : x = (b.toNat : Int)) (h : w.ownsRow k 5 1 ov (a.length + 1) (vbs a ++ [.int .u8 x])) : w.ownsRow k 5 1 ov (a ++ [b]).length (vbs a ++ [vb b]) := by
  subst hx; rw [List.length_append]; exact h
theorem u8_ne {c : UInt8} {x : Int} (hx : x = (c.toNat : Int)) {n : Nat} (hn : n < 256) (h : (x == (n : Int)) = false) : ¬ c = UInt8.ofNat n := by
  intro e
  rw [beq_eq_false_iff_ne] at h
  exact h (by rw [hx]; exact (u8_eq hn).1 e)
theorem u8_is {c : UInt8} {x : Int} (hx : x = (c.toNat : Int)) {n : Nat} (hn : n < 256) (h : (x == (n : Int)) = true) : c = UInt8.ofNat n := by
  rw [beq_iff_eq] at h
  exact (u8_eq hn).2 (by rw [← hx]; exact h)
theorem u8_same {c d : UInt8} {x y : Int} (hx : x = (c.toNat : Int)) (hy : y = (d.toNat : Int)) (h : (x == y) = true) : c = d := by
  rw [beq_iff_eq] at h
  apply UInt8.toNat_inj.1; omega
theorem u8_diff {c d : UInt8} {x y : Int} (hx : x = (c.toNat : Int)) (hy : y = (d.toNat : Int)) (h : (x == y) = false) : ¬ c = d := by
  rw [beq_eq_false_iff_ne] at h
  intro e; subst e; exact h (by rw [hx, hy])
theorem hex_nums {j n : Nat} (hs : n < 4294967281) (h : j + 3 < n) : j + 2 < n ∧ decide ((n : Int) ≤ (j : Int) + 1 + 2) = false ∧ (j : Int) + 1 + 1 < (n : Int) ∧ (j : Int) + 1 + 2 < (n : Int) ∧ wrap64 ((j : Int) + 1 + 2) = (j : Int) + 1 + 2 ∧ ((j : Int) + 1 + 1).toNat = j + 2 ∧ ((j : Int) + 1 + 2).toNat = j + 3 ∧ wrap64 ((j : Int) + 1 + 2 + 1) = (j : Int) + 1 + 2 + 1 ∧ 0 ≤ (j : Int) + 1 + 1 ∧ 0 ≤ (j : Int) + 1 + 2 := by
  refine ⟨by omega, decide_eq_false (by omega), by omega, by omega, by unfold wrap64; omega, by omega, by omega, by unfold wrap64; omega, by omega, by omega⟩
theorem hex_short {j n : Nat} (hs : n < 4294967281) (h2 : j + 1 < n) (h : ¬ j + 3 < n) : decide ((n : Int) ≤ (j : Int) + 1 + 2) = true ∧ wrap64 ((j : Int) + 1 + 2) = (j : Int) + 1 + 2 :=
  ⟨decide_eq_true (by omega), by unfold wrap64; omega⟩
theorem i64_of64 {x : Int} (h : wrap64 x = x) : IntKind.i64.wrap x = x := by rw [IntWalk.i64_left]; exact h
theorem hex_next {j n : Nat} (hs : n < 4294967281) (h : j + 3 < n) : wrap64 (wrap64 ((j : Int) + 1 + 2) + 1) = ((j + 4 : Nat) : Int) := by
  rw [show wrap64 ((j : Int) + 1 + 2) = (j : Int) + 3 by unfold wrap64; omega]; unfold wrap64; omega
theorem hex_mod (b : UInt8) : (b.toNat : Int) % 256 = (b.toNat : Int) := by have := b.toNat_lt; omega
theorem hex_len {a : List UInt8} {j : Nat} {b : UInt8} (h : a.length ≤ j) : (a ++ [b]).length ≤ j + 4 := by rw [List.length_append, List.length_singleton]; omega
theorem hex_down {j n : Nat} (h : j + 3 < n) : n - (j + 4) + 1 < n - j + 1 := by omega
theorem hexB_no {c d : UInt8} (h : hexI c < 0 ∨ hexI d < 0) : hexB c d = none := by unfold hexB; rw [if_pos h]
theorem hexB_ok {c d : UInt8} (h : ¬ hexI c < 0) (h2 : ¬ hexI d < 0) : hexB c d = some (UInt8.ofNat ((hexI c).toNat * 16 + (hexI d).toNat)) := by unfold hexB; rw [if_neg (fun x => x.elim h h2)]
theorem bits_all : ∀ x : Fin 16, ∀ y : Fin 16, bits .or .i64 (wrap64 ((x.val : Int) * 16)) (y.val : Int) = (x.val : Int) * 16 + (y.val : Int) := by decide +kernel
theorem hex_bits {h1 h2 : Int} {b : UInt8} (b1 : -1 ≤ h1 ∧ h1 ≤ 15) (b2 : -1 ≤ h2 ∧ h2 ≤ 15) (g1 : ¬ h1 < 0) (g2 : ¬ h2 < 0) (hb : b = UInt8.ofNat (h1.toNat * 16 + h2.toNat)) : bits .or .i64 (wrap64 (h1 * 16)) h2 = (b.toNat : Int) := by
  have h := bits_all ⟨h1.toNat, by omega⟩ ⟨h2.toNat, by omega⟩
  simp only [Int.toNat_of_nonneg (Int.not_lt.1 g1), Int.toNat_of_nonneg (Int.not_lt.1 g2)] at h
  rw [h, hb, UInt8.toNat_ofNat']
  omega
theorem quoted_any (s : ByteArray) (i : Nat) (w : World) (hs : s.size < 4294967281) (hi : i < s.size) (hIB : ∀ (c : UInt8) (w : World), Calls Try.prog 82 #[.string ⟨hexes.toArray⟩, .int .u8 c.toNat] w fun e w' => e = .returned (.int .i64 (hexI c)) ∧ w' = w) :
    Calls Try.prog 71 #[.string s, .int .i64 i] w fun e w' => e = .returned (quotV (qmap [] (i + 1) (qread s[i] (s.data.toList.drop (i + 1))))) ∧ Tch No w w' := by
  obtain ⟨r, hr⟩ : ∃ r, r = qmap [] (i + 1) (qread s[i] (s.data.toList.drop (i + 1))) := ⟨_, rfl⟩
  rw [← hr]
  have ki := nn_lt2 hi
  obtain ⟨e, he⟩ : ∃ e, e = s[i] := ⟨_, rfl⟩
  rw [← he] at hr
  obtain ⟨E, hE⟩ : ∃ E : Int, E = (e.toNat : Int) := ⟨_, rfl⟩
  have hE' : (s[i].toNat : Int) = E := by rw [hE, he]
  obtain ⟨i0, hi5, hz0, hz1, hz2⟩ := info_parts info5
  replace hi5 := Lib.hid hi5
  replace hz0 := Lib.hid hz0
  replace hz1 := Lib.hid hz1
  replace hz2 := Lib.hid hz2
  replace hs := Lib.hid hs
  replace he := Lib.hid he
  replace hE := Lib.hid hE
  replace hIB := Lib.hid hIB
  have hwi : wrap64 ((i : Int) + 1) = ((i + 1 : Nat) : Int) := by have := hs.out; unfold wrap64; omega
  replace hwi := Lib.hid hwi
  go_enter Try.func71, Try.ntmps71
  go_wp2
  go_loopg [1, 7] (s.size - (i + 1) + 1) (fun gg iv ov wr => ∃ (j : Nat) (a : List UInt8), gg = s.size - j + 1 ∧ iv = .int .i64 j ∧ j ≤ s.size ∧ wr.ownsRow w.heap.size 5 1 ov a.length (vbs a) ∧ a.length ≤ j ∧ Tch No w wr ∧ r = qmap a j (qread e (s.data.toList.drop j)))
  case atStart => exact ⟨i + 1, [], rfl, by rw [hwi.out], hi, World.ownsRow_nil _ _ _ _, Nat.zero_le _, Tch.refl _ _, hr⟩
  case round =>
    obtain ⟨j, a, rfl, rfl, hj, hrow, hal, tr, hb⟩ := hrel
    obtain ⟨oo, oc, rfl⟩ := ownsRow_shape hrow
    clear hr hE'
    by_cases hlt : j < s.size
    · have k0 := nn_lt2 hlt
      have hdr := drop_data s hlt
      obtain ⟨x, hx⟩ : ∃ x : Int, x = (s[j].toNat : Int) := ⟨_, rfl⟩
      have hx' : (s[j].toNat : Int) = x := hx.symm
      have hwj : wrap64 ((j : Int) + 1) = (j : Int) + 1 := by have := hs.out; unfold wrap64; omega
      obtain ⟨q39, h39⟩ : ∃ q, (E == 39) = q := ⟨_, rfl⟩
      replace hx := Lib.hid hx
      replace hdr := Lib.hid hdr
      cases hxe : (x == E) with
      | true =>
        have hce := Lib.hid (u8_same hx.out hE.out hxe)
        cases q39 with
        | true =>
          have he39 := Lib.hid (u8_is hE.out (by decide) h39)
          by_cases hl2 : j + 1 < s.size
          · have k1 : (j : Int) + 1 < (s.size : Int) := by omega
            have k1n : decide (((j + 1 : Nat) : Int) < (s.size : Int)) = true := decide_eq_true (by omega)
            have hdr2 := Lib.hid (drop_data s hl2)
            have hx2 : ((j : Int) + 1).toNat = j + 1 := by omega
            obtain ⟨y, hy⟩ : ∃ y : Int, y = (s[j + 1].toNat : Int) := ⟨_, rfl⟩
            have hy' : (s[j + 1].toNat : Int) = y := hy.symm
            have hwj2 : wrap64 ((j : Int) + 1 + 1) = (j : Int) + 1 + 1 := by have := hs.out; unfold wrap64; omega
            replace hy := Lib.hid hy
            cases hq : (y == 39) with
            | true =>
              have hd39 := Lib.hid (u8_is hy.out (by decide) hq)
              have hB := Lib.hid (show w.heap.size ≤ wr.heap.size from tr.size)
              have hw0 := Lib.hid (show ∀ k, (Value.slice oo a.length oc).ownBlock = some k → w.heap.size ≤ k from fun k hk => (ownsRow_ge hrow hk).1)
              have hrun : r = qmap (a ++ [s[j]]) (j + 2) (qread e (s.data.toList.drop (j + 2))) := by rw [hb, hdr.out, hdr2.out, hd39.out]; rw [show (UInt8.ofNat 39) = 39 from rfl, q_twin hce.out he39.out, hce.out, he39.out]; exact qmap_more _ _ _ _ _
              replace hrun := Lib.hid hrun
              replace hrow := Lib.hid hrow
              replace hal := Lib.hid hal
              replace tr := Lib.hid tr
              replace hb := Lib.hid hb
              replace hj := Lib.hid hj
              go_wp2_with (first
                | (at_builtin; refine wp_append_us rfl _ _ 41 (by rfl) w.heap.size 5 i0 (.int .u8 0) 1 1 Try.underlying41 hi5.out hz0.out hz1.out hz2.out rfl (by decide) _ a.length _ (by rfl) hrow.out 1 (by rfl) rfl (by simp [Value.oneCell']) (nn_bytes hal.out hj.out hs.out).1 (nn_bytes hal.out hj.out hs.out).2 hB.out ?_; intro v7 w7 hr7 hg7 hl7; obtain ⟨po, pc, rfl⟩ := ownsRow_shape hr7; replace hr7 := Lib.hid hr7; replace hg7 := Lib.hid hg7; replace hl7 := Lib.hid hl7)
                | fail)
              have t7 := Lib.hid (tr.out.trans (Tch.grown (S := fun k => (Value.slice oo a.length oc).ownBlock = some k) hg7.out (fun k hk => .inl hk)) (fun k hk => .inr (hw0.out k hk)))
              go_roundg (s.size - (j + 2) + 1)
              case rel => exact ⟨j + 2, a ++ [s[j]], rfl, nn_idx (by first | omega | (unfold wrap64; omega)), by omega, by rw [vbs_snoc]; exact row_out (by first | exact hx.out | exact hy.out) hr7.out, by have := hal.out; simp; omega, t7.out, hrun.out⟩
              case measure => omega
            | false =>
              have hd39 := Lib.hid (u8_ne hy.out (n := 39) (by decide) hq)
              have hrun : r = some (a, j + 1) := by rw [hb, hdr.out, hdr2.out, q_end2 hce.out (fun h => hd39.out h.2)]; simp [qmap]
              have hstr := row_string hrow
              replace hrow := Lib.hid hrow
              replace hal := Lib.hid hal
              replace tr := Lib.hid tr
              replace hb := Lib.hid hb
              replace hj := Lib.hid hj
              replace hrun := Lib.hid hrun
              go_wp2
              go_ret3
              exact ⟨by rw [hrun.out]; exact ret_done (by first | omega | (unfold wrap64; omega)), tr.out⟩
          · have k1 : ¬ (j : Int) + 1 < (s.size : Int) := by omega
            have k1' : decide ((j : Int) + 1 < (s.size : Int)) = false := decide_eq_false k1
            have hdr2 := Lib.hid (drop_no s hl2)
            have hrun : r = some (a, j + 1) := by rw [hb, hdr.out, hdr2.out, q_end1 hce.out]; simp [qmap]
            have hstr := row_string hrow
            replace hrow := Lib.hid hrow
            replace hal := Lib.hid hal
            replace tr := Lib.hid tr
            replace hb := Lib.hid hb
            replace hj := Lib.hid hj
            replace hrun := Lib.hid hrun
            go_wp2
            go_ret3
            exact ⟨by rw [hrun.out]; exact ret_done (by first | omega | (unfold wrap64; omega)), tr.out⟩
        | false =>
          have he39 := Lib.hid (u8_ne hE.out (n := 39) (by decide) h39)
          have hend : r = some (a, j + 1) := by
            rw [hb, hdr.out]
            cases s.data.toList.drop (j + 1) with
            | nil => rw [q_end1 hce.out]; simp [qmap]
            | cons d t => rw [q_end2 hce.out (fun h => he39.out h.1)]; simp [qmap]
          have hrun := hend
          have hstr := row_string hrow
          replace hrow := Lib.hid hrow
          replace hal := Lib.hid hal
          replace tr := Lib.hid tr
          replace hb := Lib.hid hb
          replace hj := Lib.hid hj
          replace hrun := Lib.hid hrun
          go_wp2
          go_ret3
          exact ⟨by rw [hrun.out]; exact ret_done (by first | omega | (unfold wrap64; omega)), tr.out⟩
      | false =>
        have hce := Lib.hid (u8_diff hx.out hE.out hxe)
        cases h92 : (x == 92) with
        | false =>
          have hb92 : (x != 92) = true := by simp [bne, h92]
          have hc92 := Lib.hid (u8_ne hx.out (n := 92) (by decide) h92)
          have hB := Lib.hid (show w.heap.size ≤ wr.heap.size from tr.size)
          have hw0 := Lib.hid (show ∀ k, (Value.slice oo a.length oc).ownBlock = some k → w.heap.size ≤ k from fun k hk => (ownsRow_ge hrow hk).1)
          have hrun : r = qmap (a ++ [s[j]]) (j + 1) (qread e (s.data.toList.drop (j + 1))) := by rw [hb, hdr.out, q_char hce.out (.inl hc92.out)]; exact qmap_more _ _ _ _ _
          replace hrun := Lib.hid hrun
          replace hrow := Lib.hid hrow
          replace hal := Lib.hid hal
          replace tr := Lib.hid tr
          replace hb := Lib.hid hb
          replace hj := Lib.hid hj
          go_wp2_with (first
            | (at_builtin; refine wp_append_us rfl _ _ 41 (by rfl) w.heap.size 5 i0 (.int .u8 0) 1 1 Try.underlying41 hi5.out hz0.out hz1.out hz2.out rfl (by decide) _ a.length _ (by rfl) hrow.out 1 (by rfl) rfl (by simp [Value.oneCell']) (nn_bytes hal.out hj.out hs.out).1 (nn_bytes hal.out hj.out hs.out).2 hB.out ?_; intro v7 w7 hr7 hg7 hl7; obtain ⟨po, pc, rfl⟩ := ownsRow_shape hr7; replace hr7 := Lib.hid hr7; replace hg7 := Lib.hid hg7; replace hl7 := Lib.hid hl7)
            | fail)
          have t7 := Lib.hid (tr.out.trans (Tch.grown (S := fun k => (Value.slice oo a.length oc).ownBlock = some k) hg7.out (fun k hk => .inl hk)) (fun k hk => .inr (hw0.out k hk)))
          go_roundg (s.size - (j + 1) + 1)
          case rel => exact ⟨j + 1, a ++ [s[j]], rfl, nn_idx (by first | omega | (unfold wrap64; omega)), by omega, by rw [vbs_snoc]; exact row_out (by first | exact hx.out | exact hy.out) hr7.out, by have := hal.out; simp; omega, t7.out, hrun.out⟩
          case measure => omega
        | true =>
          have hb92 : (x != 92) = false := by simp [bne, h92]
          have hc92 := Lib.hid (u8_is hx.out (by decide) h92)
          cases q39 with
          | true =>
            have he39 := Lib.hid (u8_is hE.out (by decide) h39)
            have hB := Lib.hid (show w.heap.size ≤ wr.heap.size from tr.size)
            have hw0 := Lib.hid (show ∀ k, (Value.slice oo a.length oc).ownBlock = some k → w.heap.size ≤ k from fun k hk => (ownsRow_ge hrow hk).1)
            have hrun : r = qmap (a ++ [s[j]]) (j + 1) (qread e (s.data.toList.drop (j + 1))) := by rw [hb, hdr.out, q_char hce.out (.inr he39.out)]; exact qmap_more _ _ _ _ _
            replace hrun := Lib.hid hrun
            replace hrow := Lib.hid hrow
            replace hal := Lib.hid hal
            replace tr := Lib.hid tr
            replace hb := Lib.hid hb
            replace hj := Lib.hid hj
            go_wp2_with (first
              | (at_builtin; refine wp_append_us rfl _ _ 41 (by rfl) w.heap.size 5 i0 (.int .u8 0) 1 1 Try.underlying41 hi5.out hz0.out hz1.out hz2.out rfl (by decide) _ a.length _ (by rfl) hrow.out 1 (by rfl) rfl (by simp [Value.oneCell']) (nn_bytes hal.out hj.out hs.out).1 (nn_bytes hal.out hj.out hs.out).2 hB.out ?_; intro v7 w7 hr7 hg7 hl7; obtain ⟨po, pc, rfl⟩ := ownsRow_shape hr7; replace hr7 := Lib.hid hr7; replace hg7 := Lib.hid hg7; replace hl7 := Lib.hid hl7)
              | fail)
            have t7 := Lib.hid (tr.out.trans (Tch.grown (S := fun k => (Value.slice oo a.length oc).ownBlock = some k) hg7.out (fun k hk => .inl hk)) (fun k hk => .inr (hw0.out k hk)))
            go_roundg (s.size - (j + 1) + 1)
            case rel => exact ⟨j + 1, a ++ [s[j]], rfl, nn_idx (by first | omega | (unfold wrap64; omega)), by omega, by rw [vbs_snoc]; exact row_out (by first | exact hx.out | exact hy.out) hr7.out, by have := hal.out; simp; omega, t7.out, hrun.out⟩
            case measure => omega
          | false =>
            have he39 := Lib.hid (u8_ne hE.out (n := 39) (by decide) h39)
            have hnn := Lib.hid (show ¬ (s[j] ≠ 92 ∨ e = 39) from fun h => h.elim (fun h => h hc92.out) (fun h => he39.out h))
            by_cases hl2 : j + 1 < s.size
            · have k1 : ((j : Int) + 1 == (s.size : Int)) = false := by rw [beq_eq_false_iff_ne]; omega
              have k2 : (j : Int) + 1 < (s.size : Int) := by omega
              have hdr2 := Lib.hid (drop_data s hl2)
              have hx2 : ((j : Int) + 1).toNat = j + 1 := by omega
              obtain ⟨y, hy⟩ : ∃ y : Int, y = (s[j + 1].toNat : Int) := ⟨_, rfl⟩
              have hy' : (s[j + 1].toNat : Int) = y := hy.symm
              have hwj2 : wrap64 ((j : Int) + 1 + 1) = (j : Int) + 1 + 1 := by have := hs.out; unfold wrap64; omega
              replace hy := Lib.hid hy
              cases q34 : (y == 34) with
              | true =>
                have hd := Lib.hid (u8_is hy.out (n := 34) (by decide) q34)
                have hB := Lib.hid (show w.heap.size ≤ wr.heap.size from tr.size)
                have hw0 := Lib.hid (show ∀ k, (Value.slice oo a.length oc).ownBlock = some k → w.heap.size ≤ k from fun k hk => (ownsRow_ge hrow hk).1)
                have hrun : r = qmap (a ++ [s[j + 1]]) (j + 2) (qread e (s.data.toList.drop (j + 2))) := by rw [hb, hdr.out, hdr2.out, q_self hce.out hnn.out (.inl hd.out)]; exact qmap_more _ _ _ _ _
                replace hrun := Lib.hid hrun
                replace hrow := Lib.hid hrow
                replace hal := Lib.hid hal
                replace tr := Lib.hid tr
                replace hb := Lib.hid hb
                replace hj := Lib.hid hj
                go_wp2_with (first
                  | (at_builtin; refine wp_append_us rfl _ _ 41 (by rfl) w.heap.size 5 i0 (.int .u8 0) 1 1 Try.underlying41 hi5.out hz0.out hz1.out hz2.out rfl (by decide) _ a.length _ (by rfl) hrow.out 1 (by rfl) rfl (by simp [Value.oneCell']) (nn_bytes hal.out hj.out hs.out).1 (nn_bytes hal.out hj.out hs.out).2 hB.out ?_; intro v7 w7 hr7 hg7 hl7; obtain ⟨po, pc, rfl⟩ := ownsRow_shape hr7; replace hr7 := Lib.hid hr7; replace hg7 := Lib.hid hg7; replace hl7 := Lib.hid hl7)
                  | fail)
                have t7 := Lib.hid (tr.out.trans (Tch.grown (S := fun k => (Value.slice oo a.length oc).ownBlock = some k) hg7.out (fun k hk => .inl hk)) (fun k hk => .inr (hw0.out k hk)))
                go_roundg (s.size - (j + 2) + 1)
                case rel => exact ⟨j + 2, a ++ [s[j + 1]], rfl, nn_idx (by first | omega | (unfold wrap64; omega)), by omega, by rw [vbs_snoc]; exact row_out (by first | exact hx.out | exact hy.out) hr7.out, by have := hal.out; simp; omega, t7.out, hrun.out⟩
                case measure => omega
              | false =>
                have n34 := Lib.hid (u8_ne hy.out (n := 34) (by decide) q34)
                cases q92 : (y == 92) with
                | true =>
                  have hd := Lib.hid (u8_is hy.out (n := 92) (by decide) q92)
                  have hB := Lib.hid (show w.heap.size ≤ wr.heap.size from tr.size)
                  have hw0 := Lib.hid (show ∀ k, (Value.slice oo a.length oc).ownBlock = some k → w.heap.size ≤ k from fun k hk => (ownsRow_ge hrow hk).1)
                  have hrun : r = qmap (a ++ [s[j + 1]]) (j + 2) (qread e (s.data.toList.drop (j + 2))) := by rw [hb, hdr.out, hdr2.out, q_self hce.out hnn.out (.inr hd.out)]; exact qmap_more _ _ _ _ _
                  replace hrun := Lib.hid hrun
                  replace hrow := Lib.hid hrow
                  replace hal := Lib.hid hal
                  replace tr := Lib.hid tr
                  replace hb := Lib.hid hb
                  replace hj := Lib.hid hj
                  go_wp2_with (first
                    | (at_builtin; refine wp_append_us rfl _ _ 41 (by rfl) w.heap.size 5 i0 (.int .u8 0) 1 1 Try.underlying41 hi5.out hz0.out hz1.out hz2.out rfl (by decide) _ a.length _ (by rfl) hrow.out 1 (by rfl) rfl (by simp [Value.oneCell']) (nn_bytes hal.out hj.out hs.out).1 (nn_bytes hal.out hj.out hs.out).2 hB.out ?_; intro v7 w7 hr7 hg7 hl7; obtain ⟨po, pc, rfl⟩ := ownsRow_shape hr7; replace hr7 := Lib.hid hr7; replace hg7 := Lib.hid hg7; replace hl7 := Lib.hid hl7)
                    | fail)
                  have t7 := Lib.hid (tr.out.trans (Tch.grown (S := fun k => (Value.slice oo a.length oc).ownBlock = some k) hg7.out (fun k hk => .inl hk)) (fun k hk => .inr (hw0.out k hk)))
                  go_roundg (s.size - (j + 2) + 1)
                  case rel => exact ⟨j + 2, a ++ [s[j + 1]], rfl, nn_idx (by first | omega | (unfold wrap64; omega)), by omega, by rw [vbs_snoc]; exact row_out (by first | exact hx.out | exact hy.out) hr7.out, by have := hal.out; simp; omega, t7.out, hrun.out⟩
                  case measure => omega
                | false =>
                  have n92 := Lib.hid (u8_ne hy.out (n := 92) (by decide) q92)
                  cases q110 : (y == 110) with
                  | true =>
                    have hd := Lib.hid (u8_is hy.out (n := 110) (by decide) q110)
                    have hB := Lib.hid (show w.heap.size ≤ wr.heap.size from tr.size)
                    have hw0 := Lib.hid (show ∀ k, (Value.slice oo a.length oc).ownBlock = some k → w.heap.size ≤ k from fun k hk => (ownsRow_ge hrow hk).1)
                    have hrun : r = qmap (a ++ [10]) (j + 2) (qread e (s.data.toList.drop (j + 2))) := by rw [hb, hdr.out, hdr2.out, hd.out, show (UInt8.ofNat 110) = 110 from rfl, q_n hce.out hnn.out]; exact qmap_more _ _ _ _ _
                    replace hrun := Lib.hid hrun
                    replace hrow := Lib.hid hrow
                    replace hal := Lib.hid hal
                    replace tr := Lib.hid tr
                    replace hb := Lib.hid hb
                    replace hj := Lib.hid hj
                    go_wp2_with (first
                      | (at_builtin; refine wp_append_us rfl _ _ 41 (by rfl) w.heap.size 5 i0 (.int .u8 0) 1 1 Try.underlying41 hi5.out hz0.out hz1.out hz2.out rfl (by decide) _ a.length _ (by rfl) hrow.out 1 (by rfl) rfl (by simp [Value.oneCell']) (nn_bytes hal.out hj.out hs.out).1 (nn_bytes hal.out hj.out hs.out).2 hB.out ?_; intro v7 w7 hr7 hg7 hl7; obtain ⟨po, pc, rfl⟩ := ownsRow_shape hr7; replace hr7 := Lib.hid hr7; replace hg7 := Lib.hid hg7; replace hl7 := Lib.hid hl7)
                      | fail)
                    have t7 := Lib.hid (tr.out.trans (Tch.grown (S := fun k => (Value.slice oo a.length oc).ownBlock = some k) hg7.out (fun k hk => .inl hk)) (fun k hk => .inr (hw0.out k hk)))
                    go_roundg (s.size - (j + 2) + 1)
                    case rel => exact ⟨j + 2, a ++ [10], rfl, nn_idx (by first | omega | (unfold wrap64; omega)), by omega, by rw [vbs_snoc]; exact row_out (by decide) hr7.out, by have := hal.out; simp; omega, t7.out, hrun.out⟩
                    case measure => omega
                  | false =>
                    have n110 := Lib.hid (u8_ne hy.out (n := 110) (by decide) q110)
                    cases q116 : (y == 116) with
                    | true =>
                      have hd := Lib.hid (u8_is hy.out (n := 116) (by decide) q116)
                      have hB := Lib.hid (show w.heap.size ≤ wr.heap.size from tr.size)
                      have hw0 := Lib.hid (show ∀ k, (Value.slice oo a.length oc).ownBlock = some k → w.heap.size ≤ k from fun k hk => (ownsRow_ge hrow hk).1)
                      have hrun : r = qmap (a ++ [9]) (j + 2) (qread e (s.data.toList.drop (j + 2))) := by rw [hb, hdr.out, hdr2.out, hd.out, show (UInt8.ofNat 116) = 116 from rfl, q_t hce.out hnn.out]; exact qmap_more _ _ _ _ _
                      replace hrun := Lib.hid hrun
                      replace hrow := Lib.hid hrow
                      replace hal := Lib.hid hal
                      replace tr := Lib.hid tr
                      replace hb := Lib.hid hb
                      replace hj := Lib.hid hj
                      go_wp2_with (first
                        | (at_builtin; refine wp_append_us rfl _ _ 41 (by rfl) w.heap.size 5 i0 (.int .u8 0) 1 1 Try.underlying41 hi5.out hz0.out hz1.out hz2.out rfl (by decide) _ a.length _ (by rfl) hrow.out 1 (by rfl) rfl (by simp [Value.oneCell']) (nn_bytes hal.out hj.out hs.out).1 (nn_bytes hal.out hj.out hs.out).2 hB.out ?_; intro v7 w7 hr7 hg7 hl7; obtain ⟨po, pc, rfl⟩ := ownsRow_shape hr7; replace hr7 := Lib.hid hr7; replace hg7 := Lib.hid hg7; replace hl7 := Lib.hid hl7)
                        | fail)
                      have t7 := Lib.hid (tr.out.trans (Tch.grown (S := fun k => (Value.slice oo a.length oc).ownBlock = some k) hg7.out (fun k hk => .inl hk)) (fun k hk => .inr (hw0.out k hk)))
                      go_roundg (s.size - (j + 2) + 1)
                      case rel => exact ⟨j + 2, a ++ [9], rfl, nn_idx (by first | omega | (unfold wrap64; omega)), by omega, by rw [vbs_snoc]; exact row_out (by decide) hr7.out, by have := hal.out; simp; omega, t7.out, hrun.out⟩
                      case measure => omega
                    | false =>
                      have n116 := Lib.hid (u8_ne hy.out (n := 116) (by decide) q116)
                      cases q120 : (y == 120) with
                      | true =>
                        have hd := Lib.hid (u8_is hy.out (n := 120) (by decide) q120)
                        by_cases hl3 : j + 3 < s.size
                        · obtain ⟨hl2', k3, k4, k5, hwj3, hx3, hx4, hwj4, hp3, hp4⟩ := hex_nums hs.out hl3
                          have hdr3 := Lib.hid (drop_data s hl2')
                          have hdr4 := Lib.hid (drop_data s hl3)
                          obtain ⟨y1, hy1⟩ : ∃ y1 : Int, y1 = (s[j + 2].toNat : Int) := ⟨_, rfl⟩
                          obtain ⟨y2, hy2⟩ : ∃ y2 : Int, y2 = (s[j + 3].toNat : Int) := ⟨_, rfl⟩
                          have hy1' : (s[j + 2].toNat : Int) = y1 := hy1.symm
                          have hy2' : (s[j + 3].toNat : Int) = y2 := hy2.symm
                          obtain ⟨h1, hh1⟩ : ∃ h1, h1 = hexI s[j + 2] := ⟨_, rfl⟩
                          obtain ⟨h2, hh2⟩ : ∃ h2, h2 = hexI s[j + 3] := ⟨_, rfl⟩
                          have hI1 := Lib.hid (show ∀ w, Calls Try.prog 82 #[.string ⟨hexes.toArray⟩, .int .u8 y1] w fun e w' => e = .returned (.int .i64 h1) ∧ w' = w from fun w => by rw [hy1, hh1]; exact hIB.out _ _)
                          have hI2 := Lib.hid (show ∀ w, Calls Try.prog 82 #[.string ⟨hexes.toArray⟩, .int .u8 y2] w fun e w' => e = .returned (.int .i64 h2) ∧ w' = w from fun w => by rw [hy2, hh2]; exact hIB.out _ _)
                          replace hh1 := Lib.hid hh1
                          replace hh2 := Lib.hid hh2
                          replace hl2' := Lib.hid hl2'
                          replace hl3 := Lib.hid hl3
                          replace hy1 := Lib.hid hy1
                          replace hy2 := Lib.hid hy2
                          replace hrow := Lib.hid hrow
                          replace hal := Lib.hid hal
                          replace tr := Lib.hid tr
                          replace hb := Lib.hid hb
                          replace hj := Lib.hid hj
                          replace hwj2 := Lib.hid hwj2
                          replace hwj3 := Lib.hid hwj3
                          replace hwj4 := Lib.hid hwj4
                          go_upto_region 18 with fail
                          have hwk := hwj3.out
                          go_upto_region 20 with fail
                          clear hwk
                          have hq3 : IntKind.i64.wrap ((j : Int) + 1 + 1) = (j : Int) + 1 + 1 := i64_of64 hwj2.out
                          have hq4 : IntKind.i64.wrap ((j : Int) + 1 + 2) = (j : Int) + 1 + 2 := i64_of64 hwj3.out
                          go_quiet (first
                            | (go_at_call 82; first | exact Calls.quiet_of_same (hI1.out _) | exact Calls.quiet_of_same (hI2.out _))
                            | fail)
                          clear hq3 hq4 hx3 hx4 hp3 hp4
                          obtain ⟨wd, hwd⟩ : ∃ wd, wd = wr.drewN nq := ⟨_, rfl⟩
                          rw [← hwd]
                          have td : Hid (Tch No w wd) := Lib.hid (by rw [hwd]; exact tr.out.trans (Tch.drewN No wr nq) (fun _ h => h.elim))
                          have hrd : wd.ownsRow w.heap.size 5 1 (.slice oo a.length oc) a.length (vbs a) := by rw [hwd]; exact hrow.out
                          replace hrd := Lib.hid hrd
                          replace hwd := Lib.hid hwd
                          by_cases g1 : h1 < 0
                          · have p1 : decide (h1 < 0) = true := decide_eq_true g1
                            have hrun : r = none := by
                              rw [hb.out, hdr.out, hdr2.out, hd.out, show (UInt8.ofNat 120) = 120 from rfl, hdr3.out, hdr4.out, q_x hce.out hnn.out, hexB_no (.inl (by rw [← hh1.out]; exact g1))]; rfl
                            replace hrun := Lib.hid hrun
                            replace g1 := Lib.hid g1
                            go_wp2
                            go_ret3
                            exact ⟨by rw [hrun.out]; rfl, td.out⟩
                          · have p1 : decide (h1 < 0) = false := decide_eq_false g1
                            by_cases g2 : h2 < 0
                            · have p2 : decide (h2 < 0) = true := decide_eq_true g2
                              have hrun : r = none := by
                                rw [hb.out, hdr.out, hdr2.out, hd.out, show (UInt8.ofNat 120) = 120 from rfl, hdr3.out, hdr4.out, q_x hce.out hnn.out, hexB_no (.inr (by rw [← hh2.out]; exact g2))]; rfl
                              replace hrun := Lib.hid hrun
                              replace g1 := Lib.hid g1
                              replace g2 := Lib.hid g2
                              go_wp2
                              go_ret3
                              exact ⟨by rw [hrun.out]; rfl, td.out⟩
                            · have p2 : decide (h2 < 0) = false := decide_eq_false g2
                              obtain ⟨b, hbv⟩ : ∃ b, b = UInt8.ofNat (h1.toNat * 16 + h2.toNat) := ⟨_, rfl⟩
                              have hbits := hex_bits (hh1.out ▸ hex_bound _) (hh2.out ▸ hex_bound _) g1 g2 hbv
                              have hrun : r = qmap (a ++ [b]) (j + 4) (qread e (s.data.toList.drop (j + 4))) := by
                                rw [hb.out, hdr.out, hdr2.out, hd.out, show (UInt8.ofNat 120) = 120 from rfl, hdr3.out, hdr4.out, q_x hce.out hnn.out, hexB_ok (by rw [← hh1.out]; exact g1) (by rw [← hh2.out]; exact g2), ← hh1.out, ← hh2.out, ← hbv]; exact qmap_more _ _ _ _ _
                              replace hrun := Lib.hid hrun
                              replace hbv := Lib.hid hbv
                              replace g1 := Lib.hid g1
                              replace g2 := Lib.hid g2
                              have hB := Lib.hid (show w.heap.size ≤ wd.heap.size from td.out.size)
                              have hw0 := Lib.hid (show ∀ k, (Value.slice oo a.length oc).ownBlock = some k → w.heap.size ≤ k from fun k hk => (ownsRow_ge hrd.out hk).1)
                              go_upto_region 23 with fail
                              go_wp2_with (first
                                | (at_builtin; refine wp_append_us rfl _ _ 41 (by rfl) w.heap.size 5 i0 (.int .u8 0) 1 1 Try.underlying41 hi5.out hz0.out hz1.out hz2.out rfl (by decide) _ a.length _ (by rfl) hrd.out 1 (by rfl) rfl (by simp [Value.oneCell']) (nn_bytes hal.out hj.out hs.out).1 (nn_bytes hal.out hj.out hs.out).2 hB.out ?_; intro v7 w7 hr7 hg7 hl7; obtain ⟨po, pc, rfl⟩ := ownsRow_shape hr7; replace hr7 := Lib.hid hr7; replace hg7 := Lib.hid hg7; replace hl7 := Lib.hid hl7)
                                | fail)
                              have t7 := Lib.hid (td.out.trans (Tch.grown (S := fun k => (Value.slice oo a.length oc).ownBlock = some k) hg7.out (fun k hk => .inl hk)) (fun k hk => .inr (hw0.out k hk)))
                              go_roundg (s.size - (j + 4) + 1)
                              case rel => exact ⟨j + 4, a ++ [b], rfl, nn_idx (hex_next hs.out hl3.out), hl3.out, by rw [vbs_snoc]; exact row_out (hex_mod b) hr7.out, hex_len hal.out, t7.out, hrun.out⟩
                              case measure => exact hex_down hl3.out
                        · obtain ⟨k3, hwj3⟩ := hex_short hs.out hl2 hl3
                          have hrun : r = none := by
                            rw [hb, hdr.out, hdr2.out, hd.out, show (UInt8.ofNat 120) = 120 from rfl]
                            by_cases hl2' : j + 2 < s.size
                            · rw [drop_data s hl2', drop_no s hl3, q_x1 hce.out hnn.out]; rfl
                            · rw [drop_no s hl2', q_x0 hce.out hnn.out]; rfl
                          replace hrow := Lib.hid hrow
                          replace hal := Lib.hid hal
                          replace tr := Lib.hid tr
                          replace hb := Lib.hid hb
                          replace hj := Lib.hid hj
                          replace hrun := Lib.hid hrun
                          replace hwj2 := Lib.hid hwj2
                          replace hwj3 := Lib.hid hwj3
                          replace hl3 := Lib.hid hl3
                          go_upto_region 18 with fail
                          have hwk := hwj3.out
                          go_wp2
                          go_ret3
                          exact ⟨by rw [hrun.out]; rfl, tr.out⟩
                      | false =>
                        have n120 := Lib.hid (u8_ne hy.out (n := 120) (by decide) q120)
                        have hrun : r = none := by rw [hb, hdr.out, hdr2.out, q_bad hce.out hnn.out (fun h => h.elim n34.out n92.out) n110.out n116.out n120.out]; rfl
                        replace hrow := Lib.hid hrow
                        replace hal := Lib.hid hal
                        replace tr := Lib.hid tr
                        replace hb := Lib.hid hb
                        replace hj := Lib.hid hj
                        replace hrun := Lib.hid hrun
                        go_wp2
                        go_ret3
                        exact ⟨by rw [hrun.out]; rfl, tr.out⟩
            · have k1 : ((j : Int) + 1 == (s.size : Int)) = true := by rw [beq_iff_eq]; omega
              have hdr2 := Lib.hid (drop_no s hl2)
              have hrun : r = none := by rw [hb, hdr.out, hdr2.out, q_last hce.out]; rfl
              replace hrow := Lib.hid hrow
              replace hal := Lib.hid hal
              replace tr := Lib.hid tr
              replace hb := Lib.hid hb
              replace hj := Lib.hid hj
              replace hrun := Lib.hid hrun
              go_wp2
              go_ret3
              exact ⟨by rw [hrun.out]; rfl, tr.out⟩
    · have k0 := nn_ge2 hlt
      have k1 : decide (j < s.size) = false := decide_eq_false hlt
      have hdr := drop_no s hlt
      have hrun : r = none := by rw [hb, hdr, q_nil]; rfl
      replace hrow := Lib.hid hrow
      replace hal := Lib.hid hal
      replace tr := Lib.hid tr
      replace hb := Lib.hid hb
      replace hj := Lib.hid hj
      replace hrun := Lib.hid hrun
      go_wp2
      go_ret3
      exact ⟨by rw [hrun.out]; rfl, tr.out⟩
end Go.Proofs.Ytcnjmkjfgghgoaa
end
