/- The walk of the document's Folded: a host, folded byte by byte into a list that grows. -/
import Derived.Test.YtghfahhfiihneaaFold
namespace Go.Proofs.Ytghfahhfiihneaa
open Go.ChangeShapes Go.WideShapes Go.ChangeAt Go.RowKit
open Go.Pa
set_option linter.unusedVariables false
set_option maxRecDepth 100000

theorem Try.info5 : (Try.prog.info? 5).map (fun i => (i.zero, i.size, i.bytes)) = some (some (.int .u8 0), 1, 1) := by kernel_rfl
def lrow (l : Bs) : List Value := l.map fun c => vb (lowc c)
theorem lrow_snoc (s : ByteArray) (k : Nat) (h : k < s.size) : lrow (s.data.toList.take (k + 1)) = lrow (s.data.toList.take k) ++ [vb (lowc s[k])] := by
  rw [take_snoc s k h]; unfold lrow; rw [List.map_append]; rfl
theorem lrow_text {w : World} {base : Nat} {v : Value} {l : Bs} {n : Nat} (hl : l.length = n) (hn : 1 ≤ n) (h : w.ownsRow base 5 1 v n (lrow l)) : (convert 167 9 v).run Try.prog w = .ok (.string (B (l.map lowc))) w := by
  subst hl
  have hne : v ≠ .slice none 0 0 := by
    rintro rfl
    rcases h.2 with ⟨_, h0⟩ | ⟨g, cap, cur, he, _⟩
    · omega
    · cases he
  obtain ⟨g, cap, rfl, _⟩ := Tp.own_shape h hne
  refine Tp.run_string_of_cells w 167 9 5 _ (l.map lowc) l.length cap (by simp) Try.underlying167 Try.underlying5 Try.underlying9 fun j hj => ?_
  rw [List.length_map] at hj
  have e : (⟨g, 0, none⟩ : Addr).add j = ⟨g, j, none⟩ := by unfold Addr.add; split <;> simp_all
  rw [e, h.cellAt j (by omega)]
  unfold lrow
  simp [List.getD, hj, vb]

set_option maxHeartbeats 4000000 in
theorem folded_any (s : ByteArray) (w : World) (hs : s.size ≤ maxLen) :
    Calls Try.prog 83 #[.string s] w fun e w' => e = .returned (FoldV s.data.toList) ∧ Below w.heap.size w w' := by
  obtain ⟨i0, hi, hz0, hz1, hz2⟩ := info_parts Try.info5
  unfold maxLen at hs
  rcases (show (s.size : Int) < 1 ∨ (1 ≤ s.size ∧ (64 : Int) < s.size) ∨ (1 ≤ s.size ∧ s.size ≤ 64) from by omega) with h | ⟨h, h2⟩ | ⟨h, h2⟩
  · have hr := Lib.hid (foldV_no (foldOk_short (s := s) (by omega)))
    have he : s.toList.isEmpty = true := by
      rw [Lib.toList_data, List.isEmpty_iff_length_eq_zero, len_data]; omega
    clear hi hz0 hz1 hz2
    go_enter Try.func83, Try.ntmps83
    go_wp2
    go_ret2
    exact ⟨by rw [hr.out]; rfl, Below.refl _ _⟩
  · have hr := Lib.hid (foldV_no (foldOk_short (s := s) (by omega)))
    have he : s.toList.isEmpty = false := by
      rw [Bool.eq_false_iff]; intro he
      rw [Lib.toList_data, List.isEmpty_iff_length_eq_zero, len_data] at he; omega
    clear hi hz0 hz1 hz2
    go_enter Try.func83, Try.ntmps83
    go_wp2
    go_ret2
    exact ⟨by rw [hr.out]; rfl, Below.refl _ _⟩
  · have he : s.toList.isEmpty = false := by
      rw [Bool.eq_false_iff]; intro he
      rw [Lib.toList_data, List.isEmpty_iff_length_eq_zero, len_data] at he; omega
    have d2 : decide ((64 : Int) < (s.size : Int)) = false := by simp; omega
    have hown0 : w.ownsRow w.heap.size 5 1 (.slice none 0 0) 0 (lrow (s.data.toList.take 0)) := ⟨rfl, .inl ⟨rfl, rfl⟩⟩
    replace hown0 := Lib.hid hown0
    replace hi := Lib.hid hi
    replace hz0 := Lib.hid hz0
    replace hz1 := Lib.hid hz1
    replace hz2 := Lib.hid hz2
    go_enter Try.func83, Try.ntmps83
    go_wp2
    go_loopg [4, 5] s.size (fun g v i wr => ∃ k : Nat, k ≤ s.size ∧ g = s.size - k ∧ i = .int .i64 k ∧ (s.data.toList.take k).all (fun c => hostc (lowc c)) = true ∧ wr.ownsRow w.heap.size 5 1 v k (lrow (s.data.toList.take k)) ∧ Below w.heap.size w wr)
    case atStart => exact ⟨0, by omega, rfl, rfl, rfl, hown0.out, Below.refl _ _⟩
    case round =>
      rename_i v _
      obtain ⟨k, hk, rfl, rfl, ha, hown, hbel⟩ := hrel
      clear hown0
      have hbs := hbel.size
      by_cases hlt : k < s.size
      · by_cases hc : hostc (lowc s[k]) = true
        · have ha2 := Lib.hid (all_step (f := fun c => hostc (lowc c)) s k hlt ha hc)
          have hsn := lrow_snoc s k hlt
          by_cases hbig : (65 : Int) ≤ (s[k].toNat : Int) ∧ (s[k].toNat : Int) ≤ 90
          · unfold vb at hsn
            rw [low_big hbig.1 hbig.2, show (s[k].toNat : Int) + 32 = (s[k].toNat : Int) - 65 + 97 from by omega] at hsn
            replace hsn := Lib.hid hsn
            obtain ⟨b1, b2⟩ := hbig
            clear ha hc
            go_wp2_with (at_builtin; refine Tp.wpList_append_one rfl _ _ 167 rfl w.heap.size 5 i0 (.int .u8 0) 1 Try.underlying167 hi.out hz0.out hz1.out hz2.out rfl _ _ _ rfl hown 1 rfl rfl (by unfold maxLen; omega) (by omega) hbs ?_; intro v' w1 hown' hg' hbel' _)
            have hbel2 := hbel' _ _ hbel (Nat.le_refl _)
            replace hown' : w1.ownsRow w.heap.size 5 1 v' (k + 1) (lrow (s.data.toList.take (k + 1))) := by rw [hsn.out]; exact hown'
            clear hbel' hbel hown hg'
            go_roundg (s.size - (k + 1))
            case measure => omega
            case rel => exact ⟨k + 1, by omega, rfl, by go_num, ha2.out, hown', hbel2⟩
          · unfold vb at hsn
            rw [low_self hbig] at hsn
            replace hsn := Lib.hid hsn
            have hcases := (okc_iff _).1 hc
            clear ha hc
            rcases (show ((97 : Int) ≤ (s[k].toNat : Int) ∧ (s[k].toNat : Int) ≤ 122) ∨ ((48 : Int) ≤ (s[k].toNat : Int) ∧ (s[k].toNat : Int) ≤ 57) ∨ (s[k].toNat : Int) = 45 ∨ (s[k].toNat : Int) = 46 from by omega) with ⟨q1, q2⟩ | ⟨q1, q2⟩ | q1 | q1
            · clear hcases hbig
              go_wp2_with (at_builtin; refine Tp.wpList_append_one rfl _ _ 167 rfl w.heap.size 5 i0 (.int .u8 0) 1 Try.underlying167 hi.out hz0.out hz1.out hz2.out rfl _ _ _ rfl hown 1 rfl rfl (by unfold maxLen; omega) (by omega) hbs ?_; intro v' w1 hown' hg' hbel' _)
              have hbel2 := hbel' _ _ hbel (Nat.le_refl _)
              replace hown' : w1.ownsRow w.heap.size 5 1 v' (k + 1) (lrow (s.data.toList.take (k + 1))) := by rw [hsn.out]; exact hown'
              clear hbel' hbel hown hg'
              go_roundg (s.size - (k + 1))
              case measure => omega
              case rel => exact ⟨k + 1, by omega, rfl, by go_num, ha2.out, hown', hbel2⟩
            · clear hcases hbig
              go_wp2_with (at_builtin; refine Tp.wpList_append_one rfl _ _ 167 rfl w.heap.size 5 i0 (.int .u8 0) 1 Try.underlying167 hi.out hz0.out hz1.out hz2.out rfl _ _ _ rfl hown 1 rfl rfl (by unfold maxLen; omega) (by omega) hbs ?_; intro v' w1 hown' hg' hbel' _)
              have hbel2 := hbel' _ _ hbel (Nat.le_refl _)
              replace hown' : w1.ownsRow w.heap.size 5 1 v' (k + 1) (lrow (s.data.toList.take (k + 1))) := by rw [hsn.out]; exact hown'
              clear hbel' hbel hown hg'
              go_roundg (s.size - (k + 1))
              case measure => omega
              case rel => exact ⟨k + 1, by omega, rfl, by go_num, ha2.out, hown', hbel2⟩
            · clear hcases hbig
              have hsn2 := hsn.out
              rw [q1] at hsn2
              replace hsn := Lib.hid hsn2
              go_wp2_with (at_builtin; refine Tp.wpList_append_one rfl _ _ 167 rfl w.heap.size 5 i0 (.int .u8 0) 1 Try.underlying167 hi.out hz0.out hz1.out hz2.out rfl _ _ _ rfl hown 1 rfl rfl (by unfold maxLen; omega) (by omega) hbs ?_; intro v' w1 hown' hg' hbel' _)
              have hbel2 := hbel' _ _ hbel (Nat.le_refl _)
              replace hown' : w1.ownsRow w.heap.size 5 1 v' (k + 1) (lrow (s.data.toList.take (k + 1))) := by rw [hsn.out]; exact hown'
              clear hbel' hbel hown hg'
              go_roundg (s.size - (k + 1))
              case measure => omega
              case rel => exact ⟨k + 1, by omega, rfl, by go_num, ha2.out, hown', hbel2⟩
            · clear hcases hbig
              have hsn2 := hsn.out
              rw [q1] at hsn2
              replace hsn := Lib.hid hsn2
              go_wp2_with (at_builtin; refine Tp.wpList_append_one rfl _ _ 167 rfl w.heap.size 5 i0 (.int .u8 0) 1 Try.underlying167 hi.out hz0.out hz1.out hz2.out rfl _ _ _ rfl hown 1 rfl rfl (by unfold maxLen; omega) (by omega) hbs ?_; intro v' w1 hown' hg' hbel' _)
              have hbel2 := hbel' _ _ hbel (Nat.le_refl _)
              replace hown' : w1.ownsRow w.heap.size 5 1 v' (k + 1) (lrow (s.data.toList.take (k + 1))) := by rw [hsn.out]; exact hown'
              clear hbel' hbel hown hg'
              go_roundg (s.size - (k + 1))
              case measure => omega
              case rel => exact ⟨k + 1, by omega, rfl, by go_num, ha2.out, hown', hbel2⟩
        · have hr := Lib.hid (foldV_no (foldOk_bad hlt (by simpa using hc)))
          have hcases := mt (okc_iff (s[k]'hlt)).2 hc
          have e45 : ((s[k].toNat : Int) == 45) = false := by simp; omega
          have e46 : ((s[k].toNat : Int) == 46) = false := by simp; omega
          replace hbel := Lib.hid hbel
          rcases (show (s[k].toNat : Int) < 48 ∨ ((57 : Int) < (s[k].toNat : Int) ∧ (s[k].toNat : Int) < 65) ∨ ((90 : Int) < (s[k].toNat : Int) ∧ (s[k].toNat : Int) < 97) ∨ (122 : Int) < (s[k].toNat : Int) from by omega) with q1 | ⟨q1, q2⟩ | ⟨q1, q2⟩ | q1
          all_goals
            clear ha hc hcases hown
            try (have d57 : decide ((s[k].toNat : Int) ≤ 57) = false := by (simp; omega))
            try (have d122 : decide ((s[k].toNat : Int) ≤ 122) = false := by (simp; omega))
            go_wp2
            go_ret2
            exact ⟨by rw [hr.out]; rfl, hbel.out⟩
      · have hk2 : k = s.size := by omega
        subst hk2
        rw [take_all s (Nat.le_refl _)] at ha hown
        have htx := lrow_text (len_data s) (by omega) hown
        have hr := Lib.hid (foldV_yes (foldOk_good (by omega) (by omega) ha))
        replace hbel := Lib.hid hbel
        clear ha hown
        go_wp2
        go_ret2
        exact ⟨by rw [hr.out]; rfl, hbel.out⟩
end Go.Proofs.Ytghfahhfiihneaa
