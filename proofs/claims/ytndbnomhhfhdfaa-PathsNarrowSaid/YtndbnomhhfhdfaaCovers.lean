/- The walks of what a host pattern covers. -/
import Derived.Test.YtndbnomhhfhdfaaTakes
namespace Go.Proofs.Ytndbnomhhfhdfaa
open Go.ChangeShapes Go.WideShapes Go.ChangeAt Go.RowKit
open Go.Pa
set_option linter.unusedVariables false

theorem suf_nil (c : UInt8) (p : Bs) : Lib.hasSuffix [] (c :: p) = false := by
  rw [Bool.eq_false_iff]; intro h
  have := (List.isSuffixOf_iff_suffix.1 h).length_le
  simp at this
theorem covers_no_a {a b : Bs} (h : (sortH a).1 = 3) : hostCovers a b = false := by unfold hostCovers; rw [if_pos (.inl h)]
theorem covers_no_b {a b : Bs} (h : (sortH b).1 = 3) : hostCovers a b = false := by unfold hostCovers; rw [if_pos (.inr h)]
theorem covers_eq {a b p q : Bs} {n m : Int} (h1 : sortH a = (n, p)) (h2 : sortH b = (m, q)) (h3 : ¬ (n = 3 ∨ m = 3)) : hostCovers a b = (decide (n = 2) || (decide (n = m) && (p == q) || (decide (n = 1) && Lib.hasSuffix q (46 :: p)))) := by
  unfold hostCovers
  rw [h1, h2, if_neg h3]
  by_cases hn : n = 2
  · rw [if_pos (.inl hn)]; simp [hn]
  · by_cases hm : n = m ∧ p = q
    · rw [if_pos (.inr hm)]; simp [hm.1, hm.2]
    · rw [if_neg (by rintro (h | h); exact hn h; exact hm h)]
      have e : (decide (n = m) && (p == q)) = false := by
        rw [Bool.eq_false_iff]; intro h; rw [Bool.and_eq_true, decide_eq_true_eq, beq_iff_eq] at h; exact hm h
      rw [e]; simp [hn]
      by_cases h1 : n = 1 <;> simp [h1]
set_option maxHeartbeats 4000000 in
theorem covhost27 (a b : ByteArray) (w : World) (ha : a.size ≤ maxLen) (hb : b.size ≤ maxLen) :
    Calls Try.prog 27 #[.string a, .string b] w fun e w' => e = .returned (.bool (hostCovers a.data.toList b.data.toList)) ∧ Below w.heap.size w w' := by
  have h1 := host36 a w ha
  have h2 := fun w => host36 b w hb
  rcases sort_cases a.data.toList with ⟨p, hp, hpl, hpl2⟩ | ⟨p, hp, hpl, hpl2⟩ | hp | hp
  · rw [hostV_eq hp] at h1
    rcases sort_cases b.data.toList with ⟨q, hq, hql, hql2⟩ | ⟨q, hq, hql, hql2⟩ | hq | hq
    · simp only [hostV_eq hq] at h2
      have hr := covers_eq hp hq (by decide)
      have e1 : ((B p).toList == (B q).toList) = (p == q) := by rw [eq_lists, B_data, B_data]
      rw [hr]
      replace h1 := Lib.hid h1
      replace h2 := Lib.hid h2
      clear hp hq hr
      generalize (p == q) = E at *
      cases E
      · go_enter Try.func27, Try.ntmps27
        go_wp2_with fail
        refine h1.out.mono ?_
        rintro e w1 ⟨rfl, hb1⟩
        have hh1 := Lib.hid (h2.out w1)
        replace hb1 := Lib.hid hb1
        go_wp2_with fail
        refine hh1.out.mono ?_
        rintro e w2 ⟨rfl, hb2⟩
        replace hb2 := Lib.hid hb2
        go_wp2
        go_ret
        first | exact ⟨rfl, Tp.Below_seq hb1.out hb2.out⟩ | exact ⟨ret_bool (by simp), Tp.Below_seq hb1.out hb2.out⟩
      · go_enter Try.func27, Try.ntmps27
        go_wp2_with fail
        refine h1.out.mono ?_
        rintro e w1 ⟨rfl, hb1⟩
        have hh1 := Lib.hid (h2.out w1)
        replace hb1 := Lib.hid hb1
        go_wp2_with fail
        refine hh1.out.mono ?_
        rintro e w2 ⟨rfl, hb2⟩
        replace hb2 := Lib.hid hb2
        go_wp2
        go_ret
        first | exact ⟨rfl, Tp.Below_seq hb1.out hb2.out⟩ | exact ⟨ret_bool (by simp), Tp.Below_seq hb1.out hb2.out⟩
    · simp only [hostV_eq hq] at h2
      have hr := covers_eq hp hq (by decide)
      rw [hr]
      replace h1 := Lib.hid h1
      replace h2 := Lib.hid h2
      clear hp hq hr
      go_enter Try.func27, Try.ntmps27
      go_wp2_with fail
      refine h1.out.mono ?_
      rintro e w1 ⟨rfl, hb1⟩
      have hh1 := Lib.hid (h2.out w1)
      replace hb1 := Lib.hid hb1
      go_wp2_with fail
      refine hh1.out.mono ?_
      rintro e w2 ⟨rfl, hb2⟩
      replace hb2 := Lib.hid hb2
      go_wp2
      go_ret
      first | exact ⟨rfl, Tp.Below_seq hb1.out hb2.out⟩ | exact ⟨ret_bool (by simp), Tp.Below_seq hb1.out hb2.out⟩
    · simp only [hostV_eq hq] at h2
      have hr := covers_eq hp hq (by decide)
      rw [hr]
      replace h1 := Lib.hid h1
      replace h2 := Lib.hid h2
      clear hp hq hr
      go_enter Try.func27, Try.ntmps27
      go_wp2_with fail
      refine h1.out.mono ?_
      rintro e w1 ⟨rfl, hb1⟩
      have hh1 := Lib.hid (h2.out w1)
      replace hb1 := Lib.hid hb1
      go_wp2_with fail
      refine hh1.out.mono ?_
      rintro e w2 ⟨rfl, hb2⟩
      replace hb2 := Lib.hid hb2
      go_wp2
      go_ret
      first | exact ⟨rfl, Tp.Below_seq hb1.out hb2.out⟩ | exact ⟨ret_bool (by simp), Tp.Below_seq hb1.out hb2.out⟩
    · simp only [hostV_eq hq] at h2
      have hr := covers_no_b (a := a.data.toList) (show (sortH b.data.toList).1 = 3 by rw [hq])
      rw [hr]
      replace h1 := Lib.hid h1
      replace h2 := Lib.hid h2
      clear hp hq hr
      go_enter Try.func27, Try.ntmps27
      go_wp2_with fail
      refine h1.out.mono ?_
      rintro e w1 ⟨rfl, hb1⟩
      have hh1 := Lib.hid (h2.out w1)
      replace hb1 := Lib.hid hb1
      go_wp2_with fail
      refine hh1.out.mono ?_
      rintro e w2 ⟨rfl, hb2⟩
      replace hb2 := Lib.hid hb2
      go_wp2
      go_ret
      first | exact ⟨rfl, Tp.Below_seq hb1.out hb2.out⟩ | exact ⟨ret_bool (by simp), Tp.Below_seq hb1.out hb2.out⟩
  · rw [hostV_eq hp] at h1
    rcases sort_cases b.data.toList with ⟨q, hq, hql, hql2⟩ | ⟨q, hq, hql, hql2⟩ | hq | hq
    · simp only [hostV_eq hq] at h2
      have hr := covers_eq hp hq (by decide)
      have hsz : (B p).size ≤ 64 := by rw [B_size]; exact hpl2
      have hsf := fun w => hassuf_any (B q) (⟨#[46]⟩ ++ B p) w (by rw [B_size]; unfold maxLen; omega) (dot_size p hpl2)
      simp only [B_data, dot_data] at hsf
      rw [hr]
      generalize Lib.hasSuffix q (46 :: p) = R at *
      replace hsf := Lib.hid hsf
      replace h1 := Lib.hid h1
      replace h2 := Lib.hid h2
      clear hp hq hr
      go_enter Try.func27, Try.ntmps27
      go_wp2_with fail
      refine h1.out.mono ?_
      rintro e w1 ⟨rfl, hb1⟩
      have hh1 := Lib.hid (h2.out w1)
      replace hb1 := Lib.hid hb1
      go_wp2_with fail
      refine hh1.out.mono ?_
      rintro e w2 ⟨rfl, hb2⟩
      replace hb2 := Lib.hid hb2
      go_wp2_with (go_at_call 44; refine (hsf.out _).mono ?_; rintro e w' ⟨rfl, rfl⟩)
      go_ret
      first | exact ⟨rfl, Tp.Below_seq hb1.out hb2.out⟩ | exact ⟨ret_bool (by simp), Tp.Below_seq hb1.out hb2.out⟩
    · simp only [hostV_eq hq] at h2
      have hr := covers_eq hp hq (by decide)
      have e1 : ((B p).toList == (B q).toList) = (p == q) := by rw [eq_lists, B_data, B_data]
      have hsz : (B p).size ≤ 64 := by rw [B_size]; exact hpl2
      have hsf := fun w => hassuf_any (B q) (⟨#[46]⟩ ++ B p) w (by rw [B_size]; unfold maxLen; omega) (dot_size p hpl2)
      simp only [B_data, dot_data] at hsf
      rw [hr]
      generalize Lib.hasSuffix q (46 :: p) = R at *
      replace hsf := Lib.hid hsf
      replace h1 := Lib.hid h1
      replace h2 := Lib.hid h2
      clear hp hq hr
      generalize (p == q) = E at *
      cases E
      · go_enter Try.func27, Try.ntmps27
        go_wp2_with fail
        refine h1.out.mono ?_
        rintro e w1 ⟨rfl, hb1⟩
        have hh1 := Lib.hid (h2.out w1)
        replace hb1 := Lib.hid hb1
        go_wp2_with fail
        refine hh1.out.mono ?_
        rintro e w2 ⟨rfl, hb2⟩
        replace hb2 := Lib.hid hb2
        go_wp2_with (go_at_call 44; refine (hsf.out _).mono ?_; rintro e w' ⟨rfl, rfl⟩)
        go_ret
        first | exact ⟨rfl, Tp.Below_seq hb1.out hb2.out⟩ | exact ⟨ret_bool (by simp), Tp.Below_seq hb1.out hb2.out⟩
      · go_enter Try.func27, Try.ntmps27
        go_wp2_with fail
        refine h1.out.mono ?_
        rintro e w1 ⟨rfl, hb1⟩
        have hh1 := Lib.hid (h2.out w1)
        replace hb1 := Lib.hid hb1
        go_wp2_with fail
        refine hh1.out.mono ?_
        rintro e w2 ⟨rfl, hb2⟩
        replace hb2 := Lib.hid hb2
        go_wp2_with (go_at_call 44; refine (hsf.out _).mono ?_; rintro e w' ⟨rfl, rfl⟩)
        go_ret
        first | exact ⟨rfl, Tp.Below_seq hb1.out hb2.out⟩ | exact ⟨ret_bool (by simp), Tp.Below_seq hb1.out hb2.out⟩
    · simp only [hostV_eq hq] at h2
      have hr := covers_eq hp hq (by decide)
      have hsz : (B p).size ≤ 64 := by rw [B_size]; exact hpl2
      have hsf := fun w => hassuf_any (B []) (⟨#[46]⟩ ++ B p) w (by rw [B_size]; decide) (dot_size p hpl2)
      simp only [B_data, dot_data] at hsf
      rw [hr]
      generalize Lib.hasSuffix [] (46 :: p) = R at *
      replace hsf := Lib.hid hsf
      replace h1 := Lib.hid h1
      replace h2 := Lib.hid h2
      clear hp hq hr
      go_enter Try.func27, Try.ntmps27
      go_wp2_with fail
      refine h1.out.mono ?_
      rintro e w1 ⟨rfl, hb1⟩
      have hh1 := Lib.hid (h2.out w1)
      replace hb1 := Lib.hid hb1
      go_wp2_with fail
      refine hh1.out.mono ?_
      rintro e w2 ⟨rfl, hb2⟩
      replace hb2 := Lib.hid hb2
      go_wp2_with (go_at_call 44; refine (hsf.out _).mono ?_; rintro e w' ⟨rfl, rfl⟩)
      go_ret
      first | exact ⟨rfl, Tp.Below_seq hb1.out hb2.out⟩ | exact ⟨ret_bool (by simp), Tp.Below_seq hb1.out hb2.out⟩
    · simp only [hostV_eq hq] at h2
      have hr := covers_no_b (a := a.data.toList) (show (sortH b.data.toList).1 = 3 by rw [hq])
      rw [hr]
      replace h1 := Lib.hid h1
      replace h2 := Lib.hid h2
      clear hp hq hr
      go_enter Try.func27, Try.ntmps27
      go_wp2_with fail
      refine h1.out.mono ?_
      rintro e w1 ⟨rfl, hb1⟩
      have hh1 := Lib.hid (h2.out w1)
      replace hb1 := Lib.hid hb1
      go_wp2_with fail
      refine hh1.out.mono ?_
      rintro e w2 ⟨rfl, hb2⟩
      replace hb2 := Lib.hid hb2
      go_wp2
      go_ret
      first | exact ⟨rfl, Tp.Below_seq hb1.out hb2.out⟩ | exact ⟨ret_bool (by simp), Tp.Below_seq hb1.out hb2.out⟩
  · rw [hostV_eq hp] at h1
    rcases sort_cases b.data.toList with ⟨q, hq, hql, hql2⟩ | ⟨q, hq, hql, hql2⟩ | hq | hq
    · simp only [hostV_eq hq] at h2
      have hr := covers_eq hp hq (by decide)
      rw [hr]
      replace h1 := Lib.hid h1
      replace h2 := Lib.hid h2
      clear hp hq hr
      go_enter Try.func27, Try.ntmps27
      go_wp2_with fail
      refine h1.out.mono ?_
      rintro e w1 ⟨rfl, hb1⟩
      have hh1 := Lib.hid (h2.out w1)
      replace hb1 := Lib.hid hb1
      go_wp2_with fail
      refine hh1.out.mono ?_
      rintro e w2 ⟨rfl, hb2⟩
      replace hb2 := Lib.hid hb2
      go_wp2
      go_ret
      first | exact ⟨rfl, Tp.Below_seq hb1.out hb2.out⟩ | exact ⟨ret_bool (by simp), Tp.Below_seq hb1.out hb2.out⟩
    · simp only [hostV_eq hq] at h2
      have hr := covers_eq hp hq (by decide)
      rw [hr]
      replace h1 := Lib.hid h1
      replace h2 := Lib.hid h2
      clear hp hq hr
      go_enter Try.func27, Try.ntmps27
      go_wp2_with fail
      refine h1.out.mono ?_
      rintro e w1 ⟨rfl, hb1⟩
      have hh1 := Lib.hid (h2.out w1)
      replace hb1 := Lib.hid hb1
      go_wp2_with fail
      refine hh1.out.mono ?_
      rintro e w2 ⟨rfl, hb2⟩
      replace hb2 := Lib.hid hb2
      go_wp2
      go_ret
      first | exact ⟨rfl, Tp.Below_seq hb1.out hb2.out⟩ | exact ⟨ret_bool (by simp), Tp.Below_seq hb1.out hb2.out⟩
    · simp only [hostV_eq hq] at h2
      have hr := covers_eq hp hq (by decide)
      rw [hr]
      replace h1 := Lib.hid h1
      replace h2 := Lib.hid h2
      clear hp hq hr
      go_enter Try.func27, Try.ntmps27
      go_wp2_with fail
      refine h1.out.mono ?_
      rintro e w1 ⟨rfl, hb1⟩
      have hh1 := Lib.hid (h2.out w1)
      replace hb1 := Lib.hid hb1
      go_wp2_with fail
      refine hh1.out.mono ?_
      rintro e w2 ⟨rfl, hb2⟩
      replace hb2 := Lib.hid hb2
      go_wp2
      go_ret
      first | exact ⟨rfl, Tp.Below_seq hb1.out hb2.out⟩ | exact ⟨ret_bool (by simp), Tp.Below_seq hb1.out hb2.out⟩
    · simp only [hostV_eq hq] at h2
      have hr := covers_no_b (a := a.data.toList) (show (sortH b.data.toList).1 = 3 by rw [hq])
      rw [hr]
      replace h1 := Lib.hid h1
      replace h2 := Lib.hid h2
      clear hp hq hr
      go_enter Try.func27, Try.ntmps27
      go_wp2_with fail
      refine h1.out.mono ?_
      rintro e w1 ⟨rfl, hb1⟩
      have hh1 := Lib.hid (h2.out w1)
      replace hb1 := Lib.hid hb1
      go_wp2_with fail
      refine hh1.out.mono ?_
      rintro e w2 ⟨rfl, hb2⟩
      replace hb2 := Lib.hid hb2
      go_wp2
      go_ret
      first | exact ⟨rfl, Tp.Below_seq hb1.out hb2.out⟩ | exact ⟨ret_bool (by simp), Tp.Below_seq hb1.out hb2.out⟩
  · rw [hostV_eq hp] at h1
    rcases sort_cases b.data.toList with ⟨q, hq, hql, hql2⟩ | ⟨q, hq, hql, hql2⟩ | hq | hq
    · simp only [hostV_eq hq] at h2
      have hr := covers_no_a (b := b.data.toList) (show (sortH a.data.toList).1 = 3 by rw [hp])
      rw [hr]
      replace h1 := Lib.hid h1
      replace h2 := Lib.hid h2
      clear hp hq hr
      go_enter Try.func27, Try.ntmps27
      go_wp2_with fail
      refine h1.out.mono ?_
      rintro e w1 ⟨rfl, hb1⟩
      have hh1 := Lib.hid (h2.out w1)
      replace hb1 := Lib.hid hb1
      go_wp2_with fail
      refine hh1.out.mono ?_
      rintro e w2 ⟨rfl, hb2⟩
      replace hb2 := Lib.hid hb2
      go_wp2
      go_ret
      first | exact ⟨rfl, Tp.Below_seq hb1.out hb2.out⟩ | exact ⟨ret_bool (by simp), Tp.Below_seq hb1.out hb2.out⟩
    · simp only [hostV_eq hq] at h2
      have hr := covers_no_a (b := b.data.toList) (show (sortH a.data.toList).1 = 3 by rw [hp])
      rw [hr]
      replace h1 := Lib.hid h1
      replace h2 := Lib.hid h2
      clear hp hq hr
      go_enter Try.func27, Try.ntmps27
      go_wp2_with fail
      refine h1.out.mono ?_
      rintro e w1 ⟨rfl, hb1⟩
      have hh1 := Lib.hid (h2.out w1)
      replace hb1 := Lib.hid hb1
      go_wp2_with fail
      refine hh1.out.mono ?_
      rintro e w2 ⟨rfl, hb2⟩
      replace hb2 := Lib.hid hb2
      go_wp2
      go_ret
      first | exact ⟨rfl, Tp.Below_seq hb1.out hb2.out⟩ | exact ⟨ret_bool (by simp), Tp.Below_seq hb1.out hb2.out⟩
    · simp only [hostV_eq hq] at h2
      have hr := covers_no_a (b := b.data.toList) (show (sortH a.data.toList).1 = 3 by rw [hp])
      rw [hr]
      replace h1 := Lib.hid h1
      replace h2 := Lib.hid h2
      clear hp hq hr
      go_enter Try.func27, Try.ntmps27
      go_wp2_with fail
      refine h1.out.mono ?_
      rintro e w1 ⟨rfl, hb1⟩
      have hh1 := Lib.hid (h2.out w1)
      replace hb1 := Lib.hid hb1
      go_wp2_with fail
      refine hh1.out.mono ?_
      rintro e w2 ⟨rfl, hb2⟩
      replace hb2 := Lib.hid hb2
      go_wp2
      go_ret
      first | exact ⟨rfl, Tp.Below_seq hb1.out hb2.out⟩ | exact ⟨ret_bool (by simp), Tp.Below_seq hb1.out hb2.out⟩
    · simp only [hostV_eq hq] at h2
      have hr := covers_no_a (b := b.data.toList) (show (sortH a.data.toList).1 = 3 by rw [hp])
      rw [hr]
      replace h1 := Lib.hid h1
      replace h2 := Lib.hid h2
      clear hp hq hr
      go_enter Try.func27, Try.ntmps27
      go_wp2_with fail
      refine h1.out.mono ?_
      rintro e w1 ⟨rfl, hb1⟩
      have hh1 := Lib.hid (h2.out w1)
      replace hb1 := Lib.hid hb1
      go_wp2_with fail
      refine hh1.out.mono ?_
      rintro e w2 ⟨rfl, hb2⟩
      replace hb2 := Lib.hid hb2
      go_wp2
      go_ret
      first | exact ⟨rfl, Tp.Below_seq hb1.out hb2.out⟩ | exact ⟨ret_bool (by simp), Tp.Below_seq hb1.out hb2.out⟩
set_option maxHeartbeats 4000000 in
theorem covhost28 (a b : ByteArray) (w : World) (ha : a.size ≤ maxLen) (hb : b.size ≤ maxLen) :
    Calls Try.prog 28 #[.string a, .string b] w fun e w' => e = .returned (.bool (hostCovers a.data.toList b.data.toList)) ∧ Below w.heap.size w w' := by
  have h1 := sort37 a w ha
  have h2 := fun w => sort37 b w hb
  rcases sort_cases a.data.toList with ⟨p, hp, hpl, hpl2⟩ | ⟨p, hp, hpl, hpl2⟩ | hp | hp
  · rw [sortV_eq hp] at h1
    rcases sort_cases b.data.toList with ⟨q, hq, hql, hql2⟩ | ⟨q, hq, hql, hql2⟩ | hq | hq
    · simp only [sortV_eq hq] at h2
      have hr := covers_eq hp hq (by decide)
      have e1 : ((B p).toList == (B q).toList) = (p == q) := by rw [eq_lists, B_data, B_data]
      rw [hr]
      replace h1 := Lib.hid h1
      replace h2 := Lib.hid h2
      clear hp hq hr
      generalize (p == q) = E at *
      cases E
      · go_enter Try.func28, Try.ntmps28
        go_wp2_with fail
        refine h1.out.mono ?_
        rintro e w1 ⟨rfl, hb1⟩
        have hh1 := Lib.hid (h2.out w1)
        replace hb1 := Lib.hid hb1
        go_wp2_with fail
        refine hh1.out.mono ?_
        rintro e w2 ⟨rfl, hb2⟩
        replace hb2 := Lib.hid hb2
        go_wp2
        go_ret
        first | exact ⟨rfl, Tp.Below_seq hb1.out hb2.out⟩ | exact ⟨ret_bool (by simp), Tp.Below_seq hb1.out hb2.out⟩
      · go_enter Try.func28, Try.ntmps28
        go_wp2_with fail
        refine h1.out.mono ?_
        rintro e w1 ⟨rfl, hb1⟩
        have hh1 := Lib.hid (h2.out w1)
        replace hb1 := Lib.hid hb1
        go_wp2_with fail
        refine hh1.out.mono ?_
        rintro e w2 ⟨rfl, hb2⟩
        replace hb2 := Lib.hid hb2
        go_wp2
        go_ret
        first | exact ⟨rfl, Tp.Below_seq hb1.out hb2.out⟩ | exact ⟨ret_bool (by simp), Tp.Below_seq hb1.out hb2.out⟩
    · simp only [sortV_eq hq] at h2
      have hr := covers_eq hp hq (by decide)
      rw [hr]
      replace h1 := Lib.hid h1
      replace h2 := Lib.hid h2
      clear hp hq hr
      go_enter Try.func28, Try.ntmps28
      go_wp2_with fail
      refine h1.out.mono ?_
      rintro e w1 ⟨rfl, hb1⟩
      have hh1 := Lib.hid (h2.out w1)
      replace hb1 := Lib.hid hb1
      go_wp2_with fail
      refine hh1.out.mono ?_
      rintro e w2 ⟨rfl, hb2⟩
      replace hb2 := Lib.hid hb2
      go_wp2
      go_ret
      first | exact ⟨rfl, Tp.Below_seq hb1.out hb2.out⟩ | exact ⟨ret_bool (by simp), Tp.Below_seq hb1.out hb2.out⟩
    · simp only [sortV_eq hq] at h2
      have hr := covers_eq hp hq (by decide)
      rw [hr]
      replace h1 := Lib.hid h1
      replace h2 := Lib.hid h2
      clear hp hq hr
      go_enter Try.func28, Try.ntmps28
      go_wp2_with fail
      refine h1.out.mono ?_
      rintro e w1 ⟨rfl, hb1⟩
      have hh1 := Lib.hid (h2.out w1)
      replace hb1 := Lib.hid hb1
      go_wp2_with fail
      refine hh1.out.mono ?_
      rintro e w2 ⟨rfl, hb2⟩
      replace hb2 := Lib.hid hb2
      go_wp2
      go_ret
      first | exact ⟨rfl, Tp.Below_seq hb1.out hb2.out⟩ | exact ⟨ret_bool (by simp), Tp.Below_seq hb1.out hb2.out⟩
    · simp only [sortV_eq hq] at h2
      have hr := covers_no_b (a := a.data.toList) (show (sortH b.data.toList).1 = 3 by rw [hq])
      rw [hr]
      replace h1 := Lib.hid h1
      replace h2 := Lib.hid h2
      clear hp hq hr
      go_enter Try.func28, Try.ntmps28
      go_wp2_with fail
      refine h1.out.mono ?_
      rintro e w1 ⟨rfl, hb1⟩
      have hh1 := Lib.hid (h2.out w1)
      replace hb1 := Lib.hid hb1
      go_wp2_with fail
      refine hh1.out.mono ?_
      rintro e w2 ⟨rfl, hb2⟩
      replace hb2 := Lib.hid hb2
      go_wp2
      go_ret
      first | exact ⟨rfl, Tp.Below_seq hb1.out hb2.out⟩ | exact ⟨ret_bool (by simp), Tp.Below_seq hb1.out hb2.out⟩
  · rw [sortV_eq hp] at h1
    rcases sort_cases b.data.toList with ⟨q, hq, hql, hql2⟩ | ⟨q, hq, hql, hql2⟩ | hq | hq
    · simp only [sortV_eq hq] at h2
      have hr := covers_eq hp hq (by decide)
      have hsz : (B p).size ≤ 64 := by rw [B_size]; exact hpl2
      have hsf := fun w => ends_any (B q) (⟨#[46]⟩ ++ B p) w (by rw [B_size]; unfold maxLen; omega) (dot_size p hpl2)
      simp only [B_data, dot_data] at hsf
      rw [hr]
      generalize Lib.hasSuffix q (46 :: p) = R at *
      replace hsf := Lib.hid hsf
      replace h1 := Lib.hid h1
      replace h2 := Lib.hid h2
      clear hp hq hr
      go_enter Try.func28, Try.ntmps28
      go_wp2_with fail
      refine h1.out.mono ?_
      rintro e w1 ⟨rfl, hb1⟩
      have hh1 := Lib.hid (h2.out w1)
      replace hb1 := Lib.hid hb1
      go_wp2_with fail
      refine hh1.out.mono ?_
      rintro e w2 ⟨rfl, hb2⟩
      replace hb2 := Lib.hid hb2
      go_wp2_with (go_at_call 45; refine (hsf.out _).mono ?_; rintro e w' ⟨rfl, rfl⟩)
      go_ret
      first | exact ⟨rfl, Tp.Below_seq hb1.out hb2.out⟩ | exact ⟨ret_bool (by simp), Tp.Below_seq hb1.out hb2.out⟩
    · simp only [sortV_eq hq] at h2
      have hr := covers_eq hp hq (by decide)
      have e1 : ((B p).toList == (B q).toList) = (p == q) := by rw [eq_lists, B_data, B_data]
      have hsz : (B p).size ≤ 64 := by rw [B_size]; exact hpl2
      have hsf := fun w => ends_any (B q) (⟨#[46]⟩ ++ B p) w (by rw [B_size]; unfold maxLen; omega) (dot_size p hpl2)
      simp only [B_data, dot_data] at hsf
      rw [hr]
      generalize Lib.hasSuffix q (46 :: p) = R at *
      replace hsf := Lib.hid hsf
      replace h1 := Lib.hid h1
      replace h2 := Lib.hid h2
      clear hp hq hr
      generalize (p == q) = E at *
      cases E
      · go_enter Try.func28, Try.ntmps28
        go_wp2_with fail
        refine h1.out.mono ?_
        rintro e w1 ⟨rfl, hb1⟩
        have hh1 := Lib.hid (h2.out w1)
        replace hb1 := Lib.hid hb1
        go_wp2_with fail
        refine hh1.out.mono ?_
        rintro e w2 ⟨rfl, hb2⟩
        replace hb2 := Lib.hid hb2
        go_wp2_with (go_at_call 45; refine (hsf.out _).mono ?_; rintro e w' ⟨rfl, rfl⟩)
        go_ret
        first | exact ⟨rfl, Tp.Below_seq hb1.out hb2.out⟩ | exact ⟨ret_bool (by simp), Tp.Below_seq hb1.out hb2.out⟩
      · go_enter Try.func28, Try.ntmps28
        go_wp2_with fail
        refine h1.out.mono ?_
        rintro e w1 ⟨rfl, hb1⟩
        have hh1 := Lib.hid (h2.out w1)
        replace hb1 := Lib.hid hb1
        go_wp2_with fail
        refine hh1.out.mono ?_
        rintro e w2 ⟨rfl, hb2⟩
        replace hb2 := Lib.hid hb2
        go_wp2_with (go_at_call 45; refine (hsf.out _).mono ?_; rintro e w' ⟨rfl, rfl⟩)
        go_ret
        first | exact ⟨rfl, Tp.Below_seq hb1.out hb2.out⟩ | exact ⟨ret_bool (by simp), Tp.Below_seq hb1.out hb2.out⟩
    · simp only [sortV_eq hq] at h2
      have hr := covers_eq hp hq (by decide)
      rw [hr]
      rw [suf_nil]
      replace h1 := Lib.hid h1
      replace h2 := Lib.hid h2
      clear hp hq hr
      go_enter Try.func28, Try.ntmps28
      go_wp2_with fail
      refine h1.out.mono ?_
      rintro e w1 ⟨rfl, hb1⟩
      have hh1 := Lib.hid (h2.out w1)
      replace hb1 := Lib.hid hb1
      go_wp2_with fail
      refine hh1.out.mono ?_
      rintro e w2 ⟨rfl, hb2⟩
      replace hb2 := Lib.hid hb2
      go_wp2
      go_ret
      first | exact ⟨rfl, Tp.Below_seq hb1.out hb2.out⟩ | exact ⟨ret_bool (by simp), Tp.Below_seq hb1.out hb2.out⟩
    · simp only [sortV_eq hq] at h2
      have hr := covers_no_b (a := a.data.toList) (show (sortH b.data.toList).1 = 3 by rw [hq])
      rw [hr]
      replace h1 := Lib.hid h1
      replace h2 := Lib.hid h2
      clear hp hq hr
      go_enter Try.func28, Try.ntmps28
      go_wp2_with fail
      refine h1.out.mono ?_
      rintro e w1 ⟨rfl, hb1⟩
      have hh1 := Lib.hid (h2.out w1)
      replace hb1 := Lib.hid hb1
      go_wp2_with fail
      refine hh1.out.mono ?_
      rintro e w2 ⟨rfl, hb2⟩
      replace hb2 := Lib.hid hb2
      go_wp2
      go_ret
      first | exact ⟨rfl, Tp.Below_seq hb1.out hb2.out⟩ | exact ⟨ret_bool (by simp), Tp.Below_seq hb1.out hb2.out⟩
  · rw [sortV_eq hp] at h1
    rcases sort_cases b.data.toList with ⟨q, hq, hql, hql2⟩ | ⟨q, hq, hql, hql2⟩ | hq | hq
    · simp only [sortV_eq hq] at h2
      have hr := covers_eq hp hq (by decide)
      rw [hr]
      replace h1 := Lib.hid h1
      replace h2 := Lib.hid h2
      clear hp hq hr
      go_enter Try.func28, Try.ntmps28
      go_wp2_with fail
      refine h1.out.mono ?_
      rintro e w1 ⟨rfl, hb1⟩
      have hh1 := Lib.hid (h2.out w1)
      replace hb1 := Lib.hid hb1
      go_wp2_with fail
      refine hh1.out.mono ?_
      rintro e w2 ⟨rfl, hb2⟩
      replace hb2 := Lib.hid hb2
      go_wp2
      go_ret
      first | exact ⟨rfl, Tp.Below_seq hb1.out hb2.out⟩ | exact ⟨ret_bool (by simp), Tp.Below_seq hb1.out hb2.out⟩
    · simp only [sortV_eq hq] at h2
      have hr := covers_eq hp hq (by decide)
      rw [hr]
      replace h1 := Lib.hid h1
      replace h2 := Lib.hid h2
      clear hp hq hr
      go_enter Try.func28, Try.ntmps28
      go_wp2_with fail
      refine h1.out.mono ?_
      rintro e w1 ⟨rfl, hb1⟩
      have hh1 := Lib.hid (h2.out w1)
      replace hb1 := Lib.hid hb1
      go_wp2_with fail
      refine hh1.out.mono ?_
      rintro e w2 ⟨rfl, hb2⟩
      replace hb2 := Lib.hid hb2
      go_wp2
      go_ret
      first | exact ⟨rfl, Tp.Below_seq hb1.out hb2.out⟩ | exact ⟨ret_bool (by simp), Tp.Below_seq hb1.out hb2.out⟩
    · simp only [sortV_eq hq] at h2
      have hr := covers_eq hp hq (by decide)
      rw [hr]
      replace h1 := Lib.hid h1
      replace h2 := Lib.hid h2
      clear hp hq hr
      go_enter Try.func28, Try.ntmps28
      go_wp2_with fail
      refine h1.out.mono ?_
      rintro e w1 ⟨rfl, hb1⟩
      have hh1 := Lib.hid (h2.out w1)
      replace hb1 := Lib.hid hb1
      go_wp2_with fail
      refine hh1.out.mono ?_
      rintro e w2 ⟨rfl, hb2⟩
      replace hb2 := Lib.hid hb2
      go_wp2
      go_ret
      first | exact ⟨rfl, Tp.Below_seq hb1.out hb2.out⟩ | exact ⟨ret_bool (by simp), Tp.Below_seq hb1.out hb2.out⟩
    · simp only [sortV_eq hq] at h2
      have hr := covers_no_b (a := a.data.toList) (show (sortH b.data.toList).1 = 3 by rw [hq])
      rw [hr]
      replace h1 := Lib.hid h1
      replace h2 := Lib.hid h2
      clear hp hq hr
      go_enter Try.func28, Try.ntmps28
      go_wp2_with fail
      refine h1.out.mono ?_
      rintro e w1 ⟨rfl, hb1⟩
      have hh1 := Lib.hid (h2.out w1)
      replace hb1 := Lib.hid hb1
      go_wp2_with fail
      refine hh1.out.mono ?_
      rintro e w2 ⟨rfl, hb2⟩
      replace hb2 := Lib.hid hb2
      go_wp2
      go_ret
      first | exact ⟨rfl, Tp.Below_seq hb1.out hb2.out⟩ | exact ⟨ret_bool (by simp), Tp.Below_seq hb1.out hb2.out⟩
  · rw [sortV_eq hp] at h1
    rcases sort_cases b.data.toList with ⟨q, hq, hql, hql2⟩ | ⟨q, hq, hql, hql2⟩ | hq | hq
    · simp only [sortV_eq hq] at h2
      have hr := covers_no_a (b := b.data.toList) (show (sortH a.data.toList).1 = 3 by rw [hp])
      rw [hr]
      replace h1 := Lib.hid h1
      replace h2 := Lib.hid h2
      clear hp hq hr
      go_enter Try.func28, Try.ntmps28
      go_wp2_with fail
      refine h1.out.mono ?_
      rintro e w1 ⟨rfl, hb1⟩
      have hh1 := Lib.hid (h2.out w1)
      replace hb1 := Lib.hid hb1
      go_wp2_with fail
      refine hh1.out.mono ?_
      rintro e w2 ⟨rfl, hb2⟩
      replace hb2 := Lib.hid hb2
      go_wp2
      go_ret
      first | exact ⟨rfl, Tp.Below_seq hb1.out hb2.out⟩ | exact ⟨ret_bool (by simp), Tp.Below_seq hb1.out hb2.out⟩
    · simp only [sortV_eq hq] at h2
      have hr := covers_no_a (b := b.data.toList) (show (sortH a.data.toList).1 = 3 by rw [hp])
      rw [hr]
      replace h1 := Lib.hid h1
      replace h2 := Lib.hid h2
      clear hp hq hr
      go_enter Try.func28, Try.ntmps28
      go_wp2_with fail
      refine h1.out.mono ?_
      rintro e w1 ⟨rfl, hb1⟩
      have hh1 := Lib.hid (h2.out w1)
      replace hb1 := Lib.hid hb1
      go_wp2_with fail
      refine hh1.out.mono ?_
      rintro e w2 ⟨rfl, hb2⟩
      replace hb2 := Lib.hid hb2
      go_wp2
      go_ret
      first | exact ⟨rfl, Tp.Below_seq hb1.out hb2.out⟩ | exact ⟨ret_bool (by simp), Tp.Below_seq hb1.out hb2.out⟩
    · simp only [sortV_eq hq] at h2
      have hr := covers_no_a (b := b.data.toList) (show (sortH a.data.toList).1 = 3 by rw [hp])
      rw [hr]
      replace h1 := Lib.hid h1
      replace h2 := Lib.hid h2
      clear hp hq hr
      go_enter Try.func28, Try.ntmps28
      go_wp2_with fail
      refine h1.out.mono ?_
      rintro e w1 ⟨rfl, hb1⟩
      have hh1 := Lib.hid (h2.out w1)
      replace hb1 := Lib.hid hb1
      go_wp2_with fail
      refine hh1.out.mono ?_
      rintro e w2 ⟨rfl, hb2⟩
      replace hb2 := Lib.hid hb2
      go_wp2
      go_ret
      first | exact ⟨rfl, Tp.Below_seq hb1.out hb2.out⟩ | exact ⟨ret_bool (by simp), Tp.Below_seq hb1.out hb2.out⟩
    · simp only [sortV_eq hq] at h2
      have hr := covers_no_a (b := b.data.toList) (show (sortH a.data.toList).1 = 3 by rw [hp])
      rw [hr]
      replace h1 := Lib.hid h1
      replace h2 := Lib.hid h2
      clear hp hq hr
      go_enter Try.func28, Try.ntmps28
      go_wp2_with fail
      refine h1.out.mono ?_
      rintro e w1 ⟨rfl, hb1⟩
      have hh1 := Lib.hid (h2.out w1)
      replace hb1 := Lib.hid hb1
      go_wp2_with fail
      refine hh1.out.mono ?_
      rintro e w2 ⟨rfl, hb2⟩
      replace hb2 := Lib.hid hb2
      go_wp2
      go_ret
      first | exact ⟨rfl, Tp.Below_seq hb1.out hb2.out⟩ | exact ⟨ret_bool (by simp), Tp.Below_seq hb1.out hb2.out⟩
end Go.Proofs.Ytndbnomhhfhdfaa
