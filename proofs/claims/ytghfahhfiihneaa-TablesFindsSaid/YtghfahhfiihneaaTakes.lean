/- The walks of host patterns: which texts they are, what they take, what they cover. -/
import Derived.Test.YtghfahhfiihneaaHost
namespace Go.Proofs.Ytghfahhfiihneaa
open Go.ChangeShapes Go.WideShapes Go.ChangeAt Go.RowKit
open Go.Pa
set_option linter.unusedVariables false

theorem foldH_len {l h : Bs} (e : foldH l = some h) : 1 ≤ h.length ∧ h.length ≤ 64 := by
  unfold foldH at e
  split at e
  · rename_i hk
    cases e
    unfold foldOk at hk
    simp only [Bool.and_eq_true, decide_eq_true_eq] at hk
    rw [List.length_map]; exact ⟨hk.1, hk.2.1⟩
  · cases e
/-- What a sort comes to. -/
theorem sort_cases (l : Bs) : (∃ q, sortH l = (0, q) ∧ 1 ≤ q.length ∧ q.length ≤ 64) ∨ (∃ q, sortH l = (1, q) ∧ 1 ≤ q.length ∧ q.length ≤ 64) ∨ sortH l = (2, []) ∨ sortH l = (3, l) := by
  by_cases h1 : l = [42]
  · exact .inr (.inr (.inl (by unfold sortH; rw [if_pos h1])))
  · by_cases h2 : Lib.hasPrefix l [42, 46] = true
    · cases h3 : foldH (l.drop 2) with
      | none => exact .inr (.inr (.inr (sort_un h1 h2 h3)))
      | some h => exact .inr (.inl ⟨h, sort_us h1 h2 h3, foldH_len h3⟩)
    · have h2' : Lib.hasPrefix l [42, 46] = false := by simpa using h2
      cases h3 : foldH l with
      | none => exact .inr (.inr (.inr (sort_n h1 h2' h3)))
      | some h => exact .inl ⟨h, sort_s h1 h2' h3, foldH_len h3⟩
theorem hostV_eq {l q : Bs} {n : Int} (h : sortH l = (n, q)) : HostV l = .tuple #[.int .i64 n, .string (B q)] := by unfold HostV; rw [h]
theorem sortV_eq {l q : Bs} {n : Int} (h : sortH l = (n, q)) : SortV l = .tuple #[.int .i64 (n + 1), .string (B q)] := by unfold SortV; rw [h]

theorem dot_data (q : Bs) : (⟨#[46]⟩ ++ B q : ByteArray).data.toList = 46 :: q := by simp [B]
theorem dot_size (q : Bs) (h : q.length ≤ 64) : (⟨#[46]⟩ ++ B q : ByteArray).size ≤ maxLen := by rw [← len_data, dot_data]; unfold maxLen; simp; omega
theorem takes_none {p n : Bs} (h : foldH n = none) : hostTakes p n = false := by unfold hostTakes; rw [h]
theorem takes0 {p n h q : Bs} (h1 : foldH n = some h) (h2 : sortH p = (0, q)) : hostTakes p n = (q == h) := by unfold hostTakes; rw [h1, h2]; rfl
theorem takes1 {p n h q : Bs} (h1 : foldH n = some h) (h2 : sortH p = (1, q)) : hostTakes p n = Lib.hasSuffix h (46 :: q) := by unfold hostTakes; rw [h1, h2]; rfl
theorem takes2 {p n h q : Bs} (h1 : foldH n = some h) (h2 : sortH p = (2, q)) : hostTakes p n = true := by unfold hostTakes; rw [h1, h2]; rfl
theorem takes3 {p n h q : Bs} (h1 : foldH n = some h) (h2 : sortH p = (3, q)) : hostTakes p n = false := by unfold hostTakes; rw [h1, h2]; rfl

set_option maxHeartbeats 1000000 in
theorem host19 (p n : ByteArray) (w : World) (hp : p.size ≤ maxLen) (hn : n.size ≤ maxLen) :
    Calls Try.prog 40 #[.string p, .string n] w fun e w' => e = .returned (.bool (hostTakes p.data.toList n.data.toList)) ∧ Below w.heap.size w w' := by
  have hf := fold_any n w hn
  have hh := fun w => host36 p w hp
  cases hfo : foldH n.data.toList with
  | none =>
    rw [foldV_none hfo] at hf
    have hr := Lib.hid (takes_none (p := p.data.toList) hfo)
    replace hf := Lib.hid hf
    clear hh hfo
    go_enter Try.func40, Try.ntmps40
    go_wp2_with (go_at_call 81; refine hf.out.mono ?_; rintro e w' ⟨rfl, hb⟩)
    go_ret
    exact ⟨ret_bool hr.out.symm, hb⟩
  | some h =>
    rw [foldV_some hfo] at hf
    have hsl := (foldH_len hfo).2
    replace hf := Lib.hid hf
    rcases sort_cases p.data.toList with ⟨q, hq, hl1, hl2⟩ | ⟨q, hq, hl1, hl2⟩ | hq | hq
    · simp only [hostV_eq hq] at hh
      have hr := takes0 hfo hq
      have e1 : ((B q).toList == (B h).toList) = (q == h) := by rw [eq_lists, B_data, B_data]
      replace hr := Lib.hid (e1.trans hr.symm)
      replace hh := Lib.hid hh
      clear hfo hq e1
      go_enter Try.func40, Try.ntmps40
      go_wp2_with fail
      refine hf.out.mono ?_
      rintro e w1 ⟨rfl, hb⟩
      have hh1 := Lib.hid (hh.out w1)
      replace hb := Lib.hid hb
      go_wp2_with fail
      refine hh1.out.mono ?_
      rintro e w2 ⟨rfl, hb2⟩
      replace hb2 := Lib.hid hb2
      go_wp2
      go_ret
      exact ⟨ret_bool hr.out, Tp.Below_seq hb.out hb2.out⟩
    · simp only [hostV_eq hq] at hh
      have hr := takes1 hfo hq
      have hsf := fun w => hassuf_any (B h) (⟨#[46]⟩ ++ B q) w (by rw [B_size]; unfold maxLen; omega) (dot_size q hl2)
      simp only [B_data, dot_data] at hsf
      rw [hr]
      generalize Lib.hasSuffix h (46 :: q) = R at *
      have hsz : (B q).size ≤ 64 := by rw [B_size]; exact hl2
      replace hsf := Lib.hid hsf
      replace hh := Lib.hid hh
      clear hfo hq hr
      go_enter Try.func40, Try.ntmps40
      go_wp2_with fail
      refine hf.out.mono ?_
      rintro e w1 ⟨rfl, hb⟩
      have hh1 := Lib.hid (hh.out w1)
      replace hb := Lib.hid hb
      go_wp2_with fail
      refine hh1.out.mono ?_
      rintro e w2 ⟨rfl, hb2⟩
      replace hb2 := Lib.hid hb2
      go_wp2_with (go_at_call 82; refine (hsf.out _).mono ?_; rintro e w' ⟨rfl, rfl⟩)
      go_ret
      exact ⟨rfl, Tp.Below_seq hb.out hb2.out⟩
    · simp only [hostV_eq hq] at hh
      have hr := Lib.hid (takes2 hfo hq)
      replace hh := Lib.hid hh
      clear hfo hq
      go_enter Try.func40, Try.ntmps40
      go_wp2_with fail
      refine hf.out.mono ?_
      rintro e w1 ⟨rfl, hb⟩
      have hh1 := Lib.hid (hh.out w1)
      replace hb := Lib.hid hb
      go_wp2_with fail
      refine hh1.out.mono ?_
      rintro e w2 ⟨rfl, hb2⟩
      replace hb2 := Lib.hid hb2
      go_wp2
      go_ret
      exact ⟨ret_bool hr.out.symm, Tp.Below_seq hb.out hb2.out⟩
    · simp only [hostV_eq hq] at hh
      have hr := Lib.hid (takes3 hfo hq)
      replace hh := Lib.hid hh
      clear hfo hq
      go_enter Try.func40, Try.ntmps40
      go_wp2_with fail
      refine hf.out.mono ?_
      rintro e w1 ⟨rfl, hb⟩
      have hh1 := Lib.hid (hh.out w1)
      replace hb := Lib.hid hb
      go_wp2_with fail
      refine hh1.out.mono ?_
      rintro e w2 ⟨rfl, hb2⟩
      replace hb2 := Lib.hid hb2
      go_wp2
      go_ret
      exact ⟨ret_bool hr.out.symm, Tp.Below_seq hb.out hb2.out⟩
set_option maxHeartbeats 1000000 in
theorem host20 (p n : ByteArray) (w : World) (hp : p.size ≤ maxLen) (hn : n.size ≤ maxLen) :
    Calls Try.prog 41 #[.string p, .string n] w fun e w' => e = .returned (.bool (hostTakes p.data.toList n.data.toList)) ∧ Below w.heap.size w w' := by
  have hf := folded_any n w hn
  have hh := fun w => sort37 p w hp
  cases hfo : foldH n.data.toList with
  | none =>
    rw [foldV_none hfo] at hf
    have hr := Lib.hid (takes_none (p := p.data.toList) hfo)
    replace hf := Lib.hid hf
    rcases sort_cases p.data.toList with ⟨q, hq, _⟩ | ⟨q, hq, _⟩ | hq | hq
    all_goals
      simp only [sortV_eq hq] at hh
      replace hh := Lib.hid hh
      clear hfo hq
      go_enter Try.func41, Try.ntmps41
      go_wp2_with fail
      refine hf.out.mono ?_
      rintro e w1 ⟨rfl, hb⟩
      have hh1 := Lib.hid (hh.out w1)
      replace hb := Lib.hid hb
      go_wp2_with fail
      refine hh1.out.mono ?_
      rintro e w2 ⟨rfl, hb2⟩
      replace hb2 := Lib.hid hb2
      go_wp2
      go_ret
      exact ⟨ret_bool hr.out.symm, Tp.Below_seq hb.out hb2.out⟩
  | some h =>
    rw [foldV_some hfo] at hf
    have hsl := (foldH_len hfo).2
    replace hf := Lib.hid hf
    rcases sort_cases p.data.toList with ⟨q, hq, hl1, hl2⟩ | ⟨q, hq, hl1, hl2⟩ | hq | hq
    · simp only [sortV_eq hq] at hh
      have hr := takes0 hfo hq
      have e1 : ((B h).toList == (B q).toList) = (q == h) := by rw [eq_lists, B_data, B_data, Bool.eq_iff_iff, beq_iff_eq, beq_iff_eq]; exact eq_comm
      rw [hr]
      replace hh := Lib.hid hh
      clear hfo hq hr
      generalize (q == h) = E at *
      cases E
      all_goals
        go_enter Try.func41, Try.ntmps41
        go_wp2_with fail
        refine hf.out.mono ?_
        rintro e w1 ⟨rfl, hb⟩
        have hh1 := Lib.hid (hh.out w1)
        replace hb := Lib.hid hb
        go_wp2_with fail
        refine hh1.out.mono ?_
        rintro e w2 ⟨rfl, hb2⟩
        replace hb2 := Lib.hid hb2
        go_wp2
        go_ret
        exact ⟨rfl, Tp.Below_seq hb.out hb2.out⟩
    · simp only [sortV_eq hq] at hh
      have hr := takes1 hfo hq
      have hsf := fun w => ends_any (B h) (⟨#[46]⟩ ++ B q) w (by rw [B_size]; unfold maxLen; omega) (dot_size q hl2)
      simp only [B_data, dot_data] at hsf
      rw [hr]
      generalize Lib.hasSuffix h (46 :: q) = R at *
      have hsz : (B q).size ≤ 64 := by rw [B_size]; exact hl2
      replace hsf := Lib.hid hsf
      replace hh := Lib.hid hh
      clear hfo hq hr
      go_enter Try.func41, Try.ntmps41
      go_wp2_with fail
      refine hf.out.mono ?_
      rintro e w1 ⟨rfl, hb⟩
      have hh1 := Lib.hid (hh.out w1)
      replace hb := Lib.hid hb
      go_wp2_with fail
      refine hh1.out.mono ?_
      rintro e w2 ⟨rfl, hb2⟩
      replace hb2 := Lib.hid hb2
      go_wp2_with (go_at_call 85; refine (hsf.out _).mono ?_; rintro e w' ⟨rfl, rfl⟩)
      go_ret
      exact ⟨rfl, Tp.Below_seq hb.out hb2.out⟩
    · simp only [sortV_eq hq] at hh
      have hr := Lib.hid (takes2 hfo hq)
      replace hh := Lib.hid hh
      clear hfo hq
      go_enter Try.func41, Try.ntmps41
      go_wp2_with fail
      refine hf.out.mono ?_
      rintro e w1 ⟨rfl, hb⟩
      have hh1 := Lib.hid (hh.out w1)
      replace hb := Lib.hid hb
      go_wp2_with fail
      refine hh1.out.mono ?_
      rintro e w2 ⟨rfl, hb2⟩
      replace hb2 := Lib.hid hb2
      go_wp2
      go_ret
      exact ⟨ret_bool hr.out.symm, Tp.Below_seq hb.out hb2.out⟩
    · simp only [sortV_eq hq] at hh
      have hr := Lib.hid (takes3 hfo hq)
      replace hh := Lib.hid hh
      clear hfo hq
      go_enter Try.func41, Try.ntmps41
      go_wp2_with fail
      refine hf.out.mono ?_
      rintro e w1 ⟨rfl, hb⟩
      have hh1 := Lib.hid (hh.out w1)
      replace hb := Lib.hid hb
      go_wp2_with fail
      refine hh1.out.mono ?_
      rintro e w2 ⟨rfl, hb2⟩
      replace hb2 := Lib.hid hb2
      go_wp2
      go_ret
      exact ⟨ret_bool hr.out.symm, Tp.Below_seq hb.out hb2.out⟩
end Go.Proofs.Ytghfahhfiihneaa
