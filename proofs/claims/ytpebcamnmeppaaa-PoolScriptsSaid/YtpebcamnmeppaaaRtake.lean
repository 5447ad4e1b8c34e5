/- Take, Counts, Where of the document's pool. -/
import Derived.Test.YtpebcamnmeppaaaRput
namespace Go.Po
theorem lastOf_split {l : List C} {k : Nat} {c : C} {e : ByteArray} (hx : l[k]? = some c) (he : c.ep = e) (hn : ∀ d ∈ l.drop (k + 1), d.ep ≠ e) : lastOf l e = some c := by
  have hl : l = l.take k ++ c :: l.drop (k + 1) := by
    have h1 := (List.getElem?_eq_some_iff.1 hx).1
    have h2 := (List.getElem?_eq_some_iff.1 hx).2
    conv => lhs; rw [← List.take_append_drop k l]
    rw [List.drop_eq_getElem_cons h1, h2]
  have hf : (l.drop (k + 1)).filter (fun c => decide (c.ep = e)) = [] := List.filter_eq_nil_iff.2 (fun d hd => by simpa using hn d hd)
  unfold lastOf
  rw [hl, List.filter_append, List.filter_cons_of_pos (by simpa using he), hf]
  simp
theorem lastOf_no {l : List C} {e : ByteArray} (hn : ∀ d ∈ l, d.ep ≠ e) : lastOf l e = none := by
  unfold lastOf
  rw [List.filter_eq_nil_iff.2 (fun d hd => by simpa using hn d hd)]; rfl
theorem drop_succ_all {l : List C} {k : Nat} {c : C} {P : C → Prop} (hx : l[k]? = some c) (hc : P c) (hn : ∀ d ∈ l.drop (k + 1), P d) : ∀ d ∈ l.drop k, P d := by
  have h1 := (List.getElem?_eq_some_iff.1 hx).1
  have h2 := (List.getElem?_eq_some_iff.1 hx).2
  rw [List.drop_eq_getElem_cons h1, h2]
  intro d hd
  rcases List.mem_cons.1 hd with rfl | hd
  · exact hc
  · exact hn d hd
end Go.Po
namespace Go.Proofs.Ytpebcamnmeppaaa
open Go.RowKit Go.Mp Go.Po
set_option linter.unusedVariables false
set_option maxRecDepth 20000
theorem rtake_any {w : World} {B : Nat} {F : Nat → Prop} {q : Nat} {s : St} (h : RefM w B F q s) (hs : Inv s) (hl : s.kept.length < 4398046511100 ∧ s.busy.length < 4398046511100 ∧ s.free.length < 4398046511100) (hB : B ≤ w.heap.size) (e : ByteArray) :
    Calls Try.prog 26 #[.pointer (some ⟨q, 0, none⟩), .string e] w fun e' w' => e' = .returned (.tuple #[.int .i64 (take s e).1.1, .bool (take s e).1.2.1, .int .i64 (take s e).1.2.2]) ∧ RPost w B F q (take s e).2 w' := by
  obtain ⟨vb, vf, vk, hM⟩ := h
  have c3 : w.cell? ⟨q, 3, none⟩ = some vf := (cell_of_row _ _ 3 _ _ _ hM.hq).trans rfl
  obtain ⟨fo, fc, rfl⟩ := ownsRow_shape hM.rf
  have hst : wrap64 ((s.free.length : Int) - 1) = (s.free.length : Int) - 1 := by unfold wrap64; omega
  obtain ⟨l, hls⟩ : ∃ l, l = s.free := ⟨_, rfl⟩
  rw [← hls] at c3 hst
  have hlf : l.length < 4398046511100 := by rw [hls]; omega
  replace hM := Lib.hid hM
  replace hls := Lib.hid hls
  go_enter Try.func26, Try.ntmps26
  go_wp2
  go_loopg [7] (l.length + 1) (fun gg iv wr => ∃ (k : Nat) (j : Int), k ≤ l.length ∧ gg = k + 1 ∧ iv = .int .i64 j ∧ j = (k : Int) - 1 ∧ (∀ c ∈ l.drop k, c.ep ≠ e) ∧ w = wr)
  case atStart => exact ⟨l.length, _, Nat.le_refl _, rfl, rfl, by first | rfl | rw [hst], by simp, rfl⟩
  case round =>
    obtain ⟨k, j, hk, rfl, rfl, hj, hn, rfl⟩ := hrel
    cases k with
    | zero =>
      obtain rfl : j = -1 := by simpa using hj
      have hno : lastOf s.free e = none := by rw [← hls.out]; exact lastOf_no (by simpa using hn)
      have htk : take s e = if s.most ≤ (of s.busy e : Int) + kof s.kept e then ((-1, false, 260), s) else ((-1, true, 0), { s with kept := s.kept ++ [e] }) := by rw [take, hno]
      have c0 : w.cell? ⟨q, 0, none⟩ = some (.int .i64 s.most) := (cell_of_row _ _ 0 _ _ _ hM.out.hq).trans rfl
      have c2 : w.cell? ⟨q, 2, none⟩ = some vb := (cell_of_row _ _ 2 _ _ _ hM.out.hq).trans rfl
      have c4 : w.cell? ⟨q, 4, none⟩ = some vk := (cell_of_row _ _ 4 _ _ _ hM.out.hq).trans rfl
      have q1 := Lib.hid (fun m => of_ref (hM.out.tch (Tch.drewN No w m) (fun _ _ h => h)).rb (by omega) e)
      have q2 := Lib.hid (fun m => kept_ref ⟨_, _, _, hM.out.tch (Tch.drewN No w m) (fun _ _ h => h)⟩ (by omega) e)
      obtain ⟨bo, bc, rfl⟩ := ownsRow_shape hM.out.rb
      obtain ⟨ko, kc, rfl⟩ := ownsRow_shape hM.out.rk
      have h1 : of s.busy e ≤ s.busy.length := List.countP_le_length
      have h2 : kof s.kept e ≤ s.kept.length := List.countP_le_length
      have hwx : wrap64 ((of s.busy e : Int) + kof s.kept e) = (of s.busy e : Int) + kof s.kept e := by unfold wrap64; omega
      replace hn := Lib.hid hn
      replace hno := Lib.hid hno
      replace hj := Lib.hid hj
      replace hk := Lib.hid hk
      clear hst
      by_cases hle : s.most ≤ (of s.busy e : Int) + kof s.kept e
      · have kle := decide_eq_true hle
        rw [if_pos hle] at htk
        replace htk := Lib.hid htk
        replace hle := Lib.hid hle
        go_upto_region 11 with fail
        go_quiet ((first | (go_at_call 33; with_reducible exact quiet_same (q1.out _)) | (go_at_call 34; with_reducible exact quiet_same (q2.out _)) | fail))
        go_wp2
        go_ret3
        rw [htk.out]
        exact ⟨rfl, rpost_same ⟨_, _, _, hM.out⟩ (Tch.drewN No w nq)⟩
      · have kle := decide_eq_false hle
        rw [if_neg hle] at htk
        replace htk := Lib.hid htk
        replace hle := Lib.hid hle
        go_upto_region 11 with fail
        go_quiet ((first | (go_at_call 33; with_reducible exact quiet_same (q1.out _)) | (go_at_call 34; with_reducible exact quiet_same (q2.out _)) | fail))
        have hMd := Lib.hid (hM.out.tch (Tch.drewN No w nq) (fun _ _ h => h))
        have hBd : B ≤ (w.drewN nq).heap.size := hB
        obtain ⟨i0, hi, hz0, hz1, hz2⟩ := info_parts info9
        replace hi := Lib.hid hi
        replace hz0 := Lib.hid hz0
        replace hz1 := Lib.hid hz1
        replace hz2 := Lib.hid hz2
        replace hBd := Lib.hid hBd
        go_wp2_with (first
          | (at_builtin; refine wp_append_one rfl _ _ 64 rfl B 9 i0 (.string ⟨#[]⟩) 16 Try.underlying64 hi.out hz0.out hz1.out hz2.out rfl _ _ _ rfl hMd.out.rk 1 rfl rfl (by unfold maxLen; omega) (by omega) hBd.out ?_; intro v' w3 hr3 hg3 hl3; obtain ⟨uo, uc, rfl⟩ := ownsRow_shape hr3; obtain ⟨f4, c4', hP⟩ := hMd.out.keptTo hBd.out (l := s.kept ++ [e]) (by simpa [scs] using hr3) (Tch.grown hg3 (fun k hk => .inl hk)) hl3; replace hP := Lib.hid hP; replace hr3 := Lib.hid hr3; clear hg3 hl3)
          | fail)
        go_ret3
        rw [htk.out]
        exact ⟨rfl, rpost_trans (Tch.drewN F w nq) (fun _ h => .inl h) hP.out⟩
    | succ k =>
      obtain rfl : j = (k : Int) := by push_cast at hj; omega
      have hkl : k < l.length := by omega
      have hx := List.getElem?_eq_getElem hkl
      generalize l[k] = c at *
      obtain ⟨g, rfl, d0, d1, d2⟩ := row_at hM.out.rf (by rw [← hls.out]; exact hx)
      have kk := nn_nonneg k
      have hkb : (k : Int) < (l.length : Int) := by omega
      by_cases hep : c.ep = e
      · subst hep
        have hs0 : (c.ep.toList == c.ep.toList) = true := by simp
        have hla : lastOf s.free c.ep = some c := by rw [← hls.out]; exact lastOf_split hx rfl hn
        have htk : take s c.ep = ((c.id, false, 0), { s with busy := s.busy ++ [c], free := but c.id s.free }) := by rw [take, hla]
        rw [← hls.out] at htk
        replace htk := Lib.hid htk
        have hbs := but_split (nd_free hs) (c := c) (k := k) (by rw [← hls.out]; exact hx)
        obtain ⟨w3, hw3⟩ : ∃ w3, w3 = w.alloc (.cells #[.int .i64 c.id, .string c.ep, .int .i64 c.since] 77) := ⟨_, rfl⟩
        have hM3 := hM.out.tch (S := No) (w' := w3) (by rw [hw3]; exact Tch.alloc No w _) (fun _ _ h => h)
        have hT3 : Tch F w w3 := by rw [hw3]; exact Tch.alloc F w _
        obtain ⟨cb, hcb⟩ : ∃ cb, cb = w.heap.size := ⟨_, rfl⟩
        have hbx : w3.heap[cb]? = some (.cells #[.int .i64 c.id, .string c.ep, .int .i64 c.since] 77) := by rw [hw3, hcb]; exact heap_alloc_new w _
        have hcb3 : cb < w3.heap.size := (Array.getElem?_eq_some_iff.1 hbx).1
        have hB3 : B ≤ w3.heap.size := Nat.le_trans hB hT3.size
        have hFc : ∀ k, F k → k < cb := fun k hk => by rw [hcb]; exact (hM.out.lt k hk).2
        have hw := without_ref hM3.rf (by rw [← hls.out]; omega) (by rw [← hls.out]; exact hkl) hbs
        have c3' : w3.cell? ⟨q, 3, none⟩ = some (.slice (some ⟨g, 0, none⟩) l.length fc) := (cell_of_row _ _ 3 _ _ _ hM3.hq).trans (by rw [hls.out]; rfl)
        rw [← hls.out] at hw
        replace hx := Lib.hid hx
        replace hn := Lib.hid hn
        replace hla := Lib.hid hla
        replace hj := Lib.hid hj
        replace hk := Lib.hid hk
        replace hkl := Lib.hid hkl
        replace hbs := Lib.hid hbs
        replace hM3 := Lib.hid hM3
        replace hT3 := Lib.hid hT3
        replace hcb3 := Lib.hid hcb3
        replace hB3 := Lib.hid hB3
        replace hFc := Lib.hid hFc
        clear hst
        go_upto_region 8 with fail
        rw [← hw3, ← hcb]
        clear d0 d1 d2 c3
        replace hw3 := Lib.hid hw3
        replace hbx := Lib.hid hbx
        replace hcb := Lib.hid hcb
        go_upto_region 9 with (first
          | (go_at_call 38; have _t := hw; refine hw.mono ?_; clear hw _t; rintro _ w5 ⟨v', rfl, hr, hb⟩; obtain ⟨uo, uc, rfl⟩ := ownsRow_shape hr; obtain ⟨f5, c5, hP⟩ := hM3.out.freeBut hB3.out hr hb; rw [← hls.out] at c5; replace hP := Lib.hid hP; replace hr := Lib.hid hr; replace hb := Lib.hid hb)
          | fail)
        obtain ⟨F6, hM6, hT6, hF6⟩ := hP.out
        obtain ⟨w6, hw6⟩ : ∃ w6, w6 = w5.setCell ⟨q, 3, none⟩ (.slice uo (but c.id l).length uc) := ⟨_, rfl⟩
        rw [← hw6] at hM6 hT6 ⊢
        have hbx6 := (hT6.block cb hcb3.out (fun h => by have := hFc.out _ h; omega)).trans hbx.out
        obtain ⟨vb6, vf6, vk6, hM6⟩ := hM6
        have hM6d := hM6.tch (Tch.drew No w6) (fun _ _ h => h)
        have hbx6d : w6.drew.heap[cb]? = some (.cells #[.int .i64 c.id, .string c.ep, .int .i64 c.since] 77) := hbx6
        have hTd : Tch F w w6.drew := (hT3.out.trans hT6 (fun _ h => .inl h)).trans (Tch.drew F w6) (fun _ h => .inl h)
        have hFd : ∀ k, F6 k → F k ∨ w.heap.size ≤ k := fun k hk => (hF6 k hk).imp id (fun h => Nat.le_trans hT3.out.size h)
        have hF6c : ¬ F6 cb := fun h => by
          rcases hF6 cb h with h1 | h1
          · have := hFc.out _ h1; omega
          · have := hcb3.out; omega
        have hBd : B ≤ w6.drew.heap.size := Nat.le_trans hB hTd.size
        obtain ⟨bo, bc, rfl⟩ := ownsRow_shape hM6.rb
        obtain ⟨i0, hi, hz0, hz1, hz2⟩ := info_parts info77
        have c2 : w6.drew.cell? ⟨q, 2, none⟩ = some (.slice bo s.busy.length bc) := (cell_of_row _ _ 2 _ _ _ hM6d.hq).trans rfl
        have c2' : (w6.alloc (.cells #[.int .i64 c.id, .string c.ep, .int .i64 c.since] 77)).cell? ⟨q, 2, none⟩ = some (.slice bo s.busy.length bc) := (Tch.alloc No w6 _).cell_some c2 id
        have b0 : w6.drew.cell? ⟨cb, 0, none⟩ = some (.int .i64 c.id) := (cell_of_row _ _ 0 _ _ _ hbx6d).trans rfl
        have b1 : w6.drew.cell? ⟨cb, 1, none⟩ = some (.string c.ep) := (cell_of_row _ _ 1 _ _ _ hbx6d).trans rfl
        have b2 : w6.drew.cell? ⟨cb, 2, none⟩ = some (.int .i64 c.since) := (cell_of_row _ _ 2 _ _ _ hbx6d).trans rfl
        replace hi := Lib.hid hi
        replace hz0 := Lib.hid hz0
        replace hz1 := Lib.hid hz1
        replace hz2 := Lib.hid hz2
        replace hw6 := Lib.hid hw6
        replace hM6 := Lib.hid hM6
        replace hM6d := Lib.hid hM6d
        replace hbx6 := Lib.hid hbx6
        replace hbx6d := Lib.hid hbx6d
        replace hTd := Lib.hid hTd
        replace hT6 := Lib.hid hT6
        replace hFd := Lib.hid hFd
        replace hBd := Lib.hid hBd
        replace hF6 := Lib.hid hF6
        replace hF6c := Lib.hid hF6c
        clear c3' c5 f5
        go_region_law ((refine step_append_three rfl _ _ 63 (by rfl) B 77 i0 (.agg #[.int .i64 0, .string ⟨#[]⟩, .int .i64 0]) 32 Try.underlying63 hi.out hz0.out hz1.out hz2.out rfl _ s.busy.length (ccs s.busy) (by rfl) hM6d.out.rb 1 (by rfl) (by simp [Value.oneCell']) (by unfold maxLen; omega) (by omega) hBd.out ?_; intro v7 w7 hr7 hg7 hl7; obtain ⟨no, nc, rfl⟩ := ownsRow_shape hr7; obtain ⟨f7, e7, hP7⟩ := hM6d.out.busyTo hBd.out (l := s.busy ++ [c]) (by simpa [ccs, cc] using hr7) (Tch.grown hg7 (fun k hk => .inl hk)) hl7; have b8 : (w7.setCell ⟨q, 2, none⟩ (.slice no (s.busy.length + 1) nc)).cell? ⟨cb, 0, none⟩ = some (.int .i64 c.id) := (hP7.choose_spec.2.1.cell_some b0 hF6c.out); replace hP7 := Lib.hid hP7; replace hr7 := Lib.hid hr7; clear hg7 hl7))
        all_goals
          go_wp2_with fail
          go_ret3
          rw [htk.out]
          exact ⟨rfl, rpost_trans hTd.out hFd.out hP7.out⟩
      · have hs0 : (c.ep.toList == e.toList) = false := by
          rw [beq_eq_false_iff_ne]
          exact fun h => hep (bytes_of_toList h)
        have hn' := drop_succ_all (P := fun d => d.ep ≠ e) hx hep hn
        have hwk : wrap64 ((k : Int) - 1) = (k : Int) - 1 := by unfold wrap64; omega
        replace hx := Lib.hid hx
        replace hn := Lib.hid hn
        replace hn' := Lib.hid hn'
        replace hep := Lib.hid hep
        replace hj := Lib.hid hj
        replace hwk := Lib.hid hwk
        go_wp2
        go_roundg (k + 1)
        case rel => exact ⟨k, _, Nat.le_of_lt hkl, rfl, rfl, by first | rfl | rw [hwk.out], hn'.out, rfl⟩
        case measure => omega
/-! ### Counts -/
theorem rcounts_any {w : World} {B : Nat} {F : Nat → Prop} {q : Nat} {s : St} (h : RefM w B F q s) (hl : s.kept.length < 4398046511100 ∧ s.busy.length < 4398046511100 ∧ s.free.length < 4398046511100) (e : ByteArray) :
    Calls Try.prog 20 #[.pointer (some ⟨q, 0, none⟩), .string e] w fun e' w' => e' = .returned (.tuple #[.int .i64 (of s.busy e), .int .i64 (of s.free e), .int .i64 (kof s.kept e)]) ∧ Tch No w w' := by
  obtain ⟨vb, vf, vk, hM⟩ := h
  have c2 : w.cell? ⟨q, 2, none⟩ = some vb := (cell_of_row _ _ 2 _ _ _ hM.hq).trans rfl
  have c3 : w.cell? ⟨q, 3, none⟩ = some vf := (cell_of_row _ _ 3 _ _ _ hM.hq).trans rfl
  have q1 := Lib.hid (fun m => of_ref (hM.tch (Tch.drewN No w m) (fun _ _ h => h)).rb (by omega) e)
  have q2 := Lib.hid (fun m => of_ref (hM.tch (Tch.drewN No w m) (fun _ _ h => h)).rf (by omega) e)
  have q3 := Lib.hid (fun m => kept_ref ⟨_, _, _, hM.tch (Tch.drewN No w m) (fun _ _ h => h)⟩ (by omega) e)
  obtain ⟨bo, bc, rfl⟩ := ownsRow_shape hM.rb
  obtain ⟨fo, fc, rfl⟩ := ownsRow_shape hM.rf
  replace hM := Lib.hid hM
  go_enter Try.func20, Try.ntmps20
  go_upto_region 3 with fail
  go_quiet ((first | (go_at_call 33; with_reducible exact quiet_same (q1.out _)) | (go_at_call 33; with_reducible exact quiet_same (q2.out _)) | (go_at_call 34; with_reducible exact quiet_same (q3.out _)) | fail))
  go_wp2
  go_ret3
  exact ⟨rfl, Tch.drewN _ _ _⟩
/-! ### Where -/
def wher (s : St) (i : Int) : ByteArray × Bool := match fnd s.all i with
  | some c => (c.ep, true)
  | none => (⟨#[]⟩, false)
theorem fnd_all_busy {s : St} {i : Int} {c : C} (h : fnd s.busy i = some c) : fnd s.all i = some c := by
  unfold fnd St.all at *; rw [List.find?_append, h]; rfl
theorem fnd_all_free {s : St} {i : Int} {c : C} (h0 : fnd s.busy i = none) (h : fnd s.free i = some c) : fnd s.all i = some c := by
  unfold fnd St.all at *; rw [List.find?_append, h0, h]; rfl
theorem fnd_all_none {s : St} {i : Int} (h0 : fnd s.busy i = none) (h : fnd s.free i = none) : fnd s.all i = none := by
  unfold fnd St.all at *; rw [List.find?_append, h0, h]; rfl
theorem rwhere_any {w : World} {B : Nat} {F : Nat → Prop} {q : Nat} {s : St} (h : RefM w B F q s) (hl : s.busy.length < 4398046511100 ∧ s.free.length < 4398046511100) (i : Int) :
    Calls Try.prog 22 #[.pointer (some ⟨q, 0, none⟩), .int .i64 i] w fun e' w' => e' = .returned (.tuple #[.string (wher s i).1, .bool (wher s i).2]) ∧ Tch No w w' := by
  obtain ⟨vb, vf, vk, hM⟩ := h
  have c2 : w.cell? ⟨q, 2, none⟩ = some vb := (cell_of_row _ _ 2 _ _ _ hM.hq).trans rfl
  have c3 : w.cell? ⟨q, 3, none⟩ = some vf := (cell_of_row _ _ 3 _ _ _ hM.hq).trans rfl
  obtain ⟨bo, bc, rfl⟩ := ownsRow_shape hM.rb
  obtain ⟨fo, fc, rfl⟩ := ownsRow_shape hM.rf
  cases hfb : fnd s.busy i with
  | some c =>
    have hf1 := find_yes hM.rb (by omega) hfb
    have ew : wher s i = (c.ep, true) := by rw [wher, fnd_all_busy hfb]
    rw [ew]
    replace hfb := Lib.hid hfb
    replace hM := Lib.hid hM
    clear ew
    go_enter Try.func22, Try.ntmps22
    go_upto_region 4 with (first
      | (go_at_call 35; refine hf1.mono ?_; clear hf1; rintro _ w1 ⟨rfl, k, hx, _, rfl⟩; have kk := nn_nonneg k)
      | fail)
    obtain ⟨g, rfl, d0, d1, d2⟩ := row_at hM.out.rb hx
    have hkl := (List.getElem?_eq_some_iff.1 hx).1
    have hkb : (k : Int) < (s.busy.length : Int) := by omega
    replace hx := Lib.hid hx
    go_wp2
    go_ret2
    exact ⟨rfl, Tch.refl No w⟩
  | none =>
    have hf1 := find_no hM.rb (by omega) hfb
    cases hff : fnd s.free i with
    | some c =>
      have hf2 := find_yes hM.rf (by omega) hff
      have ew : wher s i = (c.ep, true) := by rw [wher, fnd_all_free hfb hff]
      rw [ew]
      replace hfb := Lib.hid hfb
      replace hff := Lib.hid hff
      replace hM := Lib.hid hM
      clear ew
      go_enter Try.func22, Try.ntmps22
      go_upto_region 7 with (first
        | (go_at_call 35; have _t := hf1; refine hf1.mono ?_; clear hf1 _t; rintro _ w1 ⟨rfl, rfl⟩)
        | (go_at_call 35; refine hf2.mono ?_; clear hf2; rintro _ w1 ⟨rfl, k, hx, _, rfl⟩; have kk := nn_nonneg k)
        | fail)
      obtain ⟨g, rfl, d0, d1, d2⟩ := row_at hM.out.rf hx
      have hkl := (List.getElem?_eq_some_iff.1 hx).1
      have hkb : (k : Int) < (s.free.length : Int) := by omega
      replace hx := Lib.hid hx
      go_wp2
      go_ret2
      exact ⟨rfl, Tch.refl No w⟩
    | none =>
      have hf2 := find_no hM.rf (by omega) hff
      have ew : wher s i = (⟨#[]⟩, false) := by rw [wher, fnd_all_none hfb hff]
      rw [ew]
      replace hfb := Lib.hid hfb
      replace hff := Lib.hid hff
      replace hM := Lib.hid hM
      clear ew
      go_enter Try.func22, Try.ntmps22
      go_wp2_with (first
        | (go_at_call 35; have _t := hf1; refine hf1.mono ?_; clear hf1 _t; rintro _ w1 ⟨rfl, rfl⟩)
        | (go_at_call 35; have _t := hf2; refine hf2.mono ?_; clear hf2 _t; rintro _ w1 ⟨rfl, rfl⟩)
        | fail)
      go_ret2
      exact ⟨rfl, Tch.refl No w⟩
/-- The program's own Where. -/
theorem where_any {w : World} {B : Nat} {F : Nat → Prop} {p n : Nat} {s : St} (h : PoolM w B F p s n) (i : Int) :
    Calls Try.prog 21 #[.pointer (some ⟨p, 0, none⟩), .int .i64 i] w fun e' w' => e' = .returned (.tuple #[.string (wher s i).1, .bool (wher s i).2]) ∧ Tch No w w' := by
  obtain ⟨bc, bk, blk, turn, turns, g, f, h, _⟩ := h
  have c2 : w.cell? ⟨p, 2, none⟩ = some (.map (some bc)) := (cell_of_row _ _ 2 _ _ _ h.hp).trans rfl
  have hlk2 := h.look i
  cases hf : fnd s.all i with
  | some c =>
    have ew : wher s i = (c.ep, true) := by rw [wher, hf]
    obtain ⟨hc, rfl⟩ := fnd_some hf
    rw [h.fsome c hc] at hlk2
    obtain ⟨fr, hcc⟩ := h.at hc
    have e0 : w.cell? ⟨blk c.id, 0, none⟩ = some (.string c.ep) := (cell_of_row _ _ 0 _ _ _ hcc).trans rfl
    rw [ew]
    replace hf := Lib.hid hf
    clear h hcc ew
    go_enter Try.func21, Try.ntmps21
    go_wp2
    go_ret2
    exact ⟨rfl, Tch.refl No w⟩
  | none =>
    have ew : wher s i = (⟨#[]⟩, false) := by rw [wher, hf]
    rw [h.fnone i (fnd_none hf)] at hlk2
    rw [ew]
    replace hf := Lib.hid hf
    clear h ew
    go_enter Try.func21, Try.ntmps21
    go_wp2
    go_ret2
    exact ⟨rfl, Tch.refl No w⟩
end Go.Proofs.Ytpebcamnmeppaaa
