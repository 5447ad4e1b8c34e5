/- line: its contract. -/
import Derived.Test.YtcnjmkjfgghgoaaZt22
section

namespace Go.Proofs.Ytcnjmkjfgghgoaa
open Go.RowKit Go.Ln Go.Mp Go.Tr
set_option linter.unusedVariables false
set_option maxRecDepth 100000
set_option maxHeartbeats 4000000
theorem res60 (a : Act) (w : World) : (results Try.f60 a.tmps).run Try.prog w = .ok (.tuple #[a.tmps.getD 4 undef, a.tmps.getD 5 undef]) w := by
  simp [results, Try.results60, go_sem]
def LinePost (w : World) (x : Except Int (List Tk)) (e : Ending) (w' : World) : Prop := ∃ O E, e = .returned (.tuple #[O, E]) ∧ LOutc w.heap.size w' O E x ∧ Tch No w w'
theorem retc60 {w : World} {x : Except Int (List Tk)} : Retc w.heap.size w x (bodyPost Try.prog Try.f60 (LinePost w x)) := by
  intro a' w' hd hout t
  exact bodyPost_ret (res60 a' w') hd ⟨_, _, rfl, hout, t⟩
theorem retcj {B : Nat} {w : World} {x : Except Int (List Tk)} {J : Nat → Act → World → Prop} {Q : Exit → Act → World → Prop} (h : Retc B w x Q) : Retc B w x (Exit.jumps J Q) := h
theorem line_bad {l : List UInt8} {n : Int} (h : sound l ≠ 0) : line l n = .error (sound l) := by unfold line; rw [if_pos h]
theorem line_doc {l : List UInt8} {n : Int} (h : sound l = 0) (h2 : docAt l = true) : line l n = .ok [⟨1, n, 0, [], false⟩] := by unfold line; rw [if_neg (by simp [h]), if_pos h2]
theorem line_items {l : List UInt8} {n : Int} (h : sound l = 0) (h2 : docAt l = false) : line l n = items l n (l.length + 1) (blanks l 0) [] := by unfold line; rw [if_neg (by simp [h]), if_neg (by rw [h2]; decide)]
theorem row_nil (w : World) (B : Nat) : tkRow w B (.slice none 0 0) [] := World.ownsRow_nil w B 39 5
theorem row_doc (w : World) (n : Int) : tkRow (w.alloc (.cells #[.int .i64 1, .int .i64 n, .int .i64 0, .string ⟨#[]⟩, .bool false] 39)) w.heap.size (.slice (some ⟨w.heap.size, 0, none⟩) 1 1) [⟨1, n, 0, [], false⟩] :=
  ⟨rfl, .inr ⟨w.heap.size, 1, _, rfl, Nat.le_refl _, heap_alloc_new w _, Nat.le_refl _, by unfold maxLen; omega, rfl, rfl⟩⟩
theorem line_any_bad (s : ByteArray) (n : Nat) (w : World) (m : Int) (hs : s.size < 4294967281) (hm : w.cell? ⟨0, 0, none⟩ = some (.int .i64 m)) (h : sound s.data.toList ≠ 0) :
    Calls Try.prog 60 #[.string s, .int .i64 n] w (LinePost w (line s.data.toList n)) := by
  have hS := sound_any s w (by omega)
  have hx := line_bad (n := n) h
  generalize sound s.data.toList = S at hS h hx
  have hret := retc60 (w := w) (x := line s.data.toList n)
  have h1 : (S == 0) = false := beq_eq_false_iff_ne.2 h
  have h2 : (S != 0) = true := by rw [bne, h1]; rfl
  replace hS := Lib.hid hS
  replace hx := Lib.hid hx
  replace h := Lib.hid h
  replace hret := Lib.hid hret
  replace hm := Lib.hid hm
  go_enter Try.func60, Try.ntmps60
  go_wp2
  refine scope60 (n := n) (by kernel_rfl) hs rfl hm.out hret.out ?_
  replace hret := Lib.hid (retcj (J := J60 w.heap.size s n w (line s.data.toList n)) hret.out)
  go_wp2_with (first
    | (go_at_call 67; refine hS.out.mono ?_; rintro e w2 ⟨rfl, hw2⟩; subst hw2)
    | fail)
  refine hret.out _ _ rfl ?_ (Tch.refl _ _)
  rw [hx.out]
  exact ⟨rfl, rfl⟩
theorem sound_val {l : List UInt8} (h : sound l = 0) : True := trivial
theorem line_any_d1 (s : ByteArray) (n : Nat) (w : World) (m : Int) (hs : s.size < 4294967281) (hm : w.cell? ⟨0, 0, none⟩ = some (.int .i64 m)) (h : sound s.data.toList = 0) (hp : Lib.hasPrefix s.data.toList [45, 45, 45] = true) (k : Nat) (hk : k = blanks s.data.toList 3) (he : k = s.size) :
    Calls Try.prog 60 #[.string s, .int .i64 n] w (LinePost w (line s.data.toList n)) := by
  have hS := sound_any s w (by omega)
  rw [h] at hS
  have hP : Calls Try.prog 68 #[.string s, .string ⟨#[45, 45, 45]⟩] w fun e w' => e = .returned (.bool true) ∧ w' = w := by
    have h := Try.strings_HasPrefix s ⟨#[45, 45, 45]⟩ w
    rw [show Lib.hasPrefix s.data.toList (⟨#[45, 45, 45]⟩ : ByteArray).data.toList = true from hp] at h
    exact h
  have hret := retc60 (w := w) (x := line s.data.toList n)
  have h3 : 3 ≤ s.size := by
    have := (List.isPrefixOf_iff_prefix.1 hp).length_le
    rwa [len_data] at this
  have hB3 := blanks_any s 3 w (by omega) h3
  replace hB3 : Calls Try.prog 69 #[.string s, .int .i64 3] w fun e w' => e = .returned (.int .i64 k) ∧ w = w' := by rw [hk]; exact hB3
  have hk3 : 3 ≤ k := by rw [hk]; exact blanks_ge _ _
  have hks : k ≤ s.size := by rw [hk]; have := blanks_le s.data.toList (i := 3) (by rw [len_data]; omega); rwa [len_data] at this
  have hx := line_doc (n := n) h (by unfold docAt; rw [hp, ← hk, Bool.true_and]; rw [decide_eq_true (show k = s.data.toList.length by rw [len_data]; exact he)]; rfl)
  have k2 : ((k : Int) == (s.size : Int)) = true := by rw [beq_iff_eq]; omega
  replace hS := Lib.hid hS
  replace hx := Lib.hid hx
  replace h := Lib.hid h
  replace hret := Lib.hid hret
  replace hm := Lib.hid hm
  replace hP := Lib.hid hP
  replace hp := Lib.hid hp
  replace h3 := Lib.hid h3
  replace hB3 := Lib.hid hB3
  replace hk3 := Lib.hid hk3
  replace hks := Lib.hid hks
  replace hk := Lib.hid hk
  go_enter Try.func60, Try.ntmps60
  go_wp2
  refine scope60 (n := n) (by kernel_rfl) hs rfl hm.out hret.out ?_
  replace hret := Lib.hid (retcj (J := J60 w.heap.size s n w (line s.data.toList n)) hret.out)
  go_wp2_with (first
    | (go_at_call 67; refine hS.out.mono ?_; rintro e w2 ⟨rfl, hw2⟩; subst hw2)
    | (go_at_call 68; refine hP.out.mono ?_; rintro e w2 ⟨rfl, hw2⟩; subst hw2)
    | (go_at_call 69; (with_reducible refine hB3.out.mono ?_); rintro e w2 ⟨rfl, hw2⟩; subst hw2)
    | fail)
  refine hret.out _ _ rfl ?_ (Tch.alloc _ _ _)
  rw [hx.out]
  exact ⟨row_doc _ _, rfl⟩
theorem line_any_d2 (s : ByteArray) (n : Nat) (w : World) (m : Int) (hs : s.size < 4294967281) (hm : w.cell? ⟨0, 0, none⟩ = some (.int .i64 m)) (h : sound s.data.toList = 0) (hp : Lib.hasPrefix s.data.toList [45, 45, 45] = true) (k : Nat) (hk : k = blanks s.data.toList 3) (he : k < s.size) (hg : 3 < k) (h35 : s[k] = 35) :
    Calls Try.prog 60 #[.string s, .int .i64 n] w (LinePost w (line s.data.toList n)) := by
  have hS := sound_any s w (by omega)
  rw [h] at hS
  have hP : Calls Try.prog 68 #[.string s, .string ⟨#[45, 45, 45]⟩] w fun e w' => e = .returned (.bool true) ∧ w' = w := by
    have h := Try.strings_HasPrefix s ⟨#[45, 45, 45]⟩ w
    rw [show Lib.hasPrefix s.data.toList (⟨#[45, 45, 45]⟩ : ByteArray).data.toList = true from hp] at h
    exact h
  have hret := retc60 (w := w) (x := line s.data.toList n)
  have h3 : 3 ≤ s.size := by
    have := (List.isPrefixOf_iff_prefix.1 hp).length_le
    rwa [len_data] at this
  have hB3 := blanks_any s 3 w (by omega) h3
  replace hB3 : Calls Try.prog 69 #[.string s, .int .i64 3] w fun e w' => e = .returned (.int .i64 k) ∧ w = w' := by rw [hk]; exact hB3
  have hk3 : 3 ≤ k := by rw [hk]; exact blanks_ge _ _
  have hks : k ≤ s.size := by rw [hk]; have := blanks_le s.data.toList (i := 3) (by rw [len_data]; omega); rwa [len_data] at this
  have hx := line_doc (n := n) h (by unfold docAt; rw [hp, ← hk, Bool.true_and]; rw [at_data s he, h35, decide_eq_true hg]; simp)
  have k2 : ((k : Int) == (s.size : Int)) = false ∧ (k : Int) < (s.size : Int) ∧ 3 < (k : Int) ∧ ((s[k].toNat : Nat) : Int) = 35 := ⟨by rw [beq_eq_false_iff_ne]; omega, by omega, by omega, by rw [h35]; rfl⟩; replace h35 := Lib.hid h35
  replace hS := Lib.hid hS
  replace hx := Lib.hid hx
  replace h := Lib.hid h
  replace hret := Lib.hid hret
  replace hm := Lib.hid hm
  replace hP := Lib.hid hP
  replace hp := Lib.hid hp
  replace h3 := Lib.hid h3
  replace hB3 := Lib.hid hB3
  replace hk3 := Lib.hid hk3
  replace hks := Lib.hid hks
  replace hk := Lib.hid hk
  go_enter Try.func60, Try.ntmps60
  go_wp2
  refine scope60 (n := n) (by kernel_rfl) hs rfl hm.out hret.out ?_
  replace hret := Lib.hid (retcj (J := J60 w.heap.size s n w (line s.data.toList n)) hret.out)
  go_wp2_with (first
    | (go_at_call 67; refine hS.out.mono ?_; rintro e w2 ⟨rfl, hw2⟩; subst hw2)
    | (go_at_call 68; refine hP.out.mono ?_; rintro e w2 ⟨rfl, hw2⟩; subst hw2)
    | (go_at_call 69; (with_reducible refine hB3.out.mono ?_); rintro e w2 ⟨rfl, hw2⟩; subst hw2)
    | fail)
  refine hret.out _ _ rfl ?_ (Tch.alloc _ _ _)
  rw [hx.out]
  exact ⟨row_doc _ _, rfl⟩
theorem line_any_n0 (s : ByteArray) (n : Nat) (w : World) (m : Int) (hs : s.size < 4294967281) (hm : w.cell? ⟨0, 0, none⟩ = some (.int .i64 m)) (h : sound s.data.toList = 0) (hp : Lib.hasPrefix s.data.toList [45, 45, 45] = false)  :
    Calls Try.prog 60 #[.string s, .int .i64 n] w (LinePost w (line s.data.toList n)) := by
  have hS := sound_any s w (by omega)
  rw [h] at hS
  have hP : Calls Try.prog 68 #[.string s, .string ⟨#[45, 45, 45]⟩] w fun e w' => e = .returned (.bool false) ∧ w' = w := by
    have h := Try.strings_HasPrefix s ⟨#[45, 45, 45]⟩ w
    rw [show Lib.hasPrefix s.data.toList (⟨#[45, 45, 45]⟩ : ByteArray).data.toList = false from hp] at h
    exact h
  have hret := retc60 (w := w) (x := line s.data.toList n)

  have hd : docAt s.data.toList = false := by unfold docAt; rw [hp]; rfl
  have hx := line_items (n := n) h hd
  have k2 := True.intro
  obtain ⟨j, hj⟩ : ∃ j, j = blanks s.data.toList 0 := ⟨_, rfl⟩
  have hB0 : Calls Try.prog 69 #[.string s, .int .i64 0] w fun e w' => e = .returned (.int .i64 j) ∧ w = w' := by rw [hj]; exact blanks_any s 0 w (by omega) (by omega)
  have hjs : j ≤ s.size := by rw [hj]; have := blanks_le s.data.toList (i := 0) (by omega); rwa [len_data] at this
  have hf : s.size - j < s.data.toList.length + 1 := by rw [len_data]; omega
  have hX : items s.data.toList n (s.data.toList.length + 1) j [] = line s.data.toList n := by rw [hx, hj]
  replace hS := Lib.hid hS
  replace hx := Lib.hid hx
  replace h := Lib.hid h
  replace hret := Lib.hid hret
  replace hm := Lib.hid hm
  replace hP := Lib.hid hP
  replace hp := Lib.hid hp
  replace hd := Lib.hid hd
  replace hB0 := Lib.hid hB0
  replace hjs := Lib.hid hjs
  replace hj := Lib.hid hj
  replace hf := Lib.hid hf
  replace hX := Lib.hid hX
  go_enter Try.func60, Try.ntmps60
  go_wp2
  refine scope60 (n := n) (by kernel_rfl) hs rfl hm.out hret.out ?_
  replace hret := Lib.hid (retcj (J := J60 w.heap.size s n w (line s.data.toList n)) hret.out)
  go_upto_region 12 with (first
    | (go_at_call 67; refine hS.out.mono ?_; rintro e w2 ⟨rfl, hw2⟩; subst hw2)
    | (go_at_call 68; refine hP.out.mono ?_; rintro e w2 ⟨rfl, hw2⟩; subst hw2)
    | (go_at_call 69; (with_reducible refine hB0.out.mono ?_); rintro e w2 ⟨rfl, hw2⟩; subst hw2)
    | fail)
  go_step3
  rename_i K0 hK0
  refine hK0 _ _ (wp_q2 (l := 0) (by kernel_rfl) ?_)
  refine begin_wp fr60i hs hjs.out (row_nil _ _) (Nat.zero_le _) (Tch.refl _ _) rfl hm.out hf.out hX.out hret.out ?_ ?_
  · intro O2 i2 f2 out2 a2 w2 hF2 hi2 hlt hol2 hrow2 t2 hf2 hX2
    exact .inl ⟨rfl, O2, i2, f2, out2, hF2, hi2, hol2, hrow2, t2, hf2, hX2⟩
  · intro O2 i2 out2 a2 w2 hF2 hi2 hrow2 hol2 t2 hX2
    exact .inr ⟨rfl, O2, i2, out2, hF2, hi2, hol2, hrow2, t2, hX2⟩
theorem line_any_n1 (s : ByteArray) (n : Nat) (w : World) (m : Int) (hs : s.size < 4294967281) (hm : w.cell? ⟨0, 0, none⟩ = some (.int .i64 m)) (h : sound s.data.toList = 0) (hp : Lib.hasPrefix s.data.toList [45, 45, 45] = true) (k : Nat) (hk : k = blanks s.data.toList 3) (he : k < s.size) (hg : 3 < k) (h35 : ¬ s[k] = 35) :
    Calls Try.prog 60 #[.string s, .int .i64 n] w (LinePost w (line s.data.toList n)) := by
  have hS := sound_any s w (by omega)
  rw [h] at hS
  have hP : Calls Try.prog 68 #[.string s, .string ⟨#[45, 45, 45]⟩] w fun e w' => e = .returned (.bool true) ∧ w' = w := by
    have h := Try.strings_HasPrefix s ⟨#[45, 45, 45]⟩ w
    rw [show Lib.hasPrefix s.data.toList (⟨#[45, 45, 45]⟩ : ByteArray).data.toList = true from hp] at h
    exact h
  have hret := retc60 (w := w) (x := line s.data.toList n)
  have h3 : 3 ≤ s.size := by
    have := (List.isPrefixOf_iff_prefix.1 hp).length_le
    rwa [len_data] at this
  have hB3 := blanks_any s 3 w (by omega) h3
  replace hB3 : Calls Try.prog 69 #[.string s, .int .i64 3] w fun e w' => e = .returned (.int .i64 k) ∧ w = w' := by rw [hk]; exact hB3
  have hk3 : 3 ≤ k := by rw [hk]; exact blanks_ge _ _
  have hks : k ≤ s.size := by rw [hk]; have := blanks_le s.data.toList (i := 3) (by rw [len_data]; omega); rwa [len_data] at this
  have hd : docAt s.data.toList = false := by unfold docAt; rw [hp, ← hk, Bool.true_and]; rw [decide_eq_false (show ¬ k = s.data.toList.length by rw [len_data]; omega), at_data s he, decide_eq_false (fun e => h35 (Option.some.inj e))]; simp
  have hx := line_items (n := n) h hd
  have k2 : ((k : Int) == (s.size : Int)) = false ∧ (k : Int) < (s.size : Int) ∧ 3 < (k : Int) ∧ ((s[k].toNat : Int) == 35) = false := ⟨by rw [beq_eq_false_iff_ne]; omega, by omega, by omega, u8_neq h35 (n := 35) (by decide)⟩
  obtain ⟨j, hj⟩ : ∃ j, j = blanks s.data.toList 0 := ⟨_, rfl⟩
  have hB0 : Calls Try.prog 69 #[.string s, .int .i64 0] w fun e w' => e = .returned (.int .i64 j) ∧ w = w' := by rw [hj]; exact blanks_any s 0 w (by omega) (by omega)
  have hjs : j ≤ s.size := by rw [hj]; have := blanks_le s.data.toList (i := 0) (by omega); rwa [len_data] at this
  have hf : s.size - j < s.data.toList.length + 1 := by rw [len_data]; omega
  have hX : items s.data.toList n (s.data.toList.length + 1) j [] = line s.data.toList n := by rw [hx, hj]
  replace hS := Lib.hid hS
  replace hx := Lib.hid hx
  replace h := Lib.hid h
  replace hret := Lib.hid hret
  replace hm := Lib.hid hm
  replace hP := Lib.hid hP
  replace hp := Lib.hid hp
  replace hd := Lib.hid hd
  replace hB0 := Lib.hid hB0
  replace hjs := Lib.hid hjs
  replace hj := Lib.hid hj
  replace hf := Lib.hid hf
  replace hX := Lib.hid hX
  replace h3 := Lib.hid h3
  replace hB3 := Lib.hid hB3
  replace hk3 := Lib.hid hk3
  replace hks := Lib.hid hks
  replace hk := Lib.hid hk
  replace h35 := Lib.hid h35
  go_enter Try.func60, Try.ntmps60
  go_wp2
  refine scope60 (n := n) (by kernel_rfl) hs rfl hm.out hret.out ?_
  replace hret := Lib.hid (retcj (J := J60 w.heap.size s n w (line s.data.toList n)) hret.out)
  go_upto_region 12 with (first
    | (go_at_call 67; refine hS.out.mono ?_; rintro e w2 ⟨rfl, hw2⟩; subst hw2)
    | (go_at_call 68; refine hP.out.mono ?_; rintro e w2 ⟨rfl, hw2⟩; subst hw2)
    | (go_at_call 69; (with_reducible refine hB3.out.mono ?_); rintro e w2 ⟨rfl, hw2⟩; subst hw2) | (go_at_call 69; (with_reducible refine hB0.out.mono ?_); rintro e w2 ⟨rfl, hw2⟩; subst hw2)
    | fail)
  go_step3
  rename_i K0 hK0
  refine hK0 _ _ (wp_q2 (l := 0) (by kernel_rfl) ?_)
  refine begin_wp fr60i hs hjs.out (row_nil _ _) (Nat.zero_le _) (Tch.refl _ _) rfl hm.out hf.out hX.out hret.out ?_ ?_
  · intro O2 i2 f2 out2 a2 w2 hF2 hi2 hlt hol2 hrow2 t2 hf2 hX2
    exact .inl ⟨rfl, O2, i2, f2, out2, hF2, hi2, hol2, hrow2, t2, hf2, hX2⟩
  · intro O2 i2 out2 a2 w2 hF2 hi2 hrow2 hol2 t2 hX2
    exact .inr ⟨rfl, O2, i2, out2, hF2, hi2, hol2, hrow2, t2, hX2⟩
theorem line_any_n2 (s : ByteArray) (n : Nat) (w : World) (m : Int) (hs : s.size < 4294967281) (hm : w.cell? ⟨0, 0, none⟩ = some (.int .i64 m)) (h : sound s.data.toList = 0) (hp : Lib.hasPrefix s.data.toList [45, 45, 45] = true) (k : Nat) (hk : k = blanks s.data.toList 3) (he : k < s.size) (hg : ¬ 3 < k) :
    Calls Try.prog 60 #[.string s, .int .i64 n] w (LinePost w (line s.data.toList n)) := by
  have hS := sound_any s w (by omega)
  rw [h] at hS
  have hP : Calls Try.prog 68 #[.string s, .string ⟨#[45, 45, 45]⟩] w fun e w' => e = .returned (.bool true) ∧ w' = w := by
    have h := Try.strings_HasPrefix s ⟨#[45, 45, 45]⟩ w
    rw [show Lib.hasPrefix s.data.toList (⟨#[45, 45, 45]⟩ : ByteArray).data.toList = true from hp] at h
    exact h
  have hret := retc60 (w := w) (x := line s.data.toList n)
  have h3 : 3 ≤ s.size := by
    have := (List.isPrefixOf_iff_prefix.1 hp).length_le
    rwa [len_data] at this
  have hB3 := blanks_any s 3 w (by omega) h3
  replace hB3 : Calls Try.prog 69 #[.string s, .int .i64 3] w fun e w' => e = .returned (.int .i64 k) ∧ w = w' := by rw [hk]; exact hB3
  have hk3 : 3 ≤ k := by rw [hk]; exact blanks_ge _ _
  have hks : k ≤ s.size := by rw [hk]; have := blanks_le s.data.toList (i := 3) (by rw [len_data]; omega); rwa [len_data] at this
  have hd : docAt s.data.toList = false := by unfold docAt; rw [hp, ← hk, Bool.true_and]; rw [decide_eq_false (show ¬ k = s.data.toList.length by rw [len_data]; omega), decide_eq_false hg]; rfl
  have hx := line_items (n := n) h hd
  have k2 : ((k : Int) == (s.size : Int)) = false ∧ decide (3 < (k : Int)) = false := ⟨by rw [beq_eq_false_iff_ne]; omega, decide_eq_false (by omega)⟩
  obtain ⟨j, hj⟩ : ∃ j, j = blanks s.data.toList 0 := ⟨_, rfl⟩
  have hB0 : Calls Try.prog 69 #[.string s, .int .i64 0] w fun e w' => e = .returned (.int .i64 j) ∧ w = w' := by rw [hj]; exact blanks_any s 0 w (by omega) (by omega)
  have hjs : j ≤ s.size := by rw [hj]; have := blanks_le s.data.toList (i := 0) (by omega); rwa [len_data] at this
  have hf : s.size - j < s.data.toList.length + 1 := by rw [len_data]; omega
  have hX : items s.data.toList n (s.data.toList.length + 1) j [] = line s.data.toList n := by rw [hx, hj]
  replace hS := Lib.hid hS
  replace hx := Lib.hid hx
  replace h := Lib.hid h
  replace hret := Lib.hid hret
  replace hm := Lib.hid hm
  replace hP := Lib.hid hP
  replace hp := Lib.hid hp
  replace hd := Lib.hid hd
  replace hB0 := Lib.hid hB0
  replace hjs := Lib.hid hjs
  replace hj := Lib.hid hj
  replace hf := Lib.hid hf
  replace hX := Lib.hid hX
  replace h3 := Lib.hid h3
  replace hB3 := Lib.hid hB3
  replace hk3 := Lib.hid hk3
  replace hks := Lib.hid hks
  replace hk := Lib.hid hk
  replace hg := Lib.hid hg
  go_enter Try.func60, Try.ntmps60
  go_wp2
  refine scope60 (n := n) (by kernel_rfl) hs rfl hm.out hret.out ?_
  replace hret := Lib.hid (retcj (J := J60 w.heap.size s n w (line s.data.toList n)) hret.out)
  go_upto_region 12 with (first
    | (go_at_call 67; refine hS.out.mono ?_; rintro e w2 ⟨rfl, hw2⟩; subst hw2)
    | (go_at_call 68; refine hP.out.mono ?_; rintro e w2 ⟨rfl, hw2⟩; subst hw2)
    | (go_at_call 69; (with_reducible refine hB3.out.mono ?_); rintro e w2 ⟨rfl, hw2⟩; subst hw2) | (go_at_call 69; (with_reducible refine hB0.out.mono ?_); rintro e w2 ⟨rfl, hw2⟩; subst hw2)
    | fail)
  go_step3
  rename_i K0 hK0
  refine hK0 _ _ (wp_q2 (l := 0) (by kernel_rfl) ?_)
  refine begin_wp fr60i hs hjs.out (row_nil _ _) (Nat.zero_le _) (Tch.refl _ _) rfl hm.out hf.out hX.out hret.out ?_ ?_
  · intro O2 i2 f2 out2 a2 w2 hF2 hi2 hlt hol2 hrow2 t2 hf2 hX2
    exact .inl ⟨rfl, O2, i2, f2, out2, hF2, hi2, hol2, hrow2, t2, hf2, hX2⟩
  · intro O2 i2 out2 a2 w2 hF2 hi2 hrow2 hol2 t2 hX2
    exact .inr ⟨rfl, O2, i2, out2, hF2, hi2, hol2, hrow2, t2, hX2⟩
theorem line_any (s : ByteArray) (n : Nat) (w : World) (m : Int) (hs : s.size < 4294967281) (hm : w.cell? ⟨0, 0, none⟩ = some (.int .i64 m)) :
    Calls Try.prog 60 #[.string s, .int .i64 n] w (LinePost w (line s.data.toList n)) := by
  by_cases h : sound s.data.toList = 0
  · cases hp : Lib.hasPrefix s.data.toList [45, 45, 45] with
    | false => exact line_any_n0 s n w m hs hm h hp
    | true =>
      have hks : blanks s.data.toList 3 ≤ s.size := by
        have h3 := (List.isPrefixOf_iff_prefix.1 hp).length_le
        have := blanks_le s.data.toList (i := 3) h3
        rwa [len_data] at this
      by_cases he : blanks s.data.toList 3 < s.size
      · by_cases hg : 3 < blanks s.data.toList 3
        · by_cases h35 : s[blanks s.data.toList 3] = 35
          · exact line_any_d2 s n w m hs hm h hp _ rfl he hg h35
          · exact line_any_n1 s n w m hs hm h hp _ rfl he hg h35
        · exact line_any_n2 s n w m hs hm h hp _ rfl he hg
      · exact line_any_d1 s n w m hs hm h hp _ rfl (by omega)
  · exact line_any_bad s n w m hs hm h
end Go.Proofs.Ytcnjmkjfgghgoaa
end
