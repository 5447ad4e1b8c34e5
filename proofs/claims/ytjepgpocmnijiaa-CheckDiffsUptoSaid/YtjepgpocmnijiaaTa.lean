/- The library's sort at a row of resources of one's own; copies of lists. -/
import Derived.Test.YtjepgpocmnijiaaSz
namespace Go.Proofs.Ytjepgpocmnijiaa
open Go.RowKit Go.Mp Go.Ck Go.Sort Go.Lib
set_option linter.unusedVariables false
set_option maxRecDepth 100000
set_option maxHeartbeats 4000000
theorem lt_cf (x y : Rw) : ltOf cfR x y = lessK (rk x.r) (rk y.r) := by
  rw [← less_eq, less_ord]; rfl
theorem swoR : SWO (ltOf cfR) where
  irrefl x := by rw [lt_cf]; exact lessK_irrefl _
  trans x y z h1 h2 := by rw [lt_cf] at *; exact lessK_trans h1 h2
  ntrans x y z h1 h2 := by
    rw [lt_cf] at *
    cases h : lessK (rk x.r) (rk z.r) with
    | false => rfl
    | true =>
      rcases lessK_tri (rk x.r) (rk y.r) with e | e | e
      · rw [e, h2] at h; cases h
      · rw [e] at h1; cases h1
      · rw [lessK_trans e h] at h2; cases h2
def SortOut (w : World) (B : Nat) (v : Value) (L : List Rw) (e : Ending) (w' : World) : Prop := e = .returned (.tuple #[]) ∧ ∃ L' : List Rw, L'.Perm L ∧ L'.Pairwise (fun a b => lessK (rk b.r) (rk a.r) = false) ∧ w'.ownsRow B 52 8 v L'.length (L'.flatMap Rw.cells) ∧ Tch (fun q => v.ownBlock = some q) w w'
theorem sort122 (L : List Rw) (v : Value) (B : Nat) (w : World) (hrow : w.ownsRow B 52 8 v L.length (L.flatMap Rw.cells)) (hM : L.length ≤ 4294967296) : Calls Try.prog 122 #[v, .func (.func 123) #[] #[]] w (SortOut w B v L) := by
  rcases hrow.2 with ⟨rfl, h1⟩ | ⟨g, cap, cur, rfl, hb, hg, hnc, hcm, hcs, htk⟩
  · have : L = [] := List.length_eq_zero_iff.1 h1
    subst this
    refine (AnyF.slices_SortFunc_none Try.sortRes none 0 (.func (.func 123) #[] #[]) w).mono ?_
    rintro e w' ⟨rfl, rfl⟩
    exact ⟨rfl, [], List.Perm.refl _, List.Pairwise.nil, hrow, Tch.refl _ _⟩
  · have eg : ∀ args w, (callFunc 123 args).run Try.prog w = .ok (.enter 123 args) w := enters_of Try.func123 (by kernel_rfl) rfl
    have hfl := flat_arr (enc := Rw.cells) (k := 8) (fun _ => rfl) (by decide) L
    have hfs : (L.flatMap Rw.cells).length = L.length * 8 := Rd.flat_len (enc := Rw.cells) (k := 8) (fun _ => rfl) L
    have hH : HoldsK Rw.cells 8 w g 0 L.toArray := by
      unfold HoldsK
      rw [hfl]
      exact holds_flat hg (by simp only [List.size_toArray]; rw [hfs]; exact htk)
    have hsz : L.toArray.size < 4611686018427387904 := by simp only [List.size_toArray]; omega
    have hcon := AnyQ.slices_SortFunc Try.sortRes 8 Try.isAgg52 Try.sizeOf52 Rw.cells (fun _ => rfl) rwC.one cfR swoR 123 #[] g 0 cap L.toArray w eg (fun _ _ _ _ x y => cmp123 x y _) hH (Array.getElem?_eq_some_iff.1 hg).1 hsz
    simp only [List.size_toArray] at hcon
    refine Calls.mono hcon ?_
    rintro e w' ⟨rfl, d', n, os, hp, hs, rfl⟩
    have hp2 := perm_list (d := L.toArray) (by simpa using hp)
    have hsd : d'.size = L.length := by have := hp.1; simpa using this
    have hs2 : d'.toList.Pairwise fun a b => ltOf cfR b a = false := sorted_list (by rw [hsd]; exact hs)
    have hfl2 := flat_arr (enc := Rw.cells) (k := 8) (fun _ => rfl) (by decide) d'.toList
    rw [Array.toArray_toList] at hfl2
    have hfs2 : (d'.toList.flatMap Rw.cells).length = d'.toList.length * 8 := Rd.flat_len (enc := Rw.cells) (k := 8) (fun _ => rfl) _
    have hl : d'.toList.length = L.length := by simpa using hsd
    refine ⟨rfl, d'.toList, hp2, hs2.imp (fun {a b} h => by rw [lt_cf] at h; exact h), ?_, ?_⟩
    · show (grow (putRow id (Sort.ahead w n) g 0 (flatK Rw.cells 8 d')) os).ownsRow B 52 8 _ _ _
      rw [hfl2, hl]
      exact own_put (F := (d'.toList.flatMap Rw.cells).toArray) (N := L.length) (by simp only [List.size_toArray]; rw [hfs2, hl]) hb hg hnc hcm hcs
    · exact (tch_put (os := os) (n := n) (flatK Rw.cells 8 d')).mono (fun k hk => by rw [hk]; rfl)
/-! ### copies of lists -/
def CloneOut (w : World) (e k : Nat) (n : Nat) (xs : List Value) (e' : Ending) (w' : World) : Prop := ∃ ao c, e' = .returned (.slice ao n c) ∧ w'.ownsRow w.heap.size e k (.slice ao n c) n xs ∧ Below w.heap.size w w'
theorem clone106 (l : List ByteArray) (v : Value) (w : World) (hl : Rd.SliceOf Rd.str w v l) (hM : l.length * 16 ≤ 140737488355328) : Calls Try.prog 106 #[v] w (CloneOut w 9 1 l.length (l.flatMap Rd.strC.enc)) := by
  obtain ⟨ao, cap, rfl⟩ := slice_shape hl
  obtain ⟨ie, he, he0, he1, he2⟩ := info_parts info9
  have q22 : ∀ (w : World) (a : Option Addr) (n c n' c' : Nat), (binOp .eql 48 (.slice a n c) (.slice none n' c')).run Try.prog w = .ok (.bool a.isNone) w := fun w a n c n' c' => Lib.run_eql_slice_nil w _ _ a n c n' c' Try.underlying48
  cases ao with
  | none =>
    have h0 : l = [] := by
      obtain ⟨_, ao', cap', e, _, h2⟩ := hl
      cases e
      rcases h2 with h2 | ⟨b, off, e, _⟩
      · exact h2
      · cases e
    subst h0
    go_enter Try.func106, Try.ntmps106
    go_wp2
    go_ret
    exact ⟨none, 0, rfl, World.ownsRow_nil _ _ _ _, Below.refl _ _⟩
  | some a =>
    have hal := alloc_below w (.cells #[] 9)
    have hrow := Lib.hid (empty_row w w.heap.size (Nat.le_refl _) 9 1)
    have hsrc := Lib.hid (hl.below hal)
    have lim : 0 + l.length ≤ maxLen ∧ (0 + l.length) * 16 ≤ 140737488355328 := by unfold maxLen; omega
    replace hl := Lib.hid hl
    replace lim := Lib.hid lim
    replace he := Lib.hid he
    replace he0 := Lib.hid he0
    replace he1 := Lib.hid he1
    replace he2 := Lib.hid he2
    replace hal := Lib.hid hal
    go_enter Try.func106, Try.ntmps106
    go_wp2_with (first
      | (at_builtin; refine Rd.wp_append_src Rd.strC (by rfl) _ _ 48 (by rfl) w.heap.size 9 ie _ 16 Try.underlying48 he.out he0.out he1.out he2.out rfl _ 0 [] (by rfl) hrow.out _ l (by rfl) hsrc.out lim.out.1 lim.out.2 hal.out.size ?_; intro v3 w3 hr3 hg3 hl3; obtain ⟨po, pc, rfl⟩ := ownsRow_shape hr3; rw [Nat.zero_add, List.nil_append] at hr3; rw [Nat.zero_add]; have hB3 := Lib.hid (hal.out.grown hg3 hal.out.size (fun q hq => by cases hq; exact Nat.le_refl _)); replace hr3 := Lib.hid hr3; clear hg3 hl3)
      | fail)
    go_ret
    exact ⟨po, pc, rfl, hr3.out, hB3.out⟩
theorem clone147 (l : List Tgt) (v : Value) (w : World) (hl : Rd.SliceOf tgtE w v l) (hM : l.length * 40 ≤ 140737488355328) : Calls Try.prog 147 #[v] w (CloneOut w 57 3 l.length (l.flatMap tgtC.enc)) := by
  obtain ⟨ao, cap, rfl⟩ := slice_shape hl
  obtain ⟨ie, he, he0, he1, he2⟩ := info_parts info57
  have q22 : ∀ (w : World) (a : Option Addr) (n c n' c' : Nat), (binOp .eql 49 (.slice a n c) (.slice none n' c')).run Try.prog w = .ok (.bool a.isNone) w := fun w a n c n' c' => Lib.run_eql_slice_nil w _ _ a n c n' c' Try.underlying49
  cases ao with
  | none =>
    have h0 : l = [] := by
      obtain ⟨_, ao', cap', e, _, h2⟩ := hl
      cases e
      rcases h2 with h2 | ⟨b, off, e, _⟩
      · exact h2
      · cases e
    subst h0
    go_enter Try.func147, Try.ntmps147
    go_wp2
    go_ret
    exact ⟨none, 0, rfl, World.ownsRow_nil _ _ _ _, Below.refl _ _⟩
  | some a =>
    have hal := alloc_below w (.cells #[] 57)
    have hrow := Lib.hid (empty_row w w.heap.size (Nat.le_refl _) 57 3)
    have hsrc := Lib.hid (hl.below hal)
    have lim : 0 + l.length ≤ maxLen ∧ (0 + l.length) * 40 ≤ 140737488355328 := by unfold maxLen; omega
    replace hl := Lib.hid hl
    replace lim := Lib.hid lim
    replace he := Lib.hid he
    replace he0 := Lib.hid he0
    replace he1 := Lib.hid he1
    replace he2 := Lib.hid he2
    replace hal := Lib.hid hal
    go_enter Try.func147, Try.ntmps147
    go_wp2_with (first
      | (at_builtin; refine Rd.wp_append_src tgtC (by rfl) _ _ 49 (by rfl) w.heap.size 57 ie _ 40 Try.underlying49 he.out he0.out he1.out he2.out rfl _ 0 [] (by rfl) hrow.out _ l (by rfl) hsrc.out lim.out.1 lim.out.2 hal.out.size ?_; intro v3 w3 hr3 hg3 hl3; obtain ⟨po, pc, rfl⟩ := ownsRow_shape hr3; rw [Nat.zero_add, List.nil_append] at hr3; rw [Nat.zero_add]; have hB3 := Lib.hid (hal.out.grown hg3 hal.out.size (fun q hq => by cases hq; exact Nat.le_refl _)); replace hr3 := Lib.hid hr3; clear hg3 hl3)
      | fail)
    go_ret
    exact ⟨po, pc, rfl, hr3.out, hB3.out⟩
theorem clone148 (l : List Rul) (v : Value) (w : World) (hl : Rd.SliceOf rulE w v l) (hM : l.length * 56 ≤ 140737488355328) : Calls Try.prog 148 #[v] w (CloneOut w 101 4 l.length (l.flatMap rulC.enc)) := by
  obtain ⟨ao, cap, rfl⟩ := slice_shape hl
  obtain ⟨ie, he, he0, he1, he2⟩ := info_parts info101
  have q22 : ∀ (w : World) (a : Option Addr) (n c n' c' : Nat), (binOp .eql 50 (.slice a n c) (.slice none n' c')).run Try.prog w = .ok (.bool a.isNone) w := fun w a n c n' c' => Lib.run_eql_slice_nil w _ _ a n c n' c' Try.underlying50
  cases ao with
  | none =>
    have h0 : l = [] := by
      obtain ⟨_, ao', cap', e, _, h2⟩ := hl
      cases e
      rcases h2 with h2 | ⟨b, off, e, _⟩
      · exact h2
      · cases e
    subst h0
    go_enter Try.func148, Try.ntmps148
    go_wp2
    go_ret
    exact ⟨none, 0, rfl, World.ownsRow_nil _ _ _ _, Below.refl _ _⟩
  | some a =>
    have hal := alloc_below w (.cells #[] 101)
    have hrow := Lib.hid (empty_row w w.heap.size (Nat.le_refl _) 101 4)
    have hsrc := Lib.hid (hl.below hal)
    have lim : 0 + l.length ≤ maxLen ∧ (0 + l.length) * 56 ≤ 140737488355328 := by unfold maxLen; omega
    replace hl := Lib.hid hl
    replace lim := Lib.hid lim
    replace he := Lib.hid he
    replace he0 := Lib.hid he0
    replace he1 := Lib.hid he1
    replace he2 := Lib.hid he2
    replace hal := Lib.hid hal
    go_enter Try.func148, Try.ntmps148
    go_wp2_with (first
      | (at_builtin; refine Rd.wp_append_src rulC (by rfl) _ _ 50 (by rfl) w.heap.size 101 ie _ 56 Try.underlying50 he.out he0.out he1.out he2.out rfl _ 0 [] (by rfl) hrow.out _ l (by rfl) hsrc.out lim.out.1 lim.out.2 hal.out.size ?_; intro v3 w3 hr3 hg3 hl3; obtain ⟨po, pc, rfl⟩ := ownsRow_shape hr3; rw [Nat.zero_add, List.nil_append] at hr3; rw [Nat.zero_add]; have hB3 := Lib.hid (hal.out.grown hg3 hal.out.size (fun q hq => by cases hq; exact Nat.le_refl _)); replace hr3 := Lib.hid hr3; clear hg3 hl3)
      | fail)
    go_ret
    exact ⟨po, pc, rfl, hr3.out, hB3.out⟩
end Go.Proofs.Ytjepgpocmnijiaa
