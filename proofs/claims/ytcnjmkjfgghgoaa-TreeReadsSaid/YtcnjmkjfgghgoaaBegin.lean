/- begin: a node more, or a panic. -/
import Derived.Test.YtcnjmkjfgghgoaaNext
import Derived.WalkLawsBesides
namespace Go.Proofs.Ytcnjmkjfgghgoaa
open Go.RowKit Go.Mp Go.Tr
set_option linter.unusedVariables false
set_option maxRecDepth 20000
theorem info58 : (Try.prog.info? 58).map (fun i => (i.zero, i.size, i.bytes)) = some (some (.agg #[.int .i64 0, .string ⟨#[]⟩, .string ⟨#[]⟩, .bool false, .int .i64 0, .slice none 0 0]), 6, 80) := by kernel_rfl
def faultP (line e : Int) : Ending := .panicked [{ v := .iface 85 (.agg #[.int .i64 line, .int .i64 e]), recovered := false }]
theorem full_true {d m : Nat} (h : full d m = true) : 16 < d ∨ m = 4096 := by
  unfold full at h
  simpa using h
theorem begin_bad {w : World} {B b kb at' : Nat} {F : Nat → Prop} {lv : Value} {l : List Tok} {N : List Nd} (h : RdM w B F b kb lv l at' N) (kind : Int) (d : Nat) (key : ByteArray) (t : Tok) (hf : full d N.length = true) :
    Calls Try.prog 56 #[.pointer (some ⟨b, 0, none⟩), .int .i64 kind, .int .i64 d, .string key, tokA t] w fun e w' => e = faultP t.line 92 ∧ Tch No w w' := by
  obtain ⟨v, R, rfl, h⟩ := h
  obtain ⟨ao, cap, rfl⟩ := ownsRow_shape h.nm.row
  rw [List.length_map] at hf
  obtain ⟨w1, hw1⟩ : ∃ w1, w1 = w.alloc (tokO t 39) := ⟨_, rfl⟩
  have t1 : Tch No w w1 := by rw [hw1]; exact Tch.alloc No w _
  obtain ⟨cb, hcb⟩ : ∃ cb, cb = w.heap.size := ⟨_, rfl⟩
  have hc1 : w1.heap[cb]? = some (tokO t 39) := by rw [hw1, hcb]; exact heap_alloc_new w _
  obtain ⟨e0, e1, e2, e3, e4⟩ := tokO_cells hc1
  have h1 := h.tch t1 (fun _ _ h => h) id
  have c2 : w1.cell? ⟨b, 2, none⟩ = some (.slice ao R.length cap) := (cell_of_row _ _ 2 _ _ _ h1.hb).trans rfl
  replace h := Lib.hid h
  replace h1 := Lib.hid h1
  replace hc1 := Lib.hid hc1
  replace t1 := Lib.hid t1
  by_cases kd : 16 < d
  · have q1 : decide ((16 : Int) < (d : Int)) = true := decide_eq_true (by omega)
    go_enter Try.func56, Try.ntmps56
    go_upto_region 1 with fail
    rw [show (w.alloc (tokO t 39)) = w1 from hw1.symm, ← hcb]
    replace hw1 := Lib.hid hw1
    replace hcb := Lib.hid hcb
    go_wp2
    exact ⟨rfl, rfl, t1.out⟩
  · have kn : R.length = 4096 := (full_true hf).resolve_left kd
    have q1 : decide ((16 : Int) < (d : Int)) = false := decide_eq_false (by omega)
    have q2 : ((R.length : Int) == 4096) = true := by rw [beq_iff_eq]; omega
    replace kn := Lib.hid kn
    go_enter Try.func56, Try.ntmps56
    go_upto_region 1 with fail
    rw [show (w.alloc (tokO t 39)) = w1 from hw1.symm, ← hcb]
    replace hw1 := Lib.hid hw1
    replace hcb := Lib.hid hcb
    go_wp2
    exact ⟨rfl, rfl, t1.out⟩
theorem begin_ok {w : World} {B b kb at' : Nat} {F : Nat → Prop} {lv : Value} {l : List Tok} {N : List Nd} (h : RdM w B F b kb lv l at' N) (hB : B ≤ w.heap.size) (kind : Int) (d : Nat) (key : ByteArray) (t : Tok) (hf : full d N.length = false) (hN : N.length ≤ 4096) :
    Calls Try.prog 56 #[.pointer (some ⟨b, 0, none⟩), .int .i64 kind, .int .i64 d, .string key, tokA t] w fun e w' => e = .returned (.int .i64 N.length) ∧ RPost w B F b kb lv l at' (N ++ [⟨kind, key, ⟨#[]⟩, false, t.line, []⟩]) w' := by
  obtain ⟨v, R, rfl, h⟩ := h
  obtain ⟨ao, cap, rfl⟩ := ownsRow_shape h.nm.row
  rw [List.length_map] at hf hN ⊢
  obtain ⟨kd, kn⟩ := Go.Tr.full_false (by rw [hf]; simp)
  have q1 : decide ((16 : Int) < (d : Int)) = false := decide_eq_false (by omega)
  have q2 : ((R.length : Int) == 4096) = false := by rw [beq_eq_false_iff_ne]; omega
  obtain ⟨i0, hi, hz0, hz1, hz2⟩ := info_parts info58
  obtain ⟨w1, hw1⟩ : ∃ w1, w1 = w.alloc (tokO t 39) := ⟨_, rfl⟩
  have t1 : Tch No w w1 := by rw [hw1]; exact Tch.alloc No w _
  obtain ⟨cb, hcb⟩ : ∃ cb, cb = w.heap.size := ⟨_, rfl⟩
  have hc1 : w1.heap[cb]? = some (tokO t 39) := by rw [hw1, hcb]; exact heap_alloc_new w _
  obtain ⟨e0, e1, e2, e3, e4⟩ := tokO_cells hc1
  have h1 := h.tch t1 (fun _ _ h => h) id
  have hd := h1.tch (Tch.drew No w1) (fun _ _ h => h) id
  have hBd : B ≤ w1.drew.heap.size := Nat.le_trans hB t1.size
  have c2 : w1.cell? ⟨b, 2, none⟩ = some (.slice ao R.length cap) := (cell_of_row _ _ 2 _ _ _ h1.hb).trans rfl
  have c2' : (w1.alloc (.cells #[.int .i64 kind, .string key, .string ⟨#[]⟩, .bool false, .int .i64 t.line, .slice none 0 0] 58)).cell? ⟨b, 2, none⟩ = some (.slice ao R.length cap) := (Tch.alloc No w1 _).cell_some c2 id
  have tF : Tch F w w1.drew := (t1.trans (Tch.drew No w1) (fun _ h => h.elim)).mono (fun _ h => h.elim)
  replace h := Lib.hid h
  replace h1 := Lib.hid h1
  replace hd := Lib.hid hd
  replace hc1 := Lib.hid hc1
  replace t1 := Lib.hid t1
  replace tF := Lib.hid tF
  replace hi := Lib.hid hi
  replace hz0 := Lib.hid hz0
  replace hz1 := Lib.hid hz1
  replace hz2 := Lib.hid hz2
  replace kn := Lib.hid kn
  replace hBd := Lib.hid hBd
  go_enter Try.func56, Try.ntmps56
  go_upto_region 1 with fail
  rw [show (w.alloc (tokO t 39)) = w1 from hw1.symm, ← hcb]
  replace hw1 := Lib.hid hw1
  replace hcb := Lib.hid hcb
  go_upto_region 3 with fail
  go_region_law ((refine step_append_us rfl _ _ 50 (by rfl) B 58 i0 (.agg #[.int .i64 0, .string ⟨#[]⟩, .string ⟨#[]⟩, .bool false, .int .i64 0, .slice none 0 0]) 6 80 Try.underlying50 hi.out hz0.out hz1.out hz2.out rfl (by decide) _ R.length (ncs R) (by rfl) hd.out.nm.row 1 (by rfl) rfl (by simp [Value.oneCell']) (by unfold maxLen; omega) (by omega) hBd.out ?_; intro v7 w7 hr7 hg7 hl7; obtain ⟨no, nc', rfl⟩ := ownsRow_shape hr7; have hT7 := (Tch.grown (S := fun k => (Value.slice ao R.length cap).ownBlock = some k) hg7 (fun k hk => .inl hk)); have hN7 := hd.out.nm.push (n := ⟨kind, key, ⟨#[]⟩, false, t.line, []⟩) rfl hr7 hT7 hl7; obtain ⟨f7, e7, hP7⟩ := hd.out.setNodes (hT7.mono (fun k hk => ⟨hd.out.nm.own.1 k hk, fun e => row_not hd.out.nm.row hd.out.hb (by decide) (e ▸ hk)⟩)) hN7 (fun k hk => .inl hk) (fun k hk => hk.elim .inl (fun h => (hl7 k h).imp (fun h => hd.out.nm.own.1 k h) id)); replace hP7 := Lib.hid hP7; replace hN7 := Lib.hid hN7; replace hr7 := Lib.hid hr7; replace hT7 := Lib.hid hT7; clear hg7 hl7; have g7 : (w7.setCell ⟨b, 2, none⟩ (.slice no (R.length + 1) nc')).cell? ⟨b, 2, none⟩ = some (.slice no (R.length + 1) nc') := World.cell?_setCell_same _ _ _ e7))
  all_goals
    go_wp2
    go_ret
    exact ⟨rfl, rpost_trans tF.out (fun _ h => .inl h) (by have := hP7.out; rwa [List.map_append] at this)⟩
end Go.Proofs.Ytcnjmkjfgghgoaa
