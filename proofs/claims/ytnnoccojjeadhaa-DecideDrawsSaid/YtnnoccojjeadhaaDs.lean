/- The memory of D's own walk: its tables, its answer, its states' list, its host; and what a store does to it. -/
import Derived.Test.YtnnoccojjeadhaaDcd
namespace Go.Proofs.Ytnnoccojjeadhaa
open Go.ChangeShapes Go.WideShapes Go.ChangeAt Go.RowKit
open Go.Pa Go.Dec
set_option linter.unusedVariables false

theorem alloc_heap (w : World) (o : Obj) (k : Nat) : (w.alloc o).heap[k]? = if k = w.heap.size then some o else w.heap[k]? := Array.getElem?_push
theorem alloc_size (w : World) (o : Obj) : (w.alloc o).heap.size = w.heap.size + 1 := by simp
theorem boxes5 (w : World) (o1 o2 o3 o4 o5 : Obj) :
    ((((((w.alloc o1).alloc o2).alloc o3).alloc o4).alloc o5).heap[w.heap.size]? = some o1 ∧ (((((w.alloc o1).alloc o2).alloc o3).alloc o4).alloc o5).heap[w.heap.size + 1]? = some o2 ∧
    (((((w.alloc o1).alloc o2).alloc o3).alloc o4).alloc o5).heap[w.heap.size + 1 + 1]? = some o3 ∧ (((((w.alloc o1).alloc o2).alloc o3).alloc o4).alloc o5).heap[w.heap.size + 1 + 1 + 1]? = some o4 ∧
    (((((w.alloc o1).alloc o2).alloc o3).alloc o4).alloc o5).heap[w.heap.size + 1 + 1 + 1 + 1]? = some o5) ∧
    Below w.heap.size w (((((w.alloc o1).alloc o2).alloc o3).alloc o4).alloc o5) := by
  refine ⟨⟨?_, ?_, ?_, ?_, ?_⟩, Tp.Below_seq (Tp.Below_seq (Tp.Below_seq (Tp.Below_seq (Tp.Below_alloc w o1) (Tp.Below_alloc _ o2)) (Tp.Below_alloc _ o3)) (Tp.Below_alloc _ o4)) (Tp.Below_alloc _ o5)⟩
  all_goals
    simp only [alloc_heap, alloc_size]
    repeat first
      | rw [if_pos trivial]
      | rw [if_pos rfl]
      | rw [if_neg (by omega)]
/-- What D's walk has in its own memory: d, without its status; the host that was found. -/
structure DS (w : World) (tv : Array Value) (d : Dc) (rt : Array Value) (wr : World) : Prop where
  tab : wr.heap[w.heap.size]? = some (.cells tv 25 (0, 0))
  res : wr.heap[w.heap.size + 1]? = some (.cells #[.int .i64 0, .int .i64 0, .string ⟨#[]⟩, .int .i64 0, .string ⟨#[]⟩, .string ⟨#[]⟩] 46 (0, 0))
  sts : wr.heap[w.heap.size + 1 + 1]? = some (.cells #[.int .i64 0, .int .i64 0, .int .i64 404, .int .i64 404, .int .i64 403, .int .i64 503] 65 (0, 0))
  dec : wr.heap[w.heap.size + 1 + 1 + 1]? = some (.cells #[.int .i64 d.kind, .int .i64 d.status, .string d.route, .int .i64 d.rule, .string d.svc, .string d.ep] 46 (0, 0))
  rte : wr.heap[w.heap.size + 1 + 1 + 1 + 1]? = some (.cells rt 36 (0, 0))
  bel : Below w.heap.size w wr
section
variable {w wr w' : World} {tv rt : Array Value} {d : Dc}
theorem DS.start : DS w tv ⟨2, 0, ⟨#[]⟩, -1, ⟨#[]⟩, ⟨#[]⟩⟩ rt (((((w.alloc (.cells tv 25)).alloc (.cells #[.int .i64 0, .int .i64 0, .string ⟨#[]⟩, .int .i64 0, .string ⟨#[]⟩, .string ⟨#[]⟩] 46)).alloc (.cells #[.int .i64 0, .int .i64 0, .int .i64 404, .int .i64 404, .int .i64 403, .int .i64 503] 65)).alloc (.cells #[.int .i64 2, .int .i64 0, .string ⟨#[]⟩, .int .i64 (-1), .string ⟨#[]⟩, .string ⟨#[]⟩] 46)).alloc (.cells rt 36)) := by
  obtain ⟨⟨k1, k2, k3, k4, k5⟩, kb⟩ := boxes5 w (.cells tv 25) (.cells #[.int .i64 0, .int .i64 0, .string ⟨#[]⟩, .int .i64 0, .string ⟨#[]⟩, .string ⟨#[]⟩] 46) (.cells #[.int .i64 0, .int .i64 0, .int .i64 404, .int .i64 404, .int .i64 403, .int .i64 503] 65) (.cells #[.int .i64 2, .int .i64 0, .string ⟨#[]⟩, .int .i64 (-1), .string ⟨#[]⟩, .string ⟨#[]⟩] 46) (.cells rt 36)
  exact ⟨k1, k2, k3, k4, k5, kb⟩
theorem DS.lt (h : DS w tv d rt wr) : w.heap.size + 1 + 1 + 1 + 1 < wr.heap.size := (Array.getElem?_eq_some_iff.1 h.rte).1
theorem DS.call (h : DS w tv d rt wr) (hb : Below wr.heap.size wr w') : DS w tv d rt w' :=
  have l := h.lt
  ⟨(hb.block _ (by omega)).trans h.tab, (hb.block _ (by omega)).trans h.res, (hb.block _ (by omega)).trans h.sts, (hb.block _ (by omega)).trans h.dec, (hb.block _ (by omega)).trans h.rte, Tp.Below_seq h.bel hb⟩
theorem DS.drew (h : DS w tv d rt wr) : DS w tv d rt wr.drew := ⟨h.tab, h.res, h.sts, h.dec, h.rte, h.bel.drew⟩
theorem DS.set (h : DS w tv d rt wr) (i : Nat) (v : Value) (d' : Dc) (e : (#[.int .i64 d.kind, .int .i64 d.status, .string d.route, .int .i64 d.rule, .string d.svc, .string d.ep] : Array Value).setIfInBounds i v = #[.int .i64 d'.kind, .int .i64 d'.status, .string d'.route, .int .i64 d'.rule, .string d'.svc, .string d'.ep]) :
    DS w tv d' rt (wr.setCell ⟨w.heap.size + 1 + 1 + 1, i, none⟩ v) :=
  ⟨(heap_setCell_other _ _ _ _ (by show w.heap.size ≠ w.heap.size + _ + 1; omega)).trans h.tab, (heap_setCell_other _ _ _ _ (by simp)).trans h.res, (heap_setCell_other _ _ _ _ (by simp)).trans h.sts, by rw [heap_setCell_same _ _ _ _ _ _ h.dec, e], (heap_setCell_other _ _ _ _ (by simp)).trans h.rte, h.bel.setCell (by show w.heap.size ≤ w.heap.size + 1 + 1 + 1; omega) v⟩
theorem DS.setR (h : DS w tv d rt wr) (i : Nat) (v : Value) : DS w tv d (rt.setIfInBounds i v) (wr.setCell ⟨w.heap.size + 1 + 1 + 1 + 1, i, none⟩ v) :=
  ⟨(heap_setCell_other _ _ _ _ (by show w.heap.size ≠ w.heap.size + _ + 1; omega)).trans h.tab, (heap_setCell_other _ _ _ _ (by simp)).trans h.res, (heap_setCell_other _ _ _ _ (by simp)).trans h.sts, (heap_setCell_other _ _ _ _ (by simp)).trans h.dec, heap_setCell_same _ _ _ _ _ _ h.rte, h.bel.setCell (by show w.heap.size ≤ w.heap.size + 1 + 1 + 1 + 1; omega) v⟩
theorem DS.kind (h : DS w tv d rt wr) (k : Int) : DS w tv { d with kind := k } rt (wr.setCell ⟨w.heap.size + 1 + 1 + 1, 0, none⟩ (.int .i64 k)) := h.set 0 _ _ rfl
theorem DS.status (h : DS w tv d rt wr) (k : Int) : DS w tv { d with status := k } rt (wr.setCell ⟨w.heap.size + 1 + 1 + 1, 1, none⟩ (.int .i64 k)) := h.set 1 _ _ rfl
theorem DS.route (h : DS w tv d rt wr) (k : ByteArray) : DS w tv { d with route := k } rt (wr.setCell ⟨w.heap.size + 1 + 1 + 1, 2, none⟩ (.string k)) := h.set 2 _ _ rfl
theorem DS.rule (h : DS w tv d rt wr) (k : Int) : DS w tv { d with rule := k } rt (wr.setCell ⟨w.heap.size + 1 + 1 + 1, 3, none⟩ (.int .i64 k)) := h.set 3 _ _ rfl
theorem DS.svc (h : DS w tv d rt wr) (k : ByteArray) : DS w tv { d with svc := k } rt (wr.setCell ⟨w.heap.size + 1 + 1 + 1, 4, none⟩ (.string k)) := h.set 4 _ _ rfl
theorem DS.ep (h : DS w tv d rt wr) (k : ByteArray) : DS w tv { d with ep := k } rt (wr.setCell ⟨w.heap.size + 1 + 1 + 1, 5, none⟩ (.string k)) := h.set 5 _ _ rfl
theorem DS.tabc (h : DS w tv d rt wr) (j : Nat) (v : Value) (e : tv[j]? = some v) : wr.cell? ⟨w.heap.size, j, none⟩ = some v := (cell_of_row _ _ j _ _ _ h.tab).trans e
theorem DS.rtec (h : DS w tv d rt wr) (j : Nat) (v : Value) (e : rt[j]? = some v) : wr.cell? ⟨w.heap.size + 1 + 1 + 1 + 1, j, none⟩ = some v := (cell_of_row _ _ j _ _ _ h.rte).trans e
theorem DS.decc (h : DS w tv d rt wr) :
    wr.cell? ⟨w.heap.size + 1 + 1 + 1, 0, none⟩ = some (.int .i64 d.kind) ∧ wr.cell? ⟨w.heap.size + 1 + 1 + 1, 1, none⟩ = some (.int .i64 d.status) ∧ wr.cell? ⟨w.heap.size + 1 + 1 + 1, 2, none⟩ = some (.string d.route) ∧
    wr.cell? ⟨w.heap.size + 1 + 1 + 1, 3, none⟩ = some (.int .i64 d.rule) ∧ wr.cell? ⟨w.heap.size + 1 + 1 + 1, 4, none⟩ = some (.string d.svc) ∧ wr.cell? ⟨w.heap.size + 1 + 1 + 1, 5, none⟩ = some (.string d.ep) ∧
    ∀ j, wr.frozen? ⟨w.heap.size + 1 + 1 + 1, j, none⟩ = false :=
  ⟨cell_of_row _ _ 0 _ _ _ h.dec, cell_of_row _ _ 1 _ _ _ h.dec, cell_of_row _ _ 2 _ _ _ h.dec, cell_of_row _ _ 3 _ _ _ h.dec, cell_of_row _ _ 4 _ _ _ h.dec, cell_of_row _ _ 5 _ _ _ h.dec, fun j => frozen_of_row _ _ j _ _ h.dec⟩
theorem DS.resc (h : DS w tv d rt wr) :
    wr.cell? ⟨w.heap.size + 1, 0, none⟩ = some (.int .i64 0) ∧ wr.cell? ⟨w.heap.size + 1, 1, none⟩ = some (.int .i64 0) ∧ wr.cell? ⟨w.heap.size + 1, 2, none⟩ = some (.string ⟨#[]⟩) ∧
    wr.cell? ⟨w.heap.size + 1, 3, none⟩ = some (.int .i64 0) ∧ wr.cell? ⟨w.heap.size + 1, 4, none⟩ = some (.string ⟨#[]⟩) ∧ wr.cell? ⟨w.heap.size + 1, 5, none⟩ = some (.string ⟨#[]⟩) ∧
    ∀ j, wr.frozen? ⟨w.heap.size + 1, j, none⟩ = false :=
  ⟨cell_of_row _ _ 0 _ _ _ h.res, cell_of_row _ _ 1 _ _ _ h.res, cell_of_row _ _ 2 _ _ _ h.res, cell_of_row _ _ 3 _ _ _ h.res, cell_of_row _ _ 4 _ _ _ h.res, cell_of_row _ _ 5 _ _ _ h.res, fun j => frozen_of_row _ _ j _ _ h.res⟩
theorem DS.stsc (h : DS w tv d rt wr) :
    wr.cell? ⟨w.heap.size + 1 + 1, 1, none⟩ = some (.int .i64 0) ∧ wr.cell? ⟨w.heap.size + 1 + 1, 2, none⟩ = some (.int .i64 404) ∧ wr.cell? ⟨w.heap.size + 1 + 1, 3, none⟩ = some (.int .i64 404) ∧
    wr.cell? ⟨w.heap.size + 1 + 1, 4, none⟩ = some (.int .i64 403) ∧ wr.cell? ⟨w.heap.size + 1 + 1, 5, none⟩ = some (.int .i64 503) :=
  ⟨cell_of_row _ _ 1 _ _ _ h.sts, cell_of_row _ _ 2 _ _ _ h.sts, cell_of_row _ _ 3 _ _ _ h.sts, cell_of_row _ _ 4 _ _ _ h.sts, cell_of_row _ _ 5 _ _ _ h.sts⟩
theorem res_set {w : World} {b : Nat} {T : TypeId} {cs cs' : Array Value} (i : Nat) (v : Value) (h : w.heap[b]? = some (.cells cs T (0, 0))) (e : cs.setIfInBounds i v = cs') : (w.setCell ⟨b, i, none⟩ v).heap[b]? = some (.cells cs' T (0, 0)) := by rw [heap_setCell_same _ _ _ _ _ _ h, e]
theorem DS.outs (h : DS w tv d rt wr) (st : Int) (W : World) (hW : W = (((((((wr.setCell ⟨w.heap.size + 1 + 1 + 1, 1, none⟩ (.int .i64 st)).setCell ⟨w.heap.size + 1, 0, none⟩ (.int .i64 d.kind)).setCell ⟨w.heap.size + 1, 1, none⟩ (.int .i64 st)).setCell ⟨w.heap.size + 1, 2, none⟩ (.string d.route)).setCell ⟨w.heap.size + 1, 3, none⟩ (.int .i64 d.rule)).setCell ⟨w.heap.size + 1, 4, none⟩ (.string d.svc)).setCell ⟨w.heap.size + 1, 5, none⟩ (.string d.ep))) :
    (W.cell? ⟨w.heap.size + 1, 0, none⟩ = some (.int .i64 d.kind) ∧ W.cell? ⟨w.heap.size + 1, 1, none⟩ = some (.int .i64 st) ∧ W.cell? ⟨w.heap.size + 1, 2, none⟩ = some (.string d.route) ∧ W.cell? ⟨w.heap.size + 1, 3, none⟩ = some (.int .i64 d.rule) ∧ W.cell? ⟨w.heap.size + 1, 4, none⟩ = some (.string d.svc) ∧ W.cell? ⟨w.heap.size + 1, 5, none⟩ = some (.string d.ep)) ∧ Below w.heap.size w W := by
  subst hW
  have k0 := (h.status st).res
  have k1 := res_set 0 (.int .i64 d.kind) k0 (cs' := #[.int .i64 d.kind, .int .i64 0, .string ⟨#[]⟩, .int .i64 0, .string ⟨#[]⟩, .string ⟨#[]⟩]) rfl
  have k2 := res_set 1 (.int .i64 st) k1 (cs' := #[.int .i64 d.kind, .int .i64 st, .string ⟨#[]⟩, .int .i64 0, .string ⟨#[]⟩, .string ⟨#[]⟩]) rfl
  have k3 := res_set 2 (.string d.route) k2 (cs' := #[.int .i64 d.kind, .int .i64 st, .string d.route, .int .i64 0, .string ⟨#[]⟩, .string ⟨#[]⟩]) rfl
  have k4 := res_set 3 (.int .i64 d.rule) k3 (cs' := #[.int .i64 d.kind, .int .i64 st, .string d.route, .int .i64 d.rule, .string ⟨#[]⟩, .string ⟨#[]⟩]) rfl
  have k5 := res_set 4 (.string d.svc) k4 (cs' := #[.int .i64 d.kind, .int .i64 st, .string d.route, .int .i64 d.rule, .string d.svc, .string ⟨#[]⟩]) rfl
  have k6 := res_set 5 (.string d.ep) k5 (cs' := #[.int .i64 d.kind, .int .i64 st, .string d.route, .int .i64 d.rule, .string d.svc, .string d.ep]) rfl
  exact ⟨⟨cell_of_row _ _ 0 _ _ _ k6, cell_of_row _ _ 1 _ _ _ k6, cell_of_row _ _ 2 _ _ _ k6, cell_of_row _ _ 3 _ _ _ k6, cell_of_row _ _ 4 _ _ _ k6, cell_of_row _ _ 5 _ _ _ k6⟩, (((((((h.status st).bel.setCell (by show w.heap.size ≤ w.heap.size + 1; omega) _).setCell (by show w.heap.size ≤ w.heap.size + 1; omega) _).setCell (by show w.heap.size ≤ w.heap.size + 1; omega) _).setCell (by show w.heap.size ≤ w.heap.size + 1; omega) _).setCell (by show w.heap.size ≤ w.heap.size + 1; omega) _).setCell (by show w.heap.size ≤ w.heap.size + 1; omega) _)⟩
theorem DS.rtef (h : DS w tv d rt wr) (j : Nat) : wr.frozen? ⟨w.heap.size + 1 + 1 + 1 + 1, j, none⟩ = false := frozen_of_row _ _ j _ _ h.rte
end
set_option maxRecDepth 100000 in
def Fr (A0 A1 A2 A3 A4 A5 A6 B7 B14 B15 B16 B17 : Value) (a : Act) : Prop :=
  ∃ f : Nat → Value, a = { tmps := #[A0, A1, A2, A3, A4, A5, A6, B7, f 8, f 9, f 10, f 11, f 12, f 13, B14, B15, B16, B17, f 18, f 19, f 20, f 21, f 22, f 23, f 24, f 25, f 26, f 27, f 28, f 29, f 30, f 31, f 32, f 33, f 34, f 35, f 36, f 37, f 38, f 39, f 40, f 41, f 42, f 43, f 44, f 45, f 46, f 47, f 48, f 49, f 50, f 51, f 52, f 53, f 54, f 55, f 56, f 57, f 58, f 59, f 60, f 61, f 62, f 63, f 64, f 65, f 66, f 67, f 68, f 69, f 70, f 71, f 72, f 73, f 74, f 75, f 76, f 77, f 78, f 79, f 80, f 81, f 82, f 83, f 84, f 85, f 86, f 87, f 88, f 89, f 90, f 91, f 92, f 93, f 94, f 95, f 96, f 97, f 98, f 99, f 100, f 101, f 102, f 103, f 104, f 105], defers := [] }
set_option maxRecDepth 100000 in
theorem fr_mk (A0 A1 A2 A3 A4 A5 A6 B7 B14 B15 B16 B17 : Value) (u8 u9 u10 u11 u12 u13 u18 u19 u20 u21 u22 u23 u24 u25 u26 u27 u28 u29 u30 u31 u32 u33 u34 u35 u36 u37 u38 u39 u40 u41 u42 u43 u44 u45 u46 u47 u48 u49 u50 u51 u52 u53 u54 u55 u56 u57 u58 u59 u60 u61 u62 u63 u64 u65 u66 u67 u68 u69 u70 u71 u72 u73 u74 u75 u76 u77 u78 u79 u80 u81 u82 u83 u84 u85 u86 u87 u88 u89 u90 u91 u92 u93 u94 u95 u96 u97 u98 u99 u100 u101 u102 u103 u104 u105 : Value) : Fr A0 A1 A2 A3 A4 A5 A6 B7 B14 B15 B16 B17 { tmps := #[A0, A1, A2, A3, A4, A5, A6, B7, u8, u9, u10, u11, u12, u13, B14, B15, B16, B17, u18, u19, u20, u21, u22, u23, u24, u25, u26, u27, u28, u29, u30, u31, u32, u33, u34, u35, u36, u37, u38, u39, u40, u41, u42, u43, u44, u45, u46, u47, u48, u49, u50, u51, u52, u53, u54, u55, u56, u57, u58, u59, u60, u61, u62, u63, u64, u65, u66, u67, u68, u69, u70, u71, u72, u73, u74, u75, u76, u77, u78, u79, u80, u81, u82, u83, u84, u85, u86, u87, u88, u89, u90, u91, u92, u93, u94, u95, u96, u97, u98, u99, u100, u101, u102, u103, u104, u105], defers := [] } :=
  ⟨fun n => (([A0, A1, A2, A3, A4, A5, A6, B7, u8, u9, u10, u11, u12, u13, B14, B15, B16, B17, u18, u19, u20, u21, u22, u23, u24, u25, u26, u27, u28, u29, u30, u31, u32, u33, u34, u35, u36, u37, u38, u39, u40, u41, u42, u43, u44, u45, u46, u47, u48, u49, u50, u51, u52, u53, u54, u55, u56, u57, u58, u59, u60, u61, u62, u63, u64, u65, u66, u67, u68, u69, u70, u71, u72, u73, u74, u75, u76, u77, u78, u79, u80, u81, u82, u83, u84, u85, u86, u87, u88, u89, u90, u91, u92, u93, u94, u95, u96, u97, u98, u99, u100, u101, u102, u103, u104, u105] : List Value)[n]?).getD undef, rfl⟩
end Go.Proofs.Ytnnoccojjeadhaa
